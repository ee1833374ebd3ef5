/-
  The plain functions of this seat, printed by a program, each equal to the evaluator's run, with its contract. No condition.
-/
import Derived.Test.YtkcdhdnmmpapdaaFwV
import Derived.Test.YtkcdhdnmmpapdaaChecked
import Derived.Test.YtkcdhdnmmpapdaaMark1
import Derived.Test.YtkcdhdnmmpapdaaMark4
import Derived.Test.YtkcdhdnmmpapdaaDel2
namespace Go.Proofs.Ytkcdhdnmmpapdaa
open Go Go.Proofs.Ytkcdhdnmmpapdaa.Fw
set_option maxRecDepth 100000
set_option linter.unusedVariables false

theorem mixed : Try.prog.follows .mixedOrders = true := Try.checked.mixed
def tt : Nat → TD
  | 2 => tdInt .i64
  | 3 => tdInt .i64
  | 4 => tdBool
  | 22 => tdSl (.int .i64) 8
  | 39 => tdSl (.pair (.int .i64) (.pair (.int .i64) (.pair (.int .i64) (.int .i64)))) 32
  | 42 => tdSl (.pair (.int .i64) (.pair (.int .i64) (.pair (.int .i64) (.int .i64)))) 32
  | 56 => tdFn
  | 70 => tdSt 4 [(0, 1, false), (1, 1, false), (2, 1, false), (3, 1, false)] [.g (.int .i64) (0 : Int), .g (.int .i64) (0 : Int), .g (.int .i64) (0 : Int), .g (.int .i64) (0 : Int)]
  | 72 => tdSt 4 [(0, 1, false), (1, 1, false), (2, 1, false), (3, 1, false)] [.g (.int .i64) (0 : Int), .g (.int .i64) (0 : Int), .g (.int .i64) (0 : Int), .g (.int .i64) (0 : Int)]
  | 110 => tdInt .u64
  | _ => tdNone
theorem tt_2 : TDok Try.prog 2 (tdInt .i64) := tdok_int (b := 8) (by kernel_rfl) (by kernel_rfl)
theorem tt_3 : TDok Try.prog 3 (tdInt .i64) := tdok_int (b := 8) (by kernel_rfl) (by kernel_rfl)
theorem tt_4 : TDok Try.prog 4 (tdBool) := tdok_bool (b := 1) (by kernel_rfl) (by kernel_rfl)
theorem tt_22 : TDok Try.prog 22 (tdSl (.int .i64) 8) := tdok_sl (b := 24) (e := 2) (z := (.int .i64 0)) (by kernel_rfl) (by kernel_rfl) (by kernel_rfl) (by decide) (fun _ => by kernel_rfl)
theorem tt_39 : TDok Try.prog 39 (tdSl (.pair (.int .i64) (.pair (.int .i64) (.pair (.int .i64) (.int .i64)))) 32) := tdok_sl (b := 24) (e := 72) (z := (.agg #[(.int .i64 0), (.int .i64 0), (.int .i64 0), (.int .i64 0)])) (by kernel_rfl) (by kernel_rfl) (by kernel_rfl) (by decide) (fun _ => by kernel_rfl)
theorem tt_42 : TDok Try.prog 42 (tdSl (.pair (.int .i64) (.pair (.int .i64) (.pair (.int .i64) (.int .i64)))) 32) := tdok_sl (b := 24) (e := 70) (z := (.agg #[(.int .i64 0), (.int .i64 0), (.int .i64 0), (.int .i64 0)])) (by kernel_rfl) (by kernel_rfl) (by kernel_rfl) (by decide) (fun _ => by kernel_rfl)
theorem tt_56 : TDok Try.prog 56 (tdFn) := tdok_fn (by kernel_rfl) (by kernel_rfl)
theorem tt_70 : TDok Try.prog 70 (tdSt 4 [(0, 1, false), (1, 1, false), (2, 1, false), (3, 1, false)] [.g (.int .i64) (0 : Int), .g (.int .i64) (0 : Int), .g (.int .i64) (0 : Int), .g (.int .i64) (0 : Int)]) := tdok_st (b := 32) (z := (.agg #[(.int .i64 0), (.int .i64 0), (.int .i64 0), (.int .i64 0)])) (by kernel_rfl) (by kernel_rfl) (by kernel_rfl) (by kernel_rfl) (by kernel_rfl)
theorem tt_72 : TDok Try.prog 72 (tdSt 4 [(0, 1, false), (1, 1, false), (2, 1, false), (3, 1, false)] [.g (.int .i64) (0 : Int), .g (.int .i64) (0 : Int), .g (.int .i64) (0 : Int), .g (.int .i64) (0 : Int)]) := tdok_st (b := 32) (z := (.agg #[(.int .i64 0), (.int .i64 0), (.int .i64 0), (.int .i64 0)])) (by kernel_rfl) (by kernel_rfl) (by kernel_rfl) (by kernel_rfl) (by kernel_rfl)
theorem tt_110 : TDok Try.prog 110 (tdInt .u64) := tdok_int (b := 8) (by kernel_rfl) (by kernel_rfl)
theorem tt_ok (t : Nat) : TDok Try.prog t (tt t) := by
  unfold tt
  split
  · exact tt_2
  · exact tt_3
  · exact tt_4
  · exact tt_22
  · exact tt_39
  · exact tt_42
  · exact tt_56
  · exact tt_70
  · exact tt_72
  · exact tt_110
  · exact tdok_none

/- laws.eqInt64S -/
def laws_eqInt64S (N : Nat) (x0 : List Int) (x1 : List Int) : Option (Bool × Unit) :=
  cond ((List.length x0 : Int) != (List.length x1 : Int))
    (some (false, ()))
    (loopN (fun (s1 : Int × Unit) next2 =>
      cond (decide (s1.1 < (List.length x0 : Int)))
        (Option.bind (idx x0 s1.1) fun v3 =>
        Option.bind (idx x1 s1.1) fun v4 =>
        cond (v3 != v4)
          (some (false, ()))
          (next2 ((w64 (s1.1 + 1)), ())))
        (some (true, ()))) N (0, ()))
def laws_eqInt64S_e (N : Nat) : Ent := { ins := [(.sl (.int .i64)), (.sl (.int .i64))], outs := [.val .bool], F := fun x => laws_eqInt64S N x.1 x.2.1 }
def laws_eqInt64S_T (_ : Nat) : Nat → List EntX := fun _ => []
def laws_eqInt64S_L : Nat → List (Nat × TK)
  | 4 => [(5, .v (.int .i64))]
  | _ => []
theorem laws_eqInt64S_eq (N : Nat) : runF N tt (laws_eqInt64S_T N) laws_eqInt64S_L [(.sl (.int .i64)), (.sl (.int .i64))] [.val .bool] (bodyOf Try.f16) Try.f16.ntmps [4] = (laws_eqInt64S_e N).F := by
  funext x
  kernel_rfl
theorem laws_eqInt64S_sound (N : Nat) : SoundC Try.prog 16 (laws_eqInt64S_e N) := by
  have h := runF_sound (f := 16) (code := bodyOf Try.f16) (N := N) (T := (laws_eqInt64S_T N)) (L := laws_eqInt64S_L) (ins := [(.sl (.int .i64)), (.sl (.int .i64))]) (outs := [.val .bool]) (res := [4]) mixed tt_ok ?_ Try.func16 (by kernel_rfl) rfl (by kernel_rfl) (by kernel_rfl) (by decide +kernel)
  · rw [laws_eqInt64S_eq] at h
    exact h
  · intro f e he
    cases he

/- laws.markInt64S -/
def laws_markInt64S (N : Nat) (x0 : List Int) (x1 : Int) : Option (List (Int) × (Int × Unit)) :=
  loopN (fun (s1 : List (Int) × Int × Int × Unit) next2 =>
    cond (decide (s1.2.2.1 < (List.length s1.1 : Int)))
      (cond (inB s1.2.2.1 (List.length s1.1))
        (let xs3 := (List.set s1.1 (Int.toNat s1.2.2.1) s1.2.1)
        next2 (xs3, (w64 (s1.2.1 + 1)), (w64 (s1.2.2.1 + 1)), ())) none)
      (some (s1.1, (s1.2.1, ())))) N (x0, x1, 0, ())
def laws_markInt64S_e (N : Nat) : EntM := { io := (.int .i64), ins := [(.int .i64)], outs := [.val (.int .i64)], F := fun xs x => laws_markInt64S N xs x.1 }
def laws_markInt64S_T (_ : Nat) : Nat → List EntX := fun _ => []
def laws_markInt64S_L : Nat → List (Nat × TK)
  | 2 => [(0, .own (.int .i64)), (1, .v (.int .i64)), (5, .v (.int .i64))]
  | _ => []
theorem laws_markInt64S_eq (N : Nat) : runM N tt (laws_markInt64S_T N) laws_markInt64S_L (.int .i64) [(.int .i64)] [.val (.int .i64)] (bodyOf Try.f17) Try.f17.ntmps [4] = (laws_markInt64S_e N).F := by
  funext xs x
  kernel_rfl
theorem laws_markInt64S_sound (N : Nat) : SoundM Try.prog 17 (laws_markInt64S_e N) := by
  have h := runM_sound (f := 17) (code := bodyOf Try.f17) (N := N) (T := (laws_markInt64S_T N)) (L := laws_markInt64S_L) (io := (.int .i64)) (ins := [(.int .i64)]) (outs := [.val (.int .i64)]) (res := [4]) mixed tt_ok ?_ Try.func17 (by kernel_rfl) rfl (by kernel_rfl) (by kernel_rfl) (by decide +kernel)
  · rw [laws_markInt64S_eq] at h
    exact h
  · intro f e he
    cases he

/- laws.heldInt64S -/
def laws_heldInt64S (N : Nat) (x0 : List Int) (x1 : Int) : Option (Int × Unit) :=
  loopN (fun (s1 : Int × Int × Unit) next2 =>
    cond (decide (s1.2.1 < (List.length x0 : Int)))
      (Option.bind (idx x0 s1.2.1) fun v3 =>
      cond (v3 != s1.1)
        (some ((-1), ()))
        (next2 ((w64 (s1.1 + 1)), (w64 (s1.2.1 + 1)), ())))
      (some (s1.1, ()))) N (x1, 0, ())
def laws_heldInt64S_e (N : Nat) : Ent := { ins := [(.sl (.int .i64)), (.int .i64)], outs := [.val (.int .i64)], F := fun x => laws_heldInt64S N x.1 x.2.1 }
def laws_heldInt64S_T (_ : Nat) : Nat → List EntX := fun _ => []
def laws_heldInt64S_L : Nat → List (Nat × TK)
  | 2 => [(1, .v (.int .i64)), (5, .v (.int .i64))]
  | _ => []
theorem laws_heldInt64S_eq (N : Nat) : runF N tt (laws_heldInt64S_T N) laws_heldInt64S_L [(.sl (.int .i64)), (.int .i64)] [.val (.int .i64)] (bodyOf Try.f18) Try.f18.ntmps [4] = (laws_heldInt64S_e N).F := by
  funext x
  kernel_rfl
theorem laws_heldInt64S_sound (N : Nat) : SoundC Try.prog 18 (laws_heldInt64S_e N) := by
  have h := runF_sound (f := 18) (code := bodyOf Try.f18) (N := N) (T := (laws_heldInt64S_T N)) (L := laws_heldInt64S_L) (ins := [(.sl (.int .i64)), (.int .i64)]) (outs := [.val (.int .i64)]) (res := [4]) mixed tt_ok ?_ Try.func18 (by kernel_rfl) rfl (by kernel_rfl) (by kernel_rfl) (by decide +kernel)
  · rw [laws_heldInt64S_eq] at h
    exact h
  · intro f e he
    cases he

/- laws.szJobS -/
def laws_szJobS (_N : Nat) (x0 : List (Int × Int × Int × Int)) (x1 : Int) : Option (Int × Unit) :=
  cond (decide ((w64 (x1 - (List.length x0 : Int))) < 0))
    (some ((-1), ()))
    (some ((w64 (x1 - (List.length x0 : Int))), ()))
def laws_szJobS_e (N : Nat) : Ent := { ins := [(.sl (.pair (.int .i64) (.pair (.int .i64) (.pair (.int .i64) (.int .i64))))), (.int .i64)], outs := [.val (.int .i64)], F := fun x => laws_szJobS N x.1 x.2.1 }
def laws_szJobS_T (_ : Nat) : Nat → List EntX := fun _ => []
def laws_szJobS_L : Nat → List (Nat × TK) := fun _ => []
theorem laws_szJobS_eq (N : Nat) : runF N tt (laws_szJobS_T N) laws_szJobS_L [(.sl (.pair (.int .i64) (.pair (.int .i64) (.pair (.int .i64) (.int .i64))))), (.int .i64)] [.val (.int .i64)] (bodyOf Try.f32) Try.f32.ntmps [4] = (laws_szJobS_e N).F := by
  funext x
  kernel_rfl
theorem laws_szJobS_sound (N : Nat) : SoundC Try.prog 32 (laws_szJobS_e N) := by
  have h := runF_sound (f := 32) (code := bodyOf Try.f32) (N := N) (T := (laws_szJobS_T N)) (L := laws_szJobS_L) (ins := [(.sl (.pair (.int .i64) (.pair (.int .i64) (.pair (.int .i64) (.int .i64))))), (.int .i64)]) (outs := [.val (.int .i64)]) (res := [4]) mixed tt_ok ?_ Try.func32 (by kernel_rfl) rfl (by kernel_rfl) (by kernel_rfl) (by decide +kernel)
  · rw [laws_szJobS_eq] at h
    exact h
  · intro f e he
    cases he

/- laws.toJob -/
def laws_toJob (_N : Nat) (x0 : Int × Int × Int × Int) : Option ((Int × Int × Int × Int) × Unit) :=
  some ((x0.1, (x0.2.1, (x0.2.2.1, x0.2.2.2))), ())
def laws_toJob_e (N : Nat) : Ent := { ins := [(.pair (.int .i64) (.pair (.int .i64) (.pair (.int .i64) (.int .i64))))], outs := [.val (.pair (.int .i64) (.pair (.int .i64) (.pair (.int .i64) (.int .i64))))], F := fun x => laws_toJob N x.1 }
def laws_toJob_T (_ : Nat) : Nat → List EntX := fun _ => []
def laws_toJob_L : Nat → List (Nat × TK) := fun _ => []
theorem laws_toJob_eq (N : Nat) : runC N tt (laws_toJob_T N) laws_toJob_L [(.pair (.int .i64) (.pair (.int .i64) (.pair (.int .i64) (.int .i64))))] [.val (.pair (.int .i64) (.pair (.int .i64) (.pair (.int .i64) (.int .i64))))] (bodyOf Try.f63) Try.f63.ntmps [2] [(2, 70)] = (laws_toJob_e N).F := by
  funext x
  kernel_rfl
theorem laws_toJob_sound (N : Nat) : SoundC Try.prog 63 (laws_toJob_e N) := by
  have h := runC_sound (f := 63) (code := bodyOf Try.f63) (N := N) (T := (laws_toJob_T N)) (L := laws_toJob_L) (ins := [(.pair (.int .i64) (.pair (.int .i64) (.pair (.int .i64) (.int .i64))))]) (outs := [.val (.pair (.int .i64) (.pair (.int .i64) (.pair (.int .i64) (.int .i64))))]) (res := [2]) (rs := [.cell 2 70]) (cells := [(2, 70)]) mixed tt_ok ?_ Try.func63 (by kernel_rfl) rfl (by kernel_rfl) (by kernel_rfl) rfl rfl (by decide) (by decide +kernel) (by decide +kernel)
  · rw [laws_toJob_eq] at h
    exact h
  · intro f e he
    cases he

/- laws.toJobS -/
def laws_toJobS (N : Nat) (x0 : List (Int × Int × Int × Int)) : Option (List (Int × Int × Int × Int) × Unit) :=
  cond (mkOk (List.length x0 : Int) (List.length x0 : Int))
    (let xs1 := (List.replicate (Int.toNat (List.length x0 : Int)) ((0 : Int), ((0 : Int), ((0 : Int), (0 : Int)))) : List (Int × Int × Int × Int))
    loopN (fun (s2 : List (Int × Int × Int × Int) × Int × Unit) next3 =>
      cond (decide (s2.2.1 < (List.length x0 : Int)))
        (Option.bind (idx x0 s2.2.1) fun v4 =>
        Option.bind (laws_toJob N v4) fun r5 =>
        cond (inB s2.2.1 (List.length s2.1))
          (let xs6 := (List.set s2.1 (Int.toNat s2.2.1) r5.1)
          next3 (xs6, (w64 (s2.2.1 + 1)), ())) none)
        (some (s2.1, ()))) N (xs1, 0, ())) none
def laws_toJobS_e (N : Nat) : Ent := { ins := [(.sl (.pair (.int .i64) (.pair (.int .i64) (.pair (.int .i64) (.int .i64)))))], outs := [.own (.pair (.int .i64) (.pair (.int .i64) (.pair (.int .i64) (.int .i64))))], F := fun x => laws_toJobS N x.1 }
def laws_toJobS_T (N : Nat) : Nat → List EntX
  | 63 => [.pl (laws_toJob_e N)]
  | _ => []
def laws_toJobS_L : Nat → List (Nat × TK)
  | 3 => [(3, .own (.pair (.int .i64) (.pair (.int .i64) (.pair (.int .i64) (.int .i64))))), (4, .v (.int .i64))]
  | _ => []
theorem laws_toJobS_eq (N : Nat) : runF N tt (laws_toJobS_T N) laws_toJobS_L [(.sl (.pair (.int .i64) (.pair (.int .i64) (.pair (.int .i64) (.int .i64)))))] [.own (.pair (.int .i64) (.pair (.int .i64) (.pair (.int .i64) (.int .i64))))] (bodyOf Try.f34) Try.f34.ntmps [2] = (laws_toJobS_e N).F := by
  funext x
  kernel_rfl
theorem laws_toJobS_sound (N : Nat) : SoundC Try.prog 34 (laws_toJobS_e N) := by
  have h := runF_sound (f := 34) (code := bodyOf Try.f34) (N := N) (T := (laws_toJobS_T N)) (L := laws_toJobS_L) (ins := [(.sl (.pair (.int .i64) (.pair (.int .i64) (.pair (.int .i64) (.int .i64)))))]) (outs := [.own (.pair (.int .i64) (.pair (.int .i64) (.pair (.int .i64) (.int .i64))))]) (res := [2]) mixed tt_ok ?_ Try.func34 (by kernel_rfl) rfl (by kernel_rfl) (by kernel_rfl) (by decide +kernel)
  · rw [laws_toJobS_eq] at h
    exact h
  · intro f e he
    unfold laws_toJobS_T at he
    split at he
    · rw [List.mem_singleton.1 he]; exact laws_toJob_sound N
    · cases he

/- laws.eqJob -/
def laws_eqJob (_N : Nat) (x0 : Int × Int × Int × Int) (x1 : Int × Int × Int × Int) : Option (Bool × Unit) :=
  cond (x0.1 != x1.1)
    (some (false, ()))
    (cond (x0.2.1 != x1.2.1)
      (some (false, ()))
      (cond (x0.2.2.1 != x1.2.2.1)
        (some (false, ()))
        (cond (x0.2.2.2 != x1.2.2.2)
          (some (false, ()))
          (some (true, ())))))
def laws_eqJob_e (N : Nat) : Ent := { ins := [(.pair (.int .i64) (.pair (.int .i64) (.pair (.int .i64) (.int .i64)))), (.pair (.int .i64) (.pair (.int .i64) (.pair (.int .i64) (.int .i64))))], outs := [.val .bool], F := fun x => laws_eqJob N x.1 x.2.1 }
def laws_eqJob_T (_ : Nat) : Nat → List EntX := fun _ => []
def laws_eqJob_L : Nat → List (Nat × TK) := fun _ => []
theorem laws_eqJob_eq (N : Nat) : runF N tt (laws_eqJob_T N) laws_eqJob_L [(.pair (.int .i64) (.pair (.int .i64) (.pair (.int .i64) (.int .i64)))), (.pair (.int .i64) (.pair (.int .i64) (.pair (.int .i64) (.int .i64))))] [.val .bool] (bodyOf Try.f67) Try.f67.ntmps [4] = (laws_eqJob_e N).F := by
  funext x
  kernel_rfl
theorem laws_eqJob_sound (N : Nat) : SoundC Try.prog 67 (laws_eqJob_e N) := by
  have h := runF_sound (f := 67) (code := bodyOf Try.f67) (N := N) (T := (laws_eqJob_T N)) (L := laws_eqJob_L) (ins := [(.pair (.int .i64) (.pair (.int .i64) (.pair (.int .i64) (.int .i64)))), (.pair (.int .i64) (.pair (.int .i64) (.pair (.int .i64) (.int .i64))))]) (outs := [.val .bool]) (res := [4]) mixed tt_ok ?_ Try.func67 (by kernel_rfl) rfl (by kernel_rfl) (by kernel_rfl) (by decide +kernel)
  · rw [laws_eqJob_eq] at h
    exact h
  · intro f e he
    cases he

/- laws.eqJobS -/
def laws_eqJobS (N : Nat) (x0 : List (Int × Int × Int × Int)) (x1 : List (Int × Int × Int × Int)) : Option (Bool × Unit) :=
  cond ((List.length x0 : Int) != (List.length x1 : Int))
    (some (false, ()))
    (loopN (fun (s1 : Int × Unit) next2 =>
      cond (decide (s1.1 < (List.length x0 : Int)))
        (Option.bind (idx x0 s1.1) fun v3 =>
        Option.bind (idx x1 s1.1) fun v4 =>
        Option.bind (laws_eqJob N v3 v4) fun r5 =>
        cond (!r5.1)
          (some (false, ()))
          (next2 ((w64 (s1.1 + 1)), ())))
        (some (true, ()))) N (0, ()))
def laws_eqJobS_e (N : Nat) : Ent := { ins := [(.sl (.pair (.int .i64) (.pair (.int .i64) (.pair (.int .i64) (.int .i64))))), (.sl (.pair (.int .i64) (.pair (.int .i64) (.pair (.int .i64) (.int .i64)))))], outs := [.val .bool], F := fun x => laws_eqJobS N x.1 x.2.1 }
def laws_eqJobS_T (N : Nat) : Nat → List EntX
  | 67 => [.pl (laws_eqJob_e N)]
  | _ => []
def laws_eqJobS_L : Nat → List (Nat × TK)
  | 4 => [(5, .v (.int .i64))]
  | _ => []
theorem laws_eqJobS_eq (N : Nat) : runF N tt (laws_eqJobS_T N) laws_eqJobS_L [(.sl (.pair (.int .i64) (.pair (.int .i64) (.pair (.int .i64) (.int .i64))))), (.sl (.pair (.int .i64) (.pair (.int .i64) (.pair (.int .i64) (.int .i64)))))] [.val .bool] (bodyOf Try.f36) Try.f36.ntmps [4] = (laws_eqJobS_e N).F := by
  funext x
  kernel_rfl
theorem laws_eqJobS_sound (N : Nat) : SoundC Try.prog 36 (laws_eqJobS_e N) := by
  have h := runF_sound (f := 36) (code := bodyOf Try.f36) (N := N) (T := (laws_eqJobS_T N)) (L := laws_eqJobS_L) (ins := [(.sl (.pair (.int .i64) (.pair (.int .i64) (.pair (.int .i64) (.int .i64))))), (.sl (.pair (.int .i64) (.pair (.int .i64) (.pair (.int .i64) (.int .i64)))))]) (outs := [.val .bool]) (res := [4]) mixed tt_ok ?_ Try.func36 (by kernel_rfl) rfl (by kernel_rfl) (by kernel_rfl) (by decide +kernel)
  · rw [laws_eqJobS_eq] at h
    exact h
  · intro f e he
    unfold laws_eqJobS_T at he
    split at he
    · rw [List.mem_singleton.1 he]; exact laws_eqJob_sound N
    · cases he

/- spec.l00In -/
def spec_l00In (_N : Nat) (x0 : Int) (x1 : Int) (x2 : Int) : Option (Bool × Unit) :=
  cond (decide (x0 ≥ x1))
    (some ((decide (x0 ≤ x2)), ()))
    (some (false, ()))
def spec_l00In_e (N : Nat) : Ent := { ins := [(.int .i64), (.int .i64), (.int .i64)], outs := [.val .bool], F := fun x => spec_l00In N x.1 x.2.1 x.2.2.1 }
def spec_l00In_T (_ : Nat) : Nat → List EntX := fun _ => []
def spec_l00In_L : Nat → List (Nat × TK) := fun _ => []
theorem spec_l00In_eq (N : Nat) : runF N tt (spec_l00In_T N) spec_l00In_L [(.int .i64), (.int .i64), (.int .i64)] [.val .bool] (bodyOf Try.f55) Try.f55.ntmps [6] = (spec_l00In_e N).F := by
  funext x
  kernel_rfl
theorem spec_l00In_sound (N : Nat) : SoundC Try.prog 55 (spec_l00In_e N) := by
  have h := runF_sound (f := 55) (code := bodyOf Try.f55) (N := N) (T := (spec_l00In_T N)) (L := spec_l00In_L) (ins := [(.int .i64), (.int .i64), (.int .i64)]) (outs := [.val .bool]) (res := [6]) mixed tt_ok ?_ Try.func55 (by kernel_rfl) rfl (by kernel_rfl) (by kernel_rfl) (by decide +kernel)
  · rw [spec_l00In_eq] at h
    exact h
  · intro f e he
    cases he

/- spec.l02Job -/
def spec_l02Job (N : Nat) (x0 : Int × Int × Int × Int) : Option (Bool × Unit) :=
  Option.bind (spec_l00In N x0.1 1 10000) fun r1 =>
  cond r1.1
    (Option.bind (spec_l00In N x0.2.1 0 10000) fun r2 =>
    cond r2.1
      (Option.bind (spec_l00In N x0.2.2.1 0 10000) fun r3 =>
      cond r3.1
        (Option.bind (spec_l00In N x0.2.2.2 0 10000) fun r4 =>
        some (r4.1, ()))
        (some (false, ())))
      (some (false, ())))
    (some (false, ()))
def spec_l02Job_e (N : Nat) : Ent := { ins := [(.bx (.pair (.int .i64) (.pair (.int .i64) (.pair (.int .i64) (.int .i64)))))], outs := [.val .bool], F := fun x => spec_l02Job N x.1 }
def spec_l02Job_T (N : Nat) : Nat → List EntX
  | 55 => [.pl (spec_l00In_e N)]
  | _ => []
def spec_l02Job_L : Nat → List (Nat × TK) := fun _ => []
theorem spec_l02Job_eq (N : Nat) : runF N tt (spec_l02Job_T N) spec_l02Job_L [(.bx (.pair (.int .i64) (.pair (.int .i64) (.pair (.int .i64) (.int .i64)))))] [.val .bool] (bodyOf Try.f100) Try.f100.ntmps [2] = (spec_l02Job_e N).F := by
  funext x
  kernel_rfl
theorem spec_l02Job_sound (N : Nat) : SoundC Try.prog 100 (spec_l02Job_e N) := by
  have h := runF_sound (f := 100) (code := bodyOf Try.f100) (N := N) (T := (spec_l02Job_T N)) (L := spec_l02Job_L) (ins := [(.bx (.pair (.int .i64) (.pair (.int .i64) (.pair (.int .i64) (.int .i64)))))]) (outs := [.val .bool]) (res := [2]) mixed tt_ok ?_ Try.func100 (by kernel_rfl) rfl (by kernel_rfl) (by kernel_rfl) (by decide +kernel)
  · rw [spec_l02Job_eq] at h
    exact h
  · intro f e he
    unfold spec_l02Job_T at he
    split at he
    · rw [List.mem_singleton.1 he]; exact spec_l00In_sound N
    · cases he

/- spec.l02Jobs -/
def spec_l02Jobs (N : Nat) (x0 : List (Int × Int × Int × Int)) : Option (Bool × Unit) :=
  loopN (fun (s1 : Int × Unit) next2 =>
    cond (decide (s1.1 < (List.length x0 : Int)))
      (Option.bind (idx x0 s1.1) fun v3 =>
      Option.bind (spec_l02Job N v3) fun r4 =>
      cond (!r4.1)
        (some (false, ()))
        (next2 ((w64 (s1.1 + 1)), ())))
      (cond (decide ((List.length x0 : Int) ≥ 1))
        (some ((decide ((List.length x0 : Int) ≤ 24)), ()))
        (some (false, ())))) N (0, ())
def spec_l02Jobs_e (N : Nat) : Ent := { ins := [(.sl (.pair (.int .i64) (.pair (.int .i64) (.pair (.int .i64) (.int .i64)))))], outs := [.val .bool], F := fun x => spec_l02Jobs N x.1 }
def spec_l02Jobs_T (N : Nat) : Nat → List EntX
  | 100 => [.pl (spec_l02Job_e N)]
  | _ => []
def spec_l02Jobs_L : Nat → List (Nat × TK)
  | 2 => [(3, .v (.int .i64))]
  | _ => []
theorem spec_l02Jobs_eq (N : Nat) : runF N tt (spec_l02Jobs_T N) spec_l02Jobs_L [(.sl (.pair (.int .i64) (.pair (.int .i64) (.pair (.int .i64) (.int .i64)))))] [.val .bool] (bodyOf Try.f61) Try.f61.ntmps [2] = (spec_l02Jobs_e N).F := by
  funext x
  kernel_rfl
theorem spec_l02Jobs_sound (N : Nat) : SoundC Try.prog 61 (spec_l02Jobs_e N) := by
  have h := runF_sound (f := 61) (code := bodyOf Try.f61) (N := N) (T := (spec_l02Jobs_T N)) (L := spec_l02Jobs_L) (ins := [(.sl (.pair (.int .i64) (.pair (.int .i64) (.pair (.int .i64) (.int .i64)))))]) (outs := [.val .bool]) (res := [2]) mixed tt_ok ?_ Try.func61 (by kernel_rfl) rfl (by kernel_rfl) (by kernel_rfl) (by decide +kernel)
  · rw [spec_l02Jobs_eq] at h
    exact h
  · intro f e he
    unfold spec_l02Jobs_T at he
    split at he
    · rw [List.mem_singleton.1 he]; exact spec_l02Job_sound N
    · cases he

/- spec.l02Before -/
def spec_l02Before (_N : Nat) (x0 : Int × Int × Int × Int) (x1 : Int × Int × Int × Int) (x2 : Int) : Option (Bool × Unit) :=
  cond (x2 == 0)
    (some ((decide (x0.1 < x1.1)), ()))
    (cond (x2 == 1)
      (some ((decide (x0.2.2.1 < x1.2.2.1)), ()))
      (cond (x2 == 2)
        (some ((decide (x0.2.1 < x1.2.1)), ()))
        (some ((decide ((w64 (x0.2.2.2 * x1.1)) > (w64 (x1.2.2.2 * x0.1)))), ()))))
def spec_l02Before_e (N : Nat) : Ent := { ins := [(.bx (.pair (.int .i64) (.pair (.int .i64) (.pair (.int .i64) (.int .i64))))), (.bx (.pair (.int .i64) (.pair (.int .i64) (.pair (.int .i64) (.int .i64))))), (.int .i64)], outs := [.val .bool], F := fun x => spec_l02Before N x.1 x.2.1 x.2.2.1 }
def spec_l02Before_T (_ : Nat) : Nat → List EntX := fun _ => []
def spec_l02Before_L : Nat → List (Nat × TK) := fun _ => []
theorem spec_l02Before_eq (N : Nat) : runF N tt (spec_l02Before_T N) spec_l02Before_L [(.bx (.pair (.int .i64) (.pair (.int .i64) (.pair (.int .i64) (.int .i64))))), (.bx (.pair (.int .i64) (.pair (.int .i64) (.pair (.int .i64) (.int .i64))))), (.int .i64)] [.val .bool] (bodyOf Try.f101) Try.f101.ntmps [6] = (spec_l02Before_e N).F := by
  funext x
  kernel_rfl
theorem spec_l02Before_sound (N : Nat) : SoundC Try.prog 101 (spec_l02Before_e N) := by
  have h := runF_sound (f := 101) (code := bodyOf Try.f101) (N := N) (T := (spec_l02Before_T N)) (L := spec_l02Before_L) (ins := [(.bx (.pair (.int .i64) (.pair (.int .i64) (.pair (.int .i64) (.int .i64))))), (.bx (.pair (.int .i64) (.pair (.int .i64) (.pair (.int .i64) (.int .i64))))), (.int .i64)]) (outs := [.val .bool]) (res := [6]) mixed tt_ok ?_ Try.func101 (by kernel_rfl) rfl (by kernel_rfl) (by kernel_rfl) (by decide +kernel)
  · rw [spec_l02Before_eq] at h
    exact h
  · intro f e he
    cases he

/- spec.l02By -/
def spec_l02By (N : Nat) (x0 : List (Int × Int × Int × Int)) (x1 : Int) : Option (List (Int) × Unit) :=
  loopN (fun (s1 : List (Int) × Int × Unit) next2 =>
    cond (decide (s1.2.1 < (List.length x0 : Int)))
      (cond (appOk (List.length s1.1) (List.length ([s1.2.1] : List Int)))
        (let xs3 := (s1.1 ++ ([s1.2.1] : List Int))
        loopN (fun (s4 : List (Int) × Int × Unit) next5 =>
          cond (decide (s4.2.1 > 0))
            (cond (inB s4.2.1 (List.length s4.1))
              (Option.bind (s4.1[(Int.toNat s4.2.1)]?) fun v6 =>
              Option.bind (idx x0 v6) fun v7 =>
              cond (inB (w64 (s4.2.1 - 1)) (List.length s4.1))
                (Option.bind (s4.1[(Int.toNat (w64 (s4.2.1 - 1)))]?) fun v8 =>
                Option.bind (idx x0 v8) fun v9 =>
                Option.bind (spec_l02Before N v7 v9 x1) fun r10 =>
                cond r10.1
                  (cond (inB s4.2.1 (List.length s4.1))
                    (Option.bind (s4.1[(Int.toNat s4.2.1)]?) fun v11 =>
                    cond (inB (w64 (s4.2.1 - 1)) (List.length s4.1))
                      (Option.bind (s4.1[(Int.toNat (w64 (s4.2.1 - 1)))]?) fun v12 =>
                      cond (inB s4.2.1 (List.length s4.1))
                        (let xs13 := (List.set s4.1 (Int.toNat s4.2.1) v12)
                        cond (inB (w64 (s4.2.1 - 1)) (List.length xs13))
                          (let xs14 := (List.set xs13 (Int.toNat (w64 (s4.2.1 - 1))) v11)
                          next5 (xs14, (w64 (s4.2.1 - 1)), ())) none) none) none) none)
                  (next2 (s4.1, (w64 (s1.2.1 + 1)), ()))) none) none)
            (next2 (s4.1, (w64 (s1.2.1 + 1)), ()))) N (xs3, s1.2.1, ())) none)
      (some (s1.1, ()))) N (([] : List Int), 0, ())
def spec_l02By_e (N : Nat) : Ent := { ins := [(.sl (.pair (.int .i64) (.pair (.int .i64) (.pair (.int .i64) (.int .i64))))), (.int .i64)], outs := [.own (.int .i64)], F := fun x => spec_l02By N x.1 x.2.1 }
def spec_l02By_T (N : Nat) : Nat → List EntX
  | 101 => [.pl (spec_l02Before_e N)]
  | _ => []
def spec_l02By_L : Nat → List (Nat × TK)
  | 3 => [(5, .own (.int .i64)), (6, .v (.int .i64))]
  | 7 => [(5, .own (.int .i64)), (7, .v (.int .i64))]
  | _ => []
theorem spec_l02By_eq (N : Nat) : runF N tt (spec_l02By_T N) spec_l02By_L [(.sl (.pair (.int .i64) (.pair (.int .i64) (.pair (.int .i64) (.int .i64))))), (.int .i64)] [.own (.int .i64)] (bodyOf Try.f62) Try.f62.ntmps [4] = (spec_l02By_e N).F := by
  funext x
  kernel_rfl
theorem spec_l02By_sound (N : Nat) : SoundC Try.prog 62 (spec_l02By_e N) := by
  have h := runF_sound (f := 62) (code := bodyOf Try.f62) (N := N) (T := (spec_l02By_T N)) (L := spec_l02By_L) (ins := [(.sl (.pair (.int .i64) (.pair (.int .i64) (.pair (.int .i64) (.int .i64))))), (.int .i64)]) (outs := [.own (.int .i64)]) (res := [4]) mixed tt_ok ?_ Try.func62 (by kernel_rfl) rfl (by kernel_rfl) (by kernel_rfl) (by decide +kernel)
  · rw [spec_l02By_eq] at h
    exact h
  · intro f e he
    unfold spec_l02By_T at he
    split at he
    · rw [List.mem_singleton.1 he]; exact spec_l02Before_sound N
    · cases he

/- spec.l02Free -/
def spec_l02Free (N : Nat) (x0 : List (Int × Int × Int × Int)) : Option (Bool × Unit) :=
  loopN (fun (s1 : Int × Unit) next2 =>
    cond (decide (s1.1 < (List.length x0 : Int)))
      (Option.bind (idx x0 s1.1) fun v3 =>
      cond (v3.2.1 != 0)
        (some (false, ()))
        (next2 ((w64 (s1.1 + 1)), ())))
      (some (true, ()))) N (0, ())
def spec_l02Free_e (N : Nat) : Ent := { ins := [(.sl (.pair (.int .i64) (.pair (.int .i64) (.pair (.int .i64) (.int .i64)))))], outs := [.val .bool], F := fun x => spec_l02Free N x.1 }
def spec_l02Free_T (_ : Nat) : Nat → List EntX := fun _ => []
def spec_l02Free_L : Nat → List (Nat × TK)
  | 2 => [(3, .v (.int .i64))]
  | _ => []
theorem spec_l02Free_eq (N : Nat) : runF N tt (spec_l02Free_T N) spec_l02Free_L [(.sl (.pair (.int .i64) (.pair (.int .i64) (.pair (.int .i64) (.int .i64)))))] [.val .bool] (bodyOf Try.f68) Try.f68.ntmps [2] = (spec_l02Free_e N).F := by
  funext x
  kernel_rfl
theorem spec_l02Free_sound (N : Nat) : SoundC Try.prog 68 (spec_l02Free_e N) := by
  have h := runF_sound (f := 68) (code := bodyOf Try.f68) (N := N) (T := (spec_l02Free_T N)) (L := spec_l02Free_L) (ins := [(.sl (.pair (.int .i64) (.pair (.int .i64) (.pair (.int .i64) (.int .i64)))))]) (outs := [.val .bool]) (res := [2]) mixed tt_ok ?_ Try.func68 (by kernel_rfl) rfl (by kernel_rfl) (by kernel_rfl) (by decide +kernel)
  · rw [spec_l02Free_eq] at h
    exact h
  · intro f e he
    cases he

/- spec.FewestLate -/
def spec_FewestLate (N : Nat) (x0 : List (Int × Int × Int × Int)) : Option (List (Int) × Int × Bool × Unit) :=
  Option.bind (spec_l02Jobs N x0) fun r1 =>
  cond (!r1.1)
    (some ([], 0, false, ()))
    (Option.bind (spec_l02Free N x0) fun r2 =>
    cond (!r2.1)
      (some ([], 0, false, ()))
      (Option.bind (spec_l02By N x0 1) fun r3 =>
      loopN (fun (s4 : List (Int) × Int × Int × Int × Unit) next5 =>
        cond (decide (s4.2.2.2.1 < (List.length r3.1 : Int)))
          (cond (inB s4.2.2.2.1 (List.length r3.1))
            (Option.bind (r3.1[(Int.toNat s4.2.2.2.1)]?) fun v6 =>
            cond (appOk (List.length s4.1) (List.length ([v6] : List Int)))
              (let xs7 := (s4.1 ++ ([v6] : List Int))
              cond (inB s4.2.2.2.1 (List.length r3.1))
                (Option.bind (r3.1[(Int.toNat s4.2.2.2.1)]?) fun v8 =>
                Option.bind (idx x0 v8) fun v9 =>
                cond (inB s4.2.2.2.1 (List.length r3.1))
                  (Option.bind (r3.1[(Int.toNat s4.2.2.2.1)]?) fun v10 =>
                  Option.bind (idx x0 v10) fun v11 =>
                  cond (decide ((w64 (s4.2.1 + v9.1)) ≤ v11.2.2.1))
                    (next5 (xs7, (w64 (s4.2.1 + v9.1)), s4.2.2.1, (w64 (s4.2.2.2.1 + 1)), ()))
                    (loopN (fun (s12 : Int × Int × Unit) next13 =>
                      cond (decide (s12.2.1 < (List.length xs7 : Int)))
                        (cond (inB s12.2.1 (List.length xs7))
                          (Option.bind (xs7[(Int.toNat s12.2.1)]?) fun v14 =>
                          Option.bind (idx x0 v14) fun v15 =>
                          cond (inB s12.1 (List.length xs7))
                            (Option.bind (xs7[(Int.toNat s12.1)]?) fun v16 =>
                            Option.bind (idx x0 v16) fun v17 =>
                            cond (decide (v15.1 > v17.1))
                              (next13 (s12.2.1, (w64 (s12.2.1 + 1)), ()))
                              (next13 (s12.1, (w64 (s12.2.1 + 1)), ()))) none) none)
                        (cond (inB s12.1 (List.length xs7))
                          (Option.bind (xs7[(Int.toNat s12.1)]?) fun v18 =>
                          Option.bind (idx x0 v18) fun v19 =>
                          cond (decide (0 ≤ (0 : Int)) && decide ((0 : Int) ≤ s12.1) && decide (s12.1 ≤ (List.length xs7 : Int)))
                            (cond (decide (0 ≤ (w64 (s12.1 + 1))) && decide ((w64 (s12.1 + 1)) ≤ (List.length xs7 : Int)) && decide ((List.length xs7 : Int) ≤ (List.length xs7 : Int)))
                              (cond (appOk (List.length (List.take (Int.toNat s12.1 - Int.toNat (0 : Int)) xs7)) (List.length ((xs7.drop (Int.toNat (w64 (s12.1 + 1)))).take (Int.toNat (List.length xs7 : Int) - Int.toNat (w64 (s12.1 + 1))))))
                                (let xs20 := ((List.take (Int.toNat s12.1 - Int.toNat (0 : Int)) xs7) ++ ((xs7.drop (Int.toNat (w64 (s12.1 + 1)))).take (Int.toNat (List.length xs7 : Int) - Int.toNat (w64 (s12.1 + 1)))))
                                next5 (xs20, (w64 ((w64 (s4.2.1 + v9.1)) - v19.1)), (w64 (s4.2.2.1 + 1)), (w64 (s4.2.2.2.1 + 1)), ())) none) none) none) none)) N (0, 1, ()))) none) none) none) none)
          (some (s4.1, s4.2.2.1, true, ()))) N (([] : List Int), 0, 0, 0, ())))
def spec_FewestLate_e (N : Nat) : Ent := { ins := [(.sl (.pair (.int .i64) (.pair (.int .i64) (.pair (.int .i64) (.int .i64)))))], outs := [.own (.int .i64), .val (.int .i64), .val .bool], F := fun x => spec_FewestLate N x.1 }
def spec_FewestLate_T (N : Nat) : Nat → List EntX
  | 61 => [.pl (spec_l02Jobs_e N)]
  | 62 => [.pl (spec_l02By_e N)]
  | 68 => [.pl (spec_l02Free_e N)]
  | _ => []
def spec_FewestLate_L : Nat → List (Nat × TK)
  | 8 => [(6, .own (.int .i64)), (7, .v (.int .i64)), (8, .v (.int .i64)), (9, .v (.int .i64))]
  | 15 => [(10, .v (.int .i64)), (11, .v (.int .i64))]
  | _ => []
theorem spec_FewestLate_eq (N : Nat) : runF N tt (spec_FewestLate_T N) spec_FewestLate_L [(.sl (.pair (.int .i64) (.pair (.int .i64) (.pair (.int .i64) (.int .i64)))))] [.own (.int .i64), .val (.int .i64), .val .bool] (bodyOf Try.f38) Try.f38.ntmps [2, 3, 4] = (spec_FewestLate_e N).F := by
  funext x
  kernel_rfl
theorem spec_FewestLate_sound (N : Nat) : SoundC Try.prog 38 (spec_FewestLate_e N) := by
  have h := runF_sound (f := 38) (code := bodyOf Try.f38) (N := N) (T := (spec_FewestLate_T N)) (L := spec_FewestLate_L) (ins := [(.sl (.pair (.int .i64) (.pair (.int .i64) (.pair (.int .i64) (.int .i64)))))]) (outs := [.own (.int .i64), .val (.int .i64), .val .bool]) (res := [2, 3, 4]) mixed tt_ok ?_ Try.func38 (by kernel_rfl) rfl (by kernel_rfl) (by kernel_rfl) (by decide +kernel)
  · rw [spec_FewestLate_eq] at h
    exact h
  · intro f e he
    unfold spec_FewestLate_T at he
    split at he
    · rw [List.mem_singleton.1 he]; exact spec_l02Jobs_sound N
    · rw [List.mem_singleton.1 he]; exact spec_l02By_sound N
    · rw [List.mem_singleton.1 he]; exact spec_l02Free_sound N
    · cases he

/- impl.counting -/
def impl_counting (N : Nat) (x0 : Int) : Option (List (Int) × Unit) :=
  loopN (fun (s1 : List (Int) × Int × Unit) next2 =>
    cond (decide (s1.2.1 < x0))
      (cond (appOk (List.length s1.1) (List.length ([s1.2.1] : List Int)))
        (let xs3 := (s1.1 ++ ([s1.2.1] : List Int))
        next2 (xs3, (w64 (s1.2.1 + 1)), ())) none)
      (some (s1.1, ()))) N (([] : List Int), 0, ())
def impl_counting_e (N : Nat) : Ent := { ins := [(.int .i64)], outs := [.own (.int .i64)], F := fun x => impl_counting N x.1 }
def impl_counting_T (_ : Nat) : Nat → List EntX := fun _ => []
def impl_counting_L : Nat → List (Nat × TK)
  | 3 => [(3, .own (.int .i64)), (7, .v (.int .i64))]
  | _ => []
theorem impl_counting_eq (N : Nat) : runF N tt (impl_counting_T N) impl_counting_L [(.int .i64)] [.own (.int .i64)] (bodyOf Try.f81) Try.f81.ntmps [2] = (impl_counting_e N).F := by
  funext x
  kernel_rfl
theorem impl_counting_sound (N : Nat) : SoundC Try.prog 81 (impl_counting_e N) := by
  have h := runF_sound (f := 81) (code := bodyOf Try.f81) (N := N) (T := (impl_counting_T N)) (L := impl_counting_L) (ins := [(.int .i64)]) (outs := [.own (.int .i64)]) (res := [2]) mixed tt_ok ?_ Try.func81 (by kernel_rfl) rfl (by kernel_rfl) (by kernel_rfl) (by decide +kernel)
  · rw [impl_counting_eq] at h
    exact h
  · intro f e he
    cases he

/- impl.orderBy$1 -/
def impl_orderBy_1_c0 (_N : Nat) (x0 : Int) (x1 : List (Int × Int × Int × Int)) : Option (Int × Unit) :=
  Option.bind (idx x1 x0) fun v1 =>
  some (v1.1, ())
def impl_orderBy_1_c0_e (N : Nat) : Ent := { ins := [(.int .i64), (.bx (.sl (.pair (.int .i64) (.pair (.int .i64) (.pair (.int .i64) (.int .i64))))))], outs := [.val (.int .i64)], F := fun x => impl_orderBy_1_c0 N x.1 x.2.1 }
def impl_orderBy_1_c0_T (_ : Nat) : Nat → List EntX := fun _ => []
def impl_orderBy_1_c0_L : Nat → List (Nat × TK) := fun _ => []
theorem impl_orderBy_1_c0_eq (N : Nat) : runF N tt (impl_orderBy_1_c0_T N) impl_orderBy_1_c0_L [(.int .i64), (.bx (.sl (.pair (.int .i64) (.pair (.int .i64) (.pair (.int .i64) (.int .i64))))))] [.val (.int .i64)] (bodyOf Try.f103) Try.f103.ntmps [3] = (impl_orderBy_1_c0_e N).F := by
  funext x
  kernel_rfl
theorem impl_orderBy_1_c0_sound (N : Nat) : SoundC Try.prog 103 (impl_orderBy_1_c0_e N) := by
  have h := runF_sound (f := 103) (code := bodyOf Try.f103) (N := N) (T := (impl_orderBy_1_c0_T N)) (L := impl_orderBy_1_c0_L) (ins := [(.int .i64), (.bx (.sl (.pair (.int .i64) (.pair (.int .i64) (.pair (.int .i64) (.int .i64))))))]) (outs := [.val (.int .i64)]) (res := [3]) mixed tt_ok ?_ Try.func103 (by kernel_rfl) rfl (by kernel_rfl) (by kernel_rfl) (by decide +kernel)
  · rw [impl_orderBy_1_c0_eq] at h
    exact h
  · intro f e he
    cases he

/- cmp.isNaN[int64] -/
def cmp_isNaN_int64 (_N : Nat) (x0 : Int) : Option (Bool × Unit) :=
  some ((x0 != x0), ())
def cmp_isNaN_int64_e (N : Nat) : Ent := { ins := [(.int .i64)], outs := [.val .bool], F := fun x => cmp_isNaN_int64 N x.1 }
def cmp_isNaN_int64_T (_ : Nat) : Nat → List EntX := fun _ => []
def cmp_isNaN_int64_L : Nat → List (Nat × TK) := fun _ => []
theorem cmp_isNaN_int64_eq (N : Nat) : runF N tt (cmp_isNaN_int64_T N) cmp_isNaN_int64_L [(.int .i64)] [.val .bool] (bodyOf Try.f120) Try.f120.ntmps [2] = (cmp_isNaN_int64_e N).F := by
  funext x
  kernel_rfl
theorem cmp_isNaN_int64_sound (N : Nat) : SoundC Try.prog 120 (cmp_isNaN_int64_e N) := by
  have h := runF_sound (f := 120) (code := bodyOf Try.f120) (N := N) (T := (cmp_isNaN_int64_T N)) (L := cmp_isNaN_int64_L) (ins := [(.int .i64)]) (outs := [.val .bool]) (res := [2]) mixed tt_ok ?_ Try.func120 (by kernel_rfl) rfl (by kernel_rfl) (by kernel_rfl) (by decide +kernel)
  · rw [cmp_isNaN_int64_eq] at h
    exact h
  · intro f e he
    cases he

/- cmp.Compare[int64] -/
def cmp_Compare_int64 (N : Nat) (x0 : Int) (x1 : Int) : Option (Int × Unit) :=
  Option.bind (cmp_isNaN_int64 N x0) fun r1 =>
  Option.bind (cmp_isNaN_int64 N x1) fun r2 =>
  cond r1.1
    (cond r2.1
      (some (0, ()))
      (some ((-1), ())))
    (cond r2.1
      (some (1, ()))
      (cond (decide (x0 < x1))
        (some ((-1), ()))
        (cond (decide (x0 > x1))
          (some (1, ()))
          (some (0, ())))))
def cmp_Compare_int64_e (N : Nat) : Ent := { ins := [(.int .i64), (.int .i64)], outs := [.val (.int .i64)], F := fun x => cmp_Compare_int64 N x.1 x.2.1 }
def cmp_Compare_int64_T (N : Nat) : Nat → List EntX
  | 120 => [.pl (cmp_isNaN_int64_e N)]
  | _ => []
def cmp_Compare_int64_L : Nat → List (Nat × TK) := fun _ => []
theorem cmp_Compare_int64_eq (N : Nat) : runF N tt (cmp_Compare_int64_T N) cmp_Compare_int64_L [(.int .i64), (.int .i64)] [.val (.int .i64)] (bodyOf Try.f84) Try.f84.ntmps [4] = (cmp_Compare_int64_e N).F := by
  funext x
  kernel_rfl
theorem cmp_Compare_int64_sound (N : Nat) : SoundC Try.prog 84 (cmp_Compare_int64_e N) := by
  have h := runF_sound (f := 84) (code := bodyOf Try.f84) (N := N) (T := (cmp_Compare_int64_T N)) (L := cmp_Compare_int64_L) (ins := [(.int .i64), (.int .i64)]) (outs := [.val (.int .i64)]) (res := [4]) mixed tt_ok ?_ Try.func84 (by kernel_rfl) rfl (by kernel_rfl) (by kernel_rfl) (by decide +kernel)
  · rw [cmp_Compare_int64_eq] at h
    exact h
  · intro f e he
    unfold cmp_Compare_int64_T at he
    split at he
    · rw [List.mem_singleton.1 he]; exact cmp_isNaN_int64_sound N
    · cases he

/- impl.sortedBy$1 -/
def impl_sortedBy_1_c0 (N : Nat) (x0 : Int) (x1 : Int) (x2 : List (Int × Int × Int × Int)) : Option (Int × Unit) :=
  Option.bind (impl_orderBy_1_c0 N x0 x2) fun r1 =>
  Option.bind (impl_orderBy_1_c0 N x1 x2) fun r2 =>
  Option.bind (cmp_Compare_int64 N r1.1 r2.1) fun r3 =>
  some (r3.1, ())
def impl_sortedBy_1_c0_e (N : Nat) : Ent := { ins := [(.int .i64), (.int .i64), (.bx (.clo 103 (.bx (.sl (.pair (.int .i64) (.pair (.int .i64) (.pair (.int .i64) (.int .i64))))))))], outs := [.val (.int .i64)], F := fun x => impl_sortedBy_1_c0 N x.1 x.2.1 x.2.2.1 }
def impl_sortedBy_1_c0_T (N : Nat) : Nat → List EntX
  | 84 => [.pl (cmp_Compare_int64_e N)]
  | 103 => [.pl (impl_orderBy_1_c0_e N)]
  | _ => []
def impl_sortedBy_1_c0_L : Nat → List (Nat × TK) := fun _ => []
theorem impl_sortedBy_1_c0_eq (N : Nat) : runF N tt (impl_sortedBy_1_c0_T N) impl_sortedBy_1_c0_L [(.int .i64), (.int .i64), (.bx (.clo 103 (.bx (.sl (.pair (.int .i64) (.pair (.int .i64) (.pair (.int .i64) (.int .i64))))))))] [.val (.int .i64)] (bodyOf Try.f83) Try.f83.ntmps [5] = (impl_sortedBy_1_c0_e N).F := by
  funext x
  kernel_rfl
theorem impl_sortedBy_1_c0_sound (N : Nat) : SoundC Try.prog 83 (impl_sortedBy_1_c0_e N) := by
  have h := runF_sound (f := 83) (code := bodyOf Try.f83) (N := N) (T := (impl_sortedBy_1_c0_T N)) (L := impl_sortedBy_1_c0_L) (ins := [(.int .i64), (.int .i64), (.bx (.clo 103 (.bx (.sl (.pair (.int .i64) (.pair (.int .i64) (.pair (.int .i64) (.int .i64))))))))]) (outs := [.val (.int .i64)]) (res := [5]) mixed tt_ok ?_ Try.func83 (by kernel_rfl) rfl (by kernel_rfl) (by kernel_rfl) (by decide +kernel)
  · rw [impl_sortedBy_1_c0_eq] at h
    exact h
  · intro f e he
    unfold impl_sortedBy_1_c0_T at he
    split at he
    · rw [List.mem_singleton.1 he]; exact cmp_Compare_int64_sound N
    · rw [List.mem_singleton.1 he]; exact impl_orderBy_1_c0_sound N
    · cases he

/- slices.insertionSortCmpFunc[int64] -/
def slices_insertionSortCmpFunc_int64_impl_sortedBy_1 (N : Nat) (x0 : List Int) (x1 : Int) (x2 : Int) (x3 : List (Int × Int × Int × Int)) : Option (List (Int) × (Unit)) :=
  loopN (fun (s1 : List (Int) × Int × Unit) next2 =>
    cond (decide (s1.2.1 < x2))
      (loopN (fun (s3 : List (Int) × Int × Unit) next4 =>
        cond (decide (s3.2.1 > x1))
          (cond (inB s3.2.1 (List.length s3.1))
            (Option.bind (s3.1[(Int.toNat s3.2.1)]?) fun v5 =>
            cond (inB (w64 (s3.2.1 - 1)) (List.length s3.1))
              (Option.bind (s3.1[(Int.toNat (w64 (s3.2.1 - 1)))]?) fun v6 =>
              Option.bind (impl_sortedBy_1_c0 N v5 v6 x3) fun r7 =>
              cond (decide (r7.1 < 0))
                (cond (inB (w64 (s3.2.1 - 1)) (List.length s3.1))
                  (Option.bind (s3.1[(Int.toNat (w64 (s3.2.1 - 1)))]?) fun v8 =>
                  cond (inB s3.2.1 (List.length s3.1))
                    (Option.bind (s3.1[(Int.toNat s3.2.1)]?) fun v9 =>
                    cond (inB s3.2.1 (List.length s3.1))
                      (let xs10 := (List.set s3.1 (Int.toNat s3.2.1) v8)
                      cond (inB (w64 (s3.2.1 - 1)) (List.length xs10))
                        (let xs11 := (List.set xs10 (Int.toNat (w64 (s3.2.1 - 1))) v9)
                        next4 (xs11, (w64 (s3.2.1 - 1)), ())) none) none) none) none)
                (next2 (s3.1, (w64 (s1.2.1 + 1)), ()))) none) none)
          (next2 (s3.1, (w64 (s1.2.1 + 1)), ()))) N (s1.1, s1.2.1, ()))
      (some (s1.1, ()))) N (x0, (w64 (x1 + 1)), ())
def slices_insertionSortCmpFunc_int64_impl_sortedBy_1_e (N : Nat) : EntM := { io := (.int .i64), ins := [(.int .i64), (.int .i64), (.clo 83 (.bx (.clo 103 (.bx (.sl (.pair (.int .i64) (.pair (.int .i64) (.pair (.int .i64) (.int .i64)))))))))], outs := [], F := fun xs x => slices_insertionSortCmpFunc_int64_impl_sortedBy_1 N xs x.1 x.2.1 x.2.2.1 }
def slices_insertionSortCmpFunc_int64_impl_sortedBy_1_T (N : Nat) : Nat → List EntX
  | 83 => [.pl (impl_sortedBy_1_c0_e N)]
  | _ => []
def slices_insertionSortCmpFunc_int64_impl_sortedBy_1_L : Nat → List (Nat × TK)
  | 1 => [(0, .own (.int .i64)), (8, .v (.int .i64))]
  | 4 => [(0, .own (.int .i64)), (9, .v (.int .i64))]
  | _ => []
theorem slices_insertionSortCmpFunc_int64_impl_sortedBy_1_eq (N : Nat) : runM N tt (slices_insertionSortCmpFunc_int64_impl_sortedBy_1_T N) slices_insertionSortCmpFunc_int64_impl_sortedBy_1_L (.int .i64) [(.int .i64), (.int .i64), (.clo 83 (.bx (.clo 103 (.bx (.sl (.pair (.int .i64) (.pair (.int .i64) (.pair (.int .i64) (.int .i64)))))))))] [] (bodyOf Try.f129) Try.f129.ntmps [] = (slices_insertionSortCmpFunc_int64_impl_sortedBy_1_e N).F := by
  funext xs x
  kernel_rfl
theorem slices_insertionSortCmpFunc_int64_impl_sortedBy_1_sound (N : Nat) : SoundM Try.prog 129 (slices_insertionSortCmpFunc_int64_impl_sortedBy_1_e N) := by
  have h := runM_sound (f := 129) (code := bodyOf Try.f129) (N := N) (T := (slices_insertionSortCmpFunc_int64_impl_sortedBy_1_T N)) (L := slices_insertionSortCmpFunc_int64_impl_sortedBy_1_L) (io := (.int .i64)) (ins := [(.int .i64), (.int .i64), (.clo 83 (.bx (.clo 103 (.bx (.sl (.pair (.int .i64) (.pair (.int .i64) (.pair (.int .i64) (.int .i64)))))))))]) (outs := []) (res := []) mixed tt_ok ?_ Try.func129 (by kernel_rfl) rfl (by kernel_rfl) (by kernel_rfl) (by decide +kernel)
  · rw [slices_insertionSortCmpFunc_int64_impl_sortedBy_1_eq] at h
    exact h
  · intro f e he
    unfold slices_insertionSortCmpFunc_int64_impl_sortedBy_1_T at he
    split at he
    · rw [List.mem_singleton.1 he]; exact impl_sortedBy_1_c0_sound N
    · cases he

/- slices.swapRangeCmpFunc[int64] -/
def slices_swapRangeCmpFunc_int64_impl_sortedBy_1 (N : Nat) (x0 : List Int) (x1 : Int) (x2 : Int) (x3 : Int) (x4 : List (Int × Int × Int × Int)) : Option (List (Int) × (Unit)) :=
  loopN (fun (s1 : List (Int) × Int × Unit) next2 =>
    cond (decide (s1.2.1 < x3))
      (cond (inB (w64 (x2 + s1.2.1)) (List.length s1.1))
        (Option.bind (s1.1[(Int.toNat (w64 (x2 + s1.2.1)))]?) fun v3 =>
        cond (inB (w64 (x1 + s1.2.1)) (List.length s1.1))
          (Option.bind (s1.1[(Int.toNat (w64 (x1 + s1.2.1)))]?) fun v4 =>
          cond (inB (w64 (x1 + s1.2.1)) (List.length s1.1))
            (let xs5 := (List.set s1.1 (Int.toNat (w64 (x1 + s1.2.1))) v3)
            cond (inB (w64 (x2 + s1.2.1)) (List.length xs5))
              (let xs6 := (List.set xs5 (Int.toNat (w64 (x2 + s1.2.1))) v4)
              next2 (xs6, (w64 (s1.2.1 + 1)), ())) none) none) none) none)
      (some (s1.1, ()))) N (x0, 0, ())
def slices_swapRangeCmpFunc_int64_impl_sortedBy_1_e (N : Nat) : EntM := { io := (.int .i64), ins := [(.int .i64), (.int .i64), (.int .i64), (.clo 83 (.bx (.clo 103 (.bx (.sl (.pair (.int .i64) (.pair (.int .i64) (.pair (.int .i64) (.int .i64)))))))))], outs := [], F := fun xs x => slices_swapRangeCmpFunc_int64_impl_sortedBy_1 N xs x.1 x.2.1 x.2.2.1 x.2.2.2.1 }
def slices_swapRangeCmpFunc_int64_impl_sortedBy_1_T (_ : Nat) : Nat → List EntX := fun _ => []
def slices_swapRangeCmpFunc_int64_impl_sortedBy_1_L : Nat → List (Nat × TK)
  | 1 => [(0, .own (.int .i64)), (10, .v (.int .i64))]
  | _ => []
theorem slices_swapRangeCmpFunc_int64_impl_sortedBy_1_eq (N : Nat) : runM N tt (slices_swapRangeCmpFunc_int64_impl_sortedBy_1_T N) slices_swapRangeCmpFunc_int64_impl_sortedBy_1_L (.int .i64) [(.int .i64), (.int .i64), (.int .i64), (.clo 83 (.bx (.clo 103 (.bx (.sl (.pair (.int .i64) (.pair (.int .i64) (.pair (.int .i64) (.int .i64)))))))))] [] (bodyOf Try.f136) Try.f136.ntmps [] = (slices_swapRangeCmpFunc_int64_impl_sortedBy_1_e N).F := by
  funext xs x
  kernel_rfl
theorem slices_swapRangeCmpFunc_int64_impl_sortedBy_1_sound (N : Nat) : SoundM Try.prog 136 (slices_swapRangeCmpFunc_int64_impl_sortedBy_1_e N) := by
  have h := runM_sound (f := 136) (code := bodyOf Try.f136) (N := N) (T := (slices_swapRangeCmpFunc_int64_impl_sortedBy_1_T N)) (L := slices_swapRangeCmpFunc_int64_impl_sortedBy_1_L) (io := (.int .i64)) (ins := [(.int .i64), (.int .i64), (.int .i64), (.clo 83 (.bx (.clo 103 (.bx (.sl (.pair (.int .i64) (.pair (.int .i64) (.pair (.int .i64) (.int .i64)))))))))]) (outs := []) (res := []) mixed tt_ok ?_ Try.func136 (by kernel_rfl) rfl (by kernel_rfl) (by kernel_rfl) (by decide +kernel)
  · rw [slices_swapRangeCmpFunc_int64_impl_sortedBy_1_eq] at h
    exact h
  · intro f e he
    cases he

/- slices.rotateCmpFunc[int64] -/
def slices_rotateCmpFunc_int64_impl_sortedBy_1 (N : Nat) (x0 : List Int) (x1 : Int) (x2 : Int) (x3 : Int) (x4 : List (Int × Int × Int × Int)) : Option (List (Int) × (Unit)) :=
  loopN (fun (s1 : List (Int) × Int × Int × Unit) next2 =>
    cond (s1.2.1 != s1.2.2.1)
      (cond (decide (s1.2.1 > s1.2.2.1))
        (Option.bind (slices_swapRangeCmpFunc_int64_impl_sortedBy_1 N s1.1 (w64 (x2 - s1.2.1)) x2 s1.2.2.1 x4) fun r3 =>
        cond (Nat.beq (List.length r3.1) (List.length s1.1))
          (next2 (r3.1, (w64 (s1.2.1 - s1.2.2.1)), s1.2.2.1, ())) none)
        (Option.bind (slices_swapRangeCmpFunc_int64_impl_sortedBy_1 N s1.1 (w64 (x2 - s1.2.1)) (w64 ((w64 (x2 + s1.2.2.1)) - s1.2.1)) s1.2.1 x4) fun r4 =>
        cond (Nat.beq (List.length r4.1) (List.length s1.1))
          (next2 (r4.1, s1.2.1, (w64 (s1.2.2.1 - s1.2.1)), ())) none))
      (Option.bind (slices_swapRangeCmpFunc_int64_impl_sortedBy_1 N s1.1 (w64 (x2 - s1.2.1)) x2 s1.2.1 x4) fun r5 =>
      cond (Nat.beq (List.length r5.1) (List.length s1.1))
        (some (r5.1, ())) none)) N (x0, (w64 (x2 - x1)), (w64 (x3 - x2)), ())
def slices_rotateCmpFunc_int64_impl_sortedBy_1_e (N : Nat) : EntM := { io := (.int .i64), ins := [(.int .i64), (.int .i64), (.int .i64), (.clo 83 (.bx (.clo 103 (.bx (.sl (.pair (.int .i64) (.pair (.int .i64) (.pair (.int .i64) (.int .i64)))))))))], outs := [], F := fun xs x => slices_rotateCmpFunc_int64_impl_sortedBy_1 N xs x.1 x.2.1 x.2.2.1 x.2.2.2.1 }
def slices_rotateCmpFunc_int64_impl_sortedBy_1_T (N : Nat) : Nat → List EntX
  | 136 => [.mu (slices_swapRangeCmpFunc_int64_impl_sortedBy_1_e N)]
  | _ => []
def slices_rotateCmpFunc_int64_impl_sortedBy_1_L : Nat → List (Nat × TK)
  | 2 => [(0, .own (.int .i64)), (10, .v (.int .i64)), (11, .v (.int .i64))]
  | _ => []
theorem slices_rotateCmpFunc_int64_impl_sortedBy_1_eq (N : Nat) : runM N tt (slices_rotateCmpFunc_int64_impl_sortedBy_1_T N) slices_rotateCmpFunc_int64_impl_sortedBy_1_L (.int .i64) [(.int .i64), (.int .i64), (.int .i64), (.clo 83 (.bx (.clo 103 (.bx (.sl (.pair (.int .i64) (.pair (.int .i64) (.pair (.int .i64) (.int .i64)))))))))] [] (bodyOf Try.f134) Try.f134.ntmps [] = (slices_rotateCmpFunc_int64_impl_sortedBy_1_e N).F := by
  funext xs x
  kernel_rfl
theorem slices_rotateCmpFunc_int64_impl_sortedBy_1_sound (N : Nat) : SoundM Try.prog 134 (slices_rotateCmpFunc_int64_impl_sortedBy_1_e N) := by
  have h := runM_sound (f := 134) (code := bodyOf Try.f134) (N := N) (T := (slices_rotateCmpFunc_int64_impl_sortedBy_1_T N)) (L := slices_rotateCmpFunc_int64_impl_sortedBy_1_L) (io := (.int .i64)) (ins := [(.int .i64), (.int .i64), (.int .i64), (.clo 83 (.bx (.clo 103 (.bx (.sl (.pair (.int .i64) (.pair (.int .i64) (.pair (.int .i64) (.int .i64)))))))))]) (outs := []) (res := []) mixed tt_ok ?_ Try.func134 (by kernel_rfl) rfl (by kernel_rfl) (by kernel_rfl) (by decide +kernel)
  · rw [slices_rotateCmpFunc_int64_impl_sortedBy_1_eq] at h
    exact h
  · intro f e he
    unfold slices_rotateCmpFunc_int64_impl_sortedBy_1_T at he
    split at he
    · rw [List.mem_singleton.1 he]; exact slices_swapRangeCmpFunc_int64_impl_sortedBy_1_sound N
    · cases he

/- slices.symMergeCmpFunc[int64] -/
def slices_symMergeCmpFunc_int64_impl_sortedBy_1_step (N : Nat) (self : List (Int) → Int → Int → Int → List (Int × Int × Int × Int) → Option (List (Int) × (Unit))) (x0 : List Int) (x1 : Int) (x2 : Int) (x3 : Int) (x4 : List (Int × Int × Int × Int)) : Option (List (Int) × (Unit)) :=
  cond ((w64 (x2 - x1)) == 1)
    (loopN (fun (s1 : Int × Int × Unit) next2 =>
      cond (decide (s1.1 < s1.2.1))
        (cond (inB (IntKind.wrap .i64 (ishr .u64 (IntKind.wrap .u64 (w64 (s1.1 + s1.2.1))) 1)) (List.length x0))
          (Option.bind (x0[(Int.toNat (IntKind.wrap .i64 (ishr .u64 (IntKind.wrap .u64 (w64 (s1.1 + s1.2.1))) 1)))]?) fun v3 =>
          cond (inB x1 (List.length x0))
            (Option.bind (x0[(Int.toNat x1)]?) fun v4 =>
            Option.bind (impl_sortedBy_1_c0 N v3 v4 x4) fun r5 =>
            cond (decide (r5.1 < 0))
              (next2 ((w64 ((IntKind.wrap .i64 (ishr .u64 (IntKind.wrap .u64 (w64 (s1.1 + s1.2.1))) 1)) + 1)), s1.2.1, ()))
              (next2 (s1.1, (IntKind.wrap .i64 (ishr .u64 (IntKind.wrap .u64 (w64 (s1.1 + s1.2.1))) 1)), ()))) none) none)
        (loopN (fun (s6 : List (Int) × Int × Unit) next7 =>
          cond (decide (s6.2.1 < (w64 (s1.1 - 1))))
            (cond (inB (w64 (s6.2.1 + 1)) (List.length s6.1))
              (Option.bind (s6.1[(Int.toNat (w64 (s6.2.1 + 1)))]?) fun v8 =>
              cond (inB s6.2.1 (List.length s6.1))
                (Option.bind (s6.1[(Int.toNat s6.2.1)]?) fun v9 =>
                cond (inB s6.2.1 (List.length s6.1))
                  (let xs10 := (List.set s6.1 (Int.toNat s6.2.1) v8)
                  cond (inB (w64 (s6.2.1 + 1)) (List.length xs10))
                    (let xs11 := (List.set xs10 (Int.toNat (w64 (s6.2.1 + 1))) v9)
                    next7 (xs11, (w64 (s6.2.1 + 1)), ())) none) none) none) none)
            (some (s6.1, ()))) N (x0, x1, ()))) N (x2, x3, ()))
    (cond ((w64 (x3 - x2)) == 1)
      (loopN (fun (s12 : Int × Int × Unit) next13 =>
        cond (decide (s12.1 < s12.2.1))
          (cond (inB x2 (List.length x0))
            (Option.bind (x0[(Int.toNat x2)]?) fun v14 =>
            cond (inB (IntKind.wrap .i64 (ishr .u64 (IntKind.wrap .u64 (w64 (s12.1 + s12.2.1))) 1)) (List.length x0))
              (Option.bind (x0[(Int.toNat (IntKind.wrap .i64 (ishr .u64 (IntKind.wrap .u64 (w64 (s12.1 + s12.2.1))) 1)))]?) fun v15 =>
              Option.bind (impl_sortedBy_1_c0 N v14 v15 x4) fun r16 =>
              cond (!(decide (r16.1 < 0)))
                (next13 ((w64 ((IntKind.wrap .i64 (ishr .u64 (IntKind.wrap .u64 (w64 (s12.1 + s12.2.1))) 1)) + 1)), s12.2.1, ()))
                (next13 (s12.1, (IntKind.wrap .i64 (ishr .u64 (IntKind.wrap .u64 (w64 (s12.1 + s12.2.1))) 1)), ()))) none) none)
          (loopN (fun (s17 : List (Int) × Int × Unit) next18 =>
            cond (decide (s17.2.1 > s12.1))
              (cond (inB (w64 (s17.2.1 - 1)) (List.length s17.1))
                (Option.bind (s17.1[(Int.toNat (w64 (s17.2.1 - 1)))]?) fun v19 =>
                cond (inB s17.2.1 (List.length s17.1))
                  (Option.bind (s17.1[(Int.toNat s17.2.1)]?) fun v20 =>
                  cond (inB s17.2.1 (List.length s17.1))
                    (let xs21 := (List.set s17.1 (Int.toNat s17.2.1) v19)
                    cond (inB (w64 (s17.2.1 - 1)) (List.length xs21))
                      (let xs22 := (List.set xs21 (Int.toNat (w64 (s17.2.1 - 1))) v20)
                      next18 (xs22, (w64 (s17.2.1 - 1)), ())) none) none) none) none)
              (some (s17.1, ()))) N (x0, x2, ()))) N (x1, x2, ()))
      (cond (decide (x2 > (IntKind.wrap .i64 (ishr .u64 (IntKind.wrap .u64 (w64 (x1 + x3))) 1))))
        (loopN (fun (s23 : Int × Int × Unit) next24 =>
          cond (decide (s23.1 < s23.2.1))
            (cond (inB (w64 ((w64 ((w64 ((IntKind.wrap .i64 (ishr .u64 (IntKind.wrap .u64 (w64 (x1 + x3))) 1)) + x2)) - 1)) - (IntKind.wrap .i64 (ishr .u64 (IntKind.wrap .u64 (w64 (s23.1 + s23.2.1))) 1)))) (List.length x0))
              (Option.bind (x0[(Int.toNat (w64 ((w64 ((w64 ((IntKind.wrap .i64 (ishr .u64 (IntKind.wrap .u64 (w64 (x1 + x3))) 1)) + x2)) - 1)) - (IntKind.wrap .i64 (ishr .u64 (IntKind.wrap .u64 (w64 (s23.1 + s23.2.1))) 1)))))]?) fun v25 =>
              cond (inB (IntKind.wrap .i64 (ishr .u64 (IntKind.wrap .u64 (w64 (s23.1 + s23.2.1))) 1)) (List.length x0))
                (Option.bind (x0[(Int.toNat (IntKind.wrap .i64 (ishr .u64 (IntKind.wrap .u64 (w64 (s23.1 + s23.2.1))) 1)))]?) fun v26 =>
                Option.bind (impl_sortedBy_1_c0 N v25 v26 x4) fun r27 =>
                cond (!(decide (r27.1 < 0)))
                  (next24 ((w64 ((IntKind.wrap .i64 (ishr .u64 (IntKind.wrap .u64 (w64 (s23.1 + s23.2.1))) 1)) + 1)), s23.2.1, ()))
                  (next24 (s23.1, (IntKind.wrap .i64 (ishr .u64 (IntKind.wrap .u64 (w64 (s23.1 + s23.2.1))) 1)), ()))) none) none)
            (cond (decide (s23.1 < x2))
              (cond (decide (x2 < (w64 ((w64 ((IntKind.wrap .i64 (ishr .u64 (IntKind.wrap .u64 (w64 (x1 + x3))) 1)) + x2)) - s23.1))))
                (Option.bind (slices_rotateCmpFunc_int64_impl_sortedBy_1 N x0 s23.1 x2 (w64 ((w64 ((IntKind.wrap .i64 (ishr .u64 (IntKind.wrap .u64 (w64 (x1 + x3))) 1)) + x2)) - s23.1)) x4) fun r28 =>
                cond (Nat.beq (List.length r28.1) (List.length x0))
                  (cond (decide (x1 < s23.1))
                    (cond (decide (s23.1 < (IntKind.wrap .i64 (ishr .u64 (IntKind.wrap .u64 (w64 (x1 + x3))) 1))))
                      (Option.bind (self r28.1 x1 s23.1 (IntKind.wrap .i64 (ishr .u64 (IntKind.wrap .u64 (w64 (x1 + x3))) 1)) x4) fun r29 =>
                      cond (Nat.beq (List.length r29.1) (List.length r28.1))
                        (cond (decide ((IntKind.wrap .i64 (ishr .u64 (IntKind.wrap .u64 (w64 (x1 + x3))) 1)) < (w64 ((w64 ((IntKind.wrap .i64 (ishr .u64 (IntKind.wrap .u64 (w64 (x1 + x3))) 1)) + x2)) - s23.1))))
                          (cond (decide ((w64 ((w64 ((IntKind.wrap .i64 (ishr .u64 (IntKind.wrap .u64 (w64 (x1 + x3))) 1)) + x2)) - s23.1)) < x3))
                            (Option.bind (self r29.1 (IntKind.wrap .i64 (ishr .u64 (IntKind.wrap .u64 (w64 (x1 + x3))) 1)) (w64 ((w64 ((IntKind.wrap .i64 (ishr .u64 (IntKind.wrap .u64 (w64 (x1 + x3))) 1)) + x2)) - s23.1)) x3 x4) fun r30 =>
                            cond (Nat.beq (List.length r30.1) (List.length r29.1))
                              (some (r30.1, ())) none)
                            (some (r29.1, ())))
                          (some (r29.1, ()))) none)
                      (cond (decide ((IntKind.wrap .i64 (ishr .u64 (IntKind.wrap .u64 (w64 (x1 + x3))) 1)) < (w64 ((w64 ((IntKind.wrap .i64 (ishr .u64 (IntKind.wrap .u64 (w64 (x1 + x3))) 1)) + x2)) - s23.1))))
                        (cond (decide ((w64 ((w64 ((IntKind.wrap .i64 (ishr .u64 (IntKind.wrap .u64 (w64 (x1 + x3))) 1)) + x2)) - s23.1)) < x3))
                          (Option.bind (self r28.1 (IntKind.wrap .i64 (ishr .u64 (IntKind.wrap .u64 (w64 (x1 + x3))) 1)) (w64 ((w64 ((IntKind.wrap .i64 (ishr .u64 (IntKind.wrap .u64 (w64 (x1 + x3))) 1)) + x2)) - s23.1)) x3 x4) fun r31 =>
                          cond (Nat.beq (List.length r31.1) (List.length r28.1))
                            (some (r31.1, ())) none)
                          (some (r28.1, ())))
                        (some (r28.1, ()))))
                    (cond (decide ((IntKind.wrap .i64 (ishr .u64 (IntKind.wrap .u64 (w64 (x1 + x3))) 1)) < (w64 ((w64 ((IntKind.wrap .i64 (ishr .u64 (IntKind.wrap .u64 (w64 (x1 + x3))) 1)) + x2)) - s23.1))))
                      (cond (decide ((w64 ((w64 ((IntKind.wrap .i64 (ishr .u64 (IntKind.wrap .u64 (w64 (x1 + x3))) 1)) + x2)) - s23.1)) < x3))
                        (Option.bind (self r28.1 (IntKind.wrap .i64 (ishr .u64 (IntKind.wrap .u64 (w64 (x1 + x3))) 1)) (w64 ((w64 ((IntKind.wrap .i64 (ishr .u64 (IntKind.wrap .u64 (w64 (x1 + x3))) 1)) + x2)) - s23.1)) x3 x4) fun r32 =>
                        cond (Nat.beq (List.length r32.1) (List.length r28.1))
                          (some (r32.1, ())) none)
                        (some (r28.1, ())))
                      (some (r28.1, ())))) none)
                (cond (decide (x1 < s23.1))
                  (cond (decide (s23.1 < (IntKind.wrap .i64 (ishr .u64 (IntKind.wrap .u64 (w64 (x1 + x3))) 1))))
                    (Option.bind (self x0 x1 s23.1 (IntKind.wrap .i64 (ishr .u64 (IntKind.wrap .u64 (w64 (x1 + x3))) 1)) x4) fun r33 =>
                    cond (Nat.beq (List.length r33.1) (List.length x0))
                      (cond (decide ((IntKind.wrap .i64 (ishr .u64 (IntKind.wrap .u64 (w64 (x1 + x3))) 1)) < (w64 ((w64 ((IntKind.wrap .i64 (ishr .u64 (IntKind.wrap .u64 (w64 (x1 + x3))) 1)) + x2)) - s23.1))))
                        (cond (decide ((w64 ((w64 ((IntKind.wrap .i64 (ishr .u64 (IntKind.wrap .u64 (w64 (x1 + x3))) 1)) + x2)) - s23.1)) < x3))
                          (Option.bind (self r33.1 (IntKind.wrap .i64 (ishr .u64 (IntKind.wrap .u64 (w64 (x1 + x3))) 1)) (w64 ((w64 ((IntKind.wrap .i64 (ishr .u64 (IntKind.wrap .u64 (w64 (x1 + x3))) 1)) + x2)) - s23.1)) x3 x4) fun r34 =>
                          cond (Nat.beq (List.length r34.1) (List.length r33.1))
                            (some (r34.1, ())) none)
                          (some (r33.1, ())))
                        (some (r33.1, ()))) none)
                    (cond (decide ((IntKind.wrap .i64 (ishr .u64 (IntKind.wrap .u64 (w64 (x1 + x3))) 1)) < (w64 ((w64 ((IntKind.wrap .i64 (ishr .u64 (IntKind.wrap .u64 (w64 (x1 + x3))) 1)) + x2)) - s23.1))))
                      (cond (decide ((w64 ((w64 ((IntKind.wrap .i64 (ishr .u64 (IntKind.wrap .u64 (w64 (x1 + x3))) 1)) + x2)) - s23.1)) < x3))
                        (Option.bind (self x0 (IntKind.wrap .i64 (ishr .u64 (IntKind.wrap .u64 (w64 (x1 + x3))) 1)) (w64 ((w64 ((IntKind.wrap .i64 (ishr .u64 (IntKind.wrap .u64 (w64 (x1 + x3))) 1)) + x2)) - s23.1)) x3 x4) fun r35 =>
                        cond (Nat.beq (List.length r35.1) (List.length x0))
                          (some (r35.1, ())) none)
                        (some (x0, ())))
                      (some (x0, ()))))
                  (cond (decide ((IntKind.wrap .i64 (ishr .u64 (IntKind.wrap .u64 (w64 (x1 + x3))) 1)) < (w64 ((w64 ((IntKind.wrap .i64 (ishr .u64 (IntKind.wrap .u64 (w64 (x1 + x3))) 1)) + x2)) - s23.1))))
                    (cond (decide ((w64 ((w64 ((IntKind.wrap .i64 (ishr .u64 (IntKind.wrap .u64 (w64 (x1 + x3))) 1)) + x2)) - s23.1)) < x3))
                      (Option.bind (self x0 (IntKind.wrap .i64 (ishr .u64 (IntKind.wrap .u64 (w64 (x1 + x3))) 1)) (w64 ((w64 ((IntKind.wrap .i64 (ishr .u64 (IntKind.wrap .u64 (w64 (x1 + x3))) 1)) + x2)) - s23.1)) x3 x4) fun r36 =>
                      cond (Nat.beq (List.length r36.1) (List.length x0))
                        (some (r36.1, ())) none)
                      (some (x0, ())))
                    (some (x0, ())))))
              (cond (decide (x1 < s23.1))
                (cond (decide (s23.1 < (IntKind.wrap .i64 (ishr .u64 (IntKind.wrap .u64 (w64 (x1 + x3))) 1))))
                  (Option.bind (self x0 x1 s23.1 (IntKind.wrap .i64 (ishr .u64 (IntKind.wrap .u64 (w64 (x1 + x3))) 1)) x4) fun r37 =>
                  cond (Nat.beq (List.length r37.1) (List.length x0))
                    (cond (decide ((IntKind.wrap .i64 (ishr .u64 (IntKind.wrap .u64 (w64 (x1 + x3))) 1)) < (w64 ((w64 ((IntKind.wrap .i64 (ishr .u64 (IntKind.wrap .u64 (w64 (x1 + x3))) 1)) + x2)) - s23.1))))
                      (cond (decide ((w64 ((w64 ((IntKind.wrap .i64 (ishr .u64 (IntKind.wrap .u64 (w64 (x1 + x3))) 1)) + x2)) - s23.1)) < x3))
                        (Option.bind (self r37.1 (IntKind.wrap .i64 (ishr .u64 (IntKind.wrap .u64 (w64 (x1 + x3))) 1)) (w64 ((w64 ((IntKind.wrap .i64 (ishr .u64 (IntKind.wrap .u64 (w64 (x1 + x3))) 1)) + x2)) - s23.1)) x3 x4) fun r38 =>
                        cond (Nat.beq (List.length r38.1) (List.length r37.1))
                          (some (r38.1, ())) none)
                        (some (r37.1, ())))
                      (some (r37.1, ()))) none)
                  (cond (decide ((IntKind.wrap .i64 (ishr .u64 (IntKind.wrap .u64 (w64 (x1 + x3))) 1)) < (w64 ((w64 ((IntKind.wrap .i64 (ishr .u64 (IntKind.wrap .u64 (w64 (x1 + x3))) 1)) + x2)) - s23.1))))
                    (cond (decide ((w64 ((w64 ((IntKind.wrap .i64 (ishr .u64 (IntKind.wrap .u64 (w64 (x1 + x3))) 1)) + x2)) - s23.1)) < x3))
                      (Option.bind (self x0 (IntKind.wrap .i64 (ishr .u64 (IntKind.wrap .u64 (w64 (x1 + x3))) 1)) (w64 ((w64 ((IntKind.wrap .i64 (ishr .u64 (IntKind.wrap .u64 (w64 (x1 + x3))) 1)) + x2)) - s23.1)) x3 x4) fun r39 =>
                      cond (Nat.beq (List.length r39.1) (List.length x0))
                        (some (r39.1, ())) none)
                      (some (x0, ())))
                    (some (x0, ()))))
                (cond (decide ((IntKind.wrap .i64 (ishr .u64 (IntKind.wrap .u64 (w64 (x1 + x3))) 1)) < (w64 ((w64 ((IntKind.wrap .i64 (ishr .u64 (IntKind.wrap .u64 (w64 (x1 + x3))) 1)) + x2)) - s23.1))))
                  (cond (decide ((w64 ((w64 ((IntKind.wrap .i64 (ishr .u64 (IntKind.wrap .u64 (w64 (x1 + x3))) 1)) + x2)) - s23.1)) < x3))
                    (Option.bind (self x0 (IntKind.wrap .i64 (ishr .u64 (IntKind.wrap .u64 (w64 (x1 + x3))) 1)) (w64 ((w64 ((IntKind.wrap .i64 (ishr .u64 (IntKind.wrap .u64 (w64 (x1 + x3))) 1)) + x2)) - s23.1)) x3 x4) fun r40 =>
                    cond (Nat.beq (List.length r40.1) (List.length x0))
                      (some (r40.1, ())) none)
                    (some (x0, ())))
                  (some (x0, ())))))) N ((w64 ((w64 ((IntKind.wrap .i64 (ishr .u64 (IntKind.wrap .u64 (w64 (x1 + x3))) 1)) + x2)) - x3)), (IntKind.wrap .i64 (ishr .u64 (IntKind.wrap .u64 (w64 (x1 + x3))) 1)), ()))
        (loopN (fun (s41 : Int × Int × Unit) next42 =>
          cond (decide (s41.1 < s41.2.1))
            (cond (inB (w64 ((w64 ((w64 ((IntKind.wrap .i64 (ishr .u64 (IntKind.wrap .u64 (w64 (x1 + x3))) 1)) + x2)) - 1)) - (IntKind.wrap .i64 (ishr .u64 (IntKind.wrap .u64 (w64 (s41.1 + s41.2.1))) 1)))) (List.length x0))
              (Option.bind (x0[(Int.toNat (w64 ((w64 ((w64 ((IntKind.wrap .i64 (ishr .u64 (IntKind.wrap .u64 (w64 (x1 + x3))) 1)) + x2)) - 1)) - (IntKind.wrap .i64 (ishr .u64 (IntKind.wrap .u64 (w64 (s41.1 + s41.2.1))) 1)))))]?) fun v43 =>
              cond (inB (IntKind.wrap .i64 (ishr .u64 (IntKind.wrap .u64 (w64 (s41.1 + s41.2.1))) 1)) (List.length x0))
                (Option.bind (x0[(Int.toNat (IntKind.wrap .i64 (ishr .u64 (IntKind.wrap .u64 (w64 (s41.1 + s41.2.1))) 1)))]?) fun v44 =>
                Option.bind (impl_sortedBy_1_c0 N v43 v44 x4) fun r45 =>
                cond (!(decide (r45.1 < 0)))
                  (next42 ((w64 ((IntKind.wrap .i64 (ishr .u64 (IntKind.wrap .u64 (w64 (s41.1 + s41.2.1))) 1)) + 1)), s41.2.1, ()))
                  (next42 (s41.1, (IntKind.wrap .i64 (ishr .u64 (IntKind.wrap .u64 (w64 (s41.1 + s41.2.1))) 1)), ()))) none) none)
            (cond (decide (s41.1 < x2))
              (cond (decide (x2 < (w64 ((w64 ((IntKind.wrap .i64 (ishr .u64 (IntKind.wrap .u64 (w64 (x1 + x3))) 1)) + x2)) - s41.1))))
                (Option.bind (slices_rotateCmpFunc_int64_impl_sortedBy_1 N x0 s41.1 x2 (w64 ((w64 ((IntKind.wrap .i64 (ishr .u64 (IntKind.wrap .u64 (w64 (x1 + x3))) 1)) + x2)) - s41.1)) x4) fun r46 =>
                cond (Nat.beq (List.length r46.1) (List.length x0))
                  (cond (decide (x1 < s41.1))
                    (cond (decide (s41.1 < (IntKind.wrap .i64 (ishr .u64 (IntKind.wrap .u64 (w64 (x1 + x3))) 1))))
                      (Option.bind (self r46.1 x1 s41.1 (IntKind.wrap .i64 (ishr .u64 (IntKind.wrap .u64 (w64 (x1 + x3))) 1)) x4) fun r47 =>
                      cond (Nat.beq (List.length r47.1) (List.length r46.1))
                        (cond (decide ((IntKind.wrap .i64 (ishr .u64 (IntKind.wrap .u64 (w64 (x1 + x3))) 1)) < (w64 ((w64 ((IntKind.wrap .i64 (ishr .u64 (IntKind.wrap .u64 (w64 (x1 + x3))) 1)) + x2)) - s41.1))))
                          (cond (decide ((w64 ((w64 ((IntKind.wrap .i64 (ishr .u64 (IntKind.wrap .u64 (w64 (x1 + x3))) 1)) + x2)) - s41.1)) < x3))
                            (Option.bind (self r47.1 (IntKind.wrap .i64 (ishr .u64 (IntKind.wrap .u64 (w64 (x1 + x3))) 1)) (w64 ((w64 ((IntKind.wrap .i64 (ishr .u64 (IntKind.wrap .u64 (w64 (x1 + x3))) 1)) + x2)) - s41.1)) x3 x4) fun r48 =>
                            cond (Nat.beq (List.length r48.1) (List.length r47.1))
                              (some (r48.1, ())) none)
                            (some (r47.1, ())))
                          (some (r47.1, ()))) none)
                      (cond (decide ((IntKind.wrap .i64 (ishr .u64 (IntKind.wrap .u64 (w64 (x1 + x3))) 1)) < (w64 ((w64 ((IntKind.wrap .i64 (ishr .u64 (IntKind.wrap .u64 (w64 (x1 + x3))) 1)) + x2)) - s41.1))))
                        (cond (decide ((w64 ((w64 ((IntKind.wrap .i64 (ishr .u64 (IntKind.wrap .u64 (w64 (x1 + x3))) 1)) + x2)) - s41.1)) < x3))
                          (Option.bind (self r46.1 (IntKind.wrap .i64 (ishr .u64 (IntKind.wrap .u64 (w64 (x1 + x3))) 1)) (w64 ((w64 ((IntKind.wrap .i64 (ishr .u64 (IntKind.wrap .u64 (w64 (x1 + x3))) 1)) + x2)) - s41.1)) x3 x4) fun r49 =>
                          cond (Nat.beq (List.length r49.1) (List.length r46.1))
                            (some (r49.1, ())) none)
                          (some (r46.1, ())))
                        (some (r46.1, ()))))
                    (cond (decide ((IntKind.wrap .i64 (ishr .u64 (IntKind.wrap .u64 (w64 (x1 + x3))) 1)) < (w64 ((w64 ((IntKind.wrap .i64 (ishr .u64 (IntKind.wrap .u64 (w64 (x1 + x3))) 1)) + x2)) - s41.1))))
                      (cond (decide ((w64 ((w64 ((IntKind.wrap .i64 (ishr .u64 (IntKind.wrap .u64 (w64 (x1 + x3))) 1)) + x2)) - s41.1)) < x3))
                        (Option.bind (self r46.1 (IntKind.wrap .i64 (ishr .u64 (IntKind.wrap .u64 (w64 (x1 + x3))) 1)) (w64 ((w64 ((IntKind.wrap .i64 (ishr .u64 (IntKind.wrap .u64 (w64 (x1 + x3))) 1)) + x2)) - s41.1)) x3 x4) fun r50 =>
                        cond (Nat.beq (List.length r50.1) (List.length r46.1))
                          (some (r50.1, ())) none)
                        (some (r46.1, ())))
                      (some (r46.1, ())))) none)
                (cond (decide (x1 < s41.1))
                  (cond (decide (s41.1 < (IntKind.wrap .i64 (ishr .u64 (IntKind.wrap .u64 (w64 (x1 + x3))) 1))))
                    (Option.bind (self x0 x1 s41.1 (IntKind.wrap .i64 (ishr .u64 (IntKind.wrap .u64 (w64 (x1 + x3))) 1)) x4) fun r51 =>
                    cond (Nat.beq (List.length r51.1) (List.length x0))
                      (cond (decide ((IntKind.wrap .i64 (ishr .u64 (IntKind.wrap .u64 (w64 (x1 + x3))) 1)) < (w64 ((w64 ((IntKind.wrap .i64 (ishr .u64 (IntKind.wrap .u64 (w64 (x1 + x3))) 1)) + x2)) - s41.1))))
                        (cond (decide ((w64 ((w64 ((IntKind.wrap .i64 (ishr .u64 (IntKind.wrap .u64 (w64 (x1 + x3))) 1)) + x2)) - s41.1)) < x3))
                          (Option.bind (self r51.1 (IntKind.wrap .i64 (ishr .u64 (IntKind.wrap .u64 (w64 (x1 + x3))) 1)) (w64 ((w64 ((IntKind.wrap .i64 (ishr .u64 (IntKind.wrap .u64 (w64 (x1 + x3))) 1)) + x2)) - s41.1)) x3 x4) fun r52 =>
                          cond (Nat.beq (List.length r52.1) (List.length r51.1))
                            (some (r52.1, ())) none)
                          (some (r51.1, ())))
                        (some (r51.1, ()))) none)
                    (cond (decide ((IntKind.wrap .i64 (ishr .u64 (IntKind.wrap .u64 (w64 (x1 + x3))) 1)) < (w64 ((w64 ((IntKind.wrap .i64 (ishr .u64 (IntKind.wrap .u64 (w64 (x1 + x3))) 1)) + x2)) - s41.1))))
                      (cond (decide ((w64 ((w64 ((IntKind.wrap .i64 (ishr .u64 (IntKind.wrap .u64 (w64 (x1 + x3))) 1)) + x2)) - s41.1)) < x3))
                        (Option.bind (self x0 (IntKind.wrap .i64 (ishr .u64 (IntKind.wrap .u64 (w64 (x1 + x3))) 1)) (w64 ((w64 ((IntKind.wrap .i64 (ishr .u64 (IntKind.wrap .u64 (w64 (x1 + x3))) 1)) + x2)) - s41.1)) x3 x4) fun r53 =>
                        cond (Nat.beq (List.length r53.1) (List.length x0))
                          (some (r53.1, ())) none)
                        (some (x0, ())))
                      (some (x0, ()))))
                  (cond (decide ((IntKind.wrap .i64 (ishr .u64 (IntKind.wrap .u64 (w64 (x1 + x3))) 1)) < (w64 ((w64 ((IntKind.wrap .i64 (ishr .u64 (IntKind.wrap .u64 (w64 (x1 + x3))) 1)) + x2)) - s41.1))))
                    (cond (decide ((w64 ((w64 ((IntKind.wrap .i64 (ishr .u64 (IntKind.wrap .u64 (w64 (x1 + x3))) 1)) + x2)) - s41.1)) < x3))
                      (Option.bind (self x0 (IntKind.wrap .i64 (ishr .u64 (IntKind.wrap .u64 (w64 (x1 + x3))) 1)) (w64 ((w64 ((IntKind.wrap .i64 (ishr .u64 (IntKind.wrap .u64 (w64 (x1 + x3))) 1)) + x2)) - s41.1)) x3 x4) fun r54 =>
                      cond (Nat.beq (List.length r54.1) (List.length x0))
                        (some (r54.1, ())) none)
                      (some (x0, ())))
                    (some (x0, ())))))
              (cond (decide (x1 < s41.1))
                (cond (decide (s41.1 < (IntKind.wrap .i64 (ishr .u64 (IntKind.wrap .u64 (w64 (x1 + x3))) 1))))
                  (Option.bind (self x0 x1 s41.1 (IntKind.wrap .i64 (ishr .u64 (IntKind.wrap .u64 (w64 (x1 + x3))) 1)) x4) fun r55 =>
                  cond (Nat.beq (List.length r55.1) (List.length x0))
                    (cond (decide ((IntKind.wrap .i64 (ishr .u64 (IntKind.wrap .u64 (w64 (x1 + x3))) 1)) < (w64 ((w64 ((IntKind.wrap .i64 (ishr .u64 (IntKind.wrap .u64 (w64 (x1 + x3))) 1)) + x2)) - s41.1))))
                      (cond (decide ((w64 ((w64 ((IntKind.wrap .i64 (ishr .u64 (IntKind.wrap .u64 (w64 (x1 + x3))) 1)) + x2)) - s41.1)) < x3))
                        (Option.bind (self r55.1 (IntKind.wrap .i64 (ishr .u64 (IntKind.wrap .u64 (w64 (x1 + x3))) 1)) (w64 ((w64 ((IntKind.wrap .i64 (ishr .u64 (IntKind.wrap .u64 (w64 (x1 + x3))) 1)) + x2)) - s41.1)) x3 x4) fun r56 =>
                        cond (Nat.beq (List.length r56.1) (List.length r55.1))
                          (some (r56.1, ())) none)
                        (some (r55.1, ())))
                      (some (r55.1, ()))) none)
                  (cond (decide ((IntKind.wrap .i64 (ishr .u64 (IntKind.wrap .u64 (w64 (x1 + x3))) 1)) < (w64 ((w64 ((IntKind.wrap .i64 (ishr .u64 (IntKind.wrap .u64 (w64 (x1 + x3))) 1)) + x2)) - s41.1))))
                    (cond (decide ((w64 ((w64 ((IntKind.wrap .i64 (ishr .u64 (IntKind.wrap .u64 (w64 (x1 + x3))) 1)) + x2)) - s41.1)) < x3))
                      (Option.bind (self x0 (IntKind.wrap .i64 (ishr .u64 (IntKind.wrap .u64 (w64 (x1 + x3))) 1)) (w64 ((w64 ((IntKind.wrap .i64 (ishr .u64 (IntKind.wrap .u64 (w64 (x1 + x3))) 1)) + x2)) - s41.1)) x3 x4) fun r57 =>
                      cond (Nat.beq (List.length r57.1) (List.length x0))
                        (some (r57.1, ())) none)
                      (some (x0, ())))
                    (some (x0, ()))))
                (cond (decide ((IntKind.wrap .i64 (ishr .u64 (IntKind.wrap .u64 (w64 (x1 + x3))) 1)) < (w64 ((w64 ((IntKind.wrap .i64 (ishr .u64 (IntKind.wrap .u64 (w64 (x1 + x3))) 1)) + x2)) - s41.1))))
                  (cond (decide ((w64 ((w64 ((IntKind.wrap .i64 (ishr .u64 (IntKind.wrap .u64 (w64 (x1 + x3))) 1)) + x2)) - s41.1)) < x3))
                    (Option.bind (self x0 (IntKind.wrap .i64 (ishr .u64 (IntKind.wrap .u64 (w64 (x1 + x3))) 1)) (w64 ((w64 ((IntKind.wrap .i64 (ishr .u64 (IntKind.wrap .u64 (w64 (x1 + x3))) 1)) + x2)) - s41.1)) x3 x4) fun r58 =>
                    cond (Nat.beq (List.length r58.1) (List.length x0))
                      (some (r58.1, ())) none)
                    (some (x0, ())))
                  (some (x0, ())))))) N (x1, x2, ()))))
def slices_symMergeCmpFunc_int64_impl_sortedBy_1_r (N : Nat) : Nat → List (Int) → Int → Int → Int → List (Int × Int × Int × Int) → Option (List (Int) × (Unit))
  | 0 => fun _ _ _ _ _ => none
  | F + 1 => slices_symMergeCmpFunc_int64_impl_sortedBy_1_step N (slices_symMergeCmpFunc_int64_impl_sortedBy_1_r N F)
def slices_symMergeCmpFunc_int64_impl_sortedBy_1 (N : Nat) (x0 : List Int) (x1 : Int) (x2 : Int) (x3 : Int) (x4 : List (Int × Int × Int × Int)) : Option (List (Int) × (Unit)) := slices_symMergeCmpFunc_int64_impl_sortedBy_1_r N N x0 x1 x2 x3 x4
def slices_symMergeCmpFunc_int64_impl_sortedBy_1_ef (N F : Nat) : EntM := { io := (.int .i64), ins := [(.int .i64), (.int .i64), (.int .i64), (.clo 83 (.bx (.clo 103 (.bx (.sl (.pair (.int .i64) (.pair (.int .i64) (.pair (.int .i64) (.int .i64)))))))))], outs := [], F := fun xs x => slices_symMergeCmpFunc_int64_impl_sortedBy_1_r N F xs x.1 x.2.1 x.2.2.1 x.2.2.2.1 }
def slices_symMergeCmpFunc_int64_impl_sortedBy_1_e (N : Nat) : EntM := slices_symMergeCmpFunc_int64_impl_sortedBy_1_ef N N
def slices_symMergeCmpFunc_int64_impl_sortedBy_1_T (N F : Nat) : Nat → List EntX
  | 83 => [.pl (impl_sortedBy_1_c0_e N)]
  | 130 => [.mu (slices_symMergeCmpFunc_int64_impl_sortedBy_1_ef N F)]
  | 134 => [.mu (slices_rotateCmpFunc_int64_impl_sortedBy_1_e N)]
  | _ => []
def slices_symMergeCmpFunc_int64_impl_sortedBy_1_L : Nat → List (Nat × TK)
  | 3 => [(10, .v (.int .i64)), (11, .v (.int .i64))]
  | 9 => [(0, .own (.int .i64)), (13, .v (.int .i64))]
  | 15 => [(14, .v (.int .i64)), (15, .v (.int .i64))]
  | 21 => [(0, .own (.int .i64)), (17, .v (.int .i64))]
  | 33 => [(20, .v (.int .i64)), (21, .v (.int .i64))]
  | _ => []
theorem slices_symMergeCmpFunc_int64_impl_sortedBy_1_eq (N F : Nat) : runM N tt (slices_symMergeCmpFunc_int64_impl_sortedBy_1_T N F) slices_symMergeCmpFunc_int64_impl_sortedBy_1_L (.int .i64) [(.int .i64), (.int .i64), (.int .i64), (.clo 83 (.bx (.clo 103 (.bx (.sl (.pair (.int .i64) (.pair (.int .i64) (.pair (.int .i64) (.int .i64)))))))))] [] (bodyOf Try.f130) Try.f130.ntmps [] = (fun xs x => slices_symMergeCmpFunc_int64_impl_sortedBy_1_step N (slices_symMergeCmpFunc_int64_impl_sortedBy_1_r N F) xs x.1 x.2.1 x.2.2.1 x.2.2.2.1) := by
  funext xs x
  kernel_rfl
theorem slices_symMergeCmpFunc_int64_impl_sortedBy_1_soundf (N F : Nat) : SoundM Try.prog 130 (slices_symMergeCmpFunc_int64_impl_sortedBy_1_ef N F) := by
  induction F with
  | zero =>
    intro p w v ob vals xs x z _ _ _ _ _ hF
    exact absurd (show none = some _ from hF) (by simp)
  | succ F ih =>
    have h := runM_sound (f := 130) (code := bodyOf Try.f130) (N := N) (T := (slices_symMergeCmpFunc_int64_impl_sortedBy_1_T N F)) (L := slices_symMergeCmpFunc_int64_impl_sortedBy_1_L) (io := (.int .i64)) (ins := [(.int .i64), (.int .i64), (.int .i64), (.clo 83 (.bx (.clo 103 (.bx (.sl (.pair (.int .i64) (.pair (.int .i64) (.pair (.int .i64) (.int .i64)))))))))]) (outs := []) (res := []) mixed tt_ok ?_ Try.func130 (by kernel_rfl) rfl (by kernel_rfl) (by kernel_rfl) (by decide +kernel)
    · rw [slices_symMergeCmpFunc_int64_impl_sortedBy_1_eq] at h
      exact h
    · intro f e he
      unfold slices_symMergeCmpFunc_int64_impl_sortedBy_1_T at he
      split at he
      · rw [List.mem_singleton.1 he]; exact impl_sortedBy_1_c0_sound N
      · rw [List.mem_singleton.1 he]; exact ih
      · rw [List.mem_singleton.1 he]; exact slices_rotateCmpFunc_int64_impl_sortedBy_1_sound N
      · cases he
theorem slices_symMergeCmpFunc_int64_impl_sortedBy_1_sound (N : Nat) : SoundM Try.prog 130 (slices_symMergeCmpFunc_int64_impl_sortedBy_1_e N) := slices_symMergeCmpFunc_int64_impl_sortedBy_1_soundf N N

/- slices.stableCmpFunc[int64] -/
def slices_stableCmpFunc_int64_impl_sortedBy_1 (N : Nat) (x0 : List Int) (x1 : Int) (x2 : List (Int × Int × Int × Int)) : Option (List (Int) × (Unit)) :=
  loopN (fun (s1 : List (Int) × Int × Int × Unit) next2 =>
    cond (decide (s1.2.2.1 ≤ x1))
      (Option.bind (slices_insertionSortCmpFunc_int64_impl_sortedBy_1 N s1.1 s1.2.1 s1.2.2.1 x2) fun r3 =>
      cond (Nat.beq (List.length r3.1) (List.length s1.1))
        (next2 (r3.1, s1.2.2.1, (w64 (s1.2.2.1 + 20)), ())) none)
      (Option.bind (slices_insertionSortCmpFunc_int64_impl_sortedBy_1 N s1.1 s1.2.1 x1 x2) fun r4 =>
      cond (Nat.beq (List.length r4.1) (List.length s1.1))
        (loopN (fun (s5 : List (Int) × Int × Unit) next6 =>
          cond (decide (s5.2.1 < x1))
            (loopN (fun (s7 : List (Int) × Int × Int × Unit) next8 =>
              cond (decide (s7.2.2.1 ≤ x1))
                (Option.bind (slices_symMergeCmpFunc_int64_impl_sortedBy_1 N s7.1 s7.2.1 (w64 (s7.2.1 + s5.2.1)) s7.2.2.1 x2) fun r9 =>
                cond (Nat.beq (List.length r9.1) (List.length s7.1))
                  (next8 (r9.1, s7.2.2.1, (w64 (s7.2.2.1 + (w64 (2 * s5.2.1)))), ())) none)
                (cond (decide ((w64 (s7.2.1 + s5.2.1)) < x1))
                  (Option.bind (slices_symMergeCmpFunc_int64_impl_sortedBy_1 N s7.1 s7.2.1 (w64 (s7.2.1 + s5.2.1)) x1 x2) fun r10 =>
                  cond (Nat.beq (List.length r10.1) (List.length s7.1))
                    (next6 (r10.1, (w64 (s5.2.1 * 2)), ())) none)
                  (next6 (s7.1, (w64 (s5.2.1 * 2)), ())))) N (s5.1, 0, (w64 (2 * s5.2.1)), ()))
            (some (s5.1, ()))) N (r4.1, 20, ())) none)) N (x0, 0, 20, ())
def slices_stableCmpFunc_int64_impl_sortedBy_1_e (N : Nat) : EntM := { io := (.int .i64), ins := [(.int .i64), (.clo 83 (.bx (.clo 103 (.bx (.sl (.pair (.int .i64) (.pair (.int .i64) (.pair (.int .i64) (.int .i64)))))))))], outs := [], F := fun xs x => slices_stableCmpFunc_int64_impl_sortedBy_1 N xs x.1 x.2.1 }
def slices_stableCmpFunc_int64_impl_sortedBy_1_T (N : Nat) : Nat → List EntX
  | 129 => [.mu (slices_insertionSortCmpFunc_int64_impl_sortedBy_1_e N)]
  | 130 => [.mu (slices_symMergeCmpFunc_int64_impl_sortedBy_1_e N)]
  | _ => []
def slices_stableCmpFunc_int64_impl_sortedBy_1_L : Nat → List (Nat × TK)
  | 2 => [(0, .own (.int .i64)), (7, .v (.int .i64)), (8, .v (.int .i64))]
  | 7 => [(0, .own (.int .i64)), (6, .v (.int .i64))]
  | 9 => [(0, .own (.int .i64)), (7, .v (.int .i64)), (8, .v (.int .i64))]
  | _ => []
theorem slices_stableCmpFunc_int64_impl_sortedBy_1_eq (N : Nat) : runM N tt (slices_stableCmpFunc_int64_impl_sortedBy_1_T N) slices_stableCmpFunc_int64_impl_sortedBy_1_L (.int .i64) [(.int .i64), (.clo 83 (.bx (.clo 103 (.bx (.sl (.pair (.int .i64) (.pair (.int .i64) (.pair (.int .i64) (.int .i64)))))))))] [] (bodyOf Try.f119) Try.f119.ntmps [] = (slices_stableCmpFunc_int64_impl_sortedBy_1_e N).F := by
  funext xs x
  kernel_rfl
theorem slices_stableCmpFunc_int64_impl_sortedBy_1_sound (N : Nat) : SoundM Try.prog 119 (slices_stableCmpFunc_int64_impl_sortedBy_1_e N) := by
  have h := runM_sound (f := 119) (code := bodyOf Try.f119) (N := N) (T := (slices_stableCmpFunc_int64_impl_sortedBy_1_T N)) (L := slices_stableCmpFunc_int64_impl_sortedBy_1_L) (io := (.int .i64)) (ins := [(.int .i64), (.clo 83 (.bx (.clo 103 (.bx (.sl (.pair (.int .i64) (.pair (.int .i64) (.pair (.int .i64) (.int .i64)))))))))]) (outs := []) (res := []) mixed tt_ok ?_ Try.func119 (by kernel_rfl) rfl (by kernel_rfl) (by kernel_rfl) (by decide +kernel)
  · rw [slices_stableCmpFunc_int64_impl_sortedBy_1_eq] at h
    exact h
  · intro f e he
    unfold slices_stableCmpFunc_int64_impl_sortedBy_1_T at he
    split at he
    · rw [List.mem_singleton.1 he]; exact slices_insertionSortCmpFunc_int64_impl_sortedBy_1_sound N
    · rw [List.mem_singleton.1 he]; exact slices_symMergeCmpFunc_int64_impl_sortedBy_1_sound N
    · cases he

/- slices.SortStableFunc[[]int64,int64] -/
def slices_SortStableFunc_int64_int64_impl_sortedBy_1 (N : Nat) (x0 : List Int) (x1 : List (Int × Int × Int × Int)) : Option (List (Int) × (Unit)) :=
  Option.bind (slices_stableCmpFunc_int64_impl_sortedBy_1 N x0 (List.length x0 : Int) x1) fun r1 =>
  cond (Nat.beq (List.length r1.1) (List.length x0))
    (some (r1.1, ())) none
def slices_SortStableFunc_int64_int64_impl_sortedBy_1_e (N : Nat) : EntM := { io := (.int .i64), ins := [(.clo 83 (.bx (.clo 103 (.bx (.sl (.pair (.int .i64) (.pair (.int .i64) (.pair (.int .i64) (.int .i64)))))))))], outs := [], F := fun xs x => slices_SortStableFunc_int64_int64_impl_sortedBy_1 N xs x.1 }
def slices_SortStableFunc_int64_int64_impl_sortedBy_1_T (N : Nat) : Nat → List EntX
  | 119 => [.mu (slices_stableCmpFunc_int64_impl_sortedBy_1_e N)]
  | _ => []
def slices_SortStableFunc_int64_int64_impl_sortedBy_1_L : Nat → List (Nat × TK) := fun _ => []
theorem slices_SortStableFunc_int64_int64_impl_sortedBy_1_eq (N : Nat) : runM N tt (slices_SortStableFunc_int64_int64_impl_sortedBy_1_T N) slices_SortStableFunc_int64_int64_impl_sortedBy_1_L (.int .i64) [(.clo 83 (.bx (.clo 103 (.bx (.sl (.pair (.int .i64) (.pair (.int .i64) (.pair (.int .i64) (.int .i64)))))))))] [] (bodyOf Try.f82) Try.f82.ntmps [] = (slices_SortStableFunc_int64_int64_impl_sortedBy_1_e N).F := by
  funext xs x
  kernel_rfl
theorem slices_SortStableFunc_int64_int64_impl_sortedBy_1_sound (N : Nat) : SoundM Try.prog 82 (slices_SortStableFunc_int64_int64_impl_sortedBy_1_e N) := by
  have h := runM_sound (f := 82) (code := bodyOf Try.f82) (N := N) (T := (slices_SortStableFunc_int64_int64_impl_sortedBy_1_T N)) (L := slices_SortStableFunc_int64_int64_impl_sortedBy_1_L) (io := (.int .i64)) (ins := [(.clo 83 (.bx (.clo 103 (.bx (.sl (.pair (.int .i64) (.pair (.int .i64) (.pair (.int .i64) (.int .i64)))))))))]) (outs := []) (res := []) mixed tt_ok ?_ Try.func82 (by kernel_rfl) rfl (by kernel_rfl) (by kernel_rfl) (by decide +kernel)
  · rw [slices_SortStableFunc_int64_int64_impl_sortedBy_1_eq] at h
    exact h
  · intro f e he
    unfold slices_SortStableFunc_int64_int64_impl_sortedBy_1_T at he
    split at he
    · rw [List.mem_singleton.1 he]; exact slices_stableCmpFunc_int64_impl_sortedBy_1_sound N
    · cases he

/- impl.sortedBy -/
def impl_sortedBy_impl_orderBy_1 (N : Nat) (x0 : Int) (x1 : List (Int × Int × Int × Int)) : Option (List (Int) × Unit) :=
  Option.bind (impl_counting N x0) fun r1 =>
  Option.bind (slices_SortStableFunc_int64_int64_impl_sortedBy_1 N r1.1 x1) fun r2 =>
  cond (Nat.beq (List.length r2.1) (List.length r1.1))
    (some (r2.1, ())) none
def impl_sortedBy_impl_orderBy_1_e (N : Nat) : Ent := { ins := [(.int .i64), (.clo 103 (.bx (.sl (.pair (.int .i64) (.pair (.int .i64) (.pair (.int .i64) (.int .i64)))))))], outs := [.own (.int .i64)], F := fun x => impl_sortedBy_impl_orderBy_1 N x.1 x.2.1 }
def impl_sortedBy_impl_orderBy_1_T (N : Nat) : Nat → List EntX
  | 81 => [.pl (impl_counting_e N)]
  | 82 => [.mu (slices_SortStableFunc_int64_int64_impl_sortedBy_1_e N)]
  | _ => []
def impl_sortedBy_impl_orderBy_1_L : Nat → List (Nat × TK) := fun _ => []
theorem impl_sortedBy_impl_orderBy_1_eq (N : Nat) : runF N tt (impl_sortedBy_impl_orderBy_1_T N) impl_sortedBy_impl_orderBy_1_L [(.int .i64), (.clo 103 (.bx (.sl (.pair (.int .i64) (.pair (.int .i64) (.pair (.int .i64) (.int .i64)))))))] [.own (.int .i64)] (bodyOf Try.f48) Try.f48.ntmps [4] = (impl_sortedBy_impl_orderBy_1_e N).F := by
  funext x
  kernel_rfl
theorem impl_sortedBy_impl_orderBy_1_sound (N : Nat) : SoundC Try.prog 48 (impl_sortedBy_impl_orderBy_1_e N) := by
  have h := runF_sound (f := 48) (code := bodyOf Try.f48) (N := N) (T := (impl_sortedBy_impl_orderBy_1_T N)) (L := impl_sortedBy_impl_orderBy_1_L) (ins := [(.int .i64), (.clo 103 (.bx (.sl (.pair (.int .i64) (.pair (.int .i64) (.pair (.int .i64) (.int .i64)))))))]) (outs := [.own (.int .i64)]) (res := [4]) mixed tt_ok ?_ Try.func48 (by kernel_rfl) rfl (by kernel_rfl) (by kernel_rfl) (by decide +kernel)
  · rw [impl_sortedBy_impl_orderBy_1_eq] at h
    exact h
  · intro f e he
    unfold impl_sortedBy_impl_orderBy_1_T at he
    split at he
    · rw [List.mem_singleton.1 he]; exact impl_counting_sound N
    · rw [List.mem_singleton.1 he]; exact slices_SortStableFunc_int64_int64_impl_sortedBy_1_sound N
    · cases he

/- impl.orderBy$2 -/
def impl_orderBy_2_c0 (_N : Nat) (x0 : Int) (x1 : List (Int × Int × Int × Int)) : Option (Int × Unit) :=
  Option.bind (idx x1 x0) fun v1 =>
  some (v1.2.2.1, ())
def impl_orderBy_2_c0_e (N : Nat) : Ent := { ins := [(.int .i64), (.bx (.sl (.pair (.int .i64) (.pair (.int .i64) (.pair (.int .i64) (.int .i64))))))], outs := [.val (.int .i64)], F := fun x => impl_orderBy_2_c0 N x.1 x.2.1 }
def impl_orderBy_2_c0_T (_ : Nat) : Nat → List EntX := fun _ => []
def impl_orderBy_2_c0_L : Nat → List (Nat × TK) := fun _ => []
theorem impl_orderBy_2_c0_eq (N : Nat) : runF N tt (impl_orderBy_2_c0_T N) impl_orderBy_2_c0_L [(.int .i64), (.bx (.sl (.pair (.int .i64) (.pair (.int .i64) (.pair (.int .i64) (.int .i64))))))] [.val (.int .i64)] (bodyOf Try.f104) Try.f104.ntmps [3] = (impl_orderBy_2_c0_e N).F := by
  funext x
  kernel_rfl
theorem impl_orderBy_2_c0_sound (N : Nat) : SoundC Try.prog 104 (impl_orderBy_2_c0_e N) := by
  have h := runF_sound (f := 104) (code := bodyOf Try.f104) (N := N) (T := (impl_orderBy_2_c0_T N)) (L := impl_orderBy_2_c0_L) (ins := [(.int .i64), (.bx (.sl (.pair (.int .i64) (.pair (.int .i64) (.pair (.int .i64) (.int .i64))))))]) (outs := [.val (.int .i64)]) (res := [3]) mixed tt_ok ?_ Try.func104 (by kernel_rfl) rfl (by kernel_rfl) (by kernel_rfl) (by decide +kernel)
  · rw [impl_orderBy_2_c0_eq] at h
    exact h
  · intro f e he
    cases he

/- impl.sortedBy$1 -/
def impl_sortedBy_1_c0_1 (N : Nat) (x0 : Int) (x1 : Int) (x2 : List (Int × Int × Int × Int)) : Option (Int × Unit) :=
  Option.bind (impl_orderBy_2_c0 N x0 x2) fun r1 =>
  Option.bind (impl_orderBy_2_c0 N x1 x2) fun r2 =>
  Option.bind (cmp_Compare_int64 N r1.1 r2.1) fun r3 =>
  some (r3.1, ())
def impl_sortedBy_1_c0_1_e (N : Nat) : Ent := { ins := [(.int .i64), (.int .i64), (.bx (.clo 104 (.bx (.sl (.pair (.int .i64) (.pair (.int .i64) (.pair (.int .i64) (.int .i64))))))))], outs := [.val (.int .i64)], F := fun x => impl_sortedBy_1_c0_1 N x.1 x.2.1 x.2.2.1 }
def impl_sortedBy_1_c0_1_T (N : Nat) : Nat → List EntX
  | 84 => [.pl (cmp_Compare_int64_e N)]
  | 104 => [.pl (impl_orderBy_2_c0_e N)]
  | _ => []
def impl_sortedBy_1_c0_1_L : Nat → List (Nat × TK) := fun _ => []
theorem impl_sortedBy_1_c0_1_eq (N : Nat) : runF N tt (impl_sortedBy_1_c0_1_T N) impl_sortedBy_1_c0_1_L [(.int .i64), (.int .i64), (.bx (.clo 104 (.bx (.sl (.pair (.int .i64) (.pair (.int .i64) (.pair (.int .i64) (.int .i64))))))))] [.val (.int .i64)] (bodyOf Try.f83) Try.f83.ntmps [5] = (impl_sortedBy_1_c0_1_e N).F := by
  funext x
  kernel_rfl
theorem impl_sortedBy_1_c0_1_sound (N : Nat) : SoundC Try.prog 83 (impl_sortedBy_1_c0_1_e N) := by
  have h := runF_sound (f := 83) (code := bodyOf Try.f83) (N := N) (T := (impl_sortedBy_1_c0_1_T N)) (L := impl_sortedBy_1_c0_1_L) (ins := [(.int .i64), (.int .i64), (.bx (.clo 104 (.bx (.sl (.pair (.int .i64) (.pair (.int .i64) (.pair (.int .i64) (.int .i64))))))))]) (outs := [.val (.int .i64)]) (res := [5]) mixed tt_ok ?_ Try.func83 (by kernel_rfl) rfl (by kernel_rfl) (by kernel_rfl) (by decide +kernel)
  · rw [impl_sortedBy_1_c0_1_eq] at h
    exact h
  · intro f e he
    unfold impl_sortedBy_1_c0_1_T at he
    split at he
    · rw [List.mem_singleton.1 he]; exact cmp_Compare_int64_sound N
    · rw [List.mem_singleton.1 he]; exact impl_orderBy_2_c0_sound N
    · cases he

/- slices.insertionSortCmpFunc[int64] -/
def slices_insertionSortCmpFunc_int64_impl_sortedBy_1_1 (N : Nat) (x0 : List Int) (x1 : Int) (x2 : Int) (x3 : List (Int × Int × Int × Int)) : Option (List (Int) × (Unit)) :=
  loopN (fun (s1 : List (Int) × Int × Unit) next2 =>
    cond (decide (s1.2.1 < x2))
      (loopN (fun (s3 : List (Int) × Int × Unit) next4 =>
        cond (decide (s3.2.1 > x1))
          (cond (inB s3.2.1 (List.length s3.1))
            (Option.bind (s3.1[(Int.toNat s3.2.1)]?) fun v5 =>
            cond (inB (w64 (s3.2.1 - 1)) (List.length s3.1))
              (Option.bind (s3.1[(Int.toNat (w64 (s3.2.1 - 1)))]?) fun v6 =>
              Option.bind (impl_sortedBy_1_c0_1 N v5 v6 x3) fun r7 =>
              cond (decide (r7.1 < 0))
                (cond (inB (w64 (s3.2.1 - 1)) (List.length s3.1))
                  (Option.bind (s3.1[(Int.toNat (w64 (s3.2.1 - 1)))]?) fun v8 =>
                  cond (inB s3.2.1 (List.length s3.1))
                    (Option.bind (s3.1[(Int.toNat s3.2.1)]?) fun v9 =>
                    cond (inB s3.2.1 (List.length s3.1))
                      (let xs10 := (List.set s3.1 (Int.toNat s3.2.1) v8)
                      cond (inB (w64 (s3.2.1 - 1)) (List.length xs10))
                        (let xs11 := (List.set xs10 (Int.toNat (w64 (s3.2.1 - 1))) v9)
                        next4 (xs11, (w64 (s3.2.1 - 1)), ())) none) none) none) none)
                (next2 (s3.1, (w64 (s1.2.1 + 1)), ()))) none) none)
          (next2 (s3.1, (w64 (s1.2.1 + 1)), ()))) N (s1.1, s1.2.1, ()))
      (some (s1.1, ()))) N (x0, (w64 (x1 + 1)), ())
def slices_insertionSortCmpFunc_int64_impl_sortedBy_1_1_e (N : Nat) : EntM := { io := (.int .i64), ins := [(.int .i64), (.int .i64), (.clo 83 (.bx (.clo 104 (.bx (.sl (.pair (.int .i64) (.pair (.int .i64) (.pair (.int .i64) (.int .i64)))))))))], outs := [], F := fun xs x => slices_insertionSortCmpFunc_int64_impl_sortedBy_1_1 N xs x.1 x.2.1 x.2.2.1 }
def slices_insertionSortCmpFunc_int64_impl_sortedBy_1_1_T (N : Nat) : Nat → List EntX
  | 83 => [.pl (impl_sortedBy_1_c0_1_e N)]
  | _ => []
def slices_insertionSortCmpFunc_int64_impl_sortedBy_1_1_L : Nat → List (Nat × TK)
  | 1 => [(0, .own (.int .i64)), (8, .v (.int .i64))]
  | 4 => [(0, .own (.int .i64)), (9, .v (.int .i64))]
  | _ => []
theorem slices_insertionSortCmpFunc_int64_impl_sortedBy_1_1_eq (N : Nat) : runM N tt (slices_insertionSortCmpFunc_int64_impl_sortedBy_1_1_T N) slices_insertionSortCmpFunc_int64_impl_sortedBy_1_1_L (.int .i64) [(.int .i64), (.int .i64), (.clo 83 (.bx (.clo 104 (.bx (.sl (.pair (.int .i64) (.pair (.int .i64) (.pair (.int .i64) (.int .i64)))))))))] [] (bodyOf Try.f129) Try.f129.ntmps [] = (slices_insertionSortCmpFunc_int64_impl_sortedBy_1_1_e N).F := by
  funext xs x
  kernel_rfl
theorem slices_insertionSortCmpFunc_int64_impl_sortedBy_1_1_sound (N : Nat) : SoundM Try.prog 129 (slices_insertionSortCmpFunc_int64_impl_sortedBy_1_1_e N) := by
  have h := runM_sound (f := 129) (code := bodyOf Try.f129) (N := N) (T := (slices_insertionSortCmpFunc_int64_impl_sortedBy_1_1_T N)) (L := slices_insertionSortCmpFunc_int64_impl_sortedBy_1_1_L) (io := (.int .i64)) (ins := [(.int .i64), (.int .i64), (.clo 83 (.bx (.clo 104 (.bx (.sl (.pair (.int .i64) (.pair (.int .i64) (.pair (.int .i64) (.int .i64)))))))))]) (outs := []) (res := []) mixed tt_ok ?_ Try.func129 (by kernel_rfl) rfl (by kernel_rfl) (by kernel_rfl) (by decide +kernel)
  · rw [slices_insertionSortCmpFunc_int64_impl_sortedBy_1_1_eq] at h
    exact h
  · intro f e he
    unfold slices_insertionSortCmpFunc_int64_impl_sortedBy_1_1_T at he
    split at he
    · rw [List.mem_singleton.1 he]; exact impl_sortedBy_1_c0_1_sound N
    · cases he

/- slices.swapRangeCmpFunc[int64] -/
def slices_swapRangeCmpFunc_int64_impl_sortedBy_1_1 (N : Nat) (x0 : List Int) (x1 : Int) (x2 : Int) (x3 : Int) (x4 : List (Int × Int × Int × Int)) : Option (List (Int) × (Unit)) :=
  loopN (fun (s1 : List (Int) × Int × Unit) next2 =>
    cond (decide (s1.2.1 < x3))
      (cond (inB (w64 (x2 + s1.2.1)) (List.length s1.1))
        (Option.bind (s1.1[(Int.toNat (w64 (x2 + s1.2.1)))]?) fun v3 =>
        cond (inB (w64 (x1 + s1.2.1)) (List.length s1.1))
          (Option.bind (s1.1[(Int.toNat (w64 (x1 + s1.2.1)))]?) fun v4 =>
          cond (inB (w64 (x1 + s1.2.1)) (List.length s1.1))
            (let xs5 := (List.set s1.1 (Int.toNat (w64 (x1 + s1.2.1))) v3)
            cond (inB (w64 (x2 + s1.2.1)) (List.length xs5))
              (let xs6 := (List.set xs5 (Int.toNat (w64 (x2 + s1.2.1))) v4)
              next2 (xs6, (w64 (s1.2.1 + 1)), ())) none) none) none) none)
      (some (s1.1, ()))) N (x0, 0, ())
def slices_swapRangeCmpFunc_int64_impl_sortedBy_1_1_e (N : Nat) : EntM := { io := (.int .i64), ins := [(.int .i64), (.int .i64), (.int .i64), (.clo 83 (.bx (.clo 104 (.bx (.sl (.pair (.int .i64) (.pair (.int .i64) (.pair (.int .i64) (.int .i64)))))))))], outs := [], F := fun xs x => slices_swapRangeCmpFunc_int64_impl_sortedBy_1_1 N xs x.1 x.2.1 x.2.2.1 x.2.2.2.1 }
def slices_swapRangeCmpFunc_int64_impl_sortedBy_1_1_T (_ : Nat) : Nat → List EntX := fun _ => []
def slices_swapRangeCmpFunc_int64_impl_sortedBy_1_1_L : Nat → List (Nat × TK)
  | 1 => [(0, .own (.int .i64)), (10, .v (.int .i64))]
  | _ => []
theorem slices_swapRangeCmpFunc_int64_impl_sortedBy_1_1_eq (N : Nat) : runM N tt (slices_swapRangeCmpFunc_int64_impl_sortedBy_1_1_T N) slices_swapRangeCmpFunc_int64_impl_sortedBy_1_1_L (.int .i64) [(.int .i64), (.int .i64), (.int .i64), (.clo 83 (.bx (.clo 104 (.bx (.sl (.pair (.int .i64) (.pair (.int .i64) (.pair (.int .i64) (.int .i64)))))))))] [] (bodyOf Try.f136) Try.f136.ntmps [] = (slices_swapRangeCmpFunc_int64_impl_sortedBy_1_1_e N).F := by
  funext xs x
  kernel_rfl
theorem slices_swapRangeCmpFunc_int64_impl_sortedBy_1_1_sound (N : Nat) : SoundM Try.prog 136 (slices_swapRangeCmpFunc_int64_impl_sortedBy_1_1_e N) := by
  have h := runM_sound (f := 136) (code := bodyOf Try.f136) (N := N) (T := (slices_swapRangeCmpFunc_int64_impl_sortedBy_1_1_T N)) (L := slices_swapRangeCmpFunc_int64_impl_sortedBy_1_1_L) (io := (.int .i64)) (ins := [(.int .i64), (.int .i64), (.int .i64), (.clo 83 (.bx (.clo 104 (.bx (.sl (.pair (.int .i64) (.pair (.int .i64) (.pair (.int .i64) (.int .i64)))))))))]) (outs := []) (res := []) mixed tt_ok ?_ Try.func136 (by kernel_rfl) rfl (by kernel_rfl) (by kernel_rfl) (by decide +kernel)
  · rw [slices_swapRangeCmpFunc_int64_impl_sortedBy_1_1_eq] at h
    exact h
  · intro f e he
    cases he

/- slices.rotateCmpFunc[int64] -/
def slices_rotateCmpFunc_int64_impl_sortedBy_1_1 (N : Nat) (x0 : List Int) (x1 : Int) (x2 : Int) (x3 : Int) (x4 : List (Int × Int × Int × Int)) : Option (List (Int) × (Unit)) :=
  loopN (fun (s1 : List (Int) × Int × Int × Unit) next2 =>
    cond (s1.2.1 != s1.2.2.1)
      (cond (decide (s1.2.1 > s1.2.2.1))
        (Option.bind (slices_swapRangeCmpFunc_int64_impl_sortedBy_1_1 N s1.1 (w64 (x2 - s1.2.1)) x2 s1.2.2.1 x4) fun r3 =>
        cond (Nat.beq (List.length r3.1) (List.length s1.1))
          (next2 (r3.1, (w64 (s1.2.1 - s1.2.2.1)), s1.2.2.1, ())) none)
        (Option.bind (slices_swapRangeCmpFunc_int64_impl_sortedBy_1_1 N s1.1 (w64 (x2 - s1.2.1)) (w64 ((w64 (x2 + s1.2.2.1)) - s1.2.1)) s1.2.1 x4) fun r4 =>
        cond (Nat.beq (List.length r4.1) (List.length s1.1))
          (next2 (r4.1, s1.2.1, (w64 (s1.2.2.1 - s1.2.1)), ())) none))
      (Option.bind (slices_swapRangeCmpFunc_int64_impl_sortedBy_1_1 N s1.1 (w64 (x2 - s1.2.1)) x2 s1.2.1 x4) fun r5 =>
      cond (Nat.beq (List.length r5.1) (List.length s1.1))
        (some (r5.1, ())) none)) N (x0, (w64 (x2 - x1)), (w64 (x3 - x2)), ())
def slices_rotateCmpFunc_int64_impl_sortedBy_1_1_e (N : Nat) : EntM := { io := (.int .i64), ins := [(.int .i64), (.int .i64), (.int .i64), (.clo 83 (.bx (.clo 104 (.bx (.sl (.pair (.int .i64) (.pair (.int .i64) (.pair (.int .i64) (.int .i64)))))))))], outs := [], F := fun xs x => slices_rotateCmpFunc_int64_impl_sortedBy_1_1 N xs x.1 x.2.1 x.2.2.1 x.2.2.2.1 }
def slices_rotateCmpFunc_int64_impl_sortedBy_1_1_T (N : Nat) : Nat → List EntX
  | 136 => [.mu (slices_swapRangeCmpFunc_int64_impl_sortedBy_1_1_e N)]
  | _ => []
def slices_rotateCmpFunc_int64_impl_sortedBy_1_1_L : Nat → List (Nat × TK)
  | 2 => [(0, .own (.int .i64)), (10, .v (.int .i64)), (11, .v (.int .i64))]
  | _ => []
theorem slices_rotateCmpFunc_int64_impl_sortedBy_1_1_eq (N : Nat) : runM N tt (slices_rotateCmpFunc_int64_impl_sortedBy_1_1_T N) slices_rotateCmpFunc_int64_impl_sortedBy_1_1_L (.int .i64) [(.int .i64), (.int .i64), (.int .i64), (.clo 83 (.bx (.clo 104 (.bx (.sl (.pair (.int .i64) (.pair (.int .i64) (.pair (.int .i64) (.int .i64)))))))))] [] (bodyOf Try.f134) Try.f134.ntmps [] = (slices_rotateCmpFunc_int64_impl_sortedBy_1_1_e N).F := by
  funext xs x
  kernel_rfl
theorem slices_rotateCmpFunc_int64_impl_sortedBy_1_1_sound (N : Nat) : SoundM Try.prog 134 (slices_rotateCmpFunc_int64_impl_sortedBy_1_1_e N) := by
  have h := runM_sound (f := 134) (code := bodyOf Try.f134) (N := N) (T := (slices_rotateCmpFunc_int64_impl_sortedBy_1_1_T N)) (L := slices_rotateCmpFunc_int64_impl_sortedBy_1_1_L) (io := (.int .i64)) (ins := [(.int .i64), (.int .i64), (.int .i64), (.clo 83 (.bx (.clo 104 (.bx (.sl (.pair (.int .i64) (.pair (.int .i64) (.pair (.int .i64) (.int .i64)))))))))]) (outs := []) (res := []) mixed tt_ok ?_ Try.func134 (by kernel_rfl) rfl (by kernel_rfl) (by kernel_rfl) (by decide +kernel)
  · rw [slices_rotateCmpFunc_int64_impl_sortedBy_1_1_eq] at h
    exact h
  · intro f e he
    unfold slices_rotateCmpFunc_int64_impl_sortedBy_1_1_T at he
    split at he
    · rw [List.mem_singleton.1 he]; exact slices_swapRangeCmpFunc_int64_impl_sortedBy_1_1_sound N
    · cases he

/- slices.symMergeCmpFunc[int64] -/
def slices_symMergeCmpFunc_int64_impl_sortedBy_1_1_step (N : Nat) (self : List (Int) → Int → Int → Int → List (Int × Int × Int × Int) → Option (List (Int) × (Unit))) (x0 : List Int) (x1 : Int) (x2 : Int) (x3 : Int) (x4 : List (Int × Int × Int × Int)) : Option (List (Int) × (Unit)) :=
  cond ((w64 (x2 - x1)) == 1)
    (loopN (fun (s1 : Int × Int × Unit) next2 =>
      cond (decide (s1.1 < s1.2.1))
        (cond (inB (IntKind.wrap .i64 (ishr .u64 (IntKind.wrap .u64 (w64 (s1.1 + s1.2.1))) 1)) (List.length x0))
          (Option.bind (x0[(Int.toNat (IntKind.wrap .i64 (ishr .u64 (IntKind.wrap .u64 (w64 (s1.1 + s1.2.1))) 1)))]?) fun v3 =>
          cond (inB x1 (List.length x0))
            (Option.bind (x0[(Int.toNat x1)]?) fun v4 =>
            Option.bind (impl_sortedBy_1_c0_1 N v3 v4 x4) fun r5 =>
            cond (decide (r5.1 < 0))
              (next2 ((w64 ((IntKind.wrap .i64 (ishr .u64 (IntKind.wrap .u64 (w64 (s1.1 + s1.2.1))) 1)) + 1)), s1.2.1, ()))
              (next2 (s1.1, (IntKind.wrap .i64 (ishr .u64 (IntKind.wrap .u64 (w64 (s1.1 + s1.2.1))) 1)), ()))) none) none)
        (loopN (fun (s6 : List (Int) × Int × Unit) next7 =>
          cond (decide (s6.2.1 < (w64 (s1.1 - 1))))
            (cond (inB (w64 (s6.2.1 + 1)) (List.length s6.1))
              (Option.bind (s6.1[(Int.toNat (w64 (s6.2.1 + 1)))]?) fun v8 =>
              cond (inB s6.2.1 (List.length s6.1))
                (Option.bind (s6.1[(Int.toNat s6.2.1)]?) fun v9 =>
                cond (inB s6.2.1 (List.length s6.1))
                  (let xs10 := (List.set s6.1 (Int.toNat s6.2.1) v8)
                  cond (inB (w64 (s6.2.1 + 1)) (List.length xs10))
                    (let xs11 := (List.set xs10 (Int.toNat (w64 (s6.2.1 + 1))) v9)
                    next7 (xs11, (w64 (s6.2.1 + 1)), ())) none) none) none) none)
            (some (s6.1, ()))) N (x0, x1, ()))) N (x2, x3, ()))
    (cond ((w64 (x3 - x2)) == 1)
      (loopN (fun (s12 : Int × Int × Unit) next13 =>
        cond (decide (s12.1 < s12.2.1))
          (cond (inB x2 (List.length x0))
            (Option.bind (x0[(Int.toNat x2)]?) fun v14 =>
            cond (inB (IntKind.wrap .i64 (ishr .u64 (IntKind.wrap .u64 (w64 (s12.1 + s12.2.1))) 1)) (List.length x0))
              (Option.bind (x0[(Int.toNat (IntKind.wrap .i64 (ishr .u64 (IntKind.wrap .u64 (w64 (s12.1 + s12.2.1))) 1)))]?) fun v15 =>
              Option.bind (impl_sortedBy_1_c0_1 N v14 v15 x4) fun r16 =>
              cond (!(decide (r16.1 < 0)))
                (next13 ((w64 ((IntKind.wrap .i64 (ishr .u64 (IntKind.wrap .u64 (w64 (s12.1 + s12.2.1))) 1)) + 1)), s12.2.1, ()))
                (next13 (s12.1, (IntKind.wrap .i64 (ishr .u64 (IntKind.wrap .u64 (w64 (s12.1 + s12.2.1))) 1)), ()))) none) none)
          (loopN (fun (s17 : List (Int) × Int × Unit) next18 =>
            cond (decide (s17.2.1 > s12.1))
              (cond (inB (w64 (s17.2.1 - 1)) (List.length s17.1))
                (Option.bind (s17.1[(Int.toNat (w64 (s17.2.1 - 1)))]?) fun v19 =>
                cond (inB s17.2.1 (List.length s17.1))
                  (Option.bind (s17.1[(Int.toNat s17.2.1)]?) fun v20 =>
                  cond (inB s17.2.1 (List.length s17.1))
                    (let xs21 := (List.set s17.1 (Int.toNat s17.2.1) v19)
                    cond (inB (w64 (s17.2.1 - 1)) (List.length xs21))
                      (let xs22 := (List.set xs21 (Int.toNat (w64 (s17.2.1 - 1))) v20)
                      next18 (xs22, (w64 (s17.2.1 - 1)), ())) none) none) none) none)
              (some (s17.1, ()))) N (x0, x2, ()))) N (x1, x2, ()))
      (cond (decide (x2 > (IntKind.wrap .i64 (ishr .u64 (IntKind.wrap .u64 (w64 (x1 + x3))) 1))))
        (loopN (fun (s23 : Int × Int × Unit) next24 =>
          cond (decide (s23.1 < s23.2.1))
            (cond (inB (w64 ((w64 ((w64 ((IntKind.wrap .i64 (ishr .u64 (IntKind.wrap .u64 (w64 (x1 + x3))) 1)) + x2)) - 1)) - (IntKind.wrap .i64 (ishr .u64 (IntKind.wrap .u64 (w64 (s23.1 + s23.2.1))) 1)))) (List.length x0))
              (Option.bind (x0[(Int.toNat (w64 ((w64 ((w64 ((IntKind.wrap .i64 (ishr .u64 (IntKind.wrap .u64 (w64 (x1 + x3))) 1)) + x2)) - 1)) - (IntKind.wrap .i64 (ishr .u64 (IntKind.wrap .u64 (w64 (s23.1 + s23.2.1))) 1)))))]?) fun v25 =>
              cond (inB (IntKind.wrap .i64 (ishr .u64 (IntKind.wrap .u64 (w64 (s23.1 + s23.2.1))) 1)) (List.length x0))
                (Option.bind (x0[(Int.toNat (IntKind.wrap .i64 (ishr .u64 (IntKind.wrap .u64 (w64 (s23.1 + s23.2.1))) 1)))]?) fun v26 =>
                Option.bind (impl_sortedBy_1_c0_1 N v25 v26 x4) fun r27 =>
                cond (!(decide (r27.1 < 0)))
                  (next24 ((w64 ((IntKind.wrap .i64 (ishr .u64 (IntKind.wrap .u64 (w64 (s23.1 + s23.2.1))) 1)) + 1)), s23.2.1, ()))
                  (next24 (s23.1, (IntKind.wrap .i64 (ishr .u64 (IntKind.wrap .u64 (w64 (s23.1 + s23.2.1))) 1)), ()))) none) none)
            (cond (decide (s23.1 < x2))
              (cond (decide (x2 < (w64 ((w64 ((IntKind.wrap .i64 (ishr .u64 (IntKind.wrap .u64 (w64 (x1 + x3))) 1)) + x2)) - s23.1))))
                (Option.bind (slices_rotateCmpFunc_int64_impl_sortedBy_1_1 N x0 s23.1 x2 (w64 ((w64 ((IntKind.wrap .i64 (ishr .u64 (IntKind.wrap .u64 (w64 (x1 + x3))) 1)) + x2)) - s23.1)) x4) fun r28 =>
                cond (Nat.beq (List.length r28.1) (List.length x0))
                  (cond (decide (x1 < s23.1))
                    (cond (decide (s23.1 < (IntKind.wrap .i64 (ishr .u64 (IntKind.wrap .u64 (w64 (x1 + x3))) 1))))
                      (Option.bind (self r28.1 x1 s23.1 (IntKind.wrap .i64 (ishr .u64 (IntKind.wrap .u64 (w64 (x1 + x3))) 1)) x4) fun r29 =>
                      cond (Nat.beq (List.length r29.1) (List.length r28.1))
                        (cond (decide ((IntKind.wrap .i64 (ishr .u64 (IntKind.wrap .u64 (w64 (x1 + x3))) 1)) < (w64 ((w64 ((IntKind.wrap .i64 (ishr .u64 (IntKind.wrap .u64 (w64 (x1 + x3))) 1)) + x2)) - s23.1))))
                          (cond (decide ((w64 ((w64 ((IntKind.wrap .i64 (ishr .u64 (IntKind.wrap .u64 (w64 (x1 + x3))) 1)) + x2)) - s23.1)) < x3))
                            (Option.bind (self r29.1 (IntKind.wrap .i64 (ishr .u64 (IntKind.wrap .u64 (w64 (x1 + x3))) 1)) (w64 ((w64 ((IntKind.wrap .i64 (ishr .u64 (IntKind.wrap .u64 (w64 (x1 + x3))) 1)) + x2)) - s23.1)) x3 x4) fun r30 =>
                            cond (Nat.beq (List.length r30.1) (List.length r29.1))
                              (some (r30.1, ())) none)
                            (some (r29.1, ())))
                          (some (r29.1, ()))) none)
                      (cond (decide ((IntKind.wrap .i64 (ishr .u64 (IntKind.wrap .u64 (w64 (x1 + x3))) 1)) < (w64 ((w64 ((IntKind.wrap .i64 (ishr .u64 (IntKind.wrap .u64 (w64 (x1 + x3))) 1)) + x2)) - s23.1))))
                        (cond (decide ((w64 ((w64 ((IntKind.wrap .i64 (ishr .u64 (IntKind.wrap .u64 (w64 (x1 + x3))) 1)) + x2)) - s23.1)) < x3))
                          (Option.bind (self r28.1 (IntKind.wrap .i64 (ishr .u64 (IntKind.wrap .u64 (w64 (x1 + x3))) 1)) (w64 ((w64 ((IntKind.wrap .i64 (ishr .u64 (IntKind.wrap .u64 (w64 (x1 + x3))) 1)) + x2)) - s23.1)) x3 x4) fun r31 =>
                          cond (Nat.beq (List.length r31.1) (List.length r28.1))
                            (some (r31.1, ())) none)
                          (some (r28.1, ())))
                        (some (r28.1, ()))))
                    (cond (decide ((IntKind.wrap .i64 (ishr .u64 (IntKind.wrap .u64 (w64 (x1 + x3))) 1)) < (w64 ((w64 ((IntKind.wrap .i64 (ishr .u64 (IntKind.wrap .u64 (w64 (x1 + x3))) 1)) + x2)) - s23.1))))
                      (cond (decide ((w64 ((w64 ((IntKind.wrap .i64 (ishr .u64 (IntKind.wrap .u64 (w64 (x1 + x3))) 1)) + x2)) - s23.1)) < x3))
                        (Option.bind (self r28.1 (IntKind.wrap .i64 (ishr .u64 (IntKind.wrap .u64 (w64 (x1 + x3))) 1)) (w64 ((w64 ((IntKind.wrap .i64 (ishr .u64 (IntKind.wrap .u64 (w64 (x1 + x3))) 1)) + x2)) - s23.1)) x3 x4) fun r32 =>
                        cond (Nat.beq (List.length r32.1) (List.length r28.1))
                          (some (r32.1, ())) none)
                        (some (r28.1, ())))
                      (some (r28.1, ())))) none)
                (cond (decide (x1 < s23.1))
                  (cond (decide (s23.1 < (IntKind.wrap .i64 (ishr .u64 (IntKind.wrap .u64 (w64 (x1 + x3))) 1))))
                    (Option.bind (self x0 x1 s23.1 (IntKind.wrap .i64 (ishr .u64 (IntKind.wrap .u64 (w64 (x1 + x3))) 1)) x4) fun r33 =>
                    cond (Nat.beq (List.length r33.1) (List.length x0))
                      (cond (decide ((IntKind.wrap .i64 (ishr .u64 (IntKind.wrap .u64 (w64 (x1 + x3))) 1)) < (w64 ((w64 ((IntKind.wrap .i64 (ishr .u64 (IntKind.wrap .u64 (w64 (x1 + x3))) 1)) + x2)) - s23.1))))
                        (cond (decide ((w64 ((w64 ((IntKind.wrap .i64 (ishr .u64 (IntKind.wrap .u64 (w64 (x1 + x3))) 1)) + x2)) - s23.1)) < x3))
                          (Option.bind (self r33.1 (IntKind.wrap .i64 (ishr .u64 (IntKind.wrap .u64 (w64 (x1 + x3))) 1)) (w64 ((w64 ((IntKind.wrap .i64 (ishr .u64 (IntKind.wrap .u64 (w64 (x1 + x3))) 1)) + x2)) - s23.1)) x3 x4) fun r34 =>
                          cond (Nat.beq (List.length r34.1) (List.length r33.1))
                            (some (r34.1, ())) none)
                          (some (r33.1, ())))
                        (some (r33.1, ()))) none)
                    (cond (decide ((IntKind.wrap .i64 (ishr .u64 (IntKind.wrap .u64 (w64 (x1 + x3))) 1)) < (w64 ((w64 ((IntKind.wrap .i64 (ishr .u64 (IntKind.wrap .u64 (w64 (x1 + x3))) 1)) + x2)) - s23.1))))
                      (cond (decide ((w64 ((w64 ((IntKind.wrap .i64 (ishr .u64 (IntKind.wrap .u64 (w64 (x1 + x3))) 1)) + x2)) - s23.1)) < x3))
                        (Option.bind (self x0 (IntKind.wrap .i64 (ishr .u64 (IntKind.wrap .u64 (w64 (x1 + x3))) 1)) (w64 ((w64 ((IntKind.wrap .i64 (ishr .u64 (IntKind.wrap .u64 (w64 (x1 + x3))) 1)) + x2)) - s23.1)) x3 x4) fun r35 =>
                        cond (Nat.beq (List.length r35.1) (List.length x0))
                          (some (r35.1, ())) none)
                        (some (x0, ())))
                      (some (x0, ()))))
                  (cond (decide ((IntKind.wrap .i64 (ishr .u64 (IntKind.wrap .u64 (w64 (x1 + x3))) 1)) < (w64 ((w64 ((IntKind.wrap .i64 (ishr .u64 (IntKind.wrap .u64 (w64 (x1 + x3))) 1)) + x2)) - s23.1))))
                    (cond (decide ((w64 ((w64 ((IntKind.wrap .i64 (ishr .u64 (IntKind.wrap .u64 (w64 (x1 + x3))) 1)) + x2)) - s23.1)) < x3))
                      (Option.bind (self x0 (IntKind.wrap .i64 (ishr .u64 (IntKind.wrap .u64 (w64 (x1 + x3))) 1)) (w64 ((w64 ((IntKind.wrap .i64 (ishr .u64 (IntKind.wrap .u64 (w64 (x1 + x3))) 1)) + x2)) - s23.1)) x3 x4) fun r36 =>
                      cond (Nat.beq (List.length r36.1) (List.length x0))
                        (some (r36.1, ())) none)
                      (some (x0, ())))
                    (some (x0, ())))))
              (cond (decide (x1 < s23.1))
                (cond (decide (s23.1 < (IntKind.wrap .i64 (ishr .u64 (IntKind.wrap .u64 (w64 (x1 + x3))) 1))))
                  (Option.bind (self x0 x1 s23.1 (IntKind.wrap .i64 (ishr .u64 (IntKind.wrap .u64 (w64 (x1 + x3))) 1)) x4) fun r37 =>
                  cond (Nat.beq (List.length r37.1) (List.length x0))
                    (cond (decide ((IntKind.wrap .i64 (ishr .u64 (IntKind.wrap .u64 (w64 (x1 + x3))) 1)) < (w64 ((w64 ((IntKind.wrap .i64 (ishr .u64 (IntKind.wrap .u64 (w64 (x1 + x3))) 1)) + x2)) - s23.1))))
                      (cond (decide ((w64 ((w64 ((IntKind.wrap .i64 (ishr .u64 (IntKind.wrap .u64 (w64 (x1 + x3))) 1)) + x2)) - s23.1)) < x3))
                        (Option.bind (self r37.1 (IntKind.wrap .i64 (ishr .u64 (IntKind.wrap .u64 (w64 (x1 + x3))) 1)) (w64 ((w64 ((IntKind.wrap .i64 (ishr .u64 (IntKind.wrap .u64 (w64 (x1 + x3))) 1)) + x2)) - s23.1)) x3 x4) fun r38 =>
                        cond (Nat.beq (List.length r38.1) (List.length r37.1))
                          (some (r38.1, ())) none)
                        (some (r37.1, ())))
                      (some (r37.1, ()))) none)
                  (cond (decide ((IntKind.wrap .i64 (ishr .u64 (IntKind.wrap .u64 (w64 (x1 + x3))) 1)) < (w64 ((w64 ((IntKind.wrap .i64 (ishr .u64 (IntKind.wrap .u64 (w64 (x1 + x3))) 1)) + x2)) - s23.1))))
                    (cond (decide ((w64 ((w64 ((IntKind.wrap .i64 (ishr .u64 (IntKind.wrap .u64 (w64 (x1 + x3))) 1)) + x2)) - s23.1)) < x3))
                      (Option.bind (self x0 (IntKind.wrap .i64 (ishr .u64 (IntKind.wrap .u64 (w64 (x1 + x3))) 1)) (w64 ((w64 ((IntKind.wrap .i64 (ishr .u64 (IntKind.wrap .u64 (w64 (x1 + x3))) 1)) + x2)) - s23.1)) x3 x4) fun r39 =>
                      cond (Nat.beq (List.length r39.1) (List.length x0))
                        (some (r39.1, ())) none)
                      (some (x0, ())))
                    (some (x0, ()))))
                (cond (decide ((IntKind.wrap .i64 (ishr .u64 (IntKind.wrap .u64 (w64 (x1 + x3))) 1)) < (w64 ((w64 ((IntKind.wrap .i64 (ishr .u64 (IntKind.wrap .u64 (w64 (x1 + x3))) 1)) + x2)) - s23.1))))
                  (cond (decide ((w64 ((w64 ((IntKind.wrap .i64 (ishr .u64 (IntKind.wrap .u64 (w64 (x1 + x3))) 1)) + x2)) - s23.1)) < x3))
                    (Option.bind (self x0 (IntKind.wrap .i64 (ishr .u64 (IntKind.wrap .u64 (w64 (x1 + x3))) 1)) (w64 ((w64 ((IntKind.wrap .i64 (ishr .u64 (IntKind.wrap .u64 (w64 (x1 + x3))) 1)) + x2)) - s23.1)) x3 x4) fun r40 =>
                    cond (Nat.beq (List.length r40.1) (List.length x0))
                      (some (r40.1, ())) none)
                    (some (x0, ())))
                  (some (x0, ())))))) N ((w64 ((w64 ((IntKind.wrap .i64 (ishr .u64 (IntKind.wrap .u64 (w64 (x1 + x3))) 1)) + x2)) - x3)), (IntKind.wrap .i64 (ishr .u64 (IntKind.wrap .u64 (w64 (x1 + x3))) 1)), ()))
        (loopN (fun (s41 : Int × Int × Unit) next42 =>
          cond (decide (s41.1 < s41.2.1))
            (cond (inB (w64 ((w64 ((w64 ((IntKind.wrap .i64 (ishr .u64 (IntKind.wrap .u64 (w64 (x1 + x3))) 1)) + x2)) - 1)) - (IntKind.wrap .i64 (ishr .u64 (IntKind.wrap .u64 (w64 (s41.1 + s41.2.1))) 1)))) (List.length x0))
              (Option.bind (x0[(Int.toNat (w64 ((w64 ((w64 ((IntKind.wrap .i64 (ishr .u64 (IntKind.wrap .u64 (w64 (x1 + x3))) 1)) + x2)) - 1)) - (IntKind.wrap .i64 (ishr .u64 (IntKind.wrap .u64 (w64 (s41.1 + s41.2.1))) 1)))))]?) fun v43 =>
              cond (inB (IntKind.wrap .i64 (ishr .u64 (IntKind.wrap .u64 (w64 (s41.1 + s41.2.1))) 1)) (List.length x0))
                (Option.bind (x0[(Int.toNat (IntKind.wrap .i64 (ishr .u64 (IntKind.wrap .u64 (w64 (s41.1 + s41.2.1))) 1)))]?) fun v44 =>
                Option.bind (impl_sortedBy_1_c0_1 N v43 v44 x4) fun r45 =>
                cond (!(decide (r45.1 < 0)))
                  (next42 ((w64 ((IntKind.wrap .i64 (ishr .u64 (IntKind.wrap .u64 (w64 (s41.1 + s41.2.1))) 1)) + 1)), s41.2.1, ()))
                  (next42 (s41.1, (IntKind.wrap .i64 (ishr .u64 (IntKind.wrap .u64 (w64 (s41.1 + s41.2.1))) 1)), ()))) none) none)
            (cond (decide (s41.1 < x2))
              (cond (decide (x2 < (w64 ((w64 ((IntKind.wrap .i64 (ishr .u64 (IntKind.wrap .u64 (w64 (x1 + x3))) 1)) + x2)) - s41.1))))
                (Option.bind (slices_rotateCmpFunc_int64_impl_sortedBy_1_1 N x0 s41.1 x2 (w64 ((w64 ((IntKind.wrap .i64 (ishr .u64 (IntKind.wrap .u64 (w64 (x1 + x3))) 1)) + x2)) - s41.1)) x4) fun r46 =>
                cond (Nat.beq (List.length r46.1) (List.length x0))
                  (cond (decide (x1 < s41.1))
                    (cond (decide (s41.1 < (IntKind.wrap .i64 (ishr .u64 (IntKind.wrap .u64 (w64 (x1 + x3))) 1))))
                      (Option.bind (self r46.1 x1 s41.1 (IntKind.wrap .i64 (ishr .u64 (IntKind.wrap .u64 (w64 (x1 + x3))) 1)) x4) fun r47 =>
                      cond (Nat.beq (List.length r47.1) (List.length r46.1))
                        (cond (decide ((IntKind.wrap .i64 (ishr .u64 (IntKind.wrap .u64 (w64 (x1 + x3))) 1)) < (w64 ((w64 ((IntKind.wrap .i64 (ishr .u64 (IntKind.wrap .u64 (w64 (x1 + x3))) 1)) + x2)) - s41.1))))
                          (cond (decide ((w64 ((w64 ((IntKind.wrap .i64 (ishr .u64 (IntKind.wrap .u64 (w64 (x1 + x3))) 1)) + x2)) - s41.1)) < x3))
                            (Option.bind (self r47.1 (IntKind.wrap .i64 (ishr .u64 (IntKind.wrap .u64 (w64 (x1 + x3))) 1)) (w64 ((w64 ((IntKind.wrap .i64 (ishr .u64 (IntKind.wrap .u64 (w64 (x1 + x3))) 1)) + x2)) - s41.1)) x3 x4) fun r48 =>
                            cond (Nat.beq (List.length r48.1) (List.length r47.1))
                              (some (r48.1, ())) none)
                            (some (r47.1, ())))
                          (some (r47.1, ()))) none)
                      (cond (decide ((IntKind.wrap .i64 (ishr .u64 (IntKind.wrap .u64 (w64 (x1 + x3))) 1)) < (w64 ((w64 ((IntKind.wrap .i64 (ishr .u64 (IntKind.wrap .u64 (w64 (x1 + x3))) 1)) + x2)) - s41.1))))
                        (cond (decide ((w64 ((w64 ((IntKind.wrap .i64 (ishr .u64 (IntKind.wrap .u64 (w64 (x1 + x3))) 1)) + x2)) - s41.1)) < x3))
                          (Option.bind (self r46.1 (IntKind.wrap .i64 (ishr .u64 (IntKind.wrap .u64 (w64 (x1 + x3))) 1)) (w64 ((w64 ((IntKind.wrap .i64 (ishr .u64 (IntKind.wrap .u64 (w64 (x1 + x3))) 1)) + x2)) - s41.1)) x3 x4) fun r49 =>
                          cond (Nat.beq (List.length r49.1) (List.length r46.1))
                            (some (r49.1, ())) none)
                          (some (r46.1, ())))
                        (some (r46.1, ()))))
                    (cond (decide ((IntKind.wrap .i64 (ishr .u64 (IntKind.wrap .u64 (w64 (x1 + x3))) 1)) < (w64 ((w64 ((IntKind.wrap .i64 (ishr .u64 (IntKind.wrap .u64 (w64 (x1 + x3))) 1)) + x2)) - s41.1))))
                      (cond (decide ((w64 ((w64 ((IntKind.wrap .i64 (ishr .u64 (IntKind.wrap .u64 (w64 (x1 + x3))) 1)) + x2)) - s41.1)) < x3))
                        (Option.bind (self r46.1 (IntKind.wrap .i64 (ishr .u64 (IntKind.wrap .u64 (w64 (x1 + x3))) 1)) (w64 ((w64 ((IntKind.wrap .i64 (ishr .u64 (IntKind.wrap .u64 (w64 (x1 + x3))) 1)) + x2)) - s41.1)) x3 x4) fun r50 =>
                        cond (Nat.beq (List.length r50.1) (List.length r46.1))
                          (some (r50.1, ())) none)
                        (some (r46.1, ())))
                      (some (r46.1, ())))) none)
                (cond (decide (x1 < s41.1))
                  (cond (decide (s41.1 < (IntKind.wrap .i64 (ishr .u64 (IntKind.wrap .u64 (w64 (x1 + x3))) 1))))
                    (Option.bind (self x0 x1 s41.1 (IntKind.wrap .i64 (ishr .u64 (IntKind.wrap .u64 (w64 (x1 + x3))) 1)) x4) fun r51 =>
                    cond (Nat.beq (List.length r51.1) (List.length x0))
                      (cond (decide ((IntKind.wrap .i64 (ishr .u64 (IntKind.wrap .u64 (w64 (x1 + x3))) 1)) < (w64 ((w64 ((IntKind.wrap .i64 (ishr .u64 (IntKind.wrap .u64 (w64 (x1 + x3))) 1)) + x2)) - s41.1))))
                        (cond (decide ((w64 ((w64 ((IntKind.wrap .i64 (ishr .u64 (IntKind.wrap .u64 (w64 (x1 + x3))) 1)) + x2)) - s41.1)) < x3))
                          (Option.bind (self r51.1 (IntKind.wrap .i64 (ishr .u64 (IntKind.wrap .u64 (w64 (x1 + x3))) 1)) (w64 ((w64 ((IntKind.wrap .i64 (ishr .u64 (IntKind.wrap .u64 (w64 (x1 + x3))) 1)) + x2)) - s41.1)) x3 x4) fun r52 =>
                          cond (Nat.beq (List.length r52.1) (List.length r51.1))
                            (some (r52.1, ())) none)
                          (some (r51.1, ())))
                        (some (r51.1, ()))) none)
                    (cond (decide ((IntKind.wrap .i64 (ishr .u64 (IntKind.wrap .u64 (w64 (x1 + x3))) 1)) < (w64 ((w64 ((IntKind.wrap .i64 (ishr .u64 (IntKind.wrap .u64 (w64 (x1 + x3))) 1)) + x2)) - s41.1))))
                      (cond (decide ((w64 ((w64 ((IntKind.wrap .i64 (ishr .u64 (IntKind.wrap .u64 (w64 (x1 + x3))) 1)) + x2)) - s41.1)) < x3))
                        (Option.bind (self x0 (IntKind.wrap .i64 (ishr .u64 (IntKind.wrap .u64 (w64 (x1 + x3))) 1)) (w64 ((w64 ((IntKind.wrap .i64 (ishr .u64 (IntKind.wrap .u64 (w64 (x1 + x3))) 1)) + x2)) - s41.1)) x3 x4) fun r53 =>
                        cond (Nat.beq (List.length r53.1) (List.length x0))
                          (some (r53.1, ())) none)
                        (some (x0, ())))
                      (some (x0, ()))))
                  (cond (decide ((IntKind.wrap .i64 (ishr .u64 (IntKind.wrap .u64 (w64 (x1 + x3))) 1)) < (w64 ((w64 ((IntKind.wrap .i64 (ishr .u64 (IntKind.wrap .u64 (w64 (x1 + x3))) 1)) + x2)) - s41.1))))
                    (cond (decide ((w64 ((w64 ((IntKind.wrap .i64 (ishr .u64 (IntKind.wrap .u64 (w64 (x1 + x3))) 1)) + x2)) - s41.1)) < x3))
                      (Option.bind (self x0 (IntKind.wrap .i64 (ishr .u64 (IntKind.wrap .u64 (w64 (x1 + x3))) 1)) (w64 ((w64 ((IntKind.wrap .i64 (ishr .u64 (IntKind.wrap .u64 (w64 (x1 + x3))) 1)) + x2)) - s41.1)) x3 x4) fun r54 =>
                      cond (Nat.beq (List.length r54.1) (List.length x0))
                        (some (r54.1, ())) none)
                      (some (x0, ())))
                    (some (x0, ())))))
              (cond (decide (x1 < s41.1))
                (cond (decide (s41.1 < (IntKind.wrap .i64 (ishr .u64 (IntKind.wrap .u64 (w64 (x1 + x3))) 1))))
                  (Option.bind (self x0 x1 s41.1 (IntKind.wrap .i64 (ishr .u64 (IntKind.wrap .u64 (w64 (x1 + x3))) 1)) x4) fun r55 =>
                  cond (Nat.beq (List.length r55.1) (List.length x0))
                    (cond (decide ((IntKind.wrap .i64 (ishr .u64 (IntKind.wrap .u64 (w64 (x1 + x3))) 1)) < (w64 ((w64 ((IntKind.wrap .i64 (ishr .u64 (IntKind.wrap .u64 (w64 (x1 + x3))) 1)) + x2)) - s41.1))))
                      (cond (decide ((w64 ((w64 ((IntKind.wrap .i64 (ishr .u64 (IntKind.wrap .u64 (w64 (x1 + x3))) 1)) + x2)) - s41.1)) < x3))
                        (Option.bind (self r55.1 (IntKind.wrap .i64 (ishr .u64 (IntKind.wrap .u64 (w64 (x1 + x3))) 1)) (w64 ((w64 ((IntKind.wrap .i64 (ishr .u64 (IntKind.wrap .u64 (w64 (x1 + x3))) 1)) + x2)) - s41.1)) x3 x4) fun r56 =>
                        cond (Nat.beq (List.length r56.1) (List.length r55.1))
                          (some (r56.1, ())) none)
                        (some (r55.1, ())))
                      (some (r55.1, ()))) none)
                  (cond (decide ((IntKind.wrap .i64 (ishr .u64 (IntKind.wrap .u64 (w64 (x1 + x3))) 1)) < (w64 ((w64 ((IntKind.wrap .i64 (ishr .u64 (IntKind.wrap .u64 (w64 (x1 + x3))) 1)) + x2)) - s41.1))))
                    (cond (decide ((w64 ((w64 ((IntKind.wrap .i64 (ishr .u64 (IntKind.wrap .u64 (w64 (x1 + x3))) 1)) + x2)) - s41.1)) < x3))
                      (Option.bind (self x0 (IntKind.wrap .i64 (ishr .u64 (IntKind.wrap .u64 (w64 (x1 + x3))) 1)) (w64 ((w64 ((IntKind.wrap .i64 (ishr .u64 (IntKind.wrap .u64 (w64 (x1 + x3))) 1)) + x2)) - s41.1)) x3 x4) fun r57 =>
                      cond (Nat.beq (List.length r57.1) (List.length x0))
                        (some (r57.1, ())) none)
                      (some (x0, ())))
                    (some (x0, ()))))
                (cond (decide ((IntKind.wrap .i64 (ishr .u64 (IntKind.wrap .u64 (w64 (x1 + x3))) 1)) < (w64 ((w64 ((IntKind.wrap .i64 (ishr .u64 (IntKind.wrap .u64 (w64 (x1 + x3))) 1)) + x2)) - s41.1))))
                  (cond (decide ((w64 ((w64 ((IntKind.wrap .i64 (ishr .u64 (IntKind.wrap .u64 (w64 (x1 + x3))) 1)) + x2)) - s41.1)) < x3))
                    (Option.bind (self x0 (IntKind.wrap .i64 (ishr .u64 (IntKind.wrap .u64 (w64 (x1 + x3))) 1)) (w64 ((w64 ((IntKind.wrap .i64 (ishr .u64 (IntKind.wrap .u64 (w64 (x1 + x3))) 1)) + x2)) - s41.1)) x3 x4) fun r58 =>
                    cond (Nat.beq (List.length r58.1) (List.length x0))
                      (some (r58.1, ())) none)
                    (some (x0, ())))
                  (some (x0, ())))))) N (x1, x2, ()))))
def slices_symMergeCmpFunc_int64_impl_sortedBy_1_1_r (N : Nat) : Nat → List (Int) → Int → Int → Int → List (Int × Int × Int × Int) → Option (List (Int) × (Unit))
  | 0 => fun _ _ _ _ _ => none
  | F + 1 => slices_symMergeCmpFunc_int64_impl_sortedBy_1_1_step N (slices_symMergeCmpFunc_int64_impl_sortedBy_1_1_r N F)
def slices_symMergeCmpFunc_int64_impl_sortedBy_1_1 (N : Nat) (x0 : List Int) (x1 : Int) (x2 : Int) (x3 : Int) (x4 : List (Int × Int × Int × Int)) : Option (List (Int) × (Unit)) := slices_symMergeCmpFunc_int64_impl_sortedBy_1_1_r N N x0 x1 x2 x3 x4
def slices_symMergeCmpFunc_int64_impl_sortedBy_1_1_ef (N F : Nat) : EntM := { io := (.int .i64), ins := [(.int .i64), (.int .i64), (.int .i64), (.clo 83 (.bx (.clo 104 (.bx (.sl (.pair (.int .i64) (.pair (.int .i64) (.pair (.int .i64) (.int .i64)))))))))], outs := [], F := fun xs x => slices_symMergeCmpFunc_int64_impl_sortedBy_1_1_r N F xs x.1 x.2.1 x.2.2.1 x.2.2.2.1 }
def slices_symMergeCmpFunc_int64_impl_sortedBy_1_1_e (N : Nat) : EntM := slices_symMergeCmpFunc_int64_impl_sortedBy_1_1_ef N N
def slices_symMergeCmpFunc_int64_impl_sortedBy_1_1_T (N F : Nat) : Nat → List EntX
  | 83 => [.pl (impl_sortedBy_1_c0_1_e N)]
  | 130 => [.mu (slices_symMergeCmpFunc_int64_impl_sortedBy_1_1_ef N F)]
  | 134 => [.mu (slices_rotateCmpFunc_int64_impl_sortedBy_1_1_e N)]
  | _ => []
def slices_symMergeCmpFunc_int64_impl_sortedBy_1_1_L : Nat → List (Nat × TK)
  | 3 => [(10, .v (.int .i64)), (11, .v (.int .i64))]
  | 9 => [(0, .own (.int .i64)), (13, .v (.int .i64))]
  | 15 => [(14, .v (.int .i64)), (15, .v (.int .i64))]
  | 21 => [(0, .own (.int .i64)), (17, .v (.int .i64))]
  | 33 => [(20, .v (.int .i64)), (21, .v (.int .i64))]
  | _ => []
theorem slices_symMergeCmpFunc_int64_impl_sortedBy_1_1_eq (N F : Nat) : runM N tt (slices_symMergeCmpFunc_int64_impl_sortedBy_1_1_T N F) slices_symMergeCmpFunc_int64_impl_sortedBy_1_1_L (.int .i64) [(.int .i64), (.int .i64), (.int .i64), (.clo 83 (.bx (.clo 104 (.bx (.sl (.pair (.int .i64) (.pair (.int .i64) (.pair (.int .i64) (.int .i64)))))))))] [] (bodyOf Try.f130) Try.f130.ntmps [] = (fun xs x => slices_symMergeCmpFunc_int64_impl_sortedBy_1_1_step N (slices_symMergeCmpFunc_int64_impl_sortedBy_1_1_r N F) xs x.1 x.2.1 x.2.2.1 x.2.2.2.1) := by
  funext xs x
  kernel_rfl
theorem slices_symMergeCmpFunc_int64_impl_sortedBy_1_1_soundf (N F : Nat) : SoundM Try.prog 130 (slices_symMergeCmpFunc_int64_impl_sortedBy_1_1_ef N F) := by
  induction F with
  | zero =>
    intro p w v ob vals xs x z _ _ _ _ _ hF
    exact absurd (show none = some _ from hF) (by simp)
  | succ F ih =>
    have h := runM_sound (f := 130) (code := bodyOf Try.f130) (N := N) (T := (slices_symMergeCmpFunc_int64_impl_sortedBy_1_1_T N F)) (L := slices_symMergeCmpFunc_int64_impl_sortedBy_1_1_L) (io := (.int .i64)) (ins := [(.int .i64), (.int .i64), (.int .i64), (.clo 83 (.bx (.clo 104 (.bx (.sl (.pair (.int .i64) (.pair (.int .i64) (.pair (.int .i64) (.int .i64)))))))))]) (outs := []) (res := []) mixed tt_ok ?_ Try.func130 (by kernel_rfl) rfl (by kernel_rfl) (by kernel_rfl) (by decide +kernel)
    · rw [slices_symMergeCmpFunc_int64_impl_sortedBy_1_1_eq] at h
      exact h
    · intro f e he
      unfold slices_symMergeCmpFunc_int64_impl_sortedBy_1_1_T at he
      split at he
      · rw [List.mem_singleton.1 he]; exact impl_sortedBy_1_c0_1_sound N
      · rw [List.mem_singleton.1 he]; exact ih
      · rw [List.mem_singleton.1 he]; exact slices_rotateCmpFunc_int64_impl_sortedBy_1_1_sound N
      · cases he
theorem slices_symMergeCmpFunc_int64_impl_sortedBy_1_1_sound (N : Nat) : SoundM Try.prog 130 (slices_symMergeCmpFunc_int64_impl_sortedBy_1_1_e N) := slices_symMergeCmpFunc_int64_impl_sortedBy_1_1_soundf N N

/- slices.stableCmpFunc[int64] -/
def slices_stableCmpFunc_int64_impl_sortedBy_1_1 (N : Nat) (x0 : List Int) (x1 : Int) (x2 : List (Int × Int × Int × Int)) : Option (List (Int) × (Unit)) :=
  loopN (fun (s1 : List (Int) × Int × Int × Unit) next2 =>
    cond (decide (s1.2.2.1 ≤ x1))
      (Option.bind (slices_insertionSortCmpFunc_int64_impl_sortedBy_1_1 N s1.1 s1.2.1 s1.2.2.1 x2) fun r3 =>
      cond (Nat.beq (List.length r3.1) (List.length s1.1))
        (next2 (r3.1, s1.2.2.1, (w64 (s1.2.2.1 + 20)), ())) none)
      (Option.bind (slices_insertionSortCmpFunc_int64_impl_sortedBy_1_1 N s1.1 s1.2.1 x1 x2) fun r4 =>
      cond (Nat.beq (List.length r4.1) (List.length s1.1))
        (loopN (fun (s5 : List (Int) × Int × Unit) next6 =>
          cond (decide (s5.2.1 < x1))
            (loopN (fun (s7 : List (Int) × Int × Int × Unit) next8 =>
              cond (decide (s7.2.2.1 ≤ x1))
                (Option.bind (slices_symMergeCmpFunc_int64_impl_sortedBy_1_1 N s7.1 s7.2.1 (w64 (s7.2.1 + s5.2.1)) s7.2.2.1 x2) fun r9 =>
                cond (Nat.beq (List.length r9.1) (List.length s7.1))
                  (next8 (r9.1, s7.2.2.1, (w64 (s7.2.2.1 + (w64 (2 * s5.2.1)))), ())) none)
                (cond (decide ((w64 (s7.2.1 + s5.2.1)) < x1))
                  (Option.bind (slices_symMergeCmpFunc_int64_impl_sortedBy_1_1 N s7.1 s7.2.1 (w64 (s7.2.1 + s5.2.1)) x1 x2) fun r10 =>
                  cond (Nat.beq (List.length r10.1) (List.length s7.1))
                    (next6 (r10.1, (w64 (s5.2.1 * 2)), ())) none)
                  (next6 (s7.1, (w64 (s5.2.1 * 2)), ())))) N (s5.1, 0, (w64 (2 * s5.2.1)), ()))
            (some (s5.1, ()))) N (r4.1, 20, ())) none)) N (x0, 0, 20, ())
def slices_stableCmpFunc_int64_impl_sortedBy_1_1_e (N : Nat) : EntM := { io := (.int .i64), ins := [(.int .i64), (.clo 83 (.bx (.clo 104 (.bx (.sl (.pair (.int .i64) (.pair (.int .i64) (.pair (.int .i64) (.int .i64)))))))))], outs := [], F := fun xs x => slices_stableCmpFunc_int64_impl_sortedBy_1_1 N xs x.1 x.2.1 }
def slices_stableCmpFunc_int64_impl_sortedBy_1_1_T (N : Nat) : Nat → List EntX
  | 129 => [.mu (slices_insertionSortCmpFunc_int64_impl_sortedBy_1_1_e N)]
  | 130 => [.mu (slices_symMergeCmpFunc_int64_impl_sortedBy_1_1_e N)]
  | _ => []
def slices_stableCmpFunc_int64_impl_sortedBy_1_1_L : Nat → List (Nat × TK)
  | 2 => [(0, .own (.int .i64)), (7, .v (.int .i64)), (8, .v (.int .i64))]
  | 7 => [(0, .own (.int .i64)), (6, .v (.int .i64))]
  | 9 => [(0, .own (.int .i64)), (7, .v (.int .i64)), (8, .v (.int .i64))]
  | _ => []
theorem slices_stableCmpFunc_int64_impl_sortedBy_1_1_eq (N : Nat) : runM N tt (slices_stableCmpFunc_int64_impl_sortedBy_1_1_T N) slices_stableCmpFunc_int64_impl_sortedBy_1_1_L (.int .i64) [(.int .i64), (.clo 83 (.bx (.clo 104 (.bx (.sl (.pair (.int .i64) (.pair (.int .i64) (.pair (.int .i64) (.int .i64)))))))))] [] (bodyOf Try.f119) Try.f119.ntmps [] = (slices_stableCmpFunc_int64_impl_sortedBy_1_1_e N).F := by
  funext xs x
  kernel_rfl
theorem slices_stableCmpFunc_int64_impl_sortedBy_1_1_sound (N : Nat) : SoundM Try.prog 119 (slices_stableCmpFunc_int64_impl_sortedBy_1_1_e N) := by
  have h := runM_sound (f := 119) (code := bodyOf Try.f119) (N := N) (T := (slices_stableCmpFunc_int64_impl_sortedBy_1_1_T N)) (L := slices_stableCmpFunc_int64_impl_sortedBy_1_1_L) (io := (.int .i64)) (ins := [(.int .i64), (.clo 83 (.bx (.clo 104 (.bx (.sl (.pair (.int .i64) (.pair (.int .i64) (.pair (.int .i64) (.int .i64)))))))))]) (outs := []) (res := []) mixed tt_ok ?_ Try.func119 (by kernel_rfl) rfl (by kernel_rfl) (by kernel_rfl) (by decide +kernel)
  · rw [slices_stableCmpFunc_int64_impl_sortedBy_1_1_eq] at h
    exact h
  · intro f e he
    unfold slices_stableCmpFunc_int64_impl_sortedBy_1_1_T at he
    split at he
    · rw [List.mem_singleton.1 he]; exact slices_insertionSortCmpFunc_int64_impl_sortedBy_1_1_sound N
    · rw [List.mem_singleton.1 he]; exact slices_symMergeCmpFunc_int64_impl_sortedBy_1_1_sound N
    · cases he

/- slices.SortStableFunc[[]int64,int64] -/
def slices_SortStableFunc_int64_int64_impl_sortedBy_1_1 (N : Nat) (x0 : List Int) (x1 : List (Int × Int × Int × Int)) : Option (List (Int) × (Unit)) :=
  Option.bind (slices_stableCmpFunc_int64_impl_sortedBy_1_1 N x0 (List.length x0 : Int) x1) fun r1 =>
  cond (Nat.beq (List.length r1.1) (List.length x0))
    (some (r1.1, ())) none
def slices_SortStableFunc_int64_int64_impl_sortedBy_1_1_e (N : Nat) : EntM := { io := (.int .i64), ins := [(.clo 83 (.bx (.clo 104 (.bx (.sl (.pair (.int .i64) (.pair (.int .i64) (.pair (.int .i64) (.int .i64)))))))))], outs := [], F := fun xs x => slices_SortStableFunc_int64_int64_impl_sortedBy_1_1 N xs x.1 }
def slices_SortStableFunc_int64_int64_impl_sortedBy_1_1_T (N : Nat) : Nat → List EntX
  | 119 => [.mu (slices_stableCmpFunc_int64_impl_sortedBy_1_1_e N)]
  | _ => []
def slices_SortStableFunc_int64_int64_impl_sortedBy_1_1_L : Nat → List (Nat × TK) := fun _ => []
theorem slices_SortStableFunc_int64_int64_impl_sortedBy_1_1_eq (N : Nat) : runM N tt (slices_SortStableFunc_int64_int64_impl_sortedBy_1_1_T N) slices_SortStableFunc_int64_int64_impl_sortedBy_1_1_L (.int .i64) [(.clo 83 (.bx (.clo 104 (.bx (.sl (.pair (.int .i64) (.pair (.int .i64) (.pair (.int .i64) (.int .i64)))))))))] [] (bodyOf Try.f82) Try.f82.ntmps [] = (slices_SortStableFunc_int64_int64_impl_sortedBy_1_1_e N).F := by
  funext xs x
  kernel_rfl
theorem slices_SortStableFunc_int64_int64_impl_sortedBy_1_1_sound (N : Nat) : SoundM Try.prog 82 (slices_SortStableFunc_int64_int64_impl_sortedBy_1_1_e N) := by
  have h := runM_sound (f := 82) (code := bodyOf Try.f82) (N := N) (T := (slices_SortStableFunc_int64_int64_impl_sortedBy_1_1_T N)) (L := slices_SortStableFunc_int64_int64_impl_sortedBy_1_1_L) (io := (.int .i64)) (ins := [(.clo 83 (.bx (.clo 104 (.bx (.sl (.pair (.int .i64) (.pair (.int .i64) (.pair (.int .i64) (.int .i64)))))))))]) (outs := []) (res := []) mixed tt_ok ?_ Try.func82 (by kernel_rfl) rfl (by kernel_rfl) (by kernel_rfl) (by decide +kernel)
  · rw [slices_SortStableFunc_int64_int64_impl_sortedBy_1_1_eq] at h
    exact h
  · intro f e he
    unfold slices_SortStableFunc_int64_int64_impl_sortedBy_1_1_T at he
    split at he
    · rw [List.mem_singleton.1 he]; exact slices_stableCmpFunc_int64_impl_sortedBy_1_1_sound N
    · cases he

/- impl.sortedBy -/
def impl_sortedBy_impl_orderBy_2 (N : Nat) (x0 : Int) (x1 : List (Int × Int × Int × Int)) : Option (List (Int) × Unit) :=
  Option.bind (impl_counting N x0) fun r1 =>
  Option.bind (slices_SortStableFunc_int64_int64_impl_sortedBy_1_1 N r1.1 x1) fun r2 =>
  cond (Nat.beq (List.length r2.1) (List.length r1.1))
    (some (r2.1, ())) none
def impl_sortedBy_impl_orderBy_2_e (N : Nat) : Ent := { ins := [(.int .i64), (.clo 104 (.bx (.sl (.pair (.int .i64) (.pair (.int .i64) (.pair (.int .i64) (.int .i64)))))))], outs := [.own (.int .i64)], F := fun x => impl_sortedBy_impl_orderBy_2 N x.1 x.2.1 }
def impl_sortedBy_impl_orderBy_2_T (N : Nat) : Nat → List EntX
  | 81 => [.pl (impl_counting_e N)]
  | 82 => [.mu (slices_SortStableFunc_int64_int64_impl_sortedBy_1_1_e N)]
  | _ => []
def impl_sortedBy_impl_orderBy_2_L : Nat → List (Nat × TK) := fun _ => []
theorem impl_sortedBy_impl_orderBy_2_eq (N : Nat) : runF N tt (impl_sortedBy_impl_orderBy_2_T N) impl_sortedBy_impl_orderBy_2_L [(.int .i64), (.clo 104 (.bx (.sl (.pair (.int .i64) (.pair (.int .i64) (.pair (.int .i64) (.int .i64)))))))] [.own (.int .i64)] (bodyOf Try.f48) Try.f48.ntmps [4] = (impl_sortedBy_impl_orderBy_2_e N).F := by
  funext x
  kernel_rfl
theorem impl_sortedBy_impl_orderBy_2_sound (N : Nat) : SoundC Try.prog 48 (impl_sortedBy_impl_orderBy_2_e N) := by
  have h := runF_sound (f := 48) (code := bodyOf Try.f48) (N := N) (T := (impl_sortedBy_impl_orderBy_2_T N)) (L := impl_sortedBy_impl_orderBy_2_L) (ins := [(.int .i64), (.clo 104 (.bx (.sl (.pair (.int .i64) (.pair (.int .i64) (.pair (.int .i64) (.int .i64)))))))]) (outs := [.own (.int .i64)]) (res := [4]) mixed tt_ok ?_ Try.func48 (by kernel_rfl) rfl (by kernel_rfl) (by kernel_rfl) (by decide +kernel)
  · rw [impl_sortedBy_impl_orderBy_2_eq] at h
    exact h
  · intro f e he
    unfold impl_sortedBy_impl_orderBy_2_T at he
    split at he
    · rw [List.mem_singleton.1 he]; exact impl_counting_sound N
    · rw [List.mem_singleton.1 he]; exact slices_SortStableFunc_int64_int64_impl_sortedBy_1_1_sound N
    · cases he

/- impl.orderBy$3 -/
def impl_orderBy_3_c0 (_N : Nat) (x0 : Int) (x1 : List (Int × Int × Int × Int)) : Option (Int × Unit) :=
  Option.bind (idx x1 x0) fun v1 =>
  some (v1.2.1, ())
def impl_orderBy_3_c0_e (N : Nat) : Ent := { ins := [(.int .i64), (.bx (.sl (.pair (.int .i64) (.pair (.int .i64) (.pair (.int .i64) (.int .i64))))))], outs := [.val (.int .i64)], F := fun x => impl_orderBy_3_c0 N x.1 x.2.1 }
def impl_orderBy_3_c0_T (_ : Nat) : Nat → List EntX := fun _ => []
def impl_orderBy_3_c0_L : Nat → List (Nat × TK) := fun _ => []
theorem impl_orderBy_3_c0_eq (N : Nat) : runF N tt (impl_orderBy_3_c0_T N) impl_orderBy_3_c0_L [(.int .i64), (.bx (.sl (.pair (.int .i64) (.pair (.int .i64) (.pair (.int .i64) (.int .i64))))))] [.val (.int .i64)] (bodyOf Try.f105) Try.f105.ntmps [3] = (impl_orderBy_3_c0_e N).F := by
  funext x
  kernel_rfl
theorem impl_orderBy_3_c0_sound (N : Nat) : SoundC Try.prog 105 (impl_orderBy_3_c0_e N) := by
  have h := runF_sound (f := 105) (code := bodyOf Try.f105) (N := N) (T := (impl_orderBy_3_c0_T N)) (L := impl_orderBy_3_c0_L) (ins := [(.int .i64), (.bx (.sl (.pair (.int .i64) (.pair (.int .i64) (.pair (.int .i64) (.int .i64))))))]) (outs := [.val (.int .i64)]) (res := [3]) mixed tt_ok ?_ Try.func105 (by kernel_rfl) rfl (by kernel_rfl) (by kernel_rfl) (by decide +kernel)
  · rw [impl_orderBy_3_c0_eq] at h
    exact h
  · intro f e he
    cases he

/- impl.sortedBy$1 -/
def impl_sortedBy_1_c0_2 (N : Nat) (x0 : Int) (x1 : Int) (x2 : List (Int × Int × Int × Int)) : Option (Int × Unit) :=
  Option.bind (impl_orderBy_3_c0 N x0 x2) fun r1 =>
  Option.bind (impl_orderBy_3_c0 N x1 x2) fun r2 =>
  Option.bind (cmp_Compare_int64 N r1.1 r2.1) fun r3 =>
  some (r3.1, ())
def impl_sortedBy_1_c0_2_e (N : Nat) : Ent := { ins := [(.int .i64), (.int .i64), (.bx (.clo 105 (.bx (.sl (.pair (.int .i64) (.pair (.int .i64) (.pair (.int .i64) (.int .i64))))))))], outs := [.val (.int .i64)], F := fun x => impl_sortedBy_1_c0_2 N x.1 x.2.1 x.2.2.1 }
def impl_sortedBy_1_c0_2_T (N : Nat) : Nat → List EntX
  | 84 => [.pl (cmp_Compare_int64_e N)]
  | 105 => [.pl (impl_orderBy_3_c0_e N)]
  | _ => []
def impl_sortedBy_1_c0_2_L : Nat → List (Nat × TK) := fun _ => []
theorem impl_sortedBy_1_c0_2_eq (N : Nat) : runF N tt (impl_sortedBy_1_c0_2_T N) impl_sortedBy_1_c0_2_L [(.int .i64), (.int .i64), (.bx (.clo 105 (.bx (.sl (.pair (.int .i64) (.pair (.int .i64) (.pair (.int .i64) (.int .i64))))))))] [.val (.int .i64)] (bodyOf Try.f83) Try.f83.ntmps [5] = (impl_sortedBy_1_c0_2_e N).F := by
  funext x
  kernel_rfl
theorem impl_sortedBy_1_c0_2_sound (N : Nat) : SoundC Try.prog 83 (impl_sortedBy_1_c0_2_e N) := by
  have h := runF_sound (f := 83) (code := bodyOf Try.f83) (N := N) (T := (impl_sortedBy_1_c0_2_T N)) (L := impl_sortedBy_1_c0_2_L) (ins := [(.int .i64), (.int .i64), (.bx (.clo 105 (.bx (.sl (.pair (.int .i64) (.pair (.int .i64) (.pair (.int .i64) (.int .i64))))))))]) (outs := [.val (.int .i64)]) (res := [5]) mixed tt_ok ?_ Try.func83 (by kernel_rfl) rfl (by kernel_rfl) (by kernel_rfl) (by decide +kernel)
  · rw [impl_sortedBy_1_c0_2_eq] at h
    exact h
  · intro f e he
    unfold impl_sortedBy_1_c0_2_T at he
    split at he
    · rw [List.mem_singleton.1 he]; exact cmp_Compare_int64_sound N
    · rw [List.mem_singleton.1 he]; exact impl_orderBy_3_c0_sound N
    · cases he

/- slices.insertionSortCmpFunc[int64] -/
def slices_insertionSortCmpFunc_int64_impl_sortedBy_1_2 (N : Nat) (x0 : List Int) (x1 : Int) (x2 : Int) (x3 : List (Int × Int × Int × Int)) : Option (List (Int) × (Unit)) :=
  loopN (fun (s1 : List (Int) × Int × Unit) next2 =>
    cond (decide (s1.2.1 < x2))
      (loopN (fun (s3 : List (Int) × Int × Unit) next4 =>
        cond (decide (s3.2.1 > x1))
          (cond (inB s3.2.1 (List.length s3.1))
            (Option.bind (s3.1[(Int.toNat s3.2.1)]?) fun v5 =>
            cond (inB (w64 (s3.2.1 - 1)) (List.length s3.1))
              (Option.bind (s3.1[(Int.toNat (w64 (s3.2.1 - 1)))]?) fun v6 =>
              Option.bind (impl_sortedBy_1_c0_2 N v5 v6 x3) fun r7 =>
              cond (decide (r7.1 < 0))
                (cond (inB (w64 (s3.2.1 - 1)) (List.length s3.1))
                  (Option.bind (s3.1[(Int.toNat (w64 (s3.2.1 - 1)))]?) fun v8 =>
                  cond (inB s3.2.1 (List.length s3.1))
                    (Option.bind (s3.1[(Int.toNat s3.2.1)]?) fun v9 =>
                    cond (inB s3.2.1 (List.length s3.1))
                      (let xs10 := (List.set s3.1 (Int.toNat s3.2.1) v8)
                      cond (inB (w64 (s3.2.1 - 1)) (List.length xs10))
                        (let xs11 := (List.set xs10 (Int.toNat (w64 (s3.2.1 - 1))) v9)
                        next4 (xs11, (w64 (s3.2.1 - 1)), ())) none) none) none) none)
                (next2 (s3.1, (w64 (s1.2.1 + 1)), ()))) none) none)
          (next2 (s3.1, (w64 (s1.2.1 + 1)), ()))) N (s1.1, s1.2.1, ()))
      (some (s1.1, ()))) N (x0, (w64 (x1 + 1)), ())
def slices_insertionSortCmpFunc_int64_impl_sortedBy_1_2_e (N : Nat) : EntM := { io := (.int .i64), ins := [(.int .i64), (.int .i64), (.clo 83 (.bx (.clo 105 (.bx (.sl (.pair (.int .i64) (.pair (.int .i64) (.pair (.int .i64) (.int .i64)))))))))], outs := [], F := fun xs x => slices_insertionSortCmpFunc_int64_impl_sortedBy_1_2 N xs x.1 x.2.1 x.2.2.1 }
def slices_insertionSortCmpFunc_int64_impl_sortedBy_1_2_T (N : Nat) : Nat → List EntX
  | 83 => [.pl (impl_sortedBy_1_c0_2_e N)]
  | _ => []
def slices_insertionSortCmpFunc_int64_impl_sortedBy_1_2_L : Nat → List (Nat × TK)
  | 1 => [(0, .own (.int .i64)), (8, .v (.int .i64))]
  | 4 => [(0, .own (.int .i64)), (9, .v (.int .i64))]
  | _ => []
theorem slices_insertionSortCmpFunc_int64_impl_sortedBy_1_2_eq (N : Nat) : runM N tt (slices_insertionSortCmpFunc_int64_impl_sortedBy_1_2_T N) slices_insertionSortCmpFunc_int64_impl_sortedBy_1_2_L (.int .i64) [(.int .i64), (.int .i64), (.clo 83 (.bx (.clo 105 (.bx (.sl (.pair (.int .i64) (.pair (.int .i64) (.pair (.int .i64) (.int .i64)))))))))] [] (bodyOf Try.f129) Try.f129.ntmps [] = (slices_insertionSortCmpFunc_int64_impl_sortedBy_1_2_e N).F := by
  funext xs x
  kernel_rfl
theorem slices_insertionSortCmpFunc_int64_impl_sortedBy_1_2_sound (N : Nat) : SoundM Try.prog 129 (slices_insertionSortCmpFunc_int64_impl_sortedBy_1_2_e N) := by
  have h := runM_sound (f := 129) (code := bodyOf Try.f129) (N := N) (T := (slices_insertionSortCmpFunc_int64_impl_sortedBy_1_2_T N)) (L := slices_insertionSortCmpFunc_int64_impl_sortedBy_1_2_L) (io := (.int .i64)) (ins := [(.int .i64), (.int .i64), (.clo 83 (.bx (.clo 105 (.bx (.sl (.pair (.int .i64) (.pair (.int .i64) (.pair (.int .i64) (.int .i64)))))))))]) (outs := []) (res := []) mixed tt_ok ?_ Try.func129 (by kernel_rfl) rfl (by kernel_rfl) (by kernel_rfl) (by decide +kernel)
  · rw [slices_insertionSortCmpFunc_int64_impl_sortedBy_1_2_eq] at h
    exact h
  · intro f e he
    unfold slices_insertionSortCmpFunc_int64_impl_sortedBy_1_2_T at he
    split at he
    · rw [List.mem_singleton.1 he]; exact impl_sortedBy_1_c0_2_sound N
    · cases he

/- slices.swapRangeCmpFunc[int64] -/
def slices_swapRangeCmpFunc_int64_impl_sortedBy_1_2 (N : Nat) (x0 : List Int) (x1 : Int) (x2 : Int) (x3 : Int) (x4 : List (Int × Int × Int × Int)) : Option (List (Int) × (Unit)) :=
  loopN (fun (s1 : List (Int) × Int × Unit) next2 =>
    cond (decide (s1.2.1 < x3))
      (cond (inB (w64 (x2 + s1.2.1)) (List.length s1.1))
        (Option.bind (s1.1[(Int.toNat (w64 (x2 + s1.2.1)))]?) fun v3 =>
        cond (inB (w64 (x1 + s1.2.1)) (List.length s1.1))
          (Option.bind (s1.1[(Int.toNat (w64 (x1 + s1.2.1)))]?) fun v4 =>
          cond (inB (w64 (x1 + s1.2.1)) (List.length s1.1))
            (let xs5 := (List.set s1.1 (Int.toNat (w64 (x1 + s1.2.1))) v3)
            cond (inB (w64 (x2 + s1.2.1)) (List.length xs5))
              (let xs6 := (List.set xs5 (Int.toNat (w64 (x2 + s1.2.1))) v4)
              next2 (xs6, (w64 (s1.2.1 + 1)), ())) none) none) none) none)
      (some (s1.1, ()))) N (x0, 0, ())
def slices_swapRangeCmpFunc_int64_impl_sortedBy_1_2_e (N : Nat) : EntM := { io := (.int .i64), ins := [(.int .i64), (.int .i64), (.int .i64), (.clo 83 (.bx (.clo 105 (.bx (.sl (.pair (.int .i64) (.pair (.int .i64) (.pair (.int .i64) (.int .i64)))))))))], outs := [], F := fun xs x => slices_swapRangeCmpFunc_int64_impl_sortedBy_1_2 N xs x.1 x.2.1 x.2.2.1 x.2.2.2.1 }
def slices_swapRangeCmpFunc_int64_impl_sortedBy_1_2_T (_ : Nat) : Nat → List EntX := fun _ => []
def slices_swapRangeCmpFunc_int64_impl_sortedBy_1_2_L : Nat → List (Nat × TK)
  | 1 => [(0, .own (.int .i64)), (10, .v (.int .i64))]
  | _ => []
theorem slices_swapRangeCmpFunc_int64_impl_sortedBy_1_2_eq (N : Nat) : runM N tt (slices_swapRangeCmpFunc_int64_impl_sortedBy_1_2_T N) slices_swapRangeCmpFunc_int64_impl_sortedBy_1_2_L (.int .i64) [(.int .i64), (.int .i64), (.int .i64), (.clo 83 (.bx (.clo 105 (.bx (.sl (.pair (.int .i64) (.pair (.int .i64) (.pair (.int .i64) (.int .i64)))))))))] [] (bodyOf Try.f136) Try.f136.ntmps [] = (slices_swapRangeCmpFunc_int64_impl_sortedBy_1_2_e N).F := by
  funext xs x
  kernel_rfl
theorem slices_swapRangeCmpFunc_int64_impl_sortedBy_1_2_sound (N : Nat) : SoundM Try.prog 136 (slices_swapRangeCmpFunc_int64_impl_sortedBy_1_2_e N) := by
  have h := runM_sound (f := 136) (code := bodyOf Try.f136) (N := N) (T := (slices_swapRangeCmpFunc_int64_impl_sortedBy_1_2_T N)) (L := slices_swapRangeCmpFunc_int64_impl_sortedBy_1_2_L) (io := (.int .i64)) (ins := [(.int .i64), (.int .i64), (.int .i64), (.clo 83 (.bx (.clo 105 (.bx (.sl (.pair (.int .i64) (.pair (.int .i64) (.pair (.int .i64) (.int .i64)))))))))]) (outs := []) (res := []) mixed tt_ok ?_ Try.func136 (by kernel_rfl) rfl (by kernel_rfl) (by kernel_rfl) (by decide +kernel)
  · rw [slices_swapRangeCmpFunc_int64_impl_sortedBy_1_2_eq] at h
    exact h
  · intro f e he
    cases he

/- slices.rotateCmpFunc[int64] -/
def slices_rotateCmpFunc_int64_impl_sortedBy_1_2 (N : Nat) (x0 : List Int) (x1 : Int) (x2 : Int) (x3 : Int) (x4 : List (Int × Int × Int × Int)) : Option (List (Int) × (Unit)) :=
  loopN (fun (s1 : List (Int) × Int × Int × Unit) next2 =>
    cond (s1.2.1 != s1.2.2.1)
      (cond (decide (s1.2.1 > s1.2.2.1))
        (Option.bind (slices_swapRangeCmpFunc_int64_impl_sortedBy_1_2 N s1.1 (w64 (x2 - s1.2.1)) x2 s1.2.2.1 x4) fun r3 =>
        cond (Nat.beq (List.length r3.1) (List.length s1.1))
          (next2 (r3.1, (w64 (s1.2.1 - s1.2.2.1)), s1.2.2.1, ())) none)
        (Option.bind (slices_swapRangeCmpFunc_int64_impl_sortedBy_1_2 N s1.1 (w64 (x2 - s1.2.1)) (w64 ((w64 (x2 + s1.2.2.1)) - s1.2.1)) s1.2.1 x4) fun r4 =>
        cond (Nat.beq (List.length r4.1) (List.length s1.1))
          (next2 (r4.1, s1.2.1, (w64 (s1.2.2.1 - s1.2.1)), ())) none))
      (Option.bind (slices_swapRangeCmpFunc_int64_impl_sortedBy_1_2 N s1.1 (w64 (x2 - s1.2.1)) x2 s1.2.1 x4) fun r5 =>
      cond (Nat.beq (List.length r5.1) (List.length s1.1))
        (some (r5.1, ())) none)) N (x0, (w64 (x2 - x1)), (w64 (x3 - x2)), ())
def slices_rotateCmpFunc_int64_impl_sortedBy_1_2_e (N : Nat) : EntM := { io := (.int .i64), ins := [(.int .i64), (.int .i64), (.int .i64), (.clo 83 (.bx (.clo 105 (.bx (.sl (.pair (.int .i64) (.pair (.int .i64) (.pair (.int .i64) (.int .i64)))))))))], outs := [], F := fun xs x => slices_rotateCmpFunc_int64_impl_sortedBy_1_2 N xs x.1 x.2.1 x.2.2.1 x.2.2.2.1 }
def slices_rotateCmpFunc_int64_impl_sortedBy_1_2_T (N : Nat) : Nat → List EntX
  | 136 => [.mu (slices_swapRangeCmpFunc_int64_impl_sortedBy_1_2_e N)]
  | _ => []
def slices_rotateCmpFunc_int64_impl_sortedBy_1_2_L : Nat → List (Nat × TK)
  | 2 => [(0, .own (.int .i64)), (10, .v (.int .i64)), (11, .v (.int .i64))]
  | _ => []
theorem slices_rotateCmpFunc_int64_impl_sortedBy_1_2_eq (N : Nat) : runM N tt (slices_rotateCmpFunc_int64_impl_sortedBy_1_2_T N) slices_rotateCmpFunc_int64_impl_sortedBy_1_2_L (.int .i64) [(.int .i64), (.int .i64), (.int .i64), (.clo 83 (.bx (.clo 105 (.bx (.sl (.pair (.int .i64) (.pair (.int .i64) (.pair (.int .i64) (.int .i64)))))))))] [] (bodyOf Try.f134) Try.f134.ntmps [] = (slices_rotateCmpFunc_int64_impl_sortedBy_1_2_e N).F := by
  funext xs x
  kernel_rfl
theorem slices_rotateCmpFunc_int64_impl_sortedBy_1_2_sound (N : Nat) : SoundM Try.prog 134 (slices_rotateCmpFunc_int64_impl_sortedBy_1_2_e N) := by
  have h := runM_sound (f := 134) (code := bodyOf Try.f134) (N := N) (T := (slices_rotateCmpFunc_int64_impl_sortedBy_1_2_T N)) (L := slices_rotateCmpFunc_int64_impl_sortedBy_1_2_L) (io := (.int .i64)) (ins := [(.int .i64), (.int .i64), (.int .i64), (.clo 83 (.bx (.clo 105 (.bx (.sl (.pair (.int .i64) (.pair (.int .i64) (.pair (.int .i64) (.int .i64)))))))))]) (outs := []) (res := []) mixed tt_ok ?_ Try.func134 (by kernel_rfl) rfl (by kernel_rfl) (by kernel_rfl) (by decide +kernel)
  · rw [slices_rotateCmpFunc_int64_impl_sortedBy_1_2_eq] at h
    exact h
  · intro f e he
    unfold slices_rotateCmpFunc_int64_impl_sortedBy_1_2_T at he
    split at he
    · rw [List.mem_singleton.1 he]; exact slices_swapRangeCmpFunc_int64_impl_sortedBy_1_2_sound N
    · cases he

/- slices.symMergeCmpFunc[int64] -/
def slices_symMergeCmpFunc_int64_impl_sortedBy_1_2_step (N : Nat) (self : List (Int) → Int → Int → Int → List (Int × Int × Int × Int) → Option (List (Int) × (Unit))) (x0 : List Int) (x1 : Int) (x2 : Int) (x3 : Int) (x4 : List (Int × Int × Int × Int)) : Option (List (Int) × (Unit)) :=
  cond ((w64 (x2 - x1)) == 1)
    (loopN (fun (s1 : Int × Int × Unit) next2 =>
      cond (decide (s1.1 < s1.2.1))
        (cond (inB (IntKind.wrap .i64 (ishr .u64 (IntKind.wrap .u64 (w64 (s1.1 + s1.2.1))) 1)) (List.length x0))
          (Option.bind (x0[(Int.toNat (IntKind.wrap .i64 (ishr .u64 (IntKind.wrap .u64 (w64 (s1.1 + s1.2.1))) 1)))]?) fun v3 =>
          cond (inB x1 (List.length x0))
            (Option.bind (x0[(Int.toNat x1)]?) fun v4 =>
            Option.bind (impl_sortedBy_1_c0_2 N v3 v4 x4) fun r5 =>
            cond (decide (r5.1 < 0))
              (next2 ((w64 ((IntKind.wrap .i64 (ishr .u64 (IntKind.wrap .u64 (w64 (s1.1 + s1.2.1))) 1)) + 1)), s1.2.1, ()))
              (next2 (s1.1, (IntKind.wrap .i64 (ishr .u64 (IntKind.wrap .u64 (w64 (s1.1 + s1.2.1))) 1)), ()))) none) none)
        (loopN (fun (s6 : List (Int) × Int × Unit) next7 =>
          cond (decide (s6.2.1 < (w64 (s1.1 - 1))))
            (cond (inB (w64 (s6.2.1 + 1)) (List.length s6.1))
              (Option.bind (s6.1[(Int.toNat (w64 (s6.2.1 + 1)))]?) fun v8 =>
              cond (inB s6.2.1 (List.length s6.1))
                (Option.bind (s6.1[(Int.toNat s6.2.1)]?) fun v9 =>
                cond (inB s6.2.1 (List.length s6.1))
                  (let xs10 := (List.set s6.1 (Int.toNat s6.2.1) v8)
                  cond (inB (w64 (s6.2.1 + 1)) (List.length xs10))
                    (let xs11 := (List.set xs10 (Int.toNat (w64 (s6.2.1 + 1))) v9)
                    next7 (xs11, (w64 (s6.2.1 + 1)), ())) none) none) none) none)
            (some (s6.1, ()))) N (x0, x1, ()))) N (x2, x3, ()))
    (cond ((w64 (x3 - x2)) == 1)
      (loopN (fun (s12 : Int × Int × Unit) next13 =>
        cond (decide (s12.1 < s12.2.1))
          (cond (inB x2 (List.length x0))
            (Option.bind (x0[(Int.toNat x2)]?) fun v14 =>
            cond (inB (IntKind.wrap .i64 (ishr .u64 (IntKind.wrap .u64 (w64 (s12.1 + s12.2.1))) 1)) (List.length x0))
              (Option.bind (x0[(Int.toNat (IntKind.wrap .i64 (ishr .u64 (IntKind.wrap .u64 (w64 (s12.1 + s12.2.1))) 1)))]?) fun v15 =>
              Option.bind (impl_sortedBy_1_c0_2 N v14 v15 x4) fun r16 =>
              cond (!(decide (r16.1 < 0)))
                (next13 ((w64 ((IntKind.wrap .i64 (ishr .u64 (IntKind.wrap .u64 (w64 (s12.1 + s12.2.1))) 1)) + 1)), s12.2.1, ()))
                (next13 (s12.1, (IntKind.wrap .i64 (ishr .u64 (IntKind.wrap .u64 (w64 (s12.1 + s12.2.1))) 1)), ()))) none) none)
          (loopN (fun (s17 : List (Int) × Int × Unit) next18 =>
            cond (decide (s17.2.1 > s12.1))
              (cond (inB (w64 (s17.2.1 - 1)) (List.length s17.1))
                (Option.bind (s17.1[(Int.toNat (w64 (s17.2.1 - 1)))]?) fun v19 =>
                cond (inB s17.2.1 (List.length s17.1))
                  (Option.bind (s17.1[(Int.toNat s17.2.1)]?) fun v20 =>
                  cond (inB s17.2.1 (List.length s17.1))
                    (let xs21 := (List.set s17.1 (Int.toNat s17.2.1) v19)
                    cond (inB (w64 (s17.2.1 - 1)) (List.length xs21))
                      (let xs22 := (List.set xs21 (Int.toNat (w64 (s17.2.1 - 1))) v20)
                      next18 (xs22, (w64 (s17.2.1 - 1)), ())) none) none) none) none)
              (some (s17.1, ()))) N (x0, x2, ()))) N (x1, x2, ()))
      (cond (decide (x2 > (IntKind.wrap .i64 (ishr .u64 (IntKind.wrap .u64 (w64 (x1 + x3))) 1))))
        (loopN (fun (s23 : Int × Int × Unit) next24 =>
          cond (decide (s23.1 < s23.2.1))
            (cond (inB (w64 ((w64 ((w64 ((IntKind.wrap .i64 (ishr .u64 (IntKind.wrap .u64 (w64 (x1 + x3))) 1)) + x2)) - 1)) - (IntKind.wrap .i64 (ishr .u64 (IntKind.wrap .u64 (w64 (s23.1 + s23.2.1))) 1)))) (List.length x0))
              (Option.bind (x0[(Int.toNat (w64 ((w64 ((w64 ((IntKind.wrap .i64 (ishr .u64 (IntKind.wrap .u64 (w64 (x1 + x3))) 1)) + x2)) - 1)) - (IntKind.wrap .i64 (ishr .u64 (IntKind.wrap .u64 (w64 (s23.1 + s23.2.1))) 1)))))]?) fun v25 =>
              cond (inB (IntKind.wrap .i64 (ishr .u64 (IntKind.wrap .u64 (w64 (s23.1 + s23.2.1))) 1)) (List.length x0))
                (Option.bind (x0[(Int.toNat (IntKind.wrap .i64 (ishr .u64 (IntKind.wrap .u64 (w64 (s23.1 + s23.2.1))) 1)))]?) fun v26 =>
                Option.bind (impl_sortedBy_1_c0_2 N v25 v26 x4) fun r27 =>
                cond (!(decide (r27.1 < 0)))
                  (next24 ((w64 ((IntKind.wrap .i64 (ishr .u64 (IntKind.wrap .u64 (w64 (s23.1 + s23.2.1))) 1)) + 1)), s23.2.1, ()))
                  (next24 (s23.1, (IntKind.wrap .i64 (ishr .u64 (IntKind.wrap .u64 (w64 (s23.1 + s23.2.1))) 1)), ()))) none) none)
            (cond (decide (s23.1 < x2))
              (cond (decide (x2 < (w64 ((w64 ((IntKind.wrap .i64 (ishr .u64 (IntKind.wrap .u64 (w64 (x1 + x3))) 1)) + x2)) - s23.1))))
                (Option.bind (slices_rotateCmpFunc_int64_impl_sortedBy_1_2 N x0 s23.1 x2 (w64 ((w64 ((IntKind.wrap .i64 (ishr .u64 (IntKind.wrap .u64 (w64 (x1 + x3))) 1)) + x2)) - s23.1)) x4) fun r28 =>
                cond (Nat.beq (List.length r28.1) (List.length x0))
                  (cond (decide (x1 < s23.1))
                    (cond (decide (s23.1 < (IntKind.wrap .i64 (ishr .u64 (IntKind.wrap .u64 (w64 (x1 + x3))) 1))))
                      (Option.bind (self r28.1 x1 s23.1 (IntKind.wrap .i64 (ishr .u64 (IntKind.wrap .u64 (w64 (x1 + x3))) 1)) x4) fun r29 =>
                      cond (Nat.beq (List.length r29.1) (List.length r28.1))
                        (cond (decide ((IntKind.wrap .i64 (ishr .u64 (IntKind.wrap .u64 (w64 (x1 + x3))) 1)) < (w64 ((w64 ((IntKind.wrap .i64 (ishr .u64 (IntKind.wrap .u64 (w64 (x1 + x3))) 1)) + x2)) - s23.1))))
                          (cond (decide ((w64 ((w64 ((IntKind.wrap .i64 (ishr .u64 (IntKind.wrap .u64 (w64 (x1 + x3))) 1)) + x2)) - s23.1)) < x3))
                            (Option.bind (self r29.1 (IntKind.wrap .i64 (ishr .u64 (IntKind.wrap .u64 (w64 (x1 + x3))) 1)) (w64 ((w64 ((IntKind.wrap .i64 (ishr .u64 (IntKind.wrap .u64 (w64 (x1 + x3))) 1)) + x2)) - s23.1)) x3 x4) fun r30 =>
                            cond (Nat.beq (List.length r30.1) (List.length r29.1))
                              (some (r30.1, ())) none)
                            (some (r29.1, ())))
                          (some (r29.1, ()))) none)
                      (cond (decide ((IntKind.wrap .i64 (ishr .u64 (IntKind.wrap .u64 (w64 (x1 + x3))) 1)) < (w64 ((w64 ((IntKind.wrap .i64 (ishr .u64 (IntKind.wrap .u64 (w64 (x1 + x3))) 1)) + x2)) - s23.1))))
                        (cond (decide ((w64 ((w64 ((IntKind.wrap .i64 (ishr .u64 (IntKind.wrap .u64 (w64 (x1 + x3))) 1)) + x2)) - s23.1)) < x3))
                          (Option.bind (self r28.1 (IntKind.wrap .i64 (ishr .u64 (IntKind.wrap .u64 (w64 (x1 + x3))) 1)) (w64 ((w64 ((IntKind.wrap .i64 (ishr .u64 (IntKind.wrap .u64 (w64 (x1 + x3))) 1)) + x2)) - s23.1)) x3 x4) fun r31 =>
                          cond (Nat.beq (List.length r31.1) (List.length r28.1))
                            (some (r31.1, ())) none)
                          (some (r28.1, ())))
                        (some (r28.1, ()))))
                    (cond (decide ((IntKind.wrap .i64 (ishr .u64 (IntKind.wrap .u64 (w64 (x1 + x3))) 1)) < (w64 ((w64 ((IntKind.wrap .i64 (ishr .u64 (IntKind.wrap .u64 (w64 (x1 + x3))) 1)) + x2)) - s23.1))))
                      (cond (decide ((w64 ((w64 ((IntKind.wrap .i64 (ishr .u64 (IntKind.wrap .u64 (w64 (x1 + x3))) 1)) + x2)) - s23.1)) < x3))
                        (Option.bind (self r28.1 (IntKind.wrap .i64 (ishr .u64 (IntKind.wrap .u64 (w64 (x1 + x3))) 1)) (w64 ((w64 ((IntKind.wrap .i64 (ishr .u64 (IntKind.wrap .u64 (w64 (x1 + x3))) 1)) + x2)) - s23.1)) x3 x4) fun r32 =>
                        cond (Nat.beq (List.length r32.1) (List.length r28.1))
                          (some (r32.1, ())) none)
                        (some (r28.1, ())))
                      (some (r28.1, ())))) none)
                (cond (decide (x1 < s23.1))
                  (cond (decide (s23.1 < (IntKind.wrap .i64 (ishr .u64 (IntKind.wrap .u64 (w64 (x1 + x3))) 1))))
                    (Option.bind (self x0 x1 s23.1 (IntKind.wrap .i64 (ishr .u64 (IntKind.wrap .u64 (w64 (x1 + x3))) 1)) x4) fun r33 =>
                    cond (Nat.beq (List.length r33.1) (List.length x0))
                      (cond (decide ((IntKind.wrap .i64 (ishr .u64 (IntKind.wrap .u64 (w64 (x1 + x3))) 1)) < (w64 ((w64 ((IntKind.wrap .i64 (ishr .u64 (IntKind.wrap .u64 (w64 (x1 + x3))) 1)) + x2)) - s23.1))))
                        (cond (decide ((w64 ((w64 ((IntKind.wrap .i64 (ishr .u64 (IntKind.wrap .u64 (w64 (x1 + x3))) 1)) + x2)) - s23.1)) < x3))
                          (Option.bind (self r33.1 (IntKind.wrap .i64 (ishr .u64 (IntKind.wrap .u64 (w64 (x1 + x3))) 1)) (w64 ((w64 ((IntKind.wrap .i64 (ishr .u64 (IntKind.wrap .u64 (w64 (x1 + x3))) 1)) + x2)) - s23.1)) x3 x4) fun r34 =>
                          cond (Nat.beq (List.length r34.1) (List.length r33.1))
                            (some (r34.1, ())) none)
                          (some (r33.1, ())))
                        (some (r33.1, ()))) none)
                    (cond (decide ((IntKind.wrap .i64 (ishr .u64 (IntKind.wrap .u64 (w64 (x1 + x3))) 1)) < (w64 ((w64 ((IntKind.wrap .i64 (ishr .u64 (IntKind.wrap .u64 (w64 (x1 + x3))) 1)) + x2)) - s23.1))))
                      (cond (decide ((w64 ((w64 ((IntKind.wrap .i64 (ishr .u64 (IntKind.wrap .u64 (w64 (x1 + x3))) 1)) + x2)) - s23.1)) < x3))
                        (Option.bind (self x0 (IntKind.wrap .i64 (ishr .u64 (IntKind.wrap .u64 (w64 (x1 + x3))) 1)) (w64 ((w64 ((IntKind.wrap .i64 (ishr .u64 (IntKind.wrap .u64 (w64 (x1 + x3))) 1)) + x2)) - s23.1)) x3 x4) fun r35 =>
                        cond (Nat.beq (List.length r35.1) (List.length x0))
                          (some (r35.1, ())) none)
                        (some (x0, ())))
                      (some (x0, ()))))
                  (cond (decide ((IntKind.wrap .i64 (ishr .u64 (IntKind.wrap .u64 (w64 (x1 + x3))) 1)) < (w64 ((w64 ((IntKind.wrap .i64 (ishr .u64 (IntKind.wrap .u64 (w64 (x1 + x3))) 1)) + x2)) - s23.1))))
                    (cond (decide ((w64 ((w64 ((IntKind.wrap .i64 (ishr .u64 (IntKind.wrap .u64 (w64 (x1 + x3))) 1)) + x2)) - s23.1)) < x3))
                      (Option.bind (self x0 (IntKind.wrap .i64 (ishr .u64 (IntKind.wrap .u64 (w64 (x1 + x3))) 1)) (w64 ((w64 ((IntKind.wrap .i64 (ishr .u64 (IntKind.wrap .u64 (w64 (x1 + x3))) 1)) + x2)) - s23.1)) x3 x4) fun r36 =>
                      cond (Nat.beq (List.length r36.1) (List.length x0))
                        (some (r36.1, ())) none)
                      (some (x0, ())))
                    (some (x0, ())))))
              (cond (decide (x1 < s23.1))
                (cond (decide (s23.1 < (IntKind.wrap .i64 (ishr .u64 (IntKind.wrap .u64 (w64 (x1 + x3))) 1))))
                  (Option.bind (self x0 x1 s23.1 (IntKind.wrap .i64 (ishr .u64 (IntKind.wrap .u64 (w64 (x1 + x3))) 1)) x4) fun r37 =>
                  cond (Nat.beq (List.length r37.1) (List.length x0))
                    (cond (decide ((IntKind.wrap .i64 (ishr .u64 (IntKind.wrap .u64 (w64 (x1 + x3))) 1)) < (w64 ((w64 ((IntKind.wrap .i64 (ishr .u64 (IntKind.wrap .u64 (w64 (x1 + x3))) 1)) + x2)) - s23.1))))
                      (cond (decide ((w64 ((w64 ((IntKind.wrap .i64 (ishr .u64 (IntKind.wrap .u64 (w64 (x1 + x3))) 1)) + x2)) - s23.1)) < x3))
                        (Option.bind (self r37.1 (IntKind.wrap .i64 (ishr .u64 (IntKind.wrap .u64 (w64 (x1 + x3))) 1)) (w64 ((w64 ((IntKind.wrap .i64 (ishr .u64 (IntKind.wrap .u64 (w64 (x1 + x3))) 1)) + x2)) - s23.1)) x3 x4) fun r38 =>
                        cond (Nat.beq (List.length r38.1) (List.length r37.1))
                          (some (r38.1, ())) none)
                        (some (r37.1, ())))
                      (some (r37.1, ()))) none)
                  (cond (decide ((IntKind.wrap .i64 (ishr .u64 (IntKind.wrap .u64 (w64 (x1 + x3))) 1)) < (w64 ((w64 ((IntKind.wrap .i64 (ishr .u64 (IntKind.wrap .u64 (w64 (x1 + x3))) 1)) + x2)) - s23.1))))
                    (cond (decide ((w64 ((w64 ((IntKind.wrap .i64 (ishr .u64 (IntKind.wrap .u64 (w64 (x1 + x3))) 1)) + x2)) - s23.1)) < x3))
                      (Option.bind (self x0 (IntKind.wrap .i64 (ishr .u64 (IntKind.wrap .u64 (w64 (x1 + x3))) 1)) (w64 ((w64 ((IntKind.wrap .i64 (ishr .u64 (IntKind.wrap .u64 (w64 (x1 + x3))) 1)) + x2)) - s23.1)) x3 x4) fun r39 =>
                      cond (Nat.beq (List.length r39.1) (List.length x0))
                        (some (r39.1, ())) none)
                      (some (x0, ())))
                    (some (x0, ()))))
                (cond (decide ((IntKind.wrap .i64 (ishr .u64 (IntKind.wrap .u64 (w64 (x1 + x3))) 1)) < (w64 ((w64 ((IntKind.wrap .i64 (ishr .u64 (IntKind.wrap .u64 (w64 (x1 + x3))) 1)) + x2)) - s23.1))))
                  (cond (decide ((w64 ((w64 ((IntKind.wrap .i64 (ishr .u64 (IntKind.wrap .u64 (w64 (x1 + x3))) 1)) + x2)) - s23.1)) < x3))
                    (Option.bind (self x0 (IntKind.wrap .i64 (ishr .u64 (IntKind.wrap .u64 (w64 (x1 + x3))) 1)) (w64 ((w64 ((IntKind.wrap .i64 (ishr .u64 (IntKind.wrap .u64 (w64 (x1 + x3))) 1)) + x2)) - s23.1)) x3 x4) fun r40 =>
                    cond (Nat.beq (List.length r40.1) (List.length x0))
                      (some (r40.1, ())) none)
                    (some (x0, ())))
                  (some (x0, ())))))) N ((w64 ((w64 ((IntKind.wrap .i64 (ishr .u64 (IntKind.wrap .u64 (w64 (x1 + x3))) 1)) + x2)) - x3)), (IntKind.wrap .i64 (ishr .u64 (IntKind.wrap .u64 (w64 (x1 + x3))) 1)), ()))
        (loopN (fun (s41 : Int × Int × Unit) next42 =>
          cond (decide (s41.1 < s41.2.1))
            (cond (inB (w64 ((w64 ((w64 ((IntKind.wrap .i64 (ishr .u64 (IntKind.wrap .u64 (w64 (x1 + x3))) 1)) + x2)) - 1)) - (IntKind.wrap .i64 (ishr .u64 (IntKind.wrap .u64 (w64 (s41.1 + s41.2.1))) 1)))) (List.length x0))
              (Option.bind (x0[(Int.toNat (w64 ((w64 ((w64 ((IntKind.wrap .i64 (ishr .u64 (IntKind.wrap .u64 (w64 (x1 + x3))) 1)) + x2)) - 1)) - (IntKind.wrap .i64 (ishr .u64 (IntKind.wrap .u64 (w64 (s41.1 + s41.2.1))) 1)))))]?) fun v43 =>
              cond (inB (IntKind.wrap .i64 (ishr .u64 (IntKind.wrap .u64 (w64 (s41.1 + s41.2.1))) 1)) (List.length x0))
                (Option.bind (x0[(Int.toNat (IntKind.wrap .i64 (ishr .u64 (IntKind.wrap .u64 (w64 (s41.1 + s41.2.1))) 1)))]?) fun v44 =>
                Option.bind (impl_sortedBy_1_c0_2 N v43 v44 x4) fun r45 =>
                cond (!(decide (r45.1 < 0)))
                  (next42 ((w64 ((IntKind.wrap .i64 (ishr .u64 (IntKind.wrap .u64 (w64 (s41.1 + s41.2.1))) 1)) + 1)), s41.2.1, ()))
                  (next42 (s41.1, (IntKind.wrap .i64 (ishr .u64 (IntKind.wrap .u64 (w64 (s41.1 + s41.2.1))) 1)), ()))) none) none)
            (cond (decide (s41.1 < x2))
              (cond (decide (x2 < (w64 ((w64 ((IntKind.wrap .i64 (ishr .u64 (IntKind.wrap .u64 (w64 (x1 + x3))) 1)) + x2)) - s41.1))))
                (Option.bind (slices_rotateCmpFunc_int64_impl_sortedBy_1_2 N x0 s41.1 x2 (w64 ((w64 ((IntKind.wrap .i64 (ishr .u64 (IntKind.wrap .u64 (w64 (x1 + x3))) 1)) + x2)) - s41.1)) x4) fun r46 =>
                cond (Nat.beq (List.length r46.1) (List.length x0))
                  (cond (decide (x1 < s41.1))
                    (cond (decide (s41.1 < (IntKind.wrap .i64 (ishr .u64 (IntKind.wrap .u64 (w64 (x1 + x3))) 1))))
                      (Option.bind (self r46.1 x1 s41.1 (IntKind.wrap .i64 (ishr .u64 (IntKind.wrap .u64 (w64 (x1 + x3))) 1)) x4) fun r47 =>
                      cond (Nat.beq (List.length r47.1) (List.length r46.1))
                        (cond (decide ((IntKind.wrap .i64 (ishr .u64 (IntKind.wrap .u64 (w64 (x1 + x3))) 1)) < (w64 ((w64 ((IntKind.wrap .i64 (ishr .u64 (IntKind.wrap .u64 (w64 (x1 + x3))) 1)) + x2)) - s41.1))))
                          (cond (decide ((w64 ((w64 ((IntKind.wrap .i64 (ishr .u64 (IntKind.wrap .u64 (w64 (x1 + x3))) 1)) + x2)) - s41.1)) < x3))
                            (Option.bind (self r47.1 (IntKind.wrap .i64 (ishr .u64 (IntKind.wrap .u64 (w64 (x1 + x3))) 1)) (w64 ((w64 ((IntKind.wrap .i64 (ishr .u64 (IntKind.wrap .u64 (w64 (x1 + x3))) 1)) + x2)) - s41.1)) x3 x4) fun r48 =>
                            cond (Nat.beq (List.length r48.1) (List.length r47.1))
                              (some (r48.1, ())) none)
                            (some (r47.1, ())))
                          (some (r47.1, ()))) none)
                      (cond (decide ((IntKind.wrap .i64 (ishr .u64 (IntKind.wrap .u64 (w64 (x1 + x3))) 1)) < (w64 ((w64 ((IntKind.wrap .i64 (ishr .u64 (IntKind.wrap .u64 (w64 (x1 + x3))) 1)) + x2)) - s41.1))))
                        (cond (decide ((w64 ((w64 ((IntKind.wrap .i64 (ishr .u64 (IntKind.wrap .u64 (w64 (x1 + x3))) 1)) + x2)) - s41.1)) < x3))
                          (Option.bind (self r46.1 (IntKind.wrap .i64 (ishr .u64 (IntKind.wrap .u64 (w64 (x1 + x3))) 1)) (w64 ((w64 ((IntKind.wrap .i64 (ishr .u64 (IntKind.wrap .u64 (w64 (x1 + x3))) 1)) + x2)) - s41.1)) x3 x4) fun r49 =>
                          cond (Nat.beq (List.length r49.1) (List.length r46.1))
                            (some (r49.1, ())) none)
                          (some (r46.1, ())))
                        (some (r46.1, ()))))
                    (cond (decide ((IntKind.wrap .i64 (ishr .u64 (IntKind.wrap .u64 (w64 (x1 + x3))) 1)) < (w64 ((w64 ((IntKind.wrap .i64 (ishr .u64 (IntKind.wrap .u64 (w64 (x1 + x3))) 1)) + x2)) - s41.1))))
                      (cond (decide ((w64 ((w64 ((IntKind.wrap .i64 (ishr .u64 (IntKind.wrap .u64 (w64 (x1 + x3))) 1)) + x2)) - s41.1)) < x3))
                        (Option.bind (self r46.1 (IntKind.wrap .i64 (ishr .u64 (IntKind.wrap .u64 (w64 (x1 + x3))) 1)) (w64 ((w64 ((IntKind.wrap .i64 (ishr .u64 (IntKind.wrap .u64 (w64 (x1 + x3))) 1)) + x2)) - s41.1)) x3 x4) fun r50 =>
                        cond (Nat.beq (List.length r50.1) (List.length r46.1))
                          (some (r50.1, ())) none)
                        (some (r46.1, ())))
                      (some (r46.1, ())))) none)
                (cond (decide (x1 < s41.1))
                  (cond (decide (s41.1 < (IntKind.wrap .i64 (ishr .u64 (IntKind.wrap .u64 (w64 (x1 + x3))) 1))))
                    (Option.bind (self x0 x1 s41.1 (IntKind.wrap .i64 (ishr .u64 (IntKind.wrap .u64 (w64 (x1 + x3))) 1)) x4) fun r51 =>
                    cond (Nat.beq (List.length r51.1) (List.length x0))
                      (cond (decide ((IntKind.wrap .i64 (ishr .u64 (IntKind.wrap .u64 (w64 (x1 + x3))) 1)) < (w64 ((w64 ((IntKind.wrap .i64 (ishr .u64 (IntKind.wrap .u64 (w64 (x1 + x3))) 1)) + x2)) - s41.1))))
                        (cond (decide ((w64 ((w64 ((IntKind.wrap .i64 (ishr .u64 (IntKind.wrap .u64 (w64 (x1 + x3))) 1)) + x2)) - s41.1)) < x3))
                          (Option.bind (self r51.1 (IntKind.wrap .i64 (ishr .u64 (IntKind.wrap .u64 (w64 (x1 + x3))) 1)) (w64 ((w64 ((IntKind.wrap .i64 (ishr .u64 (IntKind.wrap .u64 (w64 (x1 + x3))) 1)) + x2)) - s41.1)) x3 x4) fun r52 =>
                          cond (Nat.beq (List.length r52.1) (List.length r51.1))
                            (some (r52.1, ())) none)
                          (some (r51.1, ())))
                        (some (r51.1, ()))) none)
                    (cond (decide ((IntKind.wrap .i64 (ishr .u64 (IntKind.wrap .u64 (w64 (x1 + x3))) 1)) < (w64 ((w64 ((IntKind.wrap .i64 (ishr .u64 (IntKind.wrap .u64 (w64 (x1 + x3))) 1)) + x2)) - s41.1))))
                      (cond (decide ((w64 ((w64 ((IntKind.wrap .i64 (ishr .u64 (IntKind.wrap .u64 (w64 (x1 + x3))) 1)) + x2)) - s41.1)) < x3))
                        (Option.bind (self x0 (IntKind.wrap .i64 (ishr .u64 (IntKind.wrap .u64 (w64 (x1 + x3))) 1)) (w64 ((w64 ((IntKind.wrap .i64 (ishr .u64 (IntKind.wrap .u64 (w64 (x1 + x3))) 1)) + x2)) - s41.1)) x3 x4) fun r53 =>
                        cond (Nat.beq (List.length r53.1) (List.length x0))
                          (some (r53.1, ())) none)
                        (some (x0, ())))
                      (some (x0, ()))))
                  (cond (decide ((IntKind.wrap .i64 (ishr .u64 (IntKind.wrap .u64 (w64 (x1 + x3))) 1)) < (w64 ((w64 ((IntKind.wrap .i64 (ishr .u64 (IntKind.wrap .u64 (w64 (x1 + x3))) 1)) + x2)) - s41.1))))
                    (cond (decide ((w64 ((w64 ((IntKind.wrap .i64 (ishr .u64 (IntKind.wrap .u64 (w64 (x1 + x3))) 1)) + x2)) - s41.1)) < x3))
                      (Option.bind (self x0 (IntKind.wrap .i64 (ishr .u64 (IntKind.wrap .u64 (w64 (x1 + x3))) 1)) (w64 ((w64 ((IntKind.wrap .i64 (ishr .u64 (IntKind.wrap .u64 (w64 (x1 + x3))) 1)) + x2)) - s41.1)) x3 x4) fun r54 =>
                      cond (Nat.beq (List.length r54.1) (List.length x0))
                        (some (r54.1, ())) none)
                      (some (x0, ())))
                    (some (x0, ())))))
              (cond (decide (x1 < s41.1))
                (cond (decide (s41.1 < (IntKind.wrap .i64 (ishr .u64 (IntKind.wrap .u64 (w64 (x1 + x3))) 1))))
                  (Option.bind (self x0 x1 s41.1 (IntKind.wrap .i64 (ishr .u64 (IntKind.wrap .u64 (w64 (x1 + x3))) 1)) x4) fun r55 =>
                  cond (Nat.beq (List.length r55.1) (List.length x0))
                    (cond (decide ((IntKind.wrap .i64 (ishr .u64 (IntKind.wrap .u64 (w64 (x1 + x3))) 1)) < (w64 ((w64 ((IntKind.wrap .i64 (ishr .u64 (IntKind.wrap .u64 (w64 (x1 + x3))) 1)) + x2)) - s41.1))))
                      (cond (decide ((w64 ((w64 ((IntKind.wrap .i64 (ishr .u64 (IntKind.wrap .u64 (w64 (x1 + x3))) 1)) + x2)) - s41.1)) < x3))
                        (Option.bind (self r55.1 (IntKind.wrap .i64 (ishr .u64 (IntKind.wrap .u64 (w64 (x1 + x3))) 1)) (w64 ((w64 ((IntKind.wrap .i64 (ishr .u64 (IntKind.wrap .u64 (w64 (x1 + x3))) 1)) + x2)) - s41.1)) x3 x4) fun r56 =>
                        cond (Nat.beq (List.length r56.1) (List.length r55.1))
                          (some (r56.1, ())) none)
                        (some (r55.1, ())))
                      (some (r55.1, ()))) none)
                  (cond (decide ((IntKind.wrap .i64 (ishr .u64 (IntKind.wrap .u64 (w64 (x1 + x3))) 1)) < (w64 ((w64 ((IntKind.wrap .i64 (ishr .u64 (IntKind.wrap .u64 (w64 (x1 + x3))) 1)) + x2)) - s41.1))))
                    (cond (decide ((w64 ((w64 ((IntKind.wrap .i64 (ishr .u64 (IntKind.wrap .u64 (w64 (x1 + x3))) 1)) + x2)) - s41.1)) < x3))
                      (Option.bind (self x0 (IntKind.wrap .i64 (ishr .u64 (IntKind.wrap .u64 (w64 (x1 + x3))) 1)) (w64 ((w64 ((IntKind.wrap .i64 (ishr .u64 (IntKind.wrap .u64 (w64 (x1 + x3))) 1)) + x2)) - s41.1)) x3 x4) fun r57 =>
                      cond (Nat.beq (List.length r57.1) (List.length x0))
                        (some (r57.1, ())) none)
                      (some (x0, ())))
                    (some (x0, ()))))
                (cond (decide ((IntKind.wrap .i64 (ishr .u64 (IntKind.wrap .u64 (w64 (x1 + x3))) 1)) < (w64 ((w64 ((IntKind.wrap .i64 (ishr .u64 (IntKind.wrap .u64 (w64 (x1 + x3))) 1)) + x2)) - s41.1))))
                  (cond (decide ((w64 ((w64 ((IntKind.wrap .i64 (ishr .u64 (IntKind.wrap .u64 (w64 (x1 + x3))) 1)) + x2)) - s41.1)) < x3))
                    (Option.bind (self x0 (IntKind.wrap .i64 (ishr .u64 (IntKind.wrap .u64 (w64 (x1 + x3))) 1)) (w64 ((w64 ((IntKind.wrap .i64 (ishr .u64 (IntKind.wrap .u64 (w64 (x1 + x3))) 1)) + x2)) - s41.1)) x3 x4) fun r58 =>
                    cond (Nat.beq (List.length r58.1) (List.length x0))
                      (some (r58.1, ())) none)
                    (some (x0, ())))
                  (some (x0, ())))))) N (x1, x2, ()))))
def slices_symMergeCmpFunc_int64_impl_sortedBy_1_2_r (N : Nat) : Nat → List (Int) → Int → Int → Int → List (Int × Int × Int × Int) → Option (List (Int) × (Unit))
  | 0 => fun _ _ _ _ _ => none
  | F + 1 => slices_symMergeCmpFunc_int64_impl_sortedBy_1_2_step N (slices_symMergeCmpFunc_int64_impl_sortedBy_1_2_r N F)
def slices_symMergeCmpFunc_int64_impl_sortedBy_1_2 (N : Nat) (x0 : List Int) (x1 : Int) (x2 : Int) (x3 : Int) (x4 : List (Int × Int × Int × Int)) : Option (List (Int) × (Unit)) := slices_symMergeCmpFunc_int64_impl_sortedBy_1_2_r N N x0 x1 x2 x3 x4
def slices_symMergeCmpFunc_int64_impl_sortedBy_1_2_ef (N F : Nat) : EntM := { io := (.int .i64), ins := [(.int .i64), (.int .i64), (.int .i64), (.clo 83 (.bx (.clo 105 (.bx (.sl (.pair (.int .i64) (.pair (.int .i64) (.pair (.int .i64) (.int .i64)))))))))], outs := [], F := fun xs x => slices_symMergeCmpFunc_int64_impl_sortedBy_1_2_r N F xs x.1 x.2.1 x.2.2.1 x.2.2.2.1 }
def slices_symMergeCmpFunc_int64_impl_sortedBy_1_2_e (N : Nat) : EntM := slices_symMergeCmpFunc_int64_impl_sortedBy_1_2_ef N N
def slices_symMergeCmpFunc_int64_impl_sortedBy_1_2_T (N F : Nat) : Nat → List EntX
  | 83 => [.pl (impl_sortedBy_1_c0_2_e N)]
  | 130 => [.mu (slices_symMergeCmpFunc_int64_impl_sortedBy_1_2_ef N F)]
  | 134 => [.mu (slices_rotateCmpFunc_int64_impl_sortedBy_1_2_e N)]
  | _ => []
def slices_symMergeCmpFunc_int64_impl_sortedBy_1_2_L : Nat → List (Nat × TK)
  | 3 => [(10, .v (.int .i64)), (11, .v (.int .i64))]
  | 9 => [(0, .own (.int .i64)), (13, .v (.int .i64))]
  | 15 => [(14, .v (.int .i64)), (15, .v (.int .i64))]
  | 21 => [(0, .own (.int .i64)), (17, .v (.int .i64))]
  | 33 => [(20, .v (.int .i64)), (21, .v (.int .i64))]
  | _ => []
theorem slices_symMergeCmpFunc_int64_impl_sortedBy_1_2_eq (N F : Nat) : runM N tt (slices_symMergeCmpFunc_int64_impl_sortedBy_1_2_T N F) slices_symMergeCmpFunc_int64_impl_sortedBy_1_2_L (.int .i64) [(.int .i64), (.int .i64), (.int .i64), (.clo 83 (.bx (.clo 105 (.bx (.sl (.pair (.int .i64) (.pair (.int .i64) (.pair (.int .i64) (.int .i64)))))))))] [] (bodyOf Try.f130) Try.f130.ntmps [] = (fun xs x => slices_symMergeCmpFunc_int64_impl_sortedBy_1_2_step N (slices_symMergeCmpFunc_int64_impl_sortedBy_1_2_r N F) xs x.1 x.2.1 x.2.2.1 x.2.2.2.1) := by
  funext xs x
  kernel_rfl
theorem slices_symMergeCmpFunc_int64_impl_sortedBy_1_2_soundf (N F : Nat) : SoundM Try.prog 130 (slices_symMergeCmpFunc_int64_impl_sortedBy_1_2_ef N F) := by
  induction F with
  | zero =>
    intro p w v ob vals xs x z _ _ _ _ _ hF
    exact absurd (show none = some _ from hF) (by simp)
  | succ F ih =>
    have h := runM_sound (f := 130) (code := bodyOf Try.f130) (N := N) (T := (slices_symMergeCmpFunc_int64_impl_sortedBy_1_2_T N F)) (L := slices_symMergeCmpFunc_int64_impl_sortedBy_1_2_L) (io := (.int .i64)) (ins := [(.int .i64), (.int .i64), (.int .i64), (.clo 83 (.bx (.clo 105 (.bx (.sl (.pair (.int .i64) (.pair (.int .i64) (.pair (.int .i64) (.int .i64)))))))))]) (outs := []) (res := []) mixed tt_ok ?_ Try.func130 (by kernel_rfl) rfl (by kernel_rfl) (by kernel_rfl) (by decide +kernel)
    · rw [slices_symMergeCmpFunc_int64_impl_sortedBy_1_2_eq] at h
      exact h
    · intro f e he
      unfold slices_symMergeCmpFunc_int64_impl_sortedBy_1_2_T at he
      split at he
      · rw [List.mem_singleton.1 he]; exact impl_sortedBy_1_c0_2_sound N
      · rw [List.mem_singleton.1 he]; exact ih
      · rw [List.mem_singleton.1 he]; exact slices_rotateCmpFunc_int64_impl_sortedBy_1_2_sound N
      · cases he
theorem slices_symMergeCmpFunc_int64_impl_sortedBy_1_2_sound (N : Nat) : SoundM Try.prog 130 (slices_symMergeCmpFunc_int64_impl_sortedBy_1_2_e N) := slices_symMergeCmpFunc_int64_impl_sortedBy_1_2_soundf N N

/- slices.stableCmpFunc[int64] -/
def slices_stableCmpFunc_int64_impl_sortedBy_1_2 (N : Nat) (x0 : List Int) (x1 : Int) (x2 : List (Int × Int × Int × Int)) : Option (List (Int) × (Unit)) :=
  loopN (fun (s1 : List (Int) × Int × Int × Unit) next2 =>
    cond (decide (s1.2.2.1 ≤ x1))
      (Option.bind (slices_insertionSortCmpFunc_int64_impl_sortedBy_1_2 N s1.1 s1.2.1 s1.2.2.1 x2) fun r3 =>
      cond (Nat.beq (List.length r3.1) (List.length s1.1))
        (next2 (r3.1, s1.2.2.1, (w64 (s1.2.2.1 + 20)), ())) none)
      (Option.bind (slices_insertionSortCmpFunc_int64_impl_sortedBy_1_2 N s1.1 s1.2.1 x1 x2) fun r4 =>
      cond (Nat.beq (List.length r4.1) (List.length s1.1))
        (loopN (fun (s5 : List (Int) × Int × Unit) next6 =>
          cond (decide (s5.2.1 < x1))
            (loopN (fun (s7 : List (Int) × Int × Int × Unit) next8 =>
              cond (decide (s7.2.2.1 ≤ x1))
                (Option.bind (slices_symMergeCmpFunc_int64_impl_sortedBy_1_2 N s7.1 s7.2.1 (w64 (s7.2.1 + s5.2.1)) s7.2.2.1 x2) fun r9 =>
                cond (Nat.beq (List.length r9.1) (List.length s7.1))
                  (next8 (r9.1, s7.2.2.1, (w64 (s7.2.2.1 + (w64 (2 * s5.2.1)))), ())) none)
                (cond (decide ((w64 (s7.2.1 + s5.2.1)) < x1))
                  (Option.bind (slices_symMergeCmpFunc_int64_impl_sortedBy_1_2 N s7.1 s7.2.1 (w64 (s7.2.1 + s5.2.1)) x1 x2) fun r10 =>
                  cond (Nat.beq (List.length r10.1) (List.length s7.1))
                    (next6 (r10.1, (w64 (s5.2.1 * 2)), ())) none)
                  (next6 (s7.1, (w64 (s5.2.1 * 2)), ())))) N (s5.1, 0, (w64 (2 * s5.2.1)), ()))
            (some (s5.1, ()))) N (r4.1, 20, ())) none)) N (x0, 0, 20, ())
def slices_stableCmpFunc_int64_impl_sortedBy_1_2_e (N : Nat) : EntM := { io := (.int .i64), ins := [(.int .i64), (.clo 83 (.bx (.clo 105 (.bx (.sl (.pair (.int .i64) (.pair (.int .i64) (.pair (.int .i64) (.int .i64)))))))))], outs := [], F := fun xs x => slices_stableCmpFunc_int64_impl_sortedBy_1_2 N xs x.1 x.2.1 }
def slices_stableCmpFunc_int64_impl_sortedBy_1_2_T (N : Nat) : Nat → List EntX
  | 129 => [.mu (slices_insertionSortCmpFunc_int64_impl_sortedBy_1_2_e N)]
  | 130 => [.mu (slices_symMergeCmpFunc_int64_impl_sortedBy_1_2_e N)]
  | _ => []
def slices_stableCmpFunc_int64_impl_sortedBy_1_2_L : Nat → List (Nat × TK)
  | 2 => [(0, .own (.int .i64)), (7, .v (.int .i64)), (8, .v (.int .i64))]
  | 7 => [(0, .own (.int .i64)), (6, .v (.int .i64))]
  | 9 => [(0, .own (.int .i64)), (7, .v (.int .i64)), (8, .v (.int .i64))]
  | _ => []
theorem slices_stableCmpFunc_int64_impl_sortedBy_1_2_eq (N : Nat) : runM N tt (slices_stableCmpFunc_int64_impl_sortedBy_1_2_T N) slices_stableCmpFunc_int64_impl_sortedBy_1_2_L (.int .i64) [(.int .i64), (.clo 83 (.bx (.clo 105 (.bx (.sl (.pair (.int .i64) (.pair (.int .i64) (.pair (.int .i64) (.int .i64)))))))))] [] (bodyOf Try.f119) Try.f119.ntmps [] = (slices_stableCmpFunc_int64_impl_sortedBy_1_2_e N).F := by
  funext xs x
  kernel_rfl
theorem slices_stableCmpFunc_int64_impl_sortedBy_1_2_sound (N : Nat) : SoundM Try.prog 119 (slices_stableCmpFunc_int64_impl_sortedBy_1_2_e N) := by
  have h := runM_sound (f := 119) (code := bodyOf Try.f119) (N := N) (T := (slices_stableCmpFunc_int64_impl_sortedBy_1_2_T N)) (L := slices_stableCmpFunc_int64_impl_sortedBy_1_2_L) (io := (.int .i64)) (ins := [(.int .i64), (.clo 83 (.bx (.clo 105 (.bx (.sl (.pair (.int .i64) (.pair (.int .i64) (.pair (.int .i64) (.int .i64)))))))))]) (outs := []) (res := []) mixed tt_ok ?_ Try.func119 (by kernel_rfl) rfl (by kernel_rfl) (by kernel_rfl) (by decide +kernel)
  · rw [slices_stableCmpFunc_int64_impl_sortedBy_1_2_eq] at h
    exact h
  · intro f e he
    unfold slices_stableCmpFunc_int64_impl_sortedBy_1_2_T at he
    split at he
    · rw [List.mem_singleton.1 he]; exact slices_insertionSortCmpFunc_int64_impl_sortedBy_1_2_sound N
    · rw [List.mem_singleton.1 he]; exact slices_symMergeCmpFunc_int64_impl_sortedBy_1_2_sound N
    · cases he

/- slices.SortStableFunc[[]int64,int64] -/
def slices_SortStableFunc_int64_int64_impl_sortedBy_1_2 (N : Nat) (x0 : List Int) (x1 : List (Int × Int × Int × Int)) : Option (List (Int) × (Unit)) :=
  Option.bind (slices_stableCmpFunc_int64_impl_sortedBy_1_2 N x0 (List.length x0 : Int) x1) fun r1 =>
  cond (Nat.beq (List.length r1.1) (List.length x0))
    (some (r1.1, ())) none
def slices_SortStableFunc_int64_int64_impl_sortedBy_1_2_e (N : Nat) : EntM := { io := (.int .i64), ins := [(.clo 83 (.bx (.clo 105 (.bx (.sl (.pair (.int .i64) (.pair (.int .i64) (.pair (.int .i64) (.int .i64)))))))))], outs := [], F := fun xs x => slices_SortStableFunc_int64_int64_impl_sortedBy_1_2 N xs x.1 }
def slices_SortStableFunc_int64_int64_impl_sortedBy_1_2_T (N : Nat) : Nat → List EntX
  | 119 => [.mu (slices_stableCmpFunc_int64_impl_sortedBy_1_2_e N)]
  | _ => []
def slices_SortStableFunc_int64_int64_impl_sortedBy_1_2_L : Nat → List (Nat × TK) := fun _ => []
theorem slices_SortStableFunc_int64_int64_impl_sortedBy_1_2_eq (N : Nat) : runM N tt (slices_SortStableFunc_int64_int64_impl_sortedBy_1_2_T N) slices_SortStableFunc_int64_int64_impl_sortedBy_1_2_L (.int .i64) [(.clo 83 (.bx (.clo 105 (.bx (.sl (.pair (.int .i64) (.pair (.int .i64) (.pair (.int .i64) (.int .i64)))))))))] [] (bodyOf Try.f82) Try.f82.ntmps [] = (slices_SortStableFunc_int64_int64_impl_sortedBy_1_2_e N).F := by
  funext xs x
  kernel_rfl
theorem slices_SortStableFunc_int64_int64_impl_sortedBy_1_2_sound (N : Nat) : SoundM Try.prog 82 (slices_SortStableFunc_int64_int64_impl_sortedBy_1_2_e N) := by
  have h := runM_sound (f := 82) (code := bodyOf Try.f82) (N := N) (T := (slices_SortStableFunc_int64_int64_impl_sortedBy_1_2_T N)) (L := slices_SortStableFunc_int64_int64_impl_sortedBy_1_2_L) (io := (.int .i64)) (ins := [(.clo 83 (.bx (.clo 105 (.bx (.sl (.pair (.int .i64) (.pair (.int .i64) (.pair (.int .i64) (.int .i64)))))))))]) (outs := []) (res := []) mixed tt_ok ?_ Try.func82 (by kernel_rfl) rfl (by kernel_rfl) (by kernel_rfl) (by decide +kernel)
  · rw [slices_SortStableFunc_int64_int64_impl_sortedBy_1_2_eq] at h
    exact h
  · intro f e he
    unfold slices_SortStableFunc_int64_int64_impl_sortedBy_1_2_T at he
    split at he
    · rw [List.mem_singleton.1 he]; exact slices_stableCmpFunc_int64_impl_sortedBy_1_2_sound N
    · cases he

/- impl.sortedBy -/
def impl_sortedBy_impl_orderBy_3 (N : Nat) (x0 : Int) (x1 : List (Int × Int × Int × Int)) : Option (List (Int) × Unit) :=
  Option.bind (impl_counting N x0) fun r1 =>
  Option.bind (slices_SortStableFunc_int64_int64_impl_sortedBy_1_2 N r1.1 x1) fun r2 =>
  cond (Nat.beq (List.length r2.1) (List.length r1.1))
    (some (r2.1, ())) none
def impl_sortedBy_impl_orderBy_3_e (N : Nat) : Ent := { ins := [(.int .i64), (.clo 105 (.bx (.sl (.pair (.int .i64) (.pair (.int .i64) (.pair (.int .i64) (.int .i64)))))))], outs := [.own (.int .i64)], F := fun x => impl_sortedBy_impl_orderBy_3 N x.1 x.2.1 }
def impl_sortedBy_impl_orderBy_3_T (N : Nat) : Nat → List EntX
  | 81 => [.pl (impl_counting_e N)]
  | 82 => [.mu (slices_SortStableFunc_int64_int64_impl_sortedBy_1_2_e N)]
  | _ => []
def impl_sortedBy_impl_orderBy_3_L : Nat → List (Nat × TK) := fun _ => []
theorem impl_sortedBy_impl_orderBy_3_eq (N : Nat) : runF N tt (impl_sortedBy_impl_orderBy_3_T N) impl_sortedBy_impl_orderBy_3_L [(.int .i64), (.clo 105 (.bx (.sl (.pair (.int .i64) (.pair (.int .i64) (.pair (.int .i64) (.int .i64)))))))] [.own (.int .i64)] (bodyOf Try.f48) Try.f48.ntmps [4] = (impl_sortedBy_impl_orderBy_3_e N).F := by
  funext x
  kernel_rfl
theorem impl_sortedBy_impl_orderBy_3_sound (N : Nat) : SoundC Try.prog 48 (impl_sortedBy_impl_orderBy_3_e N) := by
  have h := runF_sound (f := 48) (code := bodyOf Try.f48) (N := N) (T := (impl_sortedBy_impl_orderBy_3_T N)) (L := impl_sortedBy_impl_orderBy_3_L) (ins := [(.int .i64), (.clo 105 (.bx (.sl (.pair (.int .i64) (.pair (.int .i64) (.pair (.int .i64) (.int .i64)))))))]) (outs := [.own (.int .i64)]) (res := [4]) mixed tt_ok ?_ Try.func48 (by kernel_rfl) rfl (by kernel_rfl) (by kernel_rfl) (by decide +kernel)
  · rw [impl_sortedBy_impl_orderBy_3_eq] at h
    exact h
  · intro f e he
    unfold impl_sortedBy_impl_orderBy_3_T at he
    split at he
    · rw [List.mem_singleton.1 he]; exact impl_counting_sound N
    · rw [List.mem_singleton.1 he]; exact slices_SortStableFunc_int64_int64_impl_sortedBy_1_2_sound N
    · cases he

/- impl.orderBy$4 -/
def impl_orderBy_4_c0 (N : Nat) (x0 : Int) (x1 : Int) (x2 : List (Int × Int × Int × Int)) : Option (Int × Unit) :=
  Option.bind (idx x2 x1) fun v1 =>
  Option.bind (idx x2 x0) fun v2 =>
  Option.bind (idx x2 x0) fun v3 =>
  Option.bind (idx x2 x1) fun v4 =>
  Option.bind (cmp_Compare_int64 N (w64 (v1.2.2.2 * v2.1)) (w64 (v3.2.2.2 * v4.1))) fun r5 =>
  some (r5.1, ())
def impl_orderBy_4_c0_e (N : Nat) : Ent := { ins := [(.int .i64), (.int .i64), (.bx (.sl (.pair (.int .i64) (.pair (.int .i64) (.pair (.int .i64) (.int .i64))))))], outs := [.val (.int .i64)], F := fun x => impl_orderBy_4_c0 N x.1 x.2.1 x.2.2.1 }
def impl_orderBy_4_c0_T (N : Nat) : Nat → List EntX
  | 84 => [.pl (cmp_Compare_int64_e N)]
  | _ => []
def impl_orderBy_4_c0_L : Nat → List (Nat × TK) := fun _ => []
theorem impl_orderBy_4_c0_eq (N : Nat) : runF N tt (impl_orderBy_4_c0_T N) impl_orderBy_4_c0_L [(.int .i64), (.int .i64), (.bx (.sl (.pair (.int .i64) (.pair (.int .i64) (.pair (.int .i64) (.int .i64))))))] [.val (.int .i64)] (bodyOf Try.f106) Try.f106.ntmps [5] = (impl_orderBy_4_c0_e N).F := by
  funext x
  kernel_rfl
theorem impl_orderBy_4_c0_sound (N : Nat) : SoundC Try.prog 106 (impl_orderBy_4_c0_e N) := by
  have h := runF_sound (f := 106) (code := bodyOf Try.f106) (N := N) (T := (impl_orderBy_4_c0_T N)) (L := impl_orderBy_4_c0_L) (ins := [(.int .i64), (.int .i64), (.bx (.sl (.pair (.int .i64) (.pair (.int .i64) (.pair (.int .i64) (.int .i64))))))]) (outs := [.val (.int .i64)]) (res := [5]) mixed tt_ok ?_ Try.func106 (by kernel_rfl) rfl (by kernel_rfl) (by kernel_rfl) (by decide +kernel)
  · rw [impl_orderBy_4_c0_eq] at h
    exact h
  · intro f e he
    unfold impl_orderBy_4_c0_T at he
    split at he
    · rw [List.mem_singleton.1 he]; exact cmp_Compare_int64_sound N
    · cases he

/- slices.insertionSortCmpFunc[int64] -/
def slices_insertionSortCmpFunc_int64_impl_orderBy_4 (N : Nat) (x0 : List Int) (x1 : Int) (x2 : Int) (x3 : List (Int × Int × Int × Int)) : Option (List (Int) × (Unit)) :=
  loopN (fun (s1 : List (Int) × Int × Unit) next2 =>
    cond (decide (s1.2.1 < x2))
      (loopN (fun (s3 : List (Int) × Int × Unit) next4 =>
        cond (decide (s3.2.1 > x1))
          (cond (inB s3.2.1 (List.length s3.1))
            (Option.bind (s3.1[(Int.toNat s3.2.1)]?) fun v5 =>
            cond (inB (w64 (s3.2.1 - 1)) (List.length s3.1))
              (Option.bind (s3.1[(Int.toNat (w64 (s3.2.1 - 1)))]?) fun v6 =>
              Option.bind (impl_orderBy_4_c0 N v5 v6 x3) fun r7 =>
              cond (decide (r7.1 < 0))
                (cond (inB (w64 (s3.2.1 - 1)) (List.length s3.1))
                  (Option.bind (s3.1[(Int.toNat (w64 (s3.2.1 - 1)))]?) fun v8 =>
                  cond (inB s3.2.1 (List.length s3.1))
                    (Option.bind (s3.1[(Int.toNat s3.2.1)]?) fun v9 =>
                    cond (inB s3.2.1 (List.length s3.1))
                      (let xs10 := (List.set s3.1 (Int.toNat s3.2.1) v8)
                      cond (inB (w64 (s3.2.1 - 1)) (List.length xs10))
                        (let xs11 := (List.set xs10 (Int.toNat (w64 (s3.2.1 - 1))) v9)
                        next4 (xs11, (w64 (s3.2.1 - 1)), ())) none) none) none) none)
                (next2 (s3.1, (w64 (s1.2.1 + 1)), ()))) none) none)
          (next2 (s3.1, (w64 (s1.2.1 + 1)), ()))) N (s1.1, s1.2.1, ()))
      (some (s1.1, ()))) N (x0, (w64 (x1 + 1)), ())
def slices_insertionSortCmpFunc_int64_impl_orderBy_4_e (N : Nat) : EntM := { io := (.int .i64), ins := [(.int .i64), (.int .i64), (.clo 106 (.bx (.sl (.pair (.int .i64) (.pair (.int .i64) (.pair (.int .i64) (.int .i64)))))))], outs := [], F := fun xs x => slices_insertionSortCmpFunc_int64_impl_orderBy_4 N xs x.1 x.2.1 x.2.2.1 }
def slices_insertionSortCmpFunc_int64_impl_orderBy_4_T (N : Nat) : Nat → List EntX
  | 106 => [.pl (impl_orderBy_4_c0_e N)]
  | _ => []
def slices_insertionSortCmpFunc_int64_impl_orderBy_4_L : Nat → List (Nat × TK)
  | 1 => [(0, .own (.int .i64)), (8, .v (.int .i64))]
  | 4 => [(0, .own (.int .i64)), (9, .v (.int .i64))]
  | _ => []
theorem slices_insertionSortCmpFunc_int64_impl_orderBy_4_eq (N : Nat) : runM N tt (slices_insertionSortCmpFunc_int64_impl_orderBy_4_T N) slices_insertionSortCmpFunc_int64_impl_orderBy_4_L (.int .i64) [(.int .i64), (.int .i64), (.clo 106 (.bx (.sl (.pair (.int .i64) (.pair (.int .i64) (.pair (.int .i64) (.int .i64)))))))] [] (bodyOf Try.f129) Try.f129.ntmps [] = (slices_insertionSortCmpFunc_int64_impl_orderBy_4_e N).F := by
  funext xs x
  kernel_rfl
theorem slices_insertionSortCmpFunc_int64_impl_orderBy_4_sound (N : Nat) : SoundM Try.prog 129 (slices_insertionSortCmpFunc_int64_impl_orderBy_4_e N) := by
  have h := runM_sound (f := 129) (code := bodyOf Try.f129) (N := N) (T := (slices_insertionSortCmpFunc_int64_impl_orderBy_4_T N)) (L := slices_insertionSortCmpFunc_int64_impl_orderBy_4_L) (io := (.int .i64)) (ins := [(.int .i64), (.int .i64), (.clo 106 (.bx (.sl (.pair (.int .i64) (.pair (.int .i64) (.pair (.int .i64) (.int .i64)))))))]) (outs := []) (res := []) mixed tt_ok ?_ Try.func129 (by kernel_rfl) rfl (by kernel_rfl) (by kernel_rfl) (by decide +kernel)
  · rw [slices_insertionSortCmpFunc_int64_impl_orderBy_4_eq] at h
    exact h
  · intro f e he
    unfold slices_insertionSortCmpFunc_int64_impl_orderBy_4_T at he
    split at he
    · rw [List.mem_singleton.1 he]; exact impl_orderBy_4_c0_sound N
    · cases he

/- slices.swapRangeCmpFunc[int64] -/
def slices_swapRangeCmpFunc_int64_impl_orderBy_4 (N : Nat) (x0 : List Int) (x1 : Int) (x2 : Int) (x3 : Int) (x4 : List (Int × Int × Int × Int)) : Option (List (Int) × (Unit)) :=
  loopN (fun (s1 : List (Int) × Int × Unit) next2 =>
    cond (decide (s1.2.1 < x3))
      (cond (inB (w64 (x2 + s1.2.1)) (List.length s1.1))
        (Option.bind (s1.1[(Int.toNat (w64 (x2 + s1.2.1)))]?) fun v3 =>
        cond (inB (w64 (x1 + s1.2.1)) (List.length s1.1))
          (Option.bind (s1.1[(Int.toNat (w64 (x1 + s1.2.1)))]?) fun v4 =>
          cond (inB (w64 (x1 + s1.2.1)) (List.length s1.1))
            (let xs5 := (List.set s1.1 (Int.toNat (w64 (x1 + s1.2.1))) v3)
            cond (inB (w64 (x2 + s1.2.1)) (List.length xs5))
              (let xs6 := (List.set xs5 (Int.toNat (w64 (x2 + s1.2.1))) v4)
              next2 (xs6, (w64 (s1.2.1 + 1)), ())) none) none) none) none)
      (some (s1.1, ()))) N (x0, 0, ())
def slices_swapRangeCmpFunc_int64_impl_orderBy_4_e (N : Nat) : EntM := { io := (.int .i64), ins := [(.int .i64), (.int .i64), (.int .i64), (.clo 106 (.bx (.sl (.pair (.int .i64) (.pair (.int .i64) (.pair (.int .i64) (.int .i64)))))))], outs := [], F := fun xs x => slices_swapRangeCmpFunc_int64_impl_orderBy_4 N xs x.1 x.2.1 x.2.2.1 x.2.2.2.1 }
def slices_swapRangeCmpFunc_int64_impl_orderBy_4_T (_ : Nat) : Nat → List EntX := fun _ => []
def slices_swapRangeCmpFunc_int64_impl_orderBy_4_L : Nat → List (Nat × TK)
  | 1 => [(0, .own (.int .i64)), (10, .v (.int .i64))]
  | _ => []
theorem slices_swapRangeCmpFunc_int64_impl_orderBy_4_eq (N : Nat) : runM N tt (slices_swapRangeCmpFunc_int64_impl_orderBy_4_T N) slices_swapRangeCmpFunc_int64_impl_orderBy_4_L (.int .i64) [(.int .i64), (.int .i64), (.int .i64), (.clo 106 (.bx (.sl (.pair (.int .i64) (.pair (.int .i64) (.pair (.int .i64) (.int .i64)))))))] [] (bodyOf Try.f136) Try.f136.ntmps [] = (slices_swapRangeCmpFunc_int64_impl_orderBy_4_e N).F := by
  funext xs x
  kernel_rfl
theorem slices_swapRangeCmpFunc_int64_impl_orderBy_4_sound (N : Nat) : SoundM Try.prog 136 (slices_swapRangeCmpFunc_int64_impl_orderBy_4_e N) := by
  have h := runM_sound (f := 136) (code := bodyOf Try.f136) (N := N) (T := (slices_swapRangeCmpFunc_int64_impl_orderBy_4_T N)) (L := slices_swapRangeCmpFunc_int64_impl_orderBy_4_L) (io := (.int .i64)) (ins := [(.int .i64), (.int .i64), (.int .i64), (.clo 106 (.bx (.sl (.pair (.int .i64) (.pair (.int .i64) (.pair (.int .i64) (.int .i64)))))))]) (outs := []) (res := []) mixed tt_ok ?_ Try.func136 (by kernel_rfl) rfl (by kernel_rfl) (by kernel_rfl) (by decide +kernel)
  · rw [slices_swapRangeCmpFunc_int64_impl_orderBy_4_eq] at h
    exact h
  · intro f e he
    cases he

/- slices.rotateCmpFunc[int64] -/
def slices_rotateCmpFunc_int64_impl_orderBy_4 (N : Nat) (x0 : List Int) (x1 : Int) (x2 : Int) (x3 : Int) (x4 : List (Int × Int × Int × Int)) : Option (List (Int) × (Unit)) :=
  loopN (fun (s1 : List (Int) × Int × Int × Unit) next2 =>
    cond (s1.2.1 != s1.2.2.1)
      (cond (decide (s1.2.1 > s1.2.2.1))
        (Option.bind (slices_swapRangeCmpFunc_int64_impl_orderBy_4 N s1.1 (w64 (x2 - s1.2.1)) x2 s1.2.2.1 x4) fun r3 =>
        cond (Nat.beq (List.length r3.1) (List.length s1.1))
          (next2 (r3.1, (w64 (s1.2.1 - s1.2.2.1)), s1.2.2.1, ())) none)
        (Option.bind (slices_swapRangeCmpFunc_int64_impl_orderBy_4 N s1.1 (w64 (x2 - s1.2.1)) (w64 ((w64 (x2 + s1.2.2.1)) - s1.2.1)) s1.2.1 x4) fun r4 =>
        cond (Nat.beq (List.length r4.1) (List.length s1.1))
          (next2 (r4.1, s1.2.1, (w64 (s1.2.2.1 - s1.2.1)), ())) none))
      (Option.bind (slices_swapRangeCmpFunc_int64_impl_orderBy_4 N s1.1 (w64 (x2 - s1.2.1)) x2 s1.2.1 x4) fun r5 =>
      cond (Nat.beq (List.length r5.1) (List.length s1.1))
        (some (r5.1, ())) none)) N (x0, (w64 (x2 - x1)), (w64 (x3 - x2)), ())
def slices_rotateCmpFunc_int64_impl_orderBy_4_e (N : Nat) : EntM := { io := (.int .i64), ins := [(.int .i64), (.int .i64), (.int .i64), (.clo 106 (.bx (.sl (.pair (.int .i64) (.pair (.int .i64) (.pair (.int .i64) (.int .i64)))))))], outs := [], F := fun xs x => slices_rotateCmpFunc_int64_impl_orderBy_4 N xs x.1 x.2.1 x.2.2.1 x.2.2.2.1 }
def slices_rotateCmpFunc_int64_impl_orderBy_4_T (N : Nat) : Nat → List EntX
  | 136 => [.mu (slices_swapRangeCmpFunc_int64_impl_orderBy_4_e N)]
  | _ => []
def slices_rotateCmpFunc_int64_impl_orderBy_4_L : Nat → List (Nat × TK)
  | 2 => [(0, .own (.int .i64)), (10, .v (.int .i64)), (11, .v (.int .i64))]
  | _ => []
theorem slices_rotateCmpFunc_int64_impl_orderBy_4_eq (N : Nat) : runM N tt (slices_rotateCmpFunc_int64_impl_orderBy_4_T N) slices_rotateCmpFunc_int64_impl_orderBy_4_L (.int .i64) [(.int .i64), (.int .i64), (.int .i64), (.clo 106 (.bx (.sl (.pair (.int .i64) (.pair (.int .i64) (.pair (.int .i64) (.int .i64)))))))] [] (bodyOf Try.f134) Try.f134.ntmps [] = (slices_rotateCmpFunc_int64_impl_orderBy_4_e N).F := by
  funext xs x
  kernel_rfl
theorem slices_rotateCmpFunc_int64_impl_orderBy_4_sound (N : Nat) : SoundM Try.prog 134 (slices_rotateCmpFunc_int64_impl_orderBy_4_e N) := by
  have h := runM_sound (f := 134) (code := bodyOf Try.f134) (N := N) (T := (slices_rotateCmpFunc_int64_impl_orderBy_4_T N)) (L := slices_rotateCmpFunc_int64_impl_orderBy_4_L) (io := (.int .i64)) (ins := [(.int .i64), (.int .i64), (.int .i64), (.clo 106 (.bx (.sl (.pair (.int .i64) (.pair (.int .i64) (.pair (.int .i64) (.int .i64)))))))]) (outs := []) (res := []) mixed tt_ok ?_ Try.func134 (by kernel_rfl) rfl (by kernel_rfl) (by kernel_rfl) (by decide +kernel)
  · rw [slices_rotateCmpFunc_int64_impl_orderBy_4_eq] at h
    exact h
  · intro f e he
    unfold slices_rotateCmpFunc_int64_impl_orderBy_4_T at he
    split at he
    · rw [List.mem_singleton.1 he]; exact slices_swapRangeCmpFunc_int64_impl_orderBy_4_sound N
    · cases he

/- slices.symMergeCmpFunc[int64] -/
def slices_symMergeCmpFunc_int64_impl_orderBy_4_step (N : Nat) (self : List (Int) → Int → Int → Int → List (Int × Int × Int × Int) → Option (List (Int) × (Unit))) (x0 : List Int) (x1 : Int) (x2 : Int) (x3 : Int) (x4 : List (Int × Int × Int × Int)) : Option (List (Int) × (Unit)) :=
  cond ((w64 (x2 - x1)) == 1)
    (loopN (fun (s1 : Int × Int × Unit) next2 =>
      cond (decide (s1.1 < s1.2.1))
        (cond (inB (IntKind.wrap .i64 (ishr .u64 (IntKind.wrap .u64 (w64 (s1.1 + s1.2.1))) 1)) (List.length x0))
          (Option.bind (x0[(Int.toNat (IntKind.wrap .i64 (ishr .u64 (IntKind.wrap .u64 (w64 (s1.1 + s1.2.1))) 1)))]?) fun v3 =>
          cond (inB x1 (List.length x0))
            (Option.bind (x0[(Int.toNat x1)]?) fun v4 =>
            Option.bind (impl_orderBy_4_c0 N v3 v4 x4) fun r5 =>
            cond (decide (r5.1 < 0))
              (next2 ((w64 ((IntKind.wrap .i64 (ishr .u64 (IntKind.wrap .u64 (w64 (s1.1 + s1.2.1))) 1)) + 1)), s1.2.1, ()))
              (next2 (s1.1, (IntKind.wrap .i64 (ishr .u64 (IntKind.wrap .u64 (w64 (s1.1 + s1.2.1))) 1)), ()))) none) none)
        (loopN (fun (s6 : List (Int) × Int × Unit) next7 =>
          cond (decide (s6.2.1 < (w64 (s1.1 - 1))))
            (cond (inB (w64 (s6.2.1 + 1)) (List.length s6.1))
              (Option.bind (s6.1[(Int.toNat (w64 (s6.2.1 + 1)))]?) fun v8 =>
              cond (inB s6.2.1 (List.length s6.1))
                (Option.bind (s6.1[(Int.toNat s6.2.1)]?) fun v9 =>
                cond (inB s6.2.1 (List.length s6.1))
                  (let xs10 := (List.set s6.1 (Int.toNat s6.2.1) v8)
                  cond (inB (w64 (s6.2.1 + 1)) (List.length xs10))
                    (let xs11 := (List.set xs10 (Int.toNat (w64 (s6.2.1 + 1))) v9)
                    next7 (xs11, (w64 (s6.2.1 + 1)), ())) none) none) none) none)
            (some (s6.1, ()))) N (x0, x1, ()))) N (x2, x3, ()))
    (cond ((w64 (x3 - x2)) == 1)
      (loopN (fun (s12 : Int × Int × Unit) next13 =>
        cond (decide (s12.1 < s12.2.1))
          (cond (inB x2 (List.length x0))
            (Option.bind (x0[(Int.toNat x2)]?) fun v14 =>
            cond (inB (IntKind.wrap .i64 (ishr .u64 (IntKind.wrap .u64 (w64 (s12.1 + s12.2.1))) 1)) (List.length x0))
              (Option.bind (x0[(Int.toNat (IntKind.wrap .i64 (ishr .u64 (IntKind.wrap .u64 (w64 (s12.1 + s12.2.1))) 1)))]?) fun v15 =>
              Option.bind (impl_orderBy_4_c0 N v14 v15 x4) fun r16 =>
              cond (!(decide (r16.1 < 0)))
                (next13 ((w64 ((IntKind.wrap .i64 (ishr .u64 (IntKind.wrap .u64 (w64 (s12.1 + s12.2.1))) 1)) + 1)), s12.2.1, ()))
                (next13 (s12.1, (IntKind.wrap .i64 (ishr .u64 (IntKind.wrap .u64 (w64 (s12.1 + s12.2.1))) 1)), ()))) none) none)
          (loopN (fun (s17 : List (Int) × Int × Unit) next18 =>
            cond (decide (s17.2.1 > s12.1))
              (cond (inB (w64 (s17.2.1 - 1)) (List.length s17.1))
                (Option.bind (s17.1[(Int.toNat (w64 (s17.2.1 - 1)))]?) fun v19 =>
                cond (inB s17.2.1 (List.length s17.1))
                  (Option.bind (s17.1[(Int.toNat s17.2.1)]?) fun v20 =>
                  cond (inB s17.2.1 (List.length s17.1))
                    (let xs21 := (List.set s17.1 (Int.toNat s17.2.1) v19)
                    cond (inB (w64 (s17.2.1 - 1)) (List.length xs21))
                      (let xs22 := (List.set xs21 (Int.toNat (w64 (s17.2.1 - 1))) v20)
                      next18 (xs22, (w64 (s17.2.1 - 1)), ())) none) none) none) none)
              (some (s17.1, ()))) N (x0, x2, ()))) N (x1, x2, ()))
      (cond (decide (x2 > (IntKind.wrap .i64 (ishr .u64 (IntKind.wrap .u64 (w64 (x1 + x3))) 1))))
        (loopN (fun (s23 : Int × Int × Unit) next24 =>
          cond (decide (s23.1 < s23.2.1))
            (cond (inB (w64 ((w64 ((w64 ((IntKind.wrap .i64 (ishr .u64 (IntKind.wrap .u64 (w64 (x1 + x3))) 1)) + x2)) - 1)) - (IntKind.wrap .i64 (ishr .u64 (IntKind.wrap .u64 (w64 (s23.1 + s23.2.1))) 1)))) (List.length x0))
              (Option.bind (x0[(Int.toNat (w64 ((w64 ((w64 ((IntKind.wrap .i64 (ishr .u64 (IntKind.wrap .u64 (w64 (x1 + x3))) 1)) + x2)) - 1)) - (IntKind.wrap .i64 (ishr .u64 (IntKind.wrap .u64 (w64 (s23.1 + s23.2.1))) 1)))))]?) fun v25 =>
              cond (inB (IntKind.wrap .i64 (ishr .u64 (IntKind.wrap .u64 (w64 (s23.1 + s23.2.1))) 1)) (List.length x0))
                (Option.bind (x0[(Int.toNat (IntKind.wrap .i64 (ishr .u64 (IntKind.wrap .u64 (w64 (s23.1 + s23.2.1))) 1)))]?) fun v26 =>
                Option.bind (impl_orderBy_4_c0 N v25 v26 x4) fun r27 =>
                cond (!(decide (r27.1 < 0)))
                  (next24 ((w64 ((IntKind.wrap .i64 (ishr .u64 (IntKind.wrap .u64 (w64 (s23.1 + s23.2.1))) 1)) + 1)), s23.2.1, ()))
                  (next24 (s23.1, (IntKind.wrap .i64 (ishr .u64 (IntKind.wrap .u64 (w64 (s23.1 + s23.2.1))) 1)), ()))) none) none)
            (cond (decide (s23.1 < x2))
              (cond (decide (x2 < (w64 ((w64 ((IntKind.wrap .i64 (ishr .u64 (IntKind.wrap .u64 (w64 (x1 + x3))) 1)) + x2)) - s23.1))))
                (Option.bind (slices_rotateCmpFunc_int64_impl_orderBy_4 N x0 s23.1 x2 (w64 ((w64 ((IntKind.wrap .i64 (ishr .u64 (IntKind.wrap .u64 (w64 (x1 + x3))) 1)) + x2)) - s23.1)) x4) fun r28 =>
                cond (Nat.beq (List.length r28.1) (List.length x0))
                  (cond (decide (x1 < s23.1))
                    (cond (decide (s23.1 < (IntKind.wrap .i64 (ishr .u64 (IntKind.wrap .u64 (w64 (x1 + x3))) 1))))
                      (Option.bind (self r28.1 x1 s23.1 (IntKind.wrap .i64 (ishr .u64 (IntKind.wrap .u64 (w64 (x1 + x3))) 1)) x4) fun r29 =>
                      cond (Nat.beq (List.length r29.1) (List.length r28.1))
                        (cond (decide ((IntKind.wrap .i64 (ishr .u64 (IntKind.wrap .u64 (w64 (x1 + x3))) 1)) < (w64 ((w64 ((IntKind.wrap .i64 (ishr .u64 (IntKind.wrap .u64 (w64 (x1 + x3))) 1)) + x2)) - s23.1))))
                          (cond (decide ((w64 ((w64 ((IntKind.wrap .i64 (ishr .u64 (IntKind.wrap .u64 (w64 (x1 + x3))) 1)) + x2)) - s23.1)) < x3))
                            (Option.bind (self r29.1 (IntKind.wrap .i64 (ishr .u64 (IntKind.wrap .u64 (w64 (x1 + x3))) 1)) (w64 ((w64 ((IntKind.wrap .i64 (ishr .u64 (IntKind.wrap .u64 (w64 (x1 + x3))) 1)) + x2)) - s23.1)) x3 x4) fun r30 =>
                            cond (Nat.beq (List.length r30.1) (List.length r29.1))
                              (some (r30.1, ())) none)
                            (some (r29.1, ())))
                          (some (r29.1, ()))) none)
                      (cond (decide ((IntKind.wrap .i64 (ishr .u64 (IntKind.wrap .u64 (w64 (x1 + x3))) 1)) < (w64 ((w64 ((IntKind.wrap .i64 (ishr .u64 (IntKind.wrap .u64 (w64 (x1 + x3))) 1)) + x2)) - s23.1))))
                        (cond (decide ((w64 ((w64 ((IntKind.wrap .i64 (ishr .u64 (IntKind.wrap .u64 (w64 (x1 + x3))) 1)) + x2)) - s23.1)) < x3))
                          (Option.bind (self r28.1 (IntKind.wrap .i64 (ishr .u64 (IntKind.wrap .u64 (w64 (x1 + x3))) 1)) (w64 ((w64 ((IntKind.wrap .i64 (ishr .u64 (IntKind.wrap .u64 (w64 (x1 + x3))) 1)) + x2)) - s23.1)) x3 x4) fun r31 =>
                          cond (Nat.beq (List.length r31.1) (List.length r28.1))
                            (some (r31.1, ())) none)
                          (some (r28.1, ())))
                        (some (r28.1, ()))))
                    (cond (decide ((IntKind.wrap .i64 (ishr .u64 (IntKind.wrap .u64 (w64 (x1 + x3))) 1)) < (w64 ((w64 ((IntKind.wrap .i64 (ishr .u64 (IntKind.wrap .u64 (w64 (x1 + x3))) 1)) + x2)) - s23.1))))
                      (cond (decide ((w64 ((w64 ((IntKind.wrap .i64 (ishr .u64 (IntKind.wrap .u64 (w64 (x1 + x3))) 1)) + x2)) - s23.1)) < x3))
                        (Option.bind (self r28.1 (IntKind.wrap .i64 (ishr .u64 (IntKind.wrap .u64 (w64 (x1 + x3))) 1)) (w64 ((w64 ((IntKind.wrap .i64 (ishr .u64 (IntKind.wrap .u64 (w64 (x1 + x3))) 1)) + x2)) - s23.1)) x3 x4) fun r32 =>
                        cond (Nat.beq (List.length r32.1) (List.length r28.1))
                          (some (r32.1, ())) none)
                        (some (r28.1, ())))
                      (some (r28.1, ())))) none)
                (cond (decide (x1 < s23.1))
                  (cond (decide (s23.1 < (IntKind.wrap .i64 (ishr .u64 (IntKind.wrap .u64 (w64 (x1 + x3))) 1))))
                    (Option.bind (self x0 x1 s23.1 (IntKind.wrap .i64 (ishr .u64 (IntKind.wrap .u64 (w64 (x1 + x3))) 1)) x4) fun r33 =>
                    cond (Nat.beq (List.length r33.1) (List.length x0))
                      (cond (decide ((IntKind.wrap .i64 (ishr .u64 (IntKind.wrap .u64 (w64 (x1 + x3))) 1)) < (w64 ((w64 ((IntKind.wrap .i64 (ishr .u64 (IntKind.wrap .u64 (w64 (x1 + x3))) 1)) + x2)) - s23.1))))
                        (cond (decide ((w64 ((w64 ((IntKind.wrap .i64 (ishr .u64 (IntKind.wrap .u64 (w64 (x1 + x3))) 1)) + x2)) - s23.1)) < x3))
                          (Option.bind (self r33.1 (IntKind.wrap .i64 (ishr .u64 (IntKind.wrap .u64 (w64 (x1 + x3))) 1)) (w64 ((w64 ((IntKind.wrap .i64 (ishr .u64 (IntKind.wrap .u64 (w64 (x1 + x3))) 1)) + x2)) - s23.1)) x3 x4) fun r34 =>
                          cond (Nat.beq (List.length r34.1) (List.length r33.1))
                            (some (r34.1, ())) none)
                          (some (r33.1, ())))
                        (some (r33.1, ()))) none)
                    (cond (decide ((IntKind.wrap .i64 (ishr .u64 (IntKind.wrap .u64 (w64 (x1 + x3))) 1)) < (w64 ((w64 ((IntKind.wrap .i64 (ishr .u64 (IntKind.wrap .u64 (w64 (x1 + x3))) 1)) + x2)) - s23.1))))
                      (cond (decide ((w64 ((w64 ((IntKind.wrap .i64 (ishr .u64 (IntKind.wrap .u64 (w64 (x1 + x3))) 1)) + x2)) - s23.1)) < x3))
                        (Option.bind (self x0 (IntKind.wrap .i64 (ishr .u64 (IntKind.wrap .u64 (w64 (x1 + x3))) 1)) (w64 ((w64 ((IntKind.wrap .i64 (ishr .u64 (IntKind.wrap .u64 (w64 (x1 + x3))) 1)) + x2)) - s23.1)) x3 x4) fun r35 =>
                        cond (Nat.beq (List.length r35.1) (List.length x0))
                          (some (r35.1, ())) none)
                        (some (x0, ())))
                      (some (x0, ()))))
                  (cond (decide ((IntKind.wrap .i64 (ishr .u64 (IntKind.wrap .u64 (w64 (x1 + x3))) 1)) < (w64 ((w64 ((IntKind.wrap .i64 (ishr .u64 (IntKind.wrap .u64 (w64 (x1 + x3))) 1)) + x2)) - s23.1))))
                    (cond (decide ((w64 ((w64 ((IntKind.wrap .i64 (ishr .u64 (IntKind.wrap .u64 (w64 (x1 + x3))) 1)) + x2)) - s23.1)) < x3))
                      (Option.bind (self x0 (IntKind.wrap .i64 (ishr .u64 (IntKind.wrap .u64 (w64 (x1 + x3))) 1)) (w64 ((w64 ((IntKind.wrap .i64 (ishr .u64 (IntKind.wrap .u64 (w64 (x1 + x3))) 1)) + x2)) - s23.1)) x3 x4) fun r36 =>
                      cond (Nat.beq (List.length r36.1) (List.length x0))
                        (some (r36.1, ())) none)
                      (some (x0, ())))
                    (some (x0, ())))))
              (cond (decide (x1 < s23.1))
                (cond (decide (s23.1 < (IntKind.wrap .i64 (ishr .u64 (IntKind.wrap .u64 (w64 (x1 + x3))) 1))))
                  (Option.bind (self x0 x1 s23.1 (IntKind.wrap .i64 (ishr .u64 (IntKind.wrap .u64 (w64 (x1 + x3))) 1)) x4) fun r37 =>
                  cond (Nat.beq (List.length r37.1) (List.length x0))
                    (cond (decide ((IntKind.wrap .i64 (ishr .u64 (IntKind.wrap .u64 (w64 (x1 + x3))) 1)) < (w64 ((w64 ((IntKind.wrap .i64 (ishr .u64 (IntKind.wrap .u64 (w64 (x1 + x3))) 1)) + x2)) - s23.1))))
                      (cond (decide ((w64 ((w64 ((IntKind.wrap .i64 (ishr .u64 (IntKind.wrap .u64 (w64 (x1 + x3))) 1)) + x2)) - s23.1)) < x3))
                        (Option.bind (self r37.1 (IntKind.wrap .i64 (ishr .u64 (IntKind.wrap .u64 (w64 (x1 + x3))) 1)) (w64 ((w64 ((IntKind.wrap .i64 (ishr .u64 (IntKind.wrap .u64 (w64 (x1 + x3))) 1)) + x2)) - s23.1)) x3 x4) fun r38 =>
                        cond (Nat.beq (List.length r38.1) (List.length r37.1))
                          (some (r38.1, ())) none)
                        (some (r37.1, ())))
                      (some (r37.1, ()))) none)
                  (cond (decide ((IntKind.wrap .i64 (ishr .u64 (IntKind.wrap .u64 (w64 (x1 + x3))) 1)) < (w64 ((w64 ((IntKind.wrap .i64 (ishr .u64 (IntKind.wrap .u64 (w64 (x1 + x3))) 1)) + x2)) - s23.1))))
                    (cond (decide ((w64 ((w64 ((IntKind.wrap .i64 (ishr .u64 (IntKind.wrap .u64 (w64 (x1 + x3))) 1)) + x2)) - s23.1)) < x3))
                      (Option.bind (self x0 (IntKind.wrap .i64 (ishr .u64 (IntKind.wrap .u64 (w64 (x1 + x3))) 1)) (w64 ((w64 ((IntKind.wrap .i64 (ishr .u64 (IntKind.wrap .u64 (w64 (x1 + x3))) 1)) + x2)) - s23.1)) x3 x4) fun r39 =>
                      cond (Nat.beq (List.length r39.1) (List.length x0))
                        (some (r39.1, ())) none)
                      (some (x0, ())))
                    (some (x0, ()))))
                (cond (decide ((IntKind.wrap .i64 (ishr .u64 (IntKind.wrap .u64 (w64 (x1 + x3))) 1)) < (w64 ((w64 ((IntKind.wrap .i64 (ishr .u64 (IntKind.wrap .u64 (w64 (x1 + x3))) 1)) + x2)) - s23.1))))
                  (cond (decide ((w64 ((w64 ((IntKind.wrap .i64 (ishr .u64 (IntKind.wrap .u64 (w64 (x1 + x3))) 1)) + x2)) - s23.1)) < x3))
                    (Option.bind (self x0 (IntKind.wrap .i64 (ishr .u64 (IntKind.wrap .u64 (w64 (x1 + x3))) 1)) (w64 ((w64 ((IntKind.wrap .i64 (ishr .u64 (IntKind.wrap .u64 (w64 (x1 + x3))) 1)) + x2)) - s23.1)) x3 x4) fun r40 =>
                    cond (Nat.beq (List.length r40.1) (List.length x0))
                      (some (r40.1, ())) none)
                    (some (x0, ())))
                  (some (x0, ())))))) N ((w64 ((w64 ((IntKind.wrap .i64 (ishr .u64 (IntKind.wrap .u64 (w64 (x1 + x3))) 1)) + x2)) - x3)), (IntKind.wrap .i64 (ishr .u64 (IntKind.wrap .u64 (w64 (x1 + x3))) 1)), ()))
        (loopN (fun (s41 : Int × Int × Unit) next42 =>
          cond (decide (s41.1 < s41.2.1))
            (cond (inB (w64 ((w64 ((w64 ((IntKind.wrap .i64 (ishr .u64 (IntKind.wrap .u64 (w64 (x1 + x3))) 1)) + x2)) - 1)) - (IntKind.wrap .i64 (ishr .u64 (IntKind.wrap .u64 (w64 (s41.1 + s41.2.1))) 1)))) (List.length x0))
              (Option.bind (x0[(Int.toNat (w64 ((w64 ((w64 ((IntKind.wrap .i64 (ishr .u64 (IntKind.wrap .u64 (w64 (x1 + x3))) 1)) + x2)) - 1)) - (IntKind.wrap .i64 (ishr .u64 (IntKind.wrap .u64 (w64 (s41.1 + s41.2.1))) 1)))))]?) fun v43 =>
              cond (inB (IntKind.wrap .i64 (ishr .u64 (IntKind.wrap .u64 (w64 (s41.1 + s41.2.1))) 1)) (List.length x0))
                (Option.bind (x0[(Int.toNat (IntKind.wrap .i64 (ishr .u64 (IntKind.wrap .u64 (w64 (s41.1 + s41.2.1))) 1)))]?) fun v44 =>
                Option.bind (impl_orderBy_4_c0 N v43 v44 x4) fun r45 =>
                cond (!(decide (r45.1 < 0)))
                  (next42 ((w64 ((IntKind.wrap .i64 (ishr .u64 (IntKind.wrap .u64 (w64 (s41.1 + s41.2.1))) 1)) + 1)), s41.2.1, ()))
                  (next42 (s41.1, (IntKind.wrap .i64 (ishr .u64 (IntKind.wrap .u64 (w64 (s41.1 + s41.2.1))) 1)), ()))) none) none)
            (cond (decide (s41.1 < x2))
              (cond (decide (x2 < (w64 ((w64 ((IntKind.wrap .i64 (ishr .u64 (IntKind.wrap .u64 (w64 (x1 + x3))) 1)) + x2)) - s41.1))))
                (Option.bind (slices_rotateCmpFunc_int64_impl_orderBy_4 N x0 s41.1 x2 (w64 ((w64 ((IntKind.wrap .i64 (ishr .u64 (IntKind.wrap .u64 (w64 (x1 + x3))) 1)) + x2)) - s41.1)) x4) fun r46 =>
                cond (Nat.beq (List.length r46.1) (List.length x0))
                  (cond (decide (x1 < s41.1))
                    (cond (decide (s41.1 < (IntKind.wrap .i64 (ishr .u64 (IntKind.wrap .u64 (w64 (x1 + x3))) 1))))
                      (Option.bind (self r46.1 x1 s41.1 (IntKind.wrap .i64 (ishr .u64 (IntKind.wrap .u64 (w64 (x1 + x3))) 1)) x4) fun r47 =>
                      cond (Nat.beq (List.length r47.1) (List.length r46.1))
                        (cond (decide ((IntKind.wrap .i64 (ishr .u64 (IntKind.wrap .u64 (w64 (x1 + x3))) 1)) < (w64 ((w64 ((IntKind.wrap .i64 (ishr .u64 (IntKind.wrap .u64 (w64 (x1 + x3))) 1)) + x2)) - s41.1))))
                          (cond (decide ((w64 ((w64 ((IntKind.wrap .i64 (ishr .u64 (IntKind.wrap .u64 (w64 (x1 + x3))) 1)) + x2)) - s41.1)) < x3))
                            (Option.bind (self r47.1 (IntKind.wrap .i64 (ishr .u64 (IntKind.wrap .u64 (w64 (x1 + x3))) 1)) (w64 ((w64 ((IntKind.wrap .i64 (ishr .u64 (IntKind.wrap .u64 (w64 (x1 + x3))) 1)) + x2)) - s41.1)) x3 x4) fun r48 =>
                            cond (Nat.beq (List.length r48.1) (List.length r47.1))
                              (some (r48.1, ())) none)
                            (some (r47.1, ())))
                          (some (r47.1, ()))) none)
                      (cond (decide ((IntKind.wrap .i64 (ishr .u64 (IntKind.wrap .u64 (w64 (x1 + x3))) 1)) < (w64 ((w64 ((IntKind.wrap .i64 (ishr .u64 (IntKind.wrap .u64 (w64 (x1 + x3))) 1)) + x2)) - s41.1))))
                        (cond (decide ((w64 ((w64 ((IntKind.wrap .i64 (ishr .u64 (IntKind.wrap .u64 (w64 (x1 + x3))) 1)) + x2)) - s41.1)) < x3))
                          (Option.bind (self r46.1 (IntKind.wrap .i64 (ishr .u64 (IntKind.wrap .u64 (w64 (x1 + x3))) 1)) (w64 ((w64 ((IntKind.wrap .i64 (ishr .u64 (IntKind.wrap .u64 (w64 (x1 + x3))) 1)) + x2)) - s41.1)) x3 x4) fun r49 =>
                          cond (Nat.beq (List.length r49.1) (List.length r46.1))
                            (some (r49.1, ())) none)
                          (some (r46.1, ())))
                        (some (r46.1, ()))))
                    (cond (decide ((IntKind.wrap .i64 (ishr .u64 (IntKind.wrap .u64 (w64 (x1 + x3))) 1)) < (w64 ((w64 ((IntKind.wrap .i64 (ishr .u64 (IntKind.wrap .u64 (w64 (x1 + x3))) 1)) + x2)) - s41.1))))
                      (cond (decide ((w64 ((w64 ((IntKind.wrap .i64 (ishr .u64 (IntKind.wrap .u64 (w64 (x1 + x3))) 1)) + x2)) - s41.1)) < x3))
                        (Option.bind (self r46.1 (IntKind.wrap .i64 (ishr .u64 (IntKind.wrap .u64 (w64 (x1 + x3))) 1)) (w64 ((w64 ((IntKind.wrap .i64 (ishr .u64 (IntKind.wrap .u64 (w64 (x1 + x3))) 1)) + x2)) - s41.1)) x3 x4) fun r50 =>
                        cond (Nat.beq (List.length r50.1) (List.length r46.1))
                          (some (r50.1, ())) none)
                        (some (r46.1, ())))
                      (some (r46.1, ())))) none)
                (cond (decide (x1 < s41.1))
                  (cond (decide (s41.1 < (IntKind.wrap .i64 (ishr .u64 (IntKind.wrap .u64 (w64 (x1 + x3))) 1))))
                    (Option.bind (self x0 x1 s41.1 (IntKind.wrap .i64 (ishr .u64 (IntKind.wrap .u64 (w64 (x1 + x3))) 1)) x4) fun r51 =>
                    cond (Nat.beq (List.length r51.1) (List.length x0))
                      (cond (decide ((IntKind.wrap .i64 (ishr .u64 (IntKind.wrap .u64 (w64 (x1 + x3))) 1)) < (w64 ((w64 ((IntKind.wrap .i64 (ishr .u64 (IntKind.wrap .u64 (w64 (x1 + x3))) 1)) + x2)) - s41.1))))
                        (cond (decide ((w64 ((w64 ((IntKind.wrap .i64 (ishr .u64 (IntKind.wrap .u64 (w64 (x1 + x3))) 1)) + x2)) - s41.1)) < x3))
                          (Option.bind (self r51.1 (IntKind.wrap .i64 (ishr .u64 (IntKind.wrap .u64 (w64 (x1 + x3))) 1)) (w64 ((w64 ((IntKind.wrap .i64 (ishr .u64 (IntKind.wrap .u64 (w64 (x1 + x3))) 1)) + x2)) - s41.1)) x3 x4) fun r52 =>
                          cond (Nat.beq (List.length r52.1) (List.length r51.1))
                            (some (r52.1, ())) none)
                          (some (r51.1, ())))
                        (some (r51.1, ()))) none)
                    (cond (decide ((IntKind.wrap .i64 (ishr .u64 (IntKind.wrap .u64 (w64 (x1 + x3))) 1)) < (w64 ((w64 ((IntKind.wrap .i64 (ishr .u64 (IntKind.wrap .u64 (w64 (x1 + x3))) 1)) + x2)) - s41.1))))
                      (cond (decide ((w64 ((w64 ((IntKind.wrap .i64 (ishr .u64 (IntKind.wrap .u64 (w64 (x1 + x3))) 1)) + x2)) - s41.1)) < x3))
                        (Option.bind (self x0 (IntKind.wrap .i64 (ishr .u64 (IntKind.wrap .u64 (w64 (x1 + x3))) 1)) (w64 ((w64 ((IntKind.wrap .i64 (ishr .u64 (IntKind.wrap .u64 (w64 (x1 + x3))) 1)) + x2)) - s41.1)) x3 x4) fun r53 =>
                        cond (Nat.beq (List.length r53.1) (List.length x0))
                          (some (r53.1, ())) none)
                        (some (x0, ())))
                      (some (x0, ()))))
                  (cond (decide ((IntKind.wrap .i64 (ishr .u64 (IntKind.wrap .u64 (w64 (x1 + x3))) 1)) < (w64 ((w64 ((IntKind.wrap .i64 (ishr .u64 (IntKind.wrap .u64 (w64 (x1 + x3))) 1)) + x2)) - s41.1))))
                    (cond (decide ((w64 ((w64 ((IntKind.wrap .i64 (ishr .u64 (IntKind.wrap .u64 (w64 (x1 + x3))) 1)) + x2)) - s41.1)) < x3))
                      (Option.bind (self x0 (IntKind.wrap .i64 (ishr .u64 (IntKind.wrap .u64 (w64 (x1 + x3))) 1)) (w64 ((w64 ((IntKind.wrap .i64 (ishr .u64 (IntKind.wrap .u64 (w64 (x1 + x3))) 1)) + x2)) - s41.1)) x3 x4) fun r54 =>
                      cond (Nat.beq (List.length r54.1) (List.length x0))
                        (some (r54.1, ())) none)
                      (some (x0, ())))
                    (some (x0, ())))))
              (cond (decide (x1 < s41.1))
                (cond (decide (s41.1 < (IntKind.wrap .i64 (ishr .u64 (IntKind.wrap .u64 (w64 (x1 + x3))) 1))))
                  (Option.bind (self x0 x1 s41.1 (IntKind.wrap .i64 (ishr .u64 (IntKind.wrap .u64 (w64 (x1 + x3))) 1)) x4) fun r55 =>
                  cond (Nat.beq (List.length r55.1) (List.length x0))
                    (cond (decide ((IntKind.wrap .i64 (ishr .u64 (IntKind.wrap .u64 (w64 (x1 + x3))) 1)) < (w64 ((w64 ((IntKind.wrap .i64 (ishr .u64 (IntKind.wrap .u64 (w64 (x1 + x3))) 1)) + x2)) - s41.1))))
                      (cond (decide ((w64 ((w64 ((IntKind.wrap .i64 (ishr .u64 (IntKind.wrap .u64 (w64 (x1 + x3))) 1)) + x2)) - s41.1)) < x3))
                        (Option.bind (self r55.1 (IntKind.wrap .i64 (ishr .u64 (IntKind.wrap .u64 (w64 (x1 + x3))) 1)) (w64 ((w64 ((IntKind.wrap .i64 (ishr .u64 (IntKind.wrap .u64 (w64 (x1 + x3))) 1)) + x2)) - s41.1)) x3 x4) fun r56 =>
                        cond (Nat.beq (List.length r56.1) (List.length r55.1))
                          (some (r56.1, ())) none)
                        (some (r55.1, ())))
                      (some (r55.1, ()))) none)
                  (cond (decide ((IntKind.wrap .i64 (ishr .u64 (IntKind.wrap .u64 (w64 (x1 + x3))) 1)) < (w64 ((w64 ((IntKind.wrap .i64 (ishr .u64 (IntKind.wrap .u64 (w64 (x1 + x3))) 1)) + x2)) - s41.1))))
                    (cond (decide ((w64 ((w64 ((IntKind.wrap .i64 (ishr .u64 (IntKind.wrap .u64 (w64 (x1 + x3))) 1)) + x2)) - s41.1)) < x3))
                      (Option.bind (self x0 (IntKind.wrap .i64 (ishr .u64 (IntKind.wrap .u64 (w64 (x1 + x3))) 1)) (w64 ((w64 ((IntKind.wrap .i64 (ishr .u64 (IntKind.wrap .u64 (w64 (x1 + x3))) 1)) + x2)) - s41.1)) x3 x4) fun r57 =>
                      cond (Nat.beq (List.length r57.1) (List.length x0))
                        (some (r57.1, ())) none)
                      (some (x0, ())))
                    (some (x0, ()))))
                (cond (decide ((IntKind.wrap .i64 (ishr .u64 (IntKind.wrap .u64 (w64 (x1 + x3))) 1)) < (w64 ((w64 ((IntKind.wrap .i64 (ishr .u64 (IntKind.wrap .u64 (w64 (x1 + x3))) 1)) + x2)) - s41.1))))
                  (cond (decide ((w64 ((w64 ((IntKind.wrap .i64 (ishr .u64 (IntKind.wrap .u64 (w64 (x1 + x3))) 1)) + x2)) - s41.1)) < x3))
                    (Option.bind (self x0 (IntKind.wrap .i64 (ishr .u64 (IntKind.wrap .u64 (w64 (x1 + x3))) 1)) (w64 ((w64 ((IntKind.wrap .i64 (ishr .u64 (IntKind.wrap .u64 (w64 (x1 + x3))) 1)) + x2)) - s41.1)) x3 x4) fun r58 =>
                    cond (Nat.beq (List.length r58.1) (List.length x0))
                      (some (r58.1, ())) none)
                    (some (x0, ())))
                  (some (x0, ())))))) N (x1, x2, ()))))
def slices_symMergeCmpFunc_int64_impl_orderBy_4_r (N : Nat) : Nat → List (Int) → Int → Int → Int → List (Int × Int × Int × Int) → Option (List (Int) × (Unit))
  | 0 => fun _ _ _ _ _ => none
  | F + 1 => slices_symMergeCmpFunc_int64_impl_orderBy_4_step N (slices_symMergeCmpFunc_int64_impl_orderBy_4_r N F)
def slices_symMergeCmpFunc_int64_impl_orderBy_4 (N : Nat) (x0 : List Int) (x1 : Int) (x2 : Int) (x3 : Int) (x4 : List (Int × Int × Int × Int)) : Option (List (Int) × (Unit)) := slices_symMergeCmpFunc_int64_impl_orderBy_4_r N N x0 x1 x2 x3 x4
def slices_symMergeCmpFunc_int64_impl_orderBy_4_ef (N F : Nat) : EntM := { io := (.int .i64), ins := [(.int .i64), (.int .i64), (.int .i64), (.clo 106 (.bx (.sl (.pair (.int .i64) (.pair (.int .i64) (.pair (.int .i64) (.int .i64)))))))], outs := [], F := fun xs x => slices_symMergeCmpFunc_int64_impl_orderBy_4_r N F xs x.1 x.2.1 x.2.2.1 x.2.2.2.1 }
def slices_symMergeCmpFunc_int64_impl_orderBy_4_e (N : Nat) : EntM := slices_symMergeCmpFunc_int64_impl_orderBy_4_ef N N
def slices_symMergeCmpFunc_int64_impl_orderBy_4_T (N F : Nat) : Nat → List EntX
  | 106 => [.pl (impl_orderBy_4_c0_e N)]
  | 130 => [.mu (slices_symMergeCmpFunc_int64_impl_orderBy_4_ef N F)]
  | 134 => [.mu (slices_rotateCmpFunc_int64_impl_orderBy_4_e N)]
  | _ => []
def slices_symMergeCmpFunc_int64_impl_orderBy_4_L : Nat → List (Nat × TK)
  | 3 => [(10, .v (.int .i64)), (11, .v (.int .i64))]
  | 9 => [(0, .own (.int .i64)), (13, .v (.int .i64))]
  | 15 => [(14, .v (.int .i64)), (15, .v (.int .i64))]
  | 21 => [(0, .own (.int .i64)), (17, .v (.int .i64))]
  | 33 => [(20, .v (.int .i64)), (21, .v (.int .i64))]
  | _ => []
theorem slices_symMergeCmpFunc_int64_impl_orderBy_4_eq (N F : Nat) : runM N tt (slices_symMergeCmpFunc_int64_impl_orderBy_4_T N F) slices_symMergeCmpFunc_int64_impl_orderBy_4_L (.int .i64) [(.int .i64), (.int .i64), (.int .i64), (.clo 106 (.bx (.sl (.pair (.int .i64) (.pair (.int .i64) (.pair (.int .i64) (.int .i64)))))))] [] (bodyOf Try.f130) Try.f130.ntmps [] = (fun xs x => slices_symMergeCmpFunc_int64_impl_orderBy_4_step N (slices_symMergeCmpFunc_int64_impl_orderBy_4_r N F) xs x.1 x.2.1 x.2.2.1 x.2.2.2.1) := by
  funext xs x
  kernel_rfl
theorem slices_symMergeCmpFunc_int64_impl_orderBy_4_soundf (N F : Nat) : SoundM Try.prog 130 (slices_symMergeCmpFunc_int64_impl_orderBy_4_ef N F) := by
  induction F with
  | zero =>
    intro p w v ob vals xs x z _ _ _ _ _ hF
    exact absurd (show none = some _ from hF) (by simp)
  | succ F ih =>
    have h := runM_sound (f := 130) (code := bodyOf Try.f130) (N := N) (T := (slices_symMergeCmpFunc_int64_impl_orderBy_4_T N F)) (L := slices_symMergeCmpFunc_int64_impl_orderBy_4_L) (io := (.int .i64)) (ins := [(.int .i64), (.int .i64), (.int .i64), (.clo 106 (.bx (.sl (.pair (.int .i64) (.pair (.int .i64) (.pair (.int .i64) (.int .i64)))))))]) (outs := []) (res := []) mixed tt_ok ?_ Try.func130 (by kernel_rfl) rfl (by kernel_rfl) (by kernel_rfl) (by decide +kernel)
    · rw [slices_symMergeCmpFunc_int64_impl_orderBy_4_eq] at h
      exact h
    · intro f e he
      unfold slices_symMergeCmpFunc_int64_impl_orderBy_4_T at he
      split at he
      · rw [List.mem_singleton.1 he]; exact impl_orderBy_4_c0_sound N
      · rw [List.mem_singleton.1 he]; exact ih
      · rw [List.mem_singleton.1 he]; exact slices_rotateCmpFunc_int64_impl_orderBy_4_sound N
      · cases he
theorem slices_symMergeCmpFunc_int64_impl_orderBy_4_sound (N : Nat) : SoundM Try.prog 130 (slices_symMergeCmpFunc_int64_impl_orderBy_4_e N) := slices_symMergeCmpFunc_int64_impl_orderBy_4_soundf N N

/- slices.stableCmpFunc[int64] -/
def slices_stableCmpFunc_int64_impl_orderBy_4 (N : Nat) (x0 : List Int) (x1 : Int) (x2 : List (Int × Int × Int × Int)) : Option (List (Int) × (Unit)) :=
  loopN (fun (s1 : List (Int) × Int × Int × Unit) next2 =>
    cond (decide (s1.2.2.1 ≤ x1))
      (Option.bind (slices_insertionSortCmpFunc_int64_impl_orderBy_4 N s1.1 s1.2.1 s1.2.2.1 x2) fun r3 =>
      cond (Nat.beq (List.length r3.1) (List.length s1.1))
        (next2 (r3.1, s1.2.2.1, (w64 (s1.2.2.1 + 20)), ())) none)
      (Option.bind (slices_insertionSortCmpFunc_int64_impl_orderBy_4 N s1.1 s1.2.1 x1 x2) fun r4 =>
      cond (Nat.beq (List.length r4.1) (List.length s1.1))
        (loopN (fun (s5 : List (Int) × Int × Unit) next6 =>
          cond (decide (s5.2.1 < x1))
            (loopN (fun (s7 : List (Int) × Int × Int × Unit) next8 =>
              cond (decide (s7.2.2.1 ≤ x1))
                (Option.bind (slices_symMergeCmpFunc_int64_impl_orderBy_4 N s7.1 s7.2.1 (w64 (s7.2.1 + s5.2.1)) s7.2.2.1 x2) fun r9 =>
                cond (Nat.beq (List.length r9.1) (List.length s7.1))
                  (next8 (r9.1, s7.2.2.1, (w64 (s7.2.2.1 + (w64 (2 * s5.2.1)))), ())) none)
                (cond (decide ((w64 (s7.2.1 + s5.2.1)) < x1))
                  (Option.bind (slices_symMergeCmpFunc_int64_impl_orderBy_4 N s7.1 s7.2.1 (w64 (s7.2.1 + s5.2.1)) x1 x2) fun r10 =>
                  cond (Nat.beq (List.length r10.1) (List.length s7.1))
                    (next6 (r10.1, (w64 (s5.2.1 * 2)), ())) none)
                  (next6 (s7.1, (w64 (s5.2.1 * 2)), ())))) N (s5.1, 0, (w64 (2 * s5.2.1)), ()))
            (some (s5.1, ()))) N (r4.1, 20, ())) none)) N (x0, 0, 20, ())
def slices_stableCmpFunc_int64_impl_orderBy_4_e (N : Nat) : EntM := { io := (.int .i64), ins := [(.int .i64), (.clo 106 (.bx (.sl (.pair (.int .i64) (.pair (.int .i64) (.pair (.int .i64) (.int .i64)))))))], outs := [], F := fun xs x => slices_stableCmpFunc_int64_impl_orderBy_4 N xs x.1 x.2.1 }
def slices_stableCmpFunc_int64_impl_orderBy_4_T (N : Nat) : Nat → List EntX
  | 129 => [.mu (slices_insertionSortCmpFunc_int64_impl_orderBy_4_e N)]
  | 130 => [.mu (slices_symMergeCmpFunc_int64_impl_orderBy_4_e N)]
  | _ => []
def slices_stableCmpFunc_int64_impl_orderBy_4_L : Nat → List (Nat × TK)
  | 2 => [(0, .own (.int .i64)), (7, .v (.int .i64)), (8, .v (.int .i64))]
  | 7 => [(0, .own (.int .i64)), (6, .v (.int .i64))]
  | 9 => [(0, .own (.int .i64)), (7, .v (.int .i64)), (8, .v (.int .i64))]
  | _ => []
theorem slices_stableCmpFunc_int64_impl_orderBy_4_eq (N : Nat) : runM N tt (slices_stableCmpFunc_int64_impl_orderBy_4_T N) slices_stableCmpFunc_int64_impl_orderBy_4_L (.int .i64) [(.int .i64), (.clo 106 (.bx (.sl (.pair (.int .i64) (.pair (.int .i64) (.pair (.int .i64) (.int .i64)))))))] [] (bodyOf Try.f119) Try.f119.ntmps [] = (slices_stableCmpFunc_int64_impl_orderBy_4_e N).F := by
  funext xs x
  kernel_rfl
theorem slices_stableCmpFunc_int64_impl_orderBy_4_sound (N : Nat) : SoundM Try.prog 119 (slices_stableCmpFunc_int64_impl_orderBy_4_e N) := by
  have h := runM_sound (f := 119) (code := bodyOf Try.f119) (N := N) (T := (slices_stableCmpFunc_int64_impl_orderBy_4_T N)) (L := slices_stableCmpFunc_int64_impl_orderBy_4_L) (io := (.int .i64)) (ins := [(.int .i64), (.clo 106 (.bx (.sl (.pair (.int .i64) (.pair (.int .i64) (.pair (.int .i64) (.int .i64)))))))]) (outs := []) (res := []) mixed tt_ok ?_ Try.func119 (by kernel_rfl) rfl (by kernel_rfl) (by kernel_rfl) (by decide +kernel)
  · rw [slices_stableCmpFunc_int64_impl_orderBy_4_eq] at h
    exact h
  · intro f e he
    unfold slices_stableCmpFunc_int64_impl_orderBy_4_T at he
    split at he
    · rw [List.mem_singleton.1 he]; exact slices_insertionSortCmpFunc_int64_impl_orderBy_4_sound N
    · rw [List.mem_singleton.1 he]; exact slices_symMergeCmpFunc_int64_impl_orderBy_4_sound N
    · cases he

/- slices.SortStableFunc[[]int64,int64] -/
def slices_SortStableFunc_int64_int64_impl_orderBy_4 (N : Nat) (x0 : List Int) (x1 : List (Int × Int × Int × Int)) : Option (List (Int) × (Unit)) :=
  Option.bind (slices_stableCmpFunc_int64_impl_orderBy_4 N x0 (List.length x0 : Int) x1) fun r1 =>
  cond (Nat.beq (List.length r1.1) (List.length x0))
    (some (r1.1, ())) none
def slices_SortStableFunc_int64_int64_impl_orderBy_4_e (N : Nat) : EntM := { io := (.int .i64), ins := [(.clo 106 (.bx (.sl (.pair (.int .i64) (.pair (.int .i64) (.pair (.int .i64) (.int .i64)))))))], outs := [], F := fun xs x => slices_SortStableFunc_int64_int64_impl_orderBy_4 N xs x.1 }
def slices_SortStableFunc_int64_int64_impl_orderBy_4_T (N : Nat) : Nat → List EntX
  | 119 => [.mu (slices_stableCmpFunc_int64_impl_orderBy_4_e N)]
  | _ => []
def slices_SortStableFunc_int64_int64_impl_orderBy_4_L : Nat → List (Nat × TK) := fun _ => []
theorem slices_SortStableFunc_int64_int64_impl_orderBy_4_eq (N : Nat) : runM N tt (slices_SortStableFunc_int64_int64_impl_orderBy_4_T N) slices_SortStableFunc_int64_int64_impl_orderBy_4_L (.int .i64) [(.clo 106 (.bx (.sl (.pair (.int .i64) (.pair (.int .i64) (.pair (.int .i64) (.int .i64)))))))] [] (bodyOf Try.f82) Try.f82.ntmps [] = (slices_SortStableFunc_int64_int64_impl_orderBy_4_e N).F := by
  funext xs x
  kernel_rfl
theorem slices_SortStableFunc_int64_int64_impl_orderBy_4_sound (N : Nat) : SoundM Try.prog 82 (slices_SortStableFunc_int64_int64_impl_orderBy_4_e N) := by
  have h := runM_sound (f := 82) (code := bodyOf Try.f82) (N := N) (T := (slices_SortStableFunc_int64_int64_impl_orderBy_4_T N)) (L := slices_SortStableFunc_int64_int64_impl_orderBy_4_L) (io := (.int .i64)) (ins := [(.clo 106 (.bx (.sl (.pair (.int .i64) (.pair (.int .i64) (.pair (.int .i64) (.int .i64)))))))]) (outs := []) (res := []) mixed tt_ok ?_ Try.func82 (by kernel_rfl) rfl (by kernel_rfl) (by kernel_rfl) (by decide +kernel)
  · rw [slices_SortStableFunc_int64_int64_impl_orderBy_4_eq] at h
    exact h
  · intro f e he
    unfold slices_SortStableFunc_int64_int64_impl_orderBy_4_T at he
    split at he
    · rw [List.mem_singleton.1 he]; exact slices_stableCmpFunc_int64_impl_orderBy_4_sound N
    · cases he

/- impl.orderBy -/
def impl_orderBy (N : Nat) (x0 : List (Int × Int × Int × Int)) (x1 : Int) : Option (List (Int) × Unit) :=
  cond (x1 == 0)
    (Option.bind (impl_sortedBy_impl_orderBy_1 N (List.length x0 : Int) x0) fun r1 =>
    some (r1.1, ()))
    (cond (x1 == 1)
      (Option.bind (impl_sortedBy_impl_orderBy_2 N (List.length x0 : Int) x0) fun r2 =>
      some (r2.1, ()))
      (cond (x1 == 2)
        (Option.bind (impl_sortedBy_impl_orderBy_3 N (List.length x0 : Int) x0) fun r3 =>
        some (r3.1, ()))
        (Option.bind (impl_counting N (List.length x0 : Int)) fun r4 =>
        Option.bind (slices_SortStableFunc_int64_int64_impl_orderBy_4 N r4.1 x0) fun r5 =>
        cond (Nat.beq (List.length r5.1) (List.length r4.1))
          (some (r5.1, ())) none)))
def impl_orderBy_e (N : Nat) : Ent := { ins := [(.sl (.pair (.int .i64) (.pair (.int .i64) (.pair (.int .i64) (.int .i64))))), (.int .i64)], outs := [.own (.int .i64)], F := fun x => impl_orderBy N x.1 x.2.1 }
def impl_orderBy_T (N : Nat) : Nat → List EntX
  | 48 => [.pl (impl_sortedBy_impl_orderBy_1_e N), .pl (impl_sortedBy_impl_orderBy_2_e N), .pl (impl_sortedBy_impl_orderBy_3_e N)]
  | 81 => [.pl (impl_counting_e N)]
  | 82 => [.mu (slices_SortStableFunc_int64_int64_impl_orderBy_4_e N)]
  | _ => []
def impl_orderBy_L : Nat → List (Nat × TK) := fun _ => []
theorem impl_orderBy_eq (N : Nat) : runF N tt (impl_orderBy_T N) impl_orderBy_L [(.sl (.pair (.int .i64) (.pair (.int .i64) (.pair (.int .i64) (.int .i64))))), (.int .i64)] [.own (.int .i64)] (bodyOf Try.f66) Try.f66.ntmps [4] = (impl_orderBy_e N).F := by
  funext x
  kernel_rfl
theorem impl_orderBy_sound (N : Nat) : SoundC Try.prog 66 (impl_orderBy_e N) := by
  have h := runF_sound (f := 66) (code := bodyOf Try.f66) (N := N) (T := (impl_orderBy_T N)) (L := impl_orderBy_L) (ins := [(.sl (.pair (.int .i64) (.pair (.int .i64) (.pair (.int .i64) (.int .i64))))), (.int .i64)]) (outs := [.own (.int .i64)]) (res := [4]) mixed tt_ok ?_ Try.func66 (by kernel_rfl) rfl (by kernel_rfl) (by kernel_rfl) (by decide +kernel)
  · rw [impl_orderBy_eq] at h
    exact h
  · intro f e he
    unfold impl_orderBy_T at he
    split at he
    · simp only [List.mem_cons, List.not_mem_nil, or_false] at he
      rcases he with rfl | rfl | rfl
      · exact impl_sortedBy_impl_orderBy_1_sound N
      · exact impl_sortedBy_impl_orderBy_2_sound N
      · exact impl_sortedBy_impl_orderBy_3_sound N
    · rw [List.mem_singleton.1 he]; exact impl_counting_sound N
    · rw [List.mem_singleton.1 he]; exact slices_SortStableFunc_int64_int64_impl_orderBy_4_sound N
    · cases he

/- impl.within -/
def impl_within (_N : Nat) (x0 : Int) (x1 : Int) (x2 : Int) : Option (Bool × Unit) :=
  cond (decide (x0 ≥ x1))
    (some ((decide (x0 ≤ x2)), ()))
    (some (false, ()))
def impl_within_e (N : Nat) : Ent := { ins := [(.int .i64), (.int .i64), (.int .i64)], outs := [.val .bool], F := fun x => impl_within N x.1 x.2.1 x.2.2.1 }
def impl_within_T (_ : Nat) : Nat → List EntX := fun _ => []
def impl_within_L : Nat → List (Nat × TK) := fun _ => []
theorem impl_within_eq (N : Nat) : runF N tt (impl_within_T N) impl_within_L [(.int .i64), (.int .i64), (.int .i64)] [.val .bool] (bodyOf Try.f65) Try.f65.ntmps [6] = (impl_within_e N).F := by
  funext x
  kernel_rfl
theorem impl_within_sound (N : Nat) : SoundC Try.prog 65 (impl_within_e N) := by
  have h := runF_sound (f := 65) (code := bodyOf Try.f65) (N := N) (T := (impl_within_T N)) (L := impl_within_L) (ins := [(.int .i64), (.int .i64), (.int .i64)]) (outs := [.val .bool]) (res := [6]) mixed tt_ok ?_ Try.func65 (by kernel_rfl) rfl (by kernel_rfl) (by kernel_rfl) (by decide +kernel)
  · rw [impl_within_eq] at h
    exact h
  · intro f e he
    cases he

/- impl.areWithin -/
def impl_areWithin (N : Nat) (x0 : List Int) (x1 : Int) (x2 : Int) : Option (Bool × Unit) :=
  loopN (fun (s1 : Int × Unit) next2 =>
    cond (decide (s1.1 < (List.length x0 : Int)))
      (Option.bind (idx x0 s1.1) fun v3 =>
      Option.bind (impl_within N v3 x1 x2) fun r4 =>
      cond (!r4.1)
        (some (false, ()))
        (next2 ((w64 (s1.1 + 1)), ())))
      (some (true, ()))) N (0, ())
def impl_areWithin_e (N : Nat) : Ent := { ins := [(.sl (.int .i64)), (.int .i64), (.int .i64)], outs := [.val .bool], F := fun x => impl_areWithin N x.1 x.2.1 x.2.2.1 }
def impl_areWithin_T (N : Nat) : Nat → List EntX
  | 65 => [.pl (impl_within_e N)]
  | _ => []
def impl_areWithin_L : Nat → List (Nat × TK)
  | 2 => [(11, .v (.int .i64))]
  | _ => []
theorem impl_areWithin_eq (N : Nat) : runF N tt (impl_areWithin_T N) impl_areWithin_L [(.sl (.int .i64)), (.int .i64), (.int .i64)] [.val .bool] (bodyOf Try.f102) Try.f102.ntmps [6] = (impl_areWithin_e N).F := by
  funext x
  kernel_rfl
theorem impl_areWithin_sound (N : Nat) : SoundC Try.prog 102 (impl_areWithin_e N) := by
  have h := runF_sound (f := 102) (code := bodyOf Try.f102) (N := N) (T := (impl_areWithin_T N)) (L := impl_areWithin_L) (ins := [(.sl (.int .i64)), (.int .i64), (.int .i64)]) (outs := [.val .bool]) (res := [6]) mixed tt_ok ?_ Try.func102 (by kernel_rfl) rfl (by kernel_rfl) (by kernel_rfl) (by decide +kernel)
  · rw [impl_areWithin_eq] at h
    exact h
  · intro f e he
    unfold impl_areWithin_T at he
    split at he
    · rw [List.mem_singleton.1 he]; exact impl_within_sound N
    · cases he

/- impl.AreJobs -/
def impl_AreJobs (N : Nat) (x0 : List (Int × Int × Int × Int)) : Option (Bool × Unit) :=
  loopN (fun (s1 : Int × Unit) next2 =>
    cond (decide (s1.1 < (List.length x0 : Int)))
      (Option.bind (idx x0 s1.1) fun v3 =>
      Option.bind (impl_within N v3.1 1 10000) fun r4 =>
      cond (!r4.1)
        (some (false, ()))
        (Option.bind (impl_areWithin N ([v3.2.1, v3.2.2.1, v3.2.2.2] : List Int) 0 10000) fun r5 =>
        cond (!r5.1)
          (some (false, ()))
          (next2 ((w64 (s1.1 + 1)), ()))))
      (cond (decide ((List.length x0 : Int) ≥ 1))
        (some ((decide ((List.length x0 : Int) ≤ 24)), ()))
        (some (false, ())))) N (0, ())
def impl_AreJobs_e (N : Nat) : Ent := { ins := [(.sl (.pair (.int .i64) (.pair (.int .i64) (.pair (.int .i64) (.int .i64)))))], outs := [.val .bool], F := fun x => impl_AreJobs N x.1 }
def impl_AreJobs_T (N : Nat) : Nat → List EntX
  | 65 => [.pl (impl_within_e N)]
  | 102 => [.pl (impl_areWithin_e N)]
  | _ => []
def impl_AreJobs_L : Nat → List (Nat × TK)
  | 2 => [(7, .v (.int .i64))]
  | _ => []
theorem impl_AreJobs_eq (N : Nat) : runF N tt (impl_AreJobs_T N) impl_AreJobs_L [(.sl (.pair (.int .i64) (.pair (.int .i64) (.pair (.int .i64) (.int .i64)))))] [.val .bool] (bodyOf Try.f64) Try.f64.ntmps [2] = (impl_AreJobs_e N).F := by
  funext x
  kernel_rfl
theorem impl_AreJobs_sound (N : Nat) : SoundC Try.prog 64 (impl_AreJobs_e N) := by
  have h := runF_sound (f := 64) (code := bodyOf Try.f64) (N := N) (T := (impl_AreJobs_T N)) (L := impl_AreJobs_L) (ins := [(.sl (.pair (.int .i64) (.pair (.int .i64) (.pair (.int .i64) (.int .i64)))))]) (outs := [.val .bool]) (res := [2]) mixed tt_ok ?_ Try.func64 (by kernel_rfl) rfl (by kernel_rfl) (by kernel_rfl) (by decide +kernel)
  · rw [impl_AreJobs_eq] at h
    exact h
  · intro f e he
    unfold impl_AreJobs_T at he
    split at he
    · rw [List.mem_singleton.1 he]; exact impl_within_sound N
    · rw [List.mem_singleton.1 he]; exact impl_areWithin_sound N
    · cases he

/- impl.areAtOnce$1 -/
def impl_areAtOnce_1 (_N : Nat) (x0 : Int × Int × Int × Int) : Option (Bool × Unit) :=
  some ((x0.2.1 != 0), ())
def impl_areAtOnce_1_e (N : Nat) : Ent := { ins := [(.pair (.int .i64) (.pair (.int .i64) (.pair (.int .i64) (.int .i64))))], outs := [.val .bool], F := fun x => impl_areAtOnce_1 N x.1 }
def impl_areAtOnce_1_T (_ : Nat) : Nat → List EntX := fun _ => []
def impl_areAtOnce_1_L : Nat → List (Nat × TK) := fun _ => []
theorem impl_areAtOnce_1_eq (N : Nat) : runF N tt (impl_areAtOnce_1_T N) impl_areAtOnce_1_L [(.pair (.int .i64) (.pair (.int .i64) (.pair (.int .i64) (.int .i64))))] [.val .bool] (bodyOf Try.f108) Try.f108.ntmps [2] = (impl_areAtOnce_1_e N).F := by
  funext x
  kernel_rfl
theorem impl_areAtOnce_1_sound (N : Nat) : SoundC Try.prog 108 (impl_areAtOnce_1_e N) := by
  have h := runF_sound (f := 108) (code := bodyOf Try.f108) (N := N) (T := (impl_areAtOnce_1_T N)) (L := impl_areAtOnce_1_L) (ins := [(.pair (.int .i64) (.pair (.int .i64) (.pair (.int .i64) (.int .i64))))]) (outs := [.val .bool]) (res := [2]) mixed tt_ok ?_ Try.func108 (by kernel_rfl) rfl (by kernel_rfl) (by kernel_rfl) (by decide +kernel)
  · rw [impl_areAtOnce_1_eq] at h
    exact h
  · intro f e he
    cases he

/- slices.IndexFunc[[]impl.Job,impl.Job] -/
def slices_IndexFunc_impl_Job_impl_Job_impl_areAtOnce_1 (N : Nat) (x0 : List (Int × Int × Int × Int)) (x1 : Unit) : Option (Int × Unit) :=
  loopN (fun (s1 : Int × Unit) next2 =>
    cond (decide (s1.1 < (List.length x0 : Int)))
      (Option.bind (idx x0 s1.1) fun v3 =>
      Option.bind (impl_areAtOnce_1 N v3) fun r4 =>
      cond r4.1
        (some (s1.1, ()))
        (next2 ((w64 (s1.1 + 1)), ())))
      (some ((-1), ()))) N (0, ())
def slices_IndexFunc_impl_Job_impl_Job_impl_areAtOnce_1_e (N : Nat) : Ent := { ins := [(.sl (.pair (.int .i64) (.pair (.int .i64) (.pair (.int .i64) (.int .i64))))), (.clo 108 .un)], outs := [.val (.int .i64)], F := fun x => slices_IndexFunc_impl_Job_impl_Job_impl_areAtOnce_1 N x.1 x.2.1 }
def slices_IndexFunc_impl_Job_impl_Job_impl_areAtOnce_1_T (N : Nat) : Nat → List EntX
  | 108 => [.pl (impl_areAtOnce_1_e N)]
  | _ => []
def slices_IndexFunc_impl_Job_impl_Job_impl_areAtOnce_1_L : Nat → List (Nat × TK)
  | 2 => [(8, .v (.int .i64))]
  | _ => []
theorem slices_IndexFunc_impl_Job_impl_Job_impl_areAtOnce_1_eq (N : Nat) : runF N tt (slices_IndexFunc_impl_Job_impl_Job_impl_areAtOnce_1_T N) slices_IndexFunc_impl_Job_impl_Job_impl_areAtOnce_1_L [(.sl (.pair (.int .i64) (.pair (.int .i64) (.pair (.int .i64) (.int .i64))))), (.clo 108 .un)] [.val (.int .i64)] (bodyOf Try.f124) Try.f124.ntmps [4] = (slices_IndexFunc_impl_Job_impl_Job_impl_areAtOnce_1_e N).F := by
  funext x
  kernel_rfl
theorem slices_IndexFunc_impl_Job_impl_Job_impl_areAtOnce_1_sound (N : Nat) : SoundC Try.prog 124 (slices_IndexFunc_impl_Job_impl_Job_impl_areAtOnce_1_e N) := by
  have h := runF_sound (f := 124) (code := bodyOf Try.f124) (N := N) (T := (slices_IndexFunc_impl_Job_impl_Job_impl_areAtOnce_1_T N)) (L := slices_IndexFunc_impl_Job_impl_Job_impl_areAtOnce_1_L) (ins := [(.sl (.pair (.int .i64) (.pair (.int .i64) (.pair (.int .i64) (.int .i64))))), (.clo 108 .un)]) (outs := [.val (.int .i64)]) (res := [4]) mixed tt_ok ?_ Try.func124 (by kernel_rfl) rfl (by kernel_rfl) (by kernel_rfl) (by decide +kernel)
  · rw [slices_IndexFunc_impl_Job_impl_Job_impl_areAtOnce_1_eq] at h
    exact h
  · intro f e he
    unfold slices_IndexFunc_impl_Job_impl_Job_impl_areAtOnce_1_T at he
    split at he
    · rw [List.mem_singleton.1 he]; exact impl_areAtOnce_1_sound N
    · cases he

/- slices.ContainsFunc[[]impl.Job,impl.Job] -/
def slices_ContainsFunc_impl_Job_impl_Job_impl_areAtOnce_1 (N : Nat) (x0 : List (Int × Int × Int × Int)) (x1 : Unit) : Option (Bool × Unit) :=
  Option.bind (slices_IndexFunc_impl_Job_impl_Job_impl_areAtOnce_1 N x0 x1) fun r1 =>
  some ((decide (r1.1 ≥ 0)), ())
def slices_ContainsFunc_impl_Job_impl_Job_impl_areAtOnce_1_e (N : Nat) : Ent := { ins := [(.sl (.pair (.int .i64) (.pair (.int .i64) (.pair (.int .i64) (.int .i64))))), (.clo 108 .un)], outs := [.val .bool], F := fun x => slices_ContainsFunc_impl_Job_impl_Job_impl_areAtOnce_1 N x.1 x.2.1 }
def slices_ContainsFunc_impl_Job_impl_Job_impl_areAtOnce_1_T (N : Nat) : Nat → List EntX
  | 124 => [.pl (slices_IndexFunc_impl_Job_impl_Job_impl_areAtOnce_1_e N)]
  | _ => []
def slices_ContainsFunc_impl_Job_impl_Job_impl_areAtOnce_1_L : Nat → List (Nat × TK) := fun _ => []
theorem slices_ContainsFunc_impl_Job_impl_Job_impl_areAtOnce_1_eq (N : Nat) : runF N tt (slices_ContainsFunc_impl_Job_impl_Job_impl_areAtOnce_1_T N) slices_ContainsFunc_impl_Job_impl_Job_impl_areAtOnce_1_L [(.sl (.pair (.int .i64) (.pair (.int .i64) (.pair (.int .i64) (.int .i64))))), (.clo 108 .un)] [.val .bool] (bodyOf Try.f107) Try.f107.ntmps [4] = (slices_ContainsFunc_impl_Job_impl_Job_impl_areAtOnce_1_e N).F := by
  funext x
  kernel_rfl
theorem slices_ContainsFunc_impl_Job_impl_Job_impl_areAtOnce_1_sound (N : Nat) : SoundC Try.prog 107 (slices_ContainsFunc_impl_Job_impl_Job_impl_areAtOnce_1_e N) := by
  have h := runF_sound (f := 107) (code := bodyOf Try.f107) (N := N) (T := (slices_ContainsFunc_impl_Job_impl_Job_impl_areAtOnce_1_T N)) (L := slices_ContainsFunc_impl_Job_impl_Job_impl_areAtOnce_1_L) (ins := [(.sl (.pair (.int .i64) (.pair (.int .i64) (.pair (.int .i64) (.int .i64))))), (.clo 108 .un)]) (outs := [.val .bool]) (res := [4]) mixed tt_ok ?_ Try.func107 (by kernel_rfl) rfl (by kernel_rfl) (by kernel_rfl) (by decide +kernel)
  · rw [slices_ContainsFunc_impl_Job_impl_Job_impl_areAtOnce_1_eq] at h
    exact h
  · intro f e he
    unfold slices_ContainsFunc_impl_Job_impl_Job_impl_areAtOnce_1_T at he
    split at he
    · rw [List.mem_singleton.1 he]; exact slices_IndexFunc_impl_Job_impl_Job_impl_areAtOnce_1_sound N
    · cases he

/- impl.areAtOnce -/
def impl_areAtOnce (N : Nat) (x0 : List (Int × Int × Int × Int)) : Option (Bool × Unit) :=
  Option.bind (impl_AreJobs N x0) fun r1 =>
  cond r1.1
    (Option.bind (slices_ContainsFunc_impl_Job_impl_Job_impl_areAtOnce_1 N x0 ()) fun r2 =>
    some ((!r2.1), ()))
    (some (false, ()))
def impl_areAtOnce_e (N : Nat) : Ent := { ins := [(.sl (.pair (.int .i64) (.pair (.int .i64) (.pair (.int .i64) (.int .i64)))))], outs := [.val .bool], F := fun x => impl_areAtOnce N x.1 }
def impl_areAtOnce_T (N : Nat) : Nat → List EntX
  | 64 => [.pl (impl_AreJobs_e N)]
  | 107 => [.pl (slices_ContainsFunc_impl_Job_impl_Job_impl_areAtOnce_1_e N)]
  | _ => []
def impl_areAtOnce_L : Nat → List (Nat × TK) := fun _ => []
theorem impl_areAtOnce_eq (N : Nat) : runF N tt (impl_areAtOnce_T N) impl_areAtOnce_L [(.sl (.pair (.int .i64) (.pair (.int .i64) (.pair (.int .i64) (.int .i64)))))] [.val .bool] (bodyOf Try.f69) Try.f69.ntmps [2] = (impl_areAtOnce_e N).F := by
  funext x
  kernel_rfl
theorem impl_areAtOnce_sound (N : Nat) : SoundC Try.prog 69 (impl_areAtOnce_e N) := by
  have h := runF_sound (f := 69) (code := bodyOf Try.f69) (N := N) (T := (impl_areAtOnce_T N)) (L := impl_areAtOnce_L) (ins := [(.sl (.pair (.int .i64) (.pair (.int .i64) (.pair (.int .i64) (.int .i64)))))]) (outs := [.val .bool]) (res := [2]) mixed tt_ok ?_ Try.func69 (by kernel_rfl) rfl (by kernel_rfl) (by kernel_rfl) (by decide +kernel)
  · rw [impl_areAtOnce_eq] at h
    exact h
  · intro f e he
    unfold impl_areAtOnce_T at he
    split at he
    · rw [List.mem_singleton.1 he]; exact impl_AreJobs_sound N
    · rw [List.mem_singleton.1 he]; exact slices_ContainsFunc_impl_Job_impl_Job_impl_areAtOnce_1_sound N
    · cases he

/- slices.Delete[[]int64,int64] -/
def slices_Delete_int64_int64 (_N : Nat) (x0 : List Int) (x1 : Int) (x2 : List Int ⊕ Int) : Option (List Int) :=
  delF x0 x1 x2
def slices_Delete_int64_int64_e (N : Nat) : EntA := { F := fun x i y => slices_Delete_int64_int64 N x i y }
theorem slices_Delete_int64_int64_sound (N : Nat) : SoundA Try.prog 70 (slices_Delete_int64_int64_e N) := del_sound

/- impl.FewestLate -/
def impl_FewestLate (N : Nat) (x0 : List (Int × Int × Int × Int)) : Option (List (Int) × Int × Bool × Unit) :=
  Option.bind (impl_areAtOnce N x0) fun r1 =>
  cond (!r1.1)
    (some ([], 0, false, ()))
    (Option.bind (impl_orderBy N x0 1) fun r2 =>
    loopN (fun (s3 : List (Int) × Int × Int × Int × Unit) next4 =>
      cond (decide (s3.2.2.2.1 < (List.length r2.1 : Int)))
        (cond (inB s3.2.2.2.1 (List.length r2.1))
          (Option.bind (r2.1[(Int.toNat s3.2.2.2.1)]?) fun v5 =>
          cond (appOk (List.length s3.1) (List.length ([v5] : List Int)))
            (let xs6 := (s3.1 ++ ([v5] : List Int))
            Option.bind (idx x0 v5) fun v7 =>
            Option.bind (idx x0 v5) fun v8 =>
            cond (decide ((w64 (s3.2.2.1 + v7.1)) ≤ v8.2.2.1))
              (next4 (xs6, s3.2.1, (w64 (s3.2.2.1 + v7.1)), (w64 (s3.2.2.2.1 + 1)), ()))
              (loopN (fun (s9 : Int × Int × Unit) next10 =>
                cond (decide (s9.2.1 < (List.length xs6 : Int)))
                  (cond (inB s9.2.1 (List.length xs6))
                    (Option.bind (xs6[(Int.toNat s9.2.1)]?) fun v11 =>
                    Option.bind (idx x0 v11) fun v12 =>
                    cond (inB s9.1 (List.length xs6))
                      (Option.bind (xs6[(Int.toNat s9.1)]?) fun v13 =>
                      Option.bind (idx x0 v13) fun v14 =>
                      cond (decide (v12.1 > v14.1))
                        (next10 (s9.2.1, (w64 (s9.2.1 + 1)), ()))
                        (next10 (s9.1, (w64 (s9.2.1 + 1)), ()))) none) none)
                  (cond (inB s9.1 (List.length xs6))
                    (Option.bind (xs6[(Int.toNat s9.1)]?) fun v15 =>
                    Option.bind (idx x0 v15) fun v16 =>
                    Option.bind (slices_Delete_int64_int64 N xs6 s9.1 (.inr (w64 (s9.1 + 1)))) fun r17 =>
                    next4 (r17, (w64 (s3.2.1 + 1)), (w64 ((w64 (s3.2.2.1 + v7.1)) - v16.1)), (w64 (s3.2.2.2.1 + 1)), ())) none)) N (0, 0, ()))) none) none)
        (some (s3.1, s3.2.1, true, ()))) N (([] : List Int), 0, 0, 0, ()))
def impl_FewestLate_e (N : Nat) : Ent := { ins := [(.sl (.pair (.int .i64) (.pair (.int .i64) (.pair (.int .i64) (.int .i64)))))], outs := [.own (.int .i64), .val (.int .i64), .val .bool], F := fun x => impl_FewestLate N x.1 }
def impl_FewestLate_T (N : Nat) : Nat → List EntX
  | 66 => [.pl (impl_orderBy_e N)]
  | 69 => [.pl (impl_areAtOnce_e N)]
  | 70 => [.ap (slices_Delete_int64_int64_e N)]
  | _ => []
def impl_FewestLate_L : Nat → List (Nat × TK)
  | 6 => [(5, .own (.int .i64)), (6, .v (.int .i64)), (7, .v (.int .i64)), (20, .v (.int .i64))]
  | 13 => [(10, .v (.int .i64)), (44, .v (.int .i64))]
  | _ => []
theorem impl_FewestLate_eq (N : Nat) : runF N tt (impl_FewestLate_T N) impl_FewestLate_L [(.sl (.pair (.int .i64) (.pair (.int .i64) (.pair (.int .i64) (.int .i64)))))] [.own (.int .i64), .val (.int .i64), .val .bool] (bodyOf Try.f39) Try.f39.ntmps [2, 3, 4] = (impl_FewestLate_e N).F := by
  funext x
  kernel_rfl
theorem impl_FewestLate_sound (N : Nat) : SoundC Try.prog 39 (impl_FewestLate_e N) := by
  have h := runF_sound (f := 39) (code := bodyOf Try.f39) (N := N) (T := (impl_FewestLate_T N)) (L := impl_FewestLate_L) (ins := [(.sl (.pair (.int .i64) (.pair (.int .i64) (.pair (.int .i64) (.int .i64)))))]) (outs := [.own (.int .i64), .val (.int .i64), .val .bool]) (res := [2, 3, 4]) mixed tt_ok ?_ Try.func39 (by kernel_rfl) rfl (by kernel_rfl) (by kernel_rfl) (by decide +kernel)
  · rw [impl_FewestLate_eq] at h
    exact h
  · intro f e he
    unfold impl_FewestLate_T at he
    split at he
    · rw [List.mem_singleton.1 he]; exact impl_orderBy_sound N
    · rw [List.mem_singleton.1 he]; exact impl_areAtOnce_sound N
    · rw [List.mem_singleton.1 he]; exact slices_Delete_int64_int64_sound N
    · cases he

/- laws.FnExactFewestLate -/
def laws_FnExactFewestLate (N : Nat) (x0 : List (Int × Int × Int × Int)) : Option (Bool × Unit) :=
  Option.bind (laws_szJobS N x0 1048576) fun r1 =>
  cond (decide (r1.1 < 0))
    (some (true, ()))
    (Option.bind (laws_toJobS N x0) fun r2 =>
    Option.bind (spec_FewestLate N r2.1) fun r3 =>
    Option.bind (laws_toJobS N x0) fun r4 =>
    Option.bind (impl_FewestLate N r4.1) fun r5 =>
    Option.bind (laws_eqInt64S N r5.1 r3.1) fun r6 =>
    cond (!r6.1)
      (some (false, ()))
      (cond (r5.2.1 != r3.2.1)
        (some (false, ()))
        (cond (!(r5.2.2.1 == r3.2.2.1))
          (some (false, ()))
          (Option.bind (laws_toJobS N x0) fun r7 =>
          Option.bind (laws_eqJobS N r4.1 r7.1) fun r8 =>
          cond (!r8.1)
            (some (false, ()))
            (Option.bind (laws_markJobS_d r4.1 1) fun r9 =>
            cond (decide (r9 < 0))
              (some (false, ()))
              (Option.bind (laws_eqInt64S N r5.1 r3.1) fun r10 =>
              cond (!r10.1)
                (some (false, ()))
                (cond (r5.2.1 != r3.2.1)
                  (some (false, ()))
                  (cond (!(r5.2.2.1 == r3.2.2.1))
                    (some (false, ()))
                    (Option.bind (laws_markInt64S N r5.1 1) fun r11 =>
                    cond (Nat.beq (List.length r11.1) (List.length r5.1))
                      (Option.bind (laws_heldInt64S N r11.1 1) fun r12 =>
                      cond (decide (r12.1 < 0))
                        (some (false, ()))
                        (cond (r12.1 != r11.2.1)
                          (some (false, ()))
                          (Option.bind (laws_toJobS N x0) fun r13 =>
                          Option.bind (impl_FewestLate N r13.1) fun r14 =>
                          Option.bind (laws_eqInt64S N r14.1 r3.1) fun r15 =>
                          cond (!r15.1)
                            (some (false, ()))
                            (cond (r14.2.1 != r3.2.1)
                              (some (false, ()))
                              (cond (!(r14.2.2.1 == r3.2.2.1))
                                (some (false, ()))
                                (Option.bind (laws_heldInt64S N r11.1 1) fun r16 =>
                                cond (decide (r16.1 < 0))
                                  (some (false, ()))
                                  (cond (r16.1 != r11.2.1)
                                    (some (false, ()))
                                    (some (true, ()))))))))) none)))))))))
def laws_FnExactFewestLate_e (N : Nat) : Ent := { ins := [(.sl (.pair (.int .i64) (.pair (.int .i64) (.pair (.int .i64) (.int .i64)))))], outs := [.val .bool], F := fun x => laws_FnExactFewestLate N x.1 }
def laws_FnExactFewestLate_T (N : Nat) : Nat → List EntX
  | 16 => [.pl (laws_eqInt64S_e N)]
  | 17 => [.mu (laws_markInt64S_e N)]
  | 18 => [.pl (laws_heldInt64S_e N)]
  | 32 => [.pl (laws_szJobS_e N)]
  | 34 => [.pl (laws_toJobS_e N)]
  | 36 => [.pl (laws_eqJobS_e N)]
  | 37 => [.dp (laws_markJobS_d_e N)]
  | 38 => [.pl (spec_FewestLate_e N)]
  | 39 => [.pl (impl_FewestLate_e N)]
  | _ => []
def laws_FnExactFewestLate_L : Nat → List (Nat × TK) := fun _ => []
theorem laws_FnExactFewestLate_eq (N : Nat) : runL N tt (laws_FnExactFewestLate_T N) laws_FnExactFewestLate_L [(.sl (.pair (.int .i64) (.pair (.int .i64) (.pair (.int .i64) (.int .i64)))))] [.val .bool] (bodyOf Try.f11) Try.f11.ntmps [2] = (laws_FnExactFewestLate_e N).F := by
  funext x
  kernel_rfl
theorem laws_FnExactFewestLate_sound (N : Nat) : SoundC Try.prog 11 (laws_FnExactFewestLate_e N) := by
  have h := runL_sound (f := 11) (code := bodyOf Try.f11) (N := N) (T := (laws_FnExactFewestLate_T N)) (L := laws_FnExactFewestLate_L) (ins := [(.sl (.pair (.int .i64) (.pair (.int .i64) (.pair (.int .i64) (.int .i64)))))]) (outs := [.val .bool]) (res := [2]) mixed tt_ok ?_ Try.func11 (by kernel_rfl) rfl (by kernel_rfl) (by kernel_rfl) (by decide +kernel)
  · rw [laws_FnExactFewestLate_eq] at h
    exact h
  · intro f e he
    unfold laws_FnExactFewestLate_T at he
    split at he
    · rw [List.mem_singleton.1 he]; exact laws_eqInt64S_sound N
    · rw [List.mem_singleton.1 he]; exact laws_markInt64S_sound N
    · rw [List.mem_singleton.1 he]; exact laws_heldInt64S_sound N
    · rw [List.mem_singleton.1 he]; exact laws_szJobS_sound N
    · rw [List.mem_singleton.1 he]; exact laws_toJobS_sound N
    · rw [List.mem_singleton.1 he]; exact laws_eqJobS_sound N
    · rw [List.mem_singleton.1 he]; exact laws_markJobS_d_sound N
    · rw [List.mem_singleton.1 he]; exact spec_FewestLate_sound N
    · rw [List.mem_singleton.1 he]; exact impl_FewestLate_sound N
    · cases he

end Go.Proofs.Ytkcdhdnmmpapdaa
