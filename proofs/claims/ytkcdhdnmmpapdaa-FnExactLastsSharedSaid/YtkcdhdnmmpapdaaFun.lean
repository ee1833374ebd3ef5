/-
  The plain functions of this seat, printed by a program, each equal to the evaluator's run, with its contract. No condition.
-/
import Derived.Test.YtkcdhdnmmpapdaaFwV
import Derived.Test.YtkcdhdnmmpapdaaChecked
import Derived.Test.YtkcdhdnmmpapdaaMark1
import Derived.Test.YtkcdhdnmmpapdaaMark3
namespace Go.Proofs.Ytkcdhdnmmpapdaa
open Go Go.Proofs.Ytkcdhdnmmpapdaa.Fw
set_option maxRecDepth 100000
set_option linter.unusedVariables false

theorem mixed : Try.prog.follows .mixedOrders = true := Try.checked.mixed
def tt : Nat → TD
  | 2 => tdInt .i64
  | 3 => tdInt .i64
  | 4 => tdBool
  | 22 => tdSl (.int .i64) 8
  | 31 => tdSl (.sl (.int .i64)) 24
  | 56 => tdFn
  | 110 => tdInt .u64
  | _ => tdNone
theorem tt_2 : TDok Try.prog 2 (tdInt .i64) := tdok_int (b := 8) (by kernel_rfl) (by kernel_rfl)
theorem tt_3 : TDok Try.prog 3 (tdInt .i64) := tdok_int (b := 8) (by kernel_rfl) (by kernel_rfl)
theorem tt_4 : TDok Try.prog 4 (tdBool) := tdok_bool (b := 1) (by kernel_rfl) (by kernel_rfl)
theorem tt_22 : TDok Try.prog 22 (tdSl (.int .i64) 8) := tdok_sl (b := 24) (e := 2) (z := (.int .i64 0)) (by kernel_rfl) (by kernel_rfl) (by kernel_rfl) (by decide) (fun _ => by kernel_rfl)
theorem tt_31 : TDok Try.prog 31 (tdSl (.sl (.int .i64)) 24) := tdok_sl (b := 24) (e := 22) (z := (.slice none 0 0)) (by kernel_rfl) (by kernel_rfl) (by kernel_rfl) (by decide) (fun _ => by kernel_rfl)
theorem tt_56 : TDok Try.prog 56 (tdFn) := tdok_fn (by kernel_rfl) (by kernel_rfl)
theorem tt_110 : TDok Try.prog 110 (tdInt .u64) := tdok_int (b := 8) (by kernel_rfl) (by kernel_rfl)
theorem tt_ok (t : Nat) : TDok Try.prog t (tt t) := by
  unfold tt
  split
  · exact tt_2
  · exact tt_3
  · exact tt_4
  · exact tt_22
  · exact tt_31
  · exact tt_56
  · exact tt_110
  · exact tdok_none

/- spec.l00In -/
def spec_l00In (_N : Nat) (x0 : Int) (x1 : Int) (x2 : Int) : Option (Bool × Unit) :=
  cond (decide (x0 ≥ x1))
    (some ((decide (x0 ≤ x2)), ()))
    (some (false, ()))
def spec_l00In_e (N : Nat) : Ent := { ins := [(.int .i64), (.int .i64), (.int .i64)], outs := [.val .bool], F := fun x => spec_l00In N x.1 x.2.1 x.2.2.1 }
def spec_l00In_T (_ : Nat) : Nat → List EntX := fun _ => []
def spec_l00In_L : Nat → List (Nat × TK) := fun _ => []
theorem spec_l00In_eq (N : Nat) : runF N tt (spec_l00In_T N) spec_l00In_L [(.int .i64), (.int .i64), (.int .i64)] [.val .bool] (bodyOf Try.f55) Try.f55.ntmps [6] = (spec_l00In_e N).F := by
  funext x
  kernel_rfl
theorem spec_l00In_sound (N : Nat) : SoundC Try.prog 55 (spec_l00In_e N) := by
  have h := runF_sound (f := 55) (code := bodyOf Try.f55) (N := N) (T := (spec_l00In_T N)) (L := spec_l00In_L) (ins := [(.int .i64), (.int .i64), (.int .i64)]) (outs := [.val .bool]) (res := [6]) mixed tt_ok ?_ Try.func55 (by kernel_rfl) rfl (by kernel_rfl) (by kernel_rfl) (by decide +kernel)
  · rw [spec_l00In_eq] at h
    exact h
  · intro f e he
    cases he

/- spec.l02Times -/
def spec_l02Times (N : Nat) (x0 : List Int) : Option (Bool × Unit) :=
  loopN (fun (s1 : Int × Unit) next2 =>
    cond (decide (s1.1 < (List.length x0 : Int)))
      (Option.bind (idx x0 s1.1) fun v3 =>
      Option.bind (spec_l00In N v3 1 10000) fun r4 =>
      cond (!r4.1)
        (some (false, ()))
        (next2 ((w64 (s1.1 + 1)), ())))
      (cond (decide ((List.length x0 : Int) ≥ 1))
        (some ((decide ((List.length x0 : Int) ≤ 24)), ()))
        (some (false, ())))) N (0, ())
def spec_l02Times_e (N : Nat) : Ent := { ins := [(.sl (.int .i64))], outs := [.val .bool], F := fun x => spec_l02Times N x.1 }
def spec_l02Times_T (N : Nat) : Nat → List EntX
  | 55 => [.pl (spec_l00In_e N)]
  | _ => []
def spec_l02Times_L : Nat → List (Nat × TK)
  | 2 => [(3, .v (.int .i64))]
  | _ => []
theorem spec_l02Times_eq (N : Nat) : runF N tt (spec_l02Times_T N) spec_l02Times_L [(.sl (.int .i64))] [.val .bool] (bodyOf Try.f42) Try.f42.ntmps [2] = (spec_l02Times_e N).F := by
  funext x
  kernel_rfl
theorem spec_l02Times_sound (N : Nat) : SoundC Try.prog 42 (spec_l02Times_e N) := by
  have h := runF_sound (f := 42) (code := bodyOf Try.f42) (N := N) (T := (spec_l02Times_T N)) (L := spec_l02Times_L) (ins := [(.sl (.int .i64))]) (outs := [.val .bool]) (res := [2]) mixed tt_ok ?_ Try.func42 (by kernel_rfl) rfl (by kernel_rfl) (by kernel_rfl) (by decide +kernel)
  · rw [spec_l02Times_eq] at h
    exact h
  · intro f e he
    unfold spec_l02Times_T at he
    split at he
    · rw [List.mem_singleton.1 he]; exact spec_l00In_sound N
    · cases he

/- spec.l02Machines -/
def spec_l02Machines (N : Nat) (x0 : Int) : Option (Bool × Unit) :=
  Option.bind (spec_l00In N x0 1 8) fun r1 =>
  some (r1.1, ())
def spec_l02Machines_e (N : Nat) : Ent := { ins := [(.int .i64)], outs := [.val .bool], F := fun x => spec_l02Machines N x.1 }
def spec_l02Machines_T (N : Nat) : Nat → List EntX
  | 55 => [.pl (spec_l00In_e N)]
  | _ => []
def spec_l02Machines_L : Nat → List (Nat × TK) := fun _ => []
theorem spec_l02Machines_eq (N : Nat) : runF N tt (spec_l02Machines_T N) spec_l02Machines_L [(.int .i64)] [.val .bool] (bodyOf Try.f43) Try.f43.ntmps [2] = (spec_l02Machines_e N).F := by
  funext x
  kernel_rfl
theorem spec_l02Machines_sound (N : Nat) : SoundC Try.prog 43 (spec_l02Machines_e N) := by
  have h := runF_sound (f := 43) (code := bodyOf Try.f43) (N := N) (T := (spec_l02Machines_T N)) (L := spec_l02Machines_L) (ins := [(.int .i64)]) (outs := [.val .bool]) (res := [2]) mixed tt_ok ?_ Try.func43 (by kernel_rfl) rfl (by kernel_rfl) (by kernel_rfl) (by decide +kernel)
  · rw [spec_l02Machines_eq] at h
    exact h
  · intro f e he
    unfold spec_l02Machines_T at he
    split at he
    · rw [List.mem_singleton.1 he]; exact spec_l00In_sound N
    · cases he

/- spec.l00Max -/
def spec_l00Max (_N : Nat) (x0 : Int) (x1 : Int) : Option (Int × Unit) :=
  cond (decide (x0 > x1))
    (some (x0, ()))
    (some (x1, ()))
def spec_l00Max_e (N : Nat) : Ent := { ins := [(.int .i64), (.int .i64)], outs := [.val (.int .i64)], F := fun x => spec_l00Max N x.1 x.2.1 }
def spec_l00Max_T (_ : Nat) : Nat → List EntX := fun _ => []
def spec_l00Max_L : Nat → List (Nat × TK) := fun _ => []
theorem spec_l00Max_eq (N : Nat) : runF N tt (spec_l00Max_T N) spec_l00Max_L [(.int .i64), (.int .i64)] [.val (.int .i64)] (bodyOf Try.f85) Try.f85.ntmps [4] = (spec_l00Max_e N).F := by
  funext x
  kernel_rfl
theorem spec_l00Max_sound (N : Nat) : SoundC Try.prog 85 (spec_l00Max_e N) := by
  have h := runF_sound (f := 85) (code := bodyOf Try.f85) (N := N) (T := (spec_l00Max_T N)) (L := spec_l00Max_L) (ins := [(.int .i64), (.int .i64)]) (outs := [.val (.int .i64)]) (res := [4]) mixed tt_ok ?_ Try.func85 (by kernel_rfl) rfl (by kernel_rfl) (by kernel_rfl) (by decide +kernel)
  · rw [spec_l00Max_eq] at h
    exact h
  · intro f e he
    cases he

/- spec.l02Greatest -/
def spec_l02Greatest (N : Nat) (x0 : List Int) : Option (Int × Unit) :=
  Option.bind (idx x0 0) fun v1 =>
  loopN (fun (s2 : Int × Int × Unit) next3 =>
    cond (decide (s2.2.1 < (List.length x0 : Int)))
      (Option.bind (idx x0 s2.2.1) fun v4 =>
      Option.bind (spec_l00Max N s2.1 v4) fun r5 =>
      next3 (r5.1, (w64 (s2.2.1 + 1)), ()))
      (some (s2.1, ()))) N (v1, 1, ())
def spec_l02Greatest_e (N : Nat) : Ent := { ins := [(.sl (.int .i64))], outs := [.val (.int .i64)], F := fun x => spec_l02Greatest N x.1 }
def spec_l02Greatest_T (N : Nat) : Nat → List EntX
  | 85 => [.pl (spec_l00Max_e N)]
  | _ => []
def spec_l02Greatest_L : Nat → List (Nat × TK)
  | 3 => [(3, .v (.int .i64)), (4, .v (.int .i64))]
  | _ => []
theorem spec_l02Greatest_eq (N : Nat) : runF N tt (spec_l02Greatest_T N) spec_l02Greatest_L [(.sl (.int .i64))] [.val (.int .i64)] (bodyOf Try.f86) Try.f86.ntmps [2] = (spec_l02Greatest_e N).F := by
  funext x
  kernel_rfl
theorem spec_l02Greatest_sound (N : Nat) : SoundC Try.prog 86 (spec_l02Greatest_e N) := by
  have h := runF_sound (f := 86) (code := bodyOf Try.f86) (N := N) (T := (spec_l02Greatest_T N)) (L := spec_l02Greatest_L) (ins := [(.sl (.int .i64))]) (outs := [.val (.int .i64)]) (res := [2]) mixed tt_ok ?_ Try.func86 (by kernel_rfl) rfl (by kernel_rfl) (by kernel_rfl) (by decide +kernel)
  · rw [spec_l02Greatest_eq] at h
    exact h
  · intro f e he
    unfold spec_l02Greatest_T at he
    split at he
    · rw [List.mem_singleton.1 he]; exact spec_l00Max_sound N
    · cases he

/- spec.l02Plan -/
def spec_l02Plan (N : Nat) (x0 : List Int) (x1 : List Int) (x2 : Int) : Option (List (Int) × Int × Unit) :=
  cond (mkOk (List.length x0 : Int) (List.length x0 : Int))
    (let xs1 := (List.replicate (Int.toNat (List.length x0 : Int)) (0 : Int) : List (Int))
    cond (mkOk x2 x2)
      (let xs2 := (List.replicate (Int.toNat x2) (0 : Int) : List (Int))
      loopN (fun (s3 : List (Int) × List (Int) × Int × Unit) next4 =>
        cond (decide (s3.2.2.1 < (List.length x1 : Int)))
          (loopN (fun (s5 : Int × Int × Unit) next6 =>
            cond (decide (s5.2.1 < (List.length s3.2.1 : Int)))
              (cond (inB s5.2.1 (List.length s3.2.1))
                (Option.bind (s3.2.1[(Int.toNat s5.2.1)]?) fun v7 =>
                cond (inB s5.1 (List.length s3.2.1))
                  (Option.bind (s3.2.1[(Int.toNat s5.1)]?) fun v8 =>
                  cond (decide (v7 < v8))
                    (next6 (s5.2.1, (w64 (s5.2.1 + 1)), ()))
                    (next6 (s5.1, (w64 (s5.2.1 + 1)), ()))) none) none)
              (Option.bind (idx x1 s3.2.2.1) fun v9 =>
              cond (inB v9 (List.length s3.1))
                (let xs10 := (List.set s3.1 (Int.toNat v9) s5.1)
                cond (inB s5.1 (List.length s3.2.1))
                  (Option.bind (s3.2.1[(Int.toNat s5.1)]?) fun v11 =>
                  Option.bind (idx x1 s3.2.2.1) fun v12 =>
                  Option.bind (idx x0 v12) fun v13 =>
                  cond (inB s5.1 (List.length s3.2.1))
                    (let xs14 := (List.set s3.2.1 (Int.toNat s5.1) (w64 (v11 + v13)))
                    next4 (xs10, xs14, (w64 (s3.2.2.1 + 1)), ())) none) none) none)) N (0, 1, ()))
          (Option.bind (spec_l02Greatest N s3.2.1) fun r15 =>
          some (s3.1, r15.1, ()))) N (xs1, xs2, 0, ())) none) none
def spec_l02Plan_e (N : Nat) : Ent := { ins := [(.sl (.int .i64)), (.sl (.int .i64)), (.int .i64)], outs := [.own (.int .i64), .val (.int .i64)], F := fun x => spec_l02Plan N x.1 x.2.1 x.2.2.1 }
def spec_l02Plan_T (N : Nat) : Nat → List EntX
  | 86 => [.pl (spec_l02Greatest_e N)]
  | _ => []
def spec_l02Plan_L : Nat → List (Nat × TK)
  | 4 => [(8, .own (.int .i64)), (9, .own (.int .i64)), (10, .v (.int .i64))]
  | 8 => [(11, .v (.int .i64)), (12, .v (.int .i64))]
  | _ => []
theorem spec_l02Plan_eq (N : Nat) : runF N tt (spec_l02Plan_T N) spec_l02Plan_L [(.sl (.int .i64)), (.sl (.int .i64)), (.int .i64)] [.own (.int .i64), .val (.int .i64)] (bodyOf Try.f77) Try.f77.ntmps [6, 7] = (spec_l02Plan_e N).F := by
  funext x
  kernel_rfl
theorem spec_l02Plan_sound (N : Nat) : SoundC Try.prog 77 (spec_l02Plan_e N) := by
  have h := runF_sound (f := 77) (code := bodyOf Try.f77) (N := N) (T := (spec_l02Plan_T N)) (L := spec_l02Plan_L) (ins := [(.sl (.int .i64)), (.sl (.int .i64)), (.int .i64)]) (outs := [.own (.int .i64), .val (.int .i64)]) (res := [6, 7]) mixed tt_ok ?_ Try.func77 (by kernel_rfl) rfl (by kernel_rfl) (by kernel_rfl) (by decide +kernel)
  · rw [spec_l02Plan_eq] at h
    exact h
  · intro f e he
    unfold spec_l02Plan_T at he
    split at he
    · rw [List.mem_singleton.1 he]; exact spec_l02Greatest_sound N
    · cases he

/- spec.l02Longest -/
def spec_l02Longest (N : Nat) (x0 : List Int) (x1 : Int) : Option (List (Int) × Int × Unit) :=
  loopN (fun (s1 : List (Int) × Int × Unit) next2 =>
    cond (decide (s1.2.1 < (List.length x0 : Int)))
      (cond (appOk (List.length s1.1) (List.length ([s1.2.1] : List Int)))
        (let xs3 := (s1.1 ++ ([s1.2.1] : List Int))
        loopN (fun (s4 : List (Int) × Int × Unit) next5 =>
          cond (decide (s4.2.1 > 0))
            (cond (inB s4.2.1 (List.length s4.1))
              (Option.bind (s4.1[(Int.toNat s4.2.1)]?) fun v6 =>
              Option.bind (idx x0 v6) fun v7 =>
              cond (inB (w64 (s4.2.1 - 1)) (List.length s4.1))
                (Option.bind (s4.1[(Int.toNat (w64 (s4.2.1 - 1)))]?) fun v8 =>
                Option.bind (idx x0 v8) fun v9 =>
                cond (decide (v7 > v9))
                  (cond (inB s4.2.1 (List.length s4.1))
                    (Option.bind (s4.1[(Int.toNat s4.2.1)]?) fun v10 =>
                    cond (inB (w64 (s4.2.1 - 1)) (List.length s4.1))
                      (Option.bind (s4.1[(Int.toNat (w64 (s4.2.1 - 1)))]?) fun v11 =>
                      cond (inB s4.2.1 (List.length s4.1))
                        (let xs12 := (List.set s4.1 (Int.toNat s4.2.1) v11)
                        cond (inB (w64 (s4.2.1 - 1)) (List.length xs12))
                          (let xs13 := (List.set xs12 (Int.toNat (w64 (s4.2.1 - 1))) v10)
                          next5 (xs13, (w64 (s4.2.1 - 1)), ())) none) none) none) none)
                  (next2 (s4.1, (w64 (s1.2.1 + 1)), ()))) none) none)
            (next2 (s4.1, (w64 (s1.2.1 + 1)), ()))) N (xs3, s1.2.1, ())) none)
      (Option.bind (spec_l02Plan N x0 s1.1 x1) fun r14 =>
      some (r14.1, r14.2.1, ()))) N (([] : List Int), 0, ())
def spec_l02Longest_e (N : Nat) : Ent := { ins := [(.sl (.int .i64)), (.int .i64)], outs := [.own (.int .i64), .val (.int .i64)], F := fun x => spec_l02Longest N x.1 x.2.1 }
def spec_l02Longest_T (N : Nat) : Nat → List EntX
  | 77 => [.pl (spec_l02Plan_e N)]
  | _ => []
def spec_l02Longest_L : Nat → List (Nat × TK)
  | 3 => [(6, .own (.int .i64)), (7, .v (.int .i64))]
  | 7 => [(6, .own (.int .i64)), (8, .v (.int .i64))]
  | _ => []
theorem spec_l02Longest_eq (N : Nat) : runF N tt (spec_l02Longest_T N) spec_l02Longest_L [(.sl (.int .i64)), (.int .i64)] [.own (.int .i64), .val (.int .i64)] (bodyOf Try.f44) Try.f44.ntmps [4, 5] = (spec_l02Longest_e N).F := by
  funext x
  kernel_rfl
theorem spec_l02Longest_sound (N : Nat) : SoundC Try.prog 44 (spec_l02Longest_e N) := by
  have h := runF_sound (f := 44) (code := bodyOf Try.f44) (N := N) (T := (spec_l02Longest_T N)) (L := spec_l02Longest_L) (ins := [(.sl (.int .i64)), (.int .i64)]) (outs := [.own (.int .i64), .val (.int .i64)]) (res := [4, 5]) mixed tt_ok ?_ Try.func44 (by kernel_rfl) rfl (by kernel_rfl) (by kernel_rfl) (by decide +kernel)
  · rw [spec_l02Longest_eq] at h
    exact h
  · intro f e he
    unfold spec_l02Longest_T at he
    split at he
    · rw [List.mem_singleton.1 he]; exact spec_l02Plan_sound N
    · cases he

/- spec.LongestFirst -/
def spec_LongestFirst (N : Nat) (x0 : List Int) (x1 : Int) : Option (List (Int) × Int × Bool × Unit) :=
  Option.bind (spec_l02Times N x0) fun r1 =>
  cond (!r1.1)
    (some ([], 0, false, ()))
    (Option.bind (spec_l02Machines N x1) fun r2 =>
    cond (!r2.1)
      (some ([], 0, false, ()))
      (Option.bind (spec_l02Longest N x0 x1) fun r3 =>
      some (r3.1, r3.2.1, true, ())))
def spec_LongestFirst_e (N : Nat) : Ent := { ins := [(.sl (.int .i64)), (.int .i64)], outs := [.own (.int .i64), .val (.int .i64), .val .bool], F := fun x => spec_LongestFirst N x.1 x.2.1 }
def spec_LongestFirst_T (N : Nat) : Nat → List EntX
  | 42 => [.pl (spec_l02Times_e N)]
  | 43 => [.pl (spec_l02Machines_e N)]
  | 44 => [.pl (spec_l02Longest_e N)]
  | _ => []
def spec_LongestFirst_L : Nat → List (Nat × TK) := fun _ => []
theorem spec_LongestFirst_eq (N : Nat) : runF N tt (spec_LongestFirst_T N) spec_LongestFirst_L [(.sl (.int .i64)), (.int .i64)] [.own (.int .i64), .val (.int .i64), .val .bool] (bodyOf Try.f13) Try.f13.ntmps [4, 5, 6] = (spec_LongestFirst_e N).F := by
  funext x
  kernel_rfl
theorem spec_LongestFirst_sound (N : Nat) : SoundC Try.prog 13 (spec_LongestFirst_e N) := by
  have h := runF_sound (f := 13) (code := bodyOf Try.f13) (N := N) (T := (spec_LongestFirst_T N)) (L := spec_LongestFirst_L) (ins := [(.sl (.int .i64)), (.int .i64)]) (outs := [.own (.int .i64), .val (.int .i64), .val .bool]) (res := [4, 5, 6]) mixed tt_ok ?_ Try.func13 (by kernel_rfl) rfl (by kernel_rfl) (by kernel_rfl) (by decide +kernel)
  · rw [spec_LongestFirst_eq] at h
    exact h
  · intro f e he
    unfold spec_LongestFirst_T at he
    split at he
    · rw [List.mem_singleton.1 he]; exact spec_l02Times_sound N
    · rw [List.mem_singleton.1 he]; exact spec_l02Machines_sound N
    · rw [List.mem_singleton.1 he]; exact spec_l02Longest_sound N
    · cases he

/- laws.toInt64S -/
def laws_toInt64S (N : Nat) (x0 : List Int) : Option (List (Int) × Unit) :=
  cond (mkOk (List.length x0 : Int) (List.length x0 : Int))
    (let xs1 := (List.replicate (Int.toNat (List.length x0 : Int)) (0 : Int) : List (Int))
    loopN (fun (s2 : List (Int) × Int × Unit) next3 =>
      cond (decide (s2.2.1 < (List.length x0 : Int)))
        (Option.bind (idx x0 s2.2.1) fun v4 =>
        cond (inB s2.2.1 (List.length s2.1))
          (let xs5 := (List.set s2.1 (Int.toNat s2.2.1) v4)
          next3 (xs5, (w64 (s2.2.1 + 1)), ())) none)
        (some (s2.1, ()))) N (xs1, 0, ())) none
def laws_toInt64S_e (N : Nat) : Ent := { ins := [(.sl (.int .i64))], outs := [.own (.int .i64)], F := fun x => laws_toInt64S N x.1 }
def laws_toInt64S_T (_ : Nat) : Nat → List EntX := fun _ => []
def laws_toInt64S_L : Nat → List (Nat × TK)
  | 3 => [(3, .own (.int .i64)), (4, .v (.int .i64))]
  | _ => []
theorem laws_toInt64S_eq (N : Nat) : runF N tt (laws_toInt64S_T N) laws_toInt64S_L [(.sl (.int .i64))] [.own (.int .i64)] (bodyOf Try.f14) Try.f14.ntmps [2] = (laws_toInt64S_e N).F := by
  funext x
  kernel_rfl
theorem laws_toInt64S_sound (N : Nat) : SoundC Try.prog 14 (laws_toInt64S_e N) := by
  have h := runF_sound (f := 14) (code := bodyOf Try.f14) (N := N) (T := (laws_toInt64S_T N)) (L := laws_toInt64S_L) (ins := [(.sl (.int .i64))]) (outs := [.own (.int .i64)]) (res := [2]) mixed tt_ok ?_ Try.func14 (by kernel_rfl) rfl (by kernel_rfl) (by kernel_rfl) (by decide +kernel)
  · rw [laws_toInt64S_eq] at h
    exact h
  · intro f e he
    cases he

/- impl.within -/
def impl_within (_N : Nat) (x0 : Int) (x1 : Int) (x2 : Int) : Option (Bool × Unit) :=
  cond (decide (x0 ≥ x1))
    (some ((decide (x0 ≤ x2)), ()))
    (some (false, ()))
def impl_within_e (N : Nat) : Ent := { ins := [(.int .i64), (.int .i64), (.int .i64)], outs := [.val .bool], F := fun x => impl_within N x.1 x.2.1 x.2.2.1 }
def impl_within_T (_ : Nat) : Nat → List EntX := fun _ => []
def impl_within_L : Nat → List (Nat × TK) := fun _ => []
theorem impl_within_eq (N : Nat) : runF N tt (impl_within_T N) impl_within_L [(.int .i64), (.int .i64), (.int .i64)] [.val .bool] (bodyOf Try.f65) Try.f65.ntmps [6] = (impl_within_e N).F := by
  funext x
  kernel_rfl
theorem impl_within_sound (N : Nat) : SoundC Try.prog 65 (impl_within_e N) := by
  have h := runF_sound (f := 65) (code := bodyOf Try.f65) (N := N) (T := (impl_within_T N)) (L := impl_within_L) (ins := [(.int .i64), (.int .i64), (.int .i64)]) (outs := [.val .bool]) (res := [6]) mixed tt_ok ?_ Try.func65 (by kernel_rfl) rfl (by kernel_rfl) (by kernel_rfl) (by decide +kernel)
  · rw [impl_within_eq] at h
    exact h
  · intro f e he
    cases he

/- impl.areWithin -/
def impl_areWithin (N : Nat) (x0 : List Int) (x1 : Int) (x2 : Int) : Option (Bool × Unit) :=
  loopN (fun (s1 : Int × Unit) next2 =>
    cond (decide (s1.1 < (List.length x0 : Int)))
      (Option.bind (idx x0 s1.1) fun v3 =>
      Option.bind (impl_within N v3 x1 x2) fun r4 =>
      cond (!r4.1)
        (some (false, ()))
        (next2 ((w64 (s1.1 + 1)), ())))
      (some (true, ()))) N (0, ())
def impl_areWithin_e (N : Nat) : Ent := { ins := [(.sl (.int .i64)), (.int .i64), (.int .i64)], outs := [.val .bool], F := fun x => impl_areWithin N x.1 x.2.1 x.2.2.1 }
def impl_areWithin_T (N : Nat) : Nat → List EntX
  | 65 => [.pl (impl_within_e N)]
  | _ => []
def impl_areWithin_L : Nat → List (Nat × TK)
  | 2 => [(11, .v (.int .i64))]
  | _ => []
theorem impl_areWithin_eq (N : Nat) : runF N tt (impl_areWithin_T N) impl_areWithin_L [(.sl (.int .i64)), (.int .i64), (.int .i64)] [.val .bool] (bodyOf Try.f102) Try.f102.ntmps [6] = (impl_areWithin_e N).F := by
  funext x
  kernel_rfl
theorem impl_areWithin_sound (N : Nat) : SoundC Try.prog 102 (impl_areWithin_e N) := by
  have h := runF_sound (f := 102) (code := bodyOf Try.f102) (N := N) (T := (impl_areWithin_T N)) (L := impl_areWithin_L) (ins := [(.sl (.int .i64)), (.int .i64), (.int .i64)]) (outs := [.val .bool]) (res := [6]) mixed tt_ok ?_ Try.func102 (by kernel_rfl) rfl (by kernel_rfl) (by kernel_rfl) (by decide +kernel)
  · rw [impl_areWithin_eq] at h
    exact h
  · intro f e he
    unfold impl_areWithin_T at he
    split at he
    · rw [List.mem_singleton.1 he]; exact impl_within_sound N
    · cases he

/- impl.areMany -/
def impl_areMany (N : Nat) (x0 : List Int) (x1 : Int) (x2 : Int) (x3 : Int) (x4 : Int) : Option (Bool × Unit) :=
  cond (decide ((List.length x0 : Int) ≥ x1))
    (cond (decide ((List.length x0 : Int) ≤ x2))
      (Option.bind (impl_areWithin N x0 x3 x4) fun r1 =>
      some (r1.1, ()))
      (some (false, ())))
    (some (false, ()))
def impl_areMany_e (N : Nat) : Ent := { ins := [(.sl (.int .i64)), (.int .i64), (.int .i64), (.int .i64), (.int .i64)], outs := [.val .bool], F := fun x => impl_areMany N x.1 x.2.1 x.2.2.1 x.2.2.2.1 x.2.2.2.2.1 }
def impl_areMany_T (N : Nat) : Nat → List EntX
  | 102 => [.pl (impl_areWithin_e N)]
  | _ => []
def impl_areMany_L : Nat → List (Nat × TK) := fun _ => []
theorem impl_areMany_eq (N : Nat) : runF N tt (impl_areMany_T N) impl_areMany_L [(.sl (.int .i64)), (.int .i64), (.int .i64), (.int .i64), (.int .i64)] [.val .bool] (bodyOf Try.f78) Try.f78.ntmps [10] = (impl_areMany_e N).F := by
  funext x
  kernel_rfl
theorem impl_areMany_sound (N : Nat) : SoundC Try.prog 78 (impl_areMany_e N) := by
  have h := runF_sound (f := 78) (code := bodyOf Try.f78) (N := N) (T := (impl_areMany_T N)) (L := impl_areMany_L) (ins := [(.sl (.int .i64)), (.int .i64), (.int .i64), (.int .i64), (.int .i64)]) (outs := [.val .bool]) (res := [10]) mixed tt_ok ?_ Try.func78 (by kernel_rfl) rfl (by kernel_rfl) (by kernel_rfl) (by decide +kernel)
  · rw [impl_areMany_eq] at h
    exact h
  · intro f e he
    unfold impl_areMany_T at he
    split at he
    · rw [List.mem_singleton.1 he]; exact impl_areWithin_sound N
    · cases he

/- impl.areTimes -/
def impl_areTimes (N : Nat) (x0 : List Int) : Option (Bool × Unit) :=
  Option.bind (impl_areMany N x0 1 24 1 10000) fun r1 =>
  some (r1.1, ())
def impl_areTimes_e (N : Nat) : Ent := { ins := [(.sl (.int .i64))], outs := [.val .bool], F := fun x => impl_areTimes N x.1 }
def impl_areTimes_T (N : Nat) : Nat → List EntX
  | 78 => [.pl (impl_areMany_e N)]
  | _ => []
def impl_areTimes_L : Nat → List (Nat × TK) := fun _ => []
theorem impl_areTimes_eq (N : Nat) : runF N tt (impl_areTimes_T N) impl_areTimes_L [(.sl (.int .i64))] [.val .bool] (bodyOf Try.f45) Try.f45.ntmps [2] = (impl_areTimes_e N).F := by
  funext x
  kernel_rfl
theorem impl_areTimes_sound (N : Nat) : SoundC Try.prog 45 (impl_areTimes_e N) := by
  have h := runF_sound (f := 45) (code := bodyOf Try.f45) (N := N) (T := (impl_areTimes_T N)) (L := impl_areTimes_L) (ins := [(.sl (.int .i64))]) (outs := [.val .bool]) (res := [2]) mixed tt_ok ?_ Try.func45 (by kernel_rfl) rfl (by kernel_rfl) (by kernel_rfl) (by decide +kernel)
  · rw [impl_areTimes_eq] at h
    exact h
  · intro f e he
    unfold impl_areTimes_T at he
    split at he
    · rw [List.mem_singleton.1 he]; exact impl_areMany_sound N
    · cases he

/- impl.areMachines -/
def impl_areMachines (N : Nat) (x0 : Int) : Option (Bool × Unit) :=
  Option.bind (impl_within N x0 1 8) fun r1 =>
  some (r1.1, ())
def impl_areMachines_e (N : Nat) : Ent := { ins := [(.int .i64)], outs := [.val .bool], F := fun x => impl_areMachines N x.1 }
def impl_areMachines_T (N : Nat) : Nat → List EntX
  | 65 => [.pl (impl_within_e N)]
  | _ => []
def impl_areMachines_L : Nat → List (Nat × TK) := fun _ => []
theorem impl_areMachines_eq (N : Nat) : runF N tt (impl_areMachines_T N) impl_areMachines_L [(.int .i64)] [.val .bool] (bodyOf Try.f46) Try.f46.ntmps [2] = (impl_areMachines_e N).F := by
  funext x
  kernel_rfl
theorem impl_areMachines_sound (N : Nat) : SoundC Try.prog 46 (impl_areMachines_e N) := by
  have h := runF_sound (f := 46) (code := bodyOf Try.f46) (N := N) (T := (impl_areMachines_T N)) (L := impl_areMachines_L) (ins := [(.int .i64)]) (outs := [.val .bool]) (res := [2]) mixed tt_ok ?_ Try.func46 (by kernel_rfl) rfl (by kernel_rfl) (by kernel_rfl) (by decide +kernel)
  · rw [impl_areMachines_eq] at h
    exact h
  · intro f e he
    unfold impl_areMachines_T at he
    split at he
    · rw [List.mem_singleton.1 he]; exact impl_within_sound N
    · cases he

/- slices.Index[[]int64,int64] -/
def slices_Index_int64_int64 (N : Nat) (x0 : List Int) (x1 : Int) : Option (Int × Unit) :=
  loopN (fun (s1 : Int × Unit) next2 =>
    cond (decide (s1.1 < (List.length x0 : Int)))
      (Option.bind (idx x0 s1.1) fun v3 =>
      cond (x1 == v3)
        (some (s1.1, ()))
        (next2 ((w64 (s1.1 + 1)), ())))
      (some ((-1), ()))) N (0, ())
def slices_Index_int64_int64_e (N : Nat) : Ent := { ins := [(.sl (.int .i64)), (.int .i64)], outs := [.val (.int .i64)], F := fun x => slices_Index_int64_int64 N x.1 x.2.1 }
def slices_Index_int64_int64_T (_ : Nat) : Nat → List EntX := fun _ => []
def slices_Index_int64_int64_L : Nat → List (Nat × TK)
  | 2 => [(8, .v (.int .i64))]
  | _ => []
theorem slices_Index_int64_int64_eq (N : Nat) : runF N tt (slices_Index_int64_int64_T N) slices_Index_int64_int64_L [(.sl (.int .i64)), (.int .i64)] [.val (.int .i64)] (bodyOf Try.f117) Try.f117.ntmps [4] = (slices_Index_int64_int64_e N).F := by
  funext x
  kernel_rfl
theorem slices_Index_int64_int64_sound (N : Nat) : SoundC Try.prog 117 (slices_Index_int64_int64_e N) := by
  have h := runF_sound (f := 117) (code := bodyOf Try.f117) (N := N) (T := (slices_Index_int64_int64_T N)) (L := slices_Index_int64_int64_L) (ins := [(.sl (.int .i64)), (.int .i64)]) (outs := [.val (.int .i64)]) (res := [4]) mixed tt_ok ?_ Try.func117 (by kernel_rfl) rfl (by kernel_rfl) (by kernel_rfl) (by decide +kernel)
  · rw [slices_Index_int64_int64_eq] at h
    exact h
  · intro f e he
    cases he

/- slices.Min[[]int64,int64] -/
def slices_Min_int64_int64 (N : Nat) (x0 : List Int) : Option (Int × Unit) :=
  cond (decide ((List.length x0 : Int) < 1))
    (none)
    (Option.bind (idx x0 0) fun v1 =>
    loopN (fun (s2 : Int × Int × Unit) next3 =>
      cond (decide (s2.2.1 < (List.length x0 : Int)))
        (Option.bind (idx x0 s2.2.1) fun v4 =>
        next3 ((imin s2.1 v4), (w64 (s2.2.1 + 1)), ()))
        (some (s2.1, ()))) N (v1, 1, ()))
def slices_Min_int64_int64_e (N : Nat) : Ent := { ins := [(.sl (.int .i64))], outs := [.val (.int .i64)], F := fun x => slices_Min_int64_int64 N x.1 }
def slices_Min_int64_int64_T (_ : Nat) : Nat → List EntX := fun _ => []
def slices_Min_int64_int64_L : Nat → List (Nat × TK)
  | 5 => [(3, .v (.int .i64)), (4, .v (.int .i64))]
  | _ => []
theorem slices_Min_int64_int64_eq (N : Nat) : runF N tt (slices_Min_int64_int64_T N) slices_Min_int64_int64_L [(.sl (.int .i64))] [.val (.int .i64)] (bodyOf Try.f118) Try.f118.ntmps [2] = (slices_Min_int64_int64_e N).F := by
  funext x
  kernel_rfl
theorem slices_Min_int64_int64_sound (N : Nat) : SoundC Try.prog 118 (slices_Min_int64_int64_e N) := by
  have h := runF_sound (f := 118) (code := bodyOf Try.f118) (N := N) (T := (slices_Min_int64_int64_T N)) (L := slices_Min_int64_int64_L) (ins := [(.sl (.int .i64))]) (outs := [.val (.int .i64)]) (res := [2]) mixed tt_ok ?_ Try.func118 (by kernel_rfl) rfl (by kernel_rfl) (by kernel_rfl) (by decide +kernel)
  · rw [slices_Min_int64_int64_eq] at h
    exact h
  · intro f e he
    cases he

/- impl.firstFree -/
def impl_firstFree (N : Nat) (x0 : List Int) : Option (Int × Unit) :=
  Option.bind (slices_Min_int64_int64 N x0) fun r1 =>
  Option.bind (slices_Index_int64_int64 N x0 r1.1) fun r2 =>
  some (r2.1, ())
def impl_firstFree_e (N : Nat) : Ent := { ins := [(.sl (.int .i64))], outs := [.val (.int .i64)], F := fun x => impl_firstFree N x.1 }
def impl_firstFree_T (N : Nat) : Nat → List EntX
  | 117 => [.pl (slices_Index_int64_int64_e N)]
  | 118 => [.pl (slices_Min_int64_int64_e N)]
  | _ => []
def impl_firstFree_L : Nat → List (Nat × TK) := fun _ => []
theorem impl_firstFree_eq (N : Nat) : runF N tt (impl_firstFree_T N) impl_firstFree_L [(.sl (.int .i64))] [.val (.int .i64)] (bodyOf Try.f79) Try.f79.ntmps [2] = (impl_firstFree_e N).F := by
  funext x
  kernel_rfl
theorem impl_firstFree_sound (N : Nat) : SoundC Try.prog 79 (impl_firstFree_e N) := by
  have h := runF_sound (f := 79) (code := bodyOf Try.f79) (N := N) (T := (impl_firstFree_T N)) (L := impl_firstFree_L) (ins := [(.sl (.int .i64))]) (outs := [.val (.int .i64)]) (res := [2]) mixed tt_ok ?_ Try.func79 (by kernel_rfl) rfl (by kernel_rfl) (by kernel_rfl) (by decide +kernel)
  · rw [impl_firstFree_eq] at h
    exact h
  · intro f e he
    unfold impl_firstFree_T at he
    split at he
    · rw [List.mem_singleton.1 he]; exact slices_Index_int64_int64_sound N
    · rw [List.mem_singleton.1 he]; exact slices_Min_int64_int64_sound N
    · cases he

/- slices.Max[[]int64,int64] -/
def slices_Max_int64_int64 (N : Nat) (x0 : List Int) : Option (Int × Unit) :=
  cond (decide ((List.length x0 : Int) < 1))
    (none)
    (Option.bind (idx x0 0) fun v1 =>
    loopN (fun (s2 : Int × Int × Unit) next3 =>
      cond (decide (s2.2.1 < (List.length x0 : Int)))
        (Option.bind (idx x0 s2.2.1) fun v4 =>
        next3 ((imax s2.1 v4), (w64 (s2.2.1 + 1)), ()))
        (some (s2.1, ()))) N (v1, 1, ()))
def slices_Max_int64_int64_e (N : Nat) : Ent := { ins := [(.sl (.int .i64))], outs := [.val (.int .i64)], F := fun x => slices_Max_int64_int64 N x.1 }
def slices_Max_int64_int64_T (_ : Nat) : Nat → List EntX := fun _ => []
def slices_Max_int64_int64_L : Nat → List (Nat × TK)
  | 5 => [(3, .v (.int .i64)), (4, .v (.int .i64))]
  | _ => []
theorem slices_Max_int64_int64_eq (N : Nat) : runF N tt (slices_Max_int64_int64_T N) slices_Max_int64_int64_L [(.sl (.int .i64))] [.val (.int .i64)] (bodyOf Try.f80) Try.f80.ntmps [2] = (slices_Max_int64_int64_e N).F := by
  funext x
  kernel_rfl
theorem slices_Max_int64_int64_sound (N : Nat) : SoundC Try.prog 80 (slices_Max_int64_int64_e N) := by
  have h := runF_sound (f := 80) (code := bodyOf Try.f80) (N := N) (T := (slices_Max_int64_int64_T N)) (L := slices_Max_int64_int64_L) (ins := [(.sl (.int .i64))]) (outs := [.val (.int .i64)]) (res := [2]) mixed tt_ok ?_ Try.func80 (by kernel_rfl) rfl (by kernel_rfl) (by kernel_rfl) (by decide +kernel)
  · rw [slices_Max_int64_int64_eq] at h
    exact h
  · intro f e he
    cases he

/- impl.listPlan -/
def impl_listPlan (N : Nat) (x0 : List Int) (x1 : List Int) (x2 : Int) : Option (List (Int) × Int × Unit) :=
  cond (mkOk x2 x2)
    (let xs1 := (List.replicate (Int.toNat x2) (0 : Int) : List (Int))
    cond (mkOk (List.length x0 : Int) (List.length x0 : Int))
      (let xs2 := (List.replicate (Int.toNat (List.length x0 : Int)) (0 : Int) : List (Int))
      loopN (fun (s3 : List (Int) × List (Int) × Int × Unit) next4 =>
        cond (decide (s3.2.2.1 < (List.length x1 : Int)))
          (Option.bind (idx x1 s3.2.2.1) fun v5 =>
          Option.bind (impl_firstFree N s3.1) fun r6 =>
          cond (inB r6.1 (List.length s3.1))
            (Option.bind (s3.1[(Int.toNat r6.1)]?) fun v7 =>
            Option.bind (idx x0 v5) fun v8 =>
            cond (inB r6.1 (List.length s3.1))
              (let xs9 := (List.set s3.1 (Int.toNat r6.1) (w64 (v7 + v8)))
              cond (inB v5 (List.length s3.2.1))
                (let xs10 := (List.set s3.2.1 (Int.toNat v5) r6.1)
                next4 (xs9, xs10, (w64 (s3.2.2.1 + 1)), ())) none) none) none)
          (Option.bind (slices_Max_int64_int64 N s3.1) fun r11 =>
          some (s3.2.1, r11.1, ()))) N (xs1, xs2, 0, ())) none) none
def impl_listPlan_e (N : Nat) : Ent := { ins := [(.sl (.int .i64)), (.sl (.int .i64)), (.int .i64)], outs := [.own (.int .i64), .val (.int .i64)], F := fun x => impl_listPlan N x.1 x.2.1 x.2.2.1 }
def impl_listPlan_T (N : Nat) : Nat → List EntX
  | 79 => [.pl (impl_firstFree_e N)]
  | 80 => [.pl (slices_Max_int64_int64_e N)]
  | _ => []
def impl_listPlan_L : Nat → List (Nat × TK)
  | 4 => [(8, .own (.int .i64)), (9, .own (.int .i64)), (20, .v (.int .i64))]
  | _ => []
theorem impl_listPlan_eq (N : Nat) : runF N tt (impl_listPlan_T N) impl_listPlan_L [(.sl (.int .i64)), (.sl (.int .i64)), (.int .i64)] [.own (.int .i64), .val (.int .i64)] (bodyOf Try.f47) Try.f47.ntmps [6, 7] = (impl_listPlan_e N).F := by
  funext x
  kernel_rfl
theorem impl_listPlan_sound (N : Nat) : SoundC Try.prog 47 (impl_listPlan_e N) := by
  have h := runF_sound (f := 47) (code := bodyOf Try.f47) (N := N) (T := (impl_listPlan_T N)) (L := impl_listPlan_L) (ins := [(.sl (.int .i64)), (.sl (.int .i64)), (.int .i64)]) (outs := [.own (.int .i64), .val (.int .i64)]) (res := [6, 7]) mixed tt_ok ?_ Try.func47 (by kernel_rfl) rfl (by kernel_rfl) (by kernel_rfl) (by decide +kernel)
  · rw [impl_listPlan_eq] at h
    exact h
  · intro f e he
    unfold impl_listPlan_T at he
    split at he
    · rw [List.mem_singleton.1 he]; exact impl_firstFree_sound N
    · rw [List.mem_singleton.1 he]; exact slices_Max_int64_int64_sound N
    · cases he

/- impl.counting -/
def impl_counting (N : Nat) (x0 : Int) : Option (List (Int) × Unit) :=
  loopN (fun (s1 : List (Int) × Int × Unit) next2 =>
    cond (decide (s1.2.1 < x0))
      (cond (appOk (List.length s1.1) (List.length ([s1.2.1] : List Int)))
        (let xs3 := (s1.1 ++ ([s1.2.1] : List Int))
        next2 (xs3, (w64 (s1.2.1 + 1)), ())) none)
      (some (s1.1, ()))) N (([] : List Int), 0, ())
def impl_counting_e (N : Nat) : Ent := { ins := [(.int .i64)], outs := [.own (.int .i64)], F := fun x => impl_counting N x.1 }
def impl_counting_T (_ : Nat) : Nat → List EntX := fun _ => []
def impl_counting_L : Nat → List (Nat × TK)
  | 3 => [(3, .own (.int .i64)), (7, .v (.int .i64))]
  | _ => []
theorem impl_counting_eq (N : Nat) : runF N tt (impl_counting_T N) impl_counting_L [(.int .i64)] [.own (.int .i64)] (bodyOf Try.f81) Try.f81.ntmps [2] = (impl_counting_e N).F := by
  funext x
  kernel_rfl
theorem impl_counting_sound (N : Nat) : SoundC Try.prog 81 (impl_counting_e N) := by
  have h := runF_sound (f := 81) (code := bodyOf Try.f81) (N := N) (T := (impl_counting_T N)) (L := impl_counting_L) (ins := [(.int .i64)]) (outs := [.own (.int .i64)]) (res := [2]) mixed tt_ok ?_ Try.func81 (by kernel_rfl) rfl (by kernel_rfl) (by kernel_rfl) (by decide +kernel)
  · rw [impl_counting_eq] at h
    exact h
  · intro f e he
    cases he

/- impl.LongestFirst$1 -/
def impl_LongestFirst_1_c0 (_N : Nat) (x0 : Int) (x1 : List Int) : Option (Int × Unit) :=
  Option.bind (idx x1 x0) fun v1 =>
  some ((IntKind.wrap .i64 (0 - v1)), ())
def impl_LongestFirst_1_c0_e (N : Nat) : Ent := { ins := [(.int .i64), (.bx (.sl (.int .i64)))], outs := [.val (.int .i64)], F := fun x => impl_LongestFirst_1_c0 N x.1 x.2.1 }
def impl_LongestFirst_1_c0_T (_ : Nat) : Nat → List EntX := fun _ => []
def impl_LongestFirst_1_c0_L : Nat → List (Nat × TK) := fun _ => []
theorem impl_LongestFirst_1_c0_eq (N : Nat) : runF N tt (impl_LongestFirst_1_c0_T N) impl_LongestFirst_1_c0_L [(.int .i64), (.bx (.sl (.int .i64)))] [.val (.int .i64)] (bodyOf Try.f49) Try.f49.ntmps [3] = (impl_LongestFirst_1_c0_e N).F := by
  funext x
  kernel_rfl
theorem impl_LongestFirst_1_c0_sound (N : Nat) : SoundC Try.prog 49 (impl_LongestFirst_1_c0_e N) := by
  have h := runF_sound (f := 49) (code := bodyOf Try.f49) (N := N) (T := (impl_LongestFirst_1_c0_T N)) (L := impl_LongestFirst_1_c0_L) (ins := [(.int .i64), (.bx (.sl (.int .i64)))]) (outs := [.val (.int .i64)]) (res := [3]) mixed tt_ok ?_ Try.func49 (by kernel_rfl) rfl (by kernel_rfl) (by kernel_rfl) (by decide +kernel)
  · rw [impl_LongestFirst_1_c0_eq] at h
    exact h
  · intro f e he
    cases he

/- cmp.isNaN[int64] -/
def cmp_isNaN_int64 (_N : Nat) (x0 : Int) : Option (Bool × Unit) :=
  some ((x0 != x0), ())
def cmp_isNaN_int64_e (N : Nat) : Ent := { ins := [(.int .i64)], outs := [.val .bool], F := fun x => cmp_isNaN_int64 N x.1 }
def cmp_isNaN_int64_T (_ : Nat) : Nat → List EntX := fun _ => []
def cmp_isNaN_int64_L : Nat → List (Nat × TK) := fun _ => []
theorem cmp_isNaN_int64_eq (N : Nat) : runF N tt (cmp_isNaN_int64_T N) cmp_isNaN_int64_L [(.int .i64)] [.val .bool] (bodyOf Try.f120) Try.f120.ntmps [2] = (cmp_isNaN_int64_e N).F := by
  funext x
  kernel_rfl
theorem cmp_isNaN_int64_sound (N : Nat) : SoundC Try.prog 120 (cmp_isNaN_int64_e N) := by
  have h := runF_sound (f := 120) (code := bodyOf Try.f120) (N := N) (T := (cmp_isNaN_int64_T N)) (L := cmp_isNaN_int64_L) (ins := [(.int .i64)]) (outs := [.val .bool]) (res := [2]) mixed tt_ok ?_ Try.func120 (by kernel_rfl) rfl (by kernel_rfl) (by kernel_rfl) (by decide +kernel)
  · rw [cmp_isNaN_int64_eq] at h
    exact h
  · intro f e he
    cases he

/- cmp.Compare[int64] -/
def cmp_Compare_int64 (N : Nat) (x0 : Int) (x1 : Int) : Option (Int × Unit) :=
  Option.bind (cmp_isNaN_int64 N x0) fun r1 =>
  Option.bind (cmp_isNaN_int64 N x1) fun r2 =>
  cond r1.1
    (cond r2.1
      (some (0, ()))
      (some ((-1), ())))
    (cond r2.1
      (some (1, ()))
      (cond (decide (x0 < x1))
        (some ((-1), ()))
        (cond (decide (x0 > x1))
          (some (1, ()))
          (some (0, ())))))
def cmp_Compare_int64_e (N : Nat) : Ent := { ins := [(.int .i64), (.int .i64)], outs := [.val (.int .i64)], F := fun x => cmp_Compare_int64 N x.1 x.2.1 }
def cmp_Compare_int64_T (N : Nat) : Nat → List EntX
  | 120 => [.pl (cmp_isNaN_int64_e N)]
  | _ => []
def cmp_Compare_int64_L : Nat → List (Nat × TK) := fun _ => []
theorem cmp_Compare_int64_eq (N : Nat) : runF N tt (cmp_Compare_int64_T N) cmp_Compare_int64_L [(.int .i64), (.int .i64)] [.val (.int .i64)] (bodyOf Try.f84) Try.f84.ntmps [4] = (cmp_Compare_int64_e N).F := by
  funext x
  kernel_rfl
theorem cmp_Compare_int64_sound (N : Nat) : SoundC Try.prog 84 (cmp_Compare_int64_e N) := by
  have h := runF_sound (f := 84) (code := bodyOf Try.f84) (N := N) (T := (cmp_Compare_int64_T N)) (L := cmp_Compare_int64_L) (ins := [(.int .i64), (.int .i64)]) (outs := [.val (.int .i64)]) (res := [4]) mixed tt_ok ?_ Try.func84 (by kernel_rfl) rfl (by kernel_rfl) (by kernel_rfl) (by decide +kernel)
  · rw [cmp_Compare_int64_eq] at h
    exact h
  · intro f e he
    unfold cmp_Compare_int64_T at he
    split at he
    · rw [List.mem_singleton.1 he]; exact cmp_isNaN_int64_sound N
    · cases he

/- impl.sortedBy$1 -/
def impl_sortedBy_1_c0 (N : Nat) (x0 : Int) (x1 : Int) (x2 : List Int) : Option (Int × Unit) :=
  Option.bind (impl_LongestFirst_1_c0 N x0 x2) fun r1 =>
  Option.bind (impl_LongestFirst_1_c0 N x1 x2) fun r2 =>
  Option.bind (cmp_Compare_int64 N r1.1 r2.1) fun r3 =>
  some (r3.1, ())
def impl_sortedBy_1_c0_e (N : Nat) : Ent := { ins := [(.int .i64), (.int .i64), (.bx (.clo 49 (.bx (.sl (.int .i64)))))], outs := [.val (.int .i64)], F := fun x => impl_sortedBy_1_c0 N x.1 x.2.1 x.2.2.1 }
def impl_sortedBy_1_c0_T (N : Nat) : Nat → List EntX
  | 49 => [.pl (impl_LongestFirst_1_c0_e N)]
  | 84 => [.pl (cmp_Compare_int64_e N)]
  | _ => []
def impl_sortedBy_1_c0_L : Nat → List (Nat × TK) := fun _ => []
theorem impl_sortedBy_1_c0_eq (N : Nat) : runF N tt (impl_sortedBy_1_c0_T N) impl_sortedBy_1_c0_L [(.int .i64), (.int .i64), (.bx (.clo 49 (.bx (.sl (.int .i64)))))] [.val (.int .i64)] (bodyOf Try.f83) Try.f83.ntmps [5] = (impl_sortedBy_1_c0_e N).F := by
  funext x
  kernel_rfl
theorem impl_sortedBy_1_c0_sound (N : Nat) : SoundC Try.prog 83 (impl_sortedBy_1_c0_e N) := by
  have h := runF_sound (f := 83) (code := bodyOf Try.f83) (N := N) (T := (impl_sortedBy_1_c0_T N)) (L := impl_sortedBy_1_c0_L) (ins := [(.int .i64), (.int .i64), (.bx (.clo 49 (.bx (.sl (.int .i64)))))]) (outs := [.val (.int .i64)]) (res := [5]) mixed tt_ok ?_ Try.func83 (by kernel_rfl) rfl (by kernel_rfl) (by kernel_rfl) (by decide +kernel)
  · rw [impl_sortedBy_1_c0_eq] at h
    exact h
  · intro f e he
    unfold impl_sortedBy_1_c0_T at he
    split at he
    · rw [List.mem_singleton.1 he]; exact impl_LongestFirst_1_c0_sound N
    · rw [List.mem_singleton.1 he]; exact cmp_Compare_int64_sound N
    · cases he

/- slices.insertionSortCmpFunc[int64] -/
def slices_insertionSortCmpFunc_int64_impl_sortedBy_1 (N : Nat) (x0 : List Int) (x1 : Int) (x2 : Int) (x3 : List Int) : Option (List (Int) × (Unit)) :=
  loopN (fun (s1 : List (Int) × Int × Unit) next2 =>
    cond (decide (s1.2.1 < x2))
      (loopN (fun (s3 : List (Int) × Int × Unit) next4 =>
        cond (decide (s3.2.1 > x1))
          (cond (inB s3.2.1 (List.length s3.1))
            (Option.bind (s3.1[(Int.toNat s3.2.1)]?) fun v5 =>
            cond (inB (w64 (s3.2.1 - 1)) (List.length s3.1))
              (Option.bind (s3.1[(Int.toNat (w64 (s3.2.1 - 1)))]?) fun v6 =>
              Option.bind (impl_sortedBy_1_c0 N v5 v6 x3) fun r7 =>
              cond (decide (r7.1 < 0))
                (cond (inB (w64 (s3.2.1 - 1)) (List.length s3.1))
                  (Option.bind (s3.1[(Int.toNat (w64 (s3.2.1 - 1)))]?) fun v8 =>
                  cond (inB s3.2.1 (List.length s3.1))
                    (Option.bind (s3.1[(Int.toNat s3.2.1)]?) fun v9 =>
                    cond (inB s3.2.1 (List.length s3.1))
                      (let xs10 := (List.set s3.1 (Int.toNat s3.2.1) v8)
                      cond (inB (w64 (s3.2.1 - 1)) (List.length xs10))
                        (let xs11 := (List.set xs10 (Int.toNat (w64 (s3.2.1 - 1))) v9)
                        next4 (xs11, (w64 (s3.2.1 - 1)), ())) none) none) none) none)
                (next2 (s3.1, (w64 (s1.2.1 + 1)), ()))) none) none)
          (next2 (s3.1, (w64 (s1.2.1 + 1)), ()))) N (s1.1, s1.2.1, ()))
      (some (s1.1, ()))) N (x0, (w64 (x1 + 1)), ())
def slices_insertionSortCmpFunc_int64_impl_sortedBy_1_e (N : Nat) : EntM := { io := (.int .i64), ins := [(.int .i64), (.int .i64), (.clo 83 (.bx (.clo 49 (.bx (.sl (.int .i64))))))], outs := [], F := fun xs x => slices_insertionSortCmpFunc_int64_impl_sortedBy_1 N xs x.1 x.2.1 x.2.2.1 }
def slices_insertionSortCmpFunc_int64_impl_sortedBy_1_T (N : Nat) : Nat → List EntX
  | 83 => [.pl (impl_sortedBy_1_c0_e N)]
  | _ => []
def slices_insertionSortCmpFunc_int64_impl_sortedBy_1_L : Nat → List (Nat × TK)
  | 1 => [(0, .own (.int .i64)), (8, .v (.int .i64))]
  | 4 => [(0, .own (.int .i64)), (9, .v (.int .i64))]
  | _ => []
theorem slices_insertionSortCmpFunc_int64_impl_sortedBy_1_eq (N : Nat) : runM N tt (slices_insertionSortCmpFunc_int64_impl_sortedBy_1_T N) slices_insertionSortCmpFunc_int64_impl_sortedBy_1_L (.int .i64) [(.int .i64), (.int .i64), (.clo 83 (.bx (.clo 49 (.bx (.sl (.int .i64))))))] [] (bodyOf Try.f129) Try.f129.ntmps [] = (slices_insertionSortCmpFunc_int64_impl_sortedBy_1_e N).F := by
  funext xs x
  kernel_rfl
theorem slices_insertionSortCmpFunc_int64_impl_sortedBy_1_sound (N : Nat) : SoundM Try.prog 129 (slices_insertionSortCmpFunc_int64_impl_sortedBy_1_e N) := by
  have h := runM_sound (f := 129) (code := bodyOf Try.f129) (N := N) (T := (slices_insertionSortCmpFunc_int64_impl_sortedBy_1_T N)) (L := slices_insertionSortCmpFunc_int64_impl_sortedBy_1_L) (io := (.int .i64)) (ins := [(.int .i64), (.int .i64), (.clo 83 (.bx (.clo 49 (.bx (.sl (.int .i64))))))]) (outs := []) (res := []) mixed tt_ok ?_ Try.func129 (by kernel_rfl) rfl (by kernel_rfl) (by kernel_rfl) (by decide +kernel)
  · rw [slices_insertionSortCmpFunc_int64_impl_sortedBy_1_eq] at h
    exact h
  · intro f e he
    unfold slices_insertionSortCmpFunc_int64_impl_sortedBy_1_T at he
    split at he
    · rw [List.mem_singleton.1 he]; exact impl_sortedBy_1_c0_sound N
    · cases he

/- slices.swapRangeCmpFunc[int64] -/
def slices_swapRangeCmpFunc_int64_impl_sortedBy_1 (N : Nat) (x0 : List Int) (x1 : Int) (x2 : Int) (x3 : Int) (x4 : List Int) : Option (List (Int) × (Unit)) :=
  loopN (fun (s1 : List (Int) × Int × Unit) next2 =>
    cond (decide (s1.2.1 < x3))
      (cond (inB (w64 (x2 + s1.2.1)) (List.length s1.1))
        (Option.bind (s1.1[(Int.toNat (w64 (x2 + s1.2.1)))]?) fun v3 =>
        cond (inB (w64 (x1 + s1.2.1)) (List.length s1.1))
          (Option.bind (s1.1[(Int.toNat (w64 (x1 + s1.2.1)))]?) fun v4 =>
          cond (inB (w64 (x1 + s1.2.1)) (List.length s1.1))
            (let xs5 := (List.set s1.1 (Int.toNat (w64 (x1 + s1.2.1))) v3)
            cond (inB (w64 (x2 + s1.2.1)) (List.length xs5))
              (let xs6 := (List.set xs5 (Int.toNat (w64 (x2 + s1.2.1))) v4)
              next2 (xs6, (w64 (s1.2.1 + 1)), ())) none) none) none) none)
      (some (s1.1, ()))) N (x0, 0, ())
def slices_swapRangeCmpFunc_int64_impl_sortedBy_1_e (N : Nat) : EntM := { io := (.int .i64), ins := [(.int .i64), (.int .i64), (.int .i64), (.clo 83 (.bx (.clo 49 (.bx (.sl (.int .i64))))))], outs := [], F := fun xs x => slices_swapRangeCmpFunc_int64_impl_sortedBy_1 N xs x.1 x.2.1 x.2.2.1 x.2.2.2.1 }
def slices_swapRangeCmpFunc_int64_impl_sortedBy_1_T (_ : Nat) : Nat → List EntX := fun _ => []
def slices_swapRangeCmpFunc_int64_impl_sortedBy_1_L : Nat → List (Nat × TK)
  | 1 => [(0, .own (.int .i64)), (10, .v (.int .i64))]
  | _ => []
theorem slices_swapRangeCmpFunc_int64_impl_sortedBy_1_eq (N : Nat) : runM N tt (slices_swapRangeCmpFunc_int64_impl_sortedBy_1_T N) slices_swapRangeCmpFunc_int64_impl_sortedBy_1_L (.int .i64) [(.int .i64), (.int .i64), (.int .i64), (.clo 83 (.bx (.clo 49 (.bx (.sl (.int .i64))))))] [] (bodyOf Try.f136) Try.f136.ntmps [] = (slices_swapRangeCmpFunc_int64_impl_sortedBy_1_e N).F := by
  funext xs x
  kernel_rfl
theorem slices_swapRangeCmpFunc_int64_impl_sortedBy_1_sound (N : Nat) : SoundM Try.prog 136 (slices_swapRangeCmpFunc_int64_impl_sortedBy_1_e N) := by
  have h := runM_sound (f := 136) (code := bodyOf Try.f136) (N := N) (T := (slices_swapRangeCmpFunc_int64_impl_sortedBy_1_T N)) (L := slices_swapRangeCmpFunc_int64_impl_sortedBy_1_L) (io := (.int .i64)) (ins := [(.int .i64), (.int .i64), (.int .i64), (.clo 83 (.bx (.clo 49 (.bx (.sl (.int .i64))))))]) (outs := []) (res := []) mixed tt_ok ?_ Try.func136 (by kernel_rfl) rfl (by kernel_rfl) (by kernel_rfl) (by decide +kernel)
  · rw [slices_swapRangeCmpFunc_int64_impl_sortedBy_1_eq] at h
    exact h
  · intro f e he
    cases he

/- slices.rotateCmpFunc[int64] -/
def slices_rotateCmpFunc_int64_impl_sortedBy_1 (N : Nat) (x0 : List Int) (x1 : Int) (x2 : Int) (x3 : Int) (x4 : List Int) : Option (List (Int) × (Unit)) :=
  loopN (fun (s1 : List (Int) × Int × Int × Unit) next2 =>
    cond (s1.2.1 != s1.2.2.1)
      (cond (decide (s1.2.1 > s1.2.2.1))
        (Option.bind (slices_swapRangeCmpFunc_int64_impl_sortedBy_1 N s1.1 (w64 (x2 - s1.2.1)) x2 s1.2.2.1 x4) fun r3 =>
        cond (Nat.beq (List.length r3.1) (List.length s1.1))
          (next2 (r3.1, (w64 (s1.2.1 - s1.2.2.1)), s1.2.2.1, ())) none)
        (Option.bind (slices_swapRangeCmpFunc_int64_impl_sortedBy_1 N s1.1 (w64 (x2 - s1.2.1)) (w64 ((w64 (x2 + s1.2.2.1)) - s1.2.1)) s1.2.1 x4) fun r4 =>
        cond (Nat.beq (List.length r4.1) (List.length s1.1))
          (next2 (r4.1, s1.2.1, (w64 (s1.2.2.1 - s1.2.1)), ())) none))
      (Option.bind (slices_swapRangeCmpFunc_int64_impl_sortedBy_1 N s1.1 (w64 (x2 - s1.2.1)) x2 s1.2.1 x4) fun r5 =>
      cond (Nat.beq (List.length r5.1) (List.length s1.1))
        (some (r5.1, ())) none)) N (x0, (w64 (x2 - x1)), (w64 (x3 - x2)), ())
def slices_rotateCmpFunc_int64_impl_sortedBy_1_e (N : Nat) : EntM := { io := (.int .i64), ins := [(.int .i64), (.int .i64), (.int .i64), (.clo 83 (.bx (.clo 49 (.bx (.sl (.int .i64))))))], outs := [], F := fun xs x => slices_rotateCmpFunc_int64_impl_sortedBy_1 N xs x.1 x.2.1 x.2.2.1 x.2.2.2.1 }
def slices_rotateCmpFunc_int64_impl_sortedBy_1_T (N : Nat) : Nat → List EntX
  | 136 => [.mu (slices_swapRangeCmpFunc_int64_impl_sortedBy_1_e N)]
  | _ => []
def slices_rotateCmpFunc_int64_impl_sortedBy_1_L : Nat → List (Nat × TK)
  | 2 => [(0, .own (.int .i64)), (10, .v (.int .i64)), (11, .v (.int .i64))]
  | _ => []
theorem slices_rotateCmpFunc_int64_impl_sortedBy_1_eq (N : Nat) : runM N tt (slices_rotateCmpFunc_int64_impl_sortedBy_1_T N) slices_rotateCmpFunc_int64_impl_sortedBy_1_L (.int .i64) [(.int .i64), (.int .i64), (.int .i64), (.clo 83 (.bx (.clo 49 (.bx (.sl (.int .i64))))))] [] (bodyOf Try.f134) Try.f134.ntmps [] = (slices_rotateCmpFunc_int64_impl_sortedBy_1_e N).F := by
  funext xs x
  kernel_rfl
theorem slices_rotateCmpFunc_int64_impl_sortedBy_1_sound (N : Nat) : SoundM Try.prog 134 (slices_rotateCmpFunc_int64_impl_sortedBy_1_e N) := by
  have h := runM_sound (f := 134) (code := bodyOf Try.f134) (N := N) (T := (slices_rotateCmpFunc_int64_impl_sortedBy_1_T N)) (L := slices_rotateCmpFunc_int64_impl_sortedBy_1_L) (io := (.int .i64)) (ins := [(.int .i64), (.int .i64), (.int .i64), (.clo 83 (.bx (.clo 49 (.bx (.sl (.int .i64))))))]) (outs := []) (res := []) mixed tt_ok ?_ Try.func134 (by kernel_rfl) rfl (by kernel_rfl) (by kernel_rfl) (by decide +kernel)
  · rw [slices_rotateCmpFunc_int64_impl_sortedBy_1_eq] at h
    exact h
  · intro f e he
    unfold slices_rotateCmpFunc_int64_impl_sortedBy_1_T at he
    split at he
    · rw [List.mem_singleton.1 he]; exact slices_swapRangeCmpFunc_int64_impl_sortedBy_1_sound N
    · cases he

/- slices.symMergeCmpFunc[int64] -/
def slices_symMergeCmpFunc_int64_impl_sortedBy_1_step (N : Nat) (self : List (Int) → Int → Int → Int → List Int → Option (List (Int) × (Unit))) (x0 : List Int) (x1 : Int) (x2 : Int) (x3 : Int) (x4 : List Int) : Option (List (Int) × (Unit)) :=
  cond ((w64 (x2 - x1)) == 1)
    (loopN (fun (s1 : Int × Int × Unit) next2 =>
      cond (decide (s1.1 < s1.2.1))
        (cond (inB (IntKind.wrap .i64 (ishr .u64 (IntKind.wrap .u64 (w64 (s1.1 + s1.2.1))) 1)) (List.length x0))
          (Option.bind (x0[(Int.toNat (IntKind.wrap .i64 (ishr .u64 (IntKind.wrap .u64 (w64 (s1.1 + s1.2.1))) 1)))]?) fun v3 =>
          cond (inB x1 (List.length x0))
            (Option.bind (x0[(Int.toNat x1)]?) fun v4 =>
            Option.bind (impl_sortedBy_1_c0 N v3 v4 x4) fun r5 =>
            cond (decide (r5.1 < 0))
              (next2 ((w64 ((IntKind.wrap .i64 (ishr .u64 (IntKind.wrap .u64 (w64 (s1.1 + s1.2.1))) 1)) + 1)), s1.2.1, ()))
              (next2 (s1.1, (IntKind.wrap .i64 (ishr .u64 (IntKind.wrap .u64 (w64 (s1.1 + s1.2.1))) 1)), ()))) none) none)
        (loopN (fun (s6 : List (Int) × Int × Unit) next7 =>
          cond (decide (s6.2.1 < (w64 (s1.1 - 1))))
            (cond (inB (w64 (s6.2.1 + 1)) (List.length s6.1))
              (Option.bind (s6.1[(Int.toNat (w64 (s6.2.1 + 1)))]?) fun v8 =>
              cond (inB s6.2.1 (List.length s6.1))
                (Option.bind (s6.1[(Int.toNat s6.2.1)]?) fun v9 =>
                cond (inB s6.2.1 (List.length s6.1))
                  (let xs10 := (List.set s6.1 (Int.toNat s6.2.1) v8)
                  cond (inB (w64 (s6.2.1 + 1)) (List.length xs10))
                    (let xs11 := (List.set xs10 (Int.toNat (w64 (s6.2.1 + 1))) v9)
                    next7 (xs11, (w64 (s6.2.1 + 1)), ())) none) none) none) none)
            (some (s6.1, ()))) N (x0, x1, ()))) N (x2, x3, ()))
    (cond ((w64 (x3 - x2)) == 1)
      (loopN (fun (s12 : Int × Int × Unit) next13 =>
        cond (decide (s12.1 < s12.2.1))
          (cond (inB x2 (List.length x0))
            (Option.bind (x0[(Int.toNat x2)]?) fun v14 =>
            cond (inB (IntKind.wrap .i64 (ishr .u64 (IntKind.wrap .u64 (w64 (s12.1 + s12.2.1))) 1)) (List.length x0))
              (Option.bind (x0[(Int.toNat (IntKind.wrap .i64 (ishr .u64 (IntKind.wrap .u64 (w64 (s12.1 + s12.2.1))) 1)))]?) fun v15 =>
              Option.bind (impl_sortedBy_1_c0 N v14 v15 x4) fun r16 =>
              cond (!(decide (r16.1 < 0)))
                (next13 ((w64 ((IntKind.wrap .i64 (ishr .u64 (IntKind.wrap .u64 (w64 (s12.1 + s12.2.1))) 1)) + 1)), s12.2.1, ()))
                (next13 (s12.1, (IntKind.wrap .i64 (ishr .u64 (IntKind.wrap .u64 (w64 (s12.1 + s12.2.1))) 1)), ()))) none) none)
          (loopN (fun (s17 : List (Int) × Int × Unit) next18 =>
            cond (decide (s17.2.1 > s12.1))
              (cond (inB (w64 (s17.2.1 - 1)) (List.length s17.1))
                (Option.bind (s17.1[(Int.toNat (w64 (s17.2.1 - 1)))]?) fun v19 =>
                cond (inB s17.2.1 (List.length s17.1))
                  (Option.bind (s17.1[(Int.toNat s17.2.1)]?) fun v20 =>
                  cond (inB s17.2.1 (List.length s17.1))
                    (let xs21 := (List.set s17.1 (Int.toNat s17.2.1) v19)
                    cond (inB (w64 (s17.2.1 - 1)) (List.length xs21))
                      (let xs22 := (List.set xs21 (Int.toNat (w64 (s17.2.1 - 1))) v20)
                      next18 (xs22, (w64 (s17.2.1 - 1)), ())) none) none) none) none)
              (some (s17.1, ()))) N (x0, x2, ()))) N (x1, x2, ()))
      (cond (decide (x2 > (IntKind.wrap .i64 (ishr .u64 (IntKind.wrap .u64 (w64 (x1 + x3))) 1))))
        (loopN (fun (s23 : Int × Int × Unit) next24 =>
          cond (decide (s23.1 < s23.2.1))
            (cond (inB (w64 ((w64 ((w64 ((IntKind.wrap .i64 (ishr .u64 (IntKind.wrap .u64 (w64 (x1 + x3))) 1)) + x2)) - 1)) - (IntKind.wrap .i64 (ishr .u64 (IntKind.wrap .u64 (w64 (s23.1 + s23.2.1))) 1)))) (List.length x0))
              (Option.bind (x0[(Int.toNat (w64 ((w64 ((w64 ((IntKind.wrap .i64 (ishr .u64 (IntKind.wrap .u64 (w64 (x1 + x3))) 1)) + x2)) - 1)) - (IntKind.wrap .i64 (ishr .u64 (IntKind.wrap .u64 (w64 (s23.1 + s23.2.1))) 1)))))]?) fun v25 =>
              cond (inB (IntKind.wrap .i64 (ishr .u64 (IntKind.wrap .u64 (w64 (s23.1 + s23.2.1))) 1)) (List.length x0))
                (Option.bind (x0[(Int.toNat (IntKind.wrap .i64 (ishr .u64 (IntKind.wrap .u64 (w64 (s23.1 + s23.2.1))) 1)))]?) fun v26 =>
                Option.bind (impl_sortedBy_1_c0 N v25 v26 x4) fun r27 =>
                cond (!(decide (r27.1 < 0)))
                  (next24 ((w64 ((IntKind.wrap .i64 (ishr .u64 (IntKind.wrap .u64 (w64 (s23.1 + s23.2.1))) 1)) + 1)), s23.2.1, ()))
                  (next24 (s23.1, (IntKind.wrap .i64 (ishr .u64 (IntKind.wrap .u64 (w64 (s23.1 + s23.2.1))) 1)), ()))) none) none)
            (cond (decide (s23.1 < x2))
              (cond (decide (x2 < (w64 ((w64 ((IntKind.wrap .i64 (ishr .u64 (IntKind.wrap .u64 (w64 (x1 + x3))) 1)) + x2)) - s23.1))))
                (Option.bind (slices_rotateCmpFunc_int64_impl_sortedBy_1 N x0 s23.1 x2 (w64 ((w64 ((IntKind.wrap .i64 (ishr .u64 (IntKind.wrap .u64 (w64 (x1 + x3))) 1)) + x2)) - s23.1)) x4) fun r28 =>
                cond (Nat.beq (List.length r28.1) (List.length x0))
                  (cond (decide (x1 < s23.1))
                    (cond (decide (s23.1 < (IntKind.wrap .i64 (ishr .u64 (IntKind.wrap .u64 (w64 (x1 + x3))) 1))))
                      (Option.bind (self r28.1 x1 s23.1 (IntKind.wrap .i64 (ishr .u64 (IntKind.wrap .u64 (w64 (x1 + x3))) 1)) x4) fun r29 =>
                      cond (Nat.beq (List.length r29.1) (List.length r28.1))
                        (cond (decide ((IntKind.wrap .i64 (ishr .u64 (IntKind.wrap .u64 (w64 (x1 + x3))) 1)) < (w64 ((w64 ((IntKind.wrap .i64 (ishr .u64 (IntKind.wrap .u64 (w64 (x1 + x3))) 1)) + x2)) - s23.1))))
                          (cond (decide ((w64 ((w64 ((IntKind.wrap .i64 (ishr .u64 (IntKind.wrap .u64 (w64 (x1 + x3))) 1)) + x2)) - s23.1)) < x3))
                            (Option.bind (self r29.1 (IntKind.wrap .i64 (ishr .u64 (IntKind.wrap .u64 (w64 (x1 + x3))) 1)) (w64 ((w64 ((IntKind.wrap .i64 (ishr .u64 (IntKind.wrap .u64 (w64 (x1 + x3))) 1)) + x2)) - s23.1)) x3 x4) fun r30 =>
                            cond (Nat.beq (List.length r30.1) (List.length r29.1))
                              (some (r30.1, ())) none)
                            (some (r29.1, ())))
                          (some (r29.1, ()))) none)
                      (cond (decide ((IntKind.wrap .i64 (ishr .u64 (IntKind.wrap .u64 (w64 (x1 + x3))) 1)) < (w64 ((w64 ((IntKind.wrap .i64 (ishr .u64 (IntKind.wrap .u64 (w64 (x1 + x3))) 1)) + x2)) - s23.1))))
                        (cond (decide ((w64 ((w64 ((IntKind.wrap .i64 (ishr .u64 (IntKind.wrap .u64 (w64 (x1 + x3))) 1)) + x2)) - s23.1)) < x3))
                          (Option.bind (self r28.1 (IntKind.wrap .i64 (ishr .u64 (IntKind.wrap .u64 (w64 (x1 + x3))) 1)) (w64 ((w64 ((IntKind.wrap .i64 (ishr .u64 (IntKind.wrap .u64 (w64 (x1 + x3))) 1)) + x2)) - s23.1)) x3 x4) fun r31 =>
                          cond (Nat.beq (List.length r31.1) (List.length r28.1))
                            (some (r31.1, ())) none)
                          (some (r28.1, ())))
                        (some (r28.1, ()))))
                    (cond (decide ((IntKind.wrap .i64 (ishr .u64 (IntKind.wrap .u64 (w64 (x1 + x3))) 1)) < (w64 ((w64 ((IntKind.wrap .i64 (ishr .u64 (IntKind.wrap .u64 (w64 (x1 + x3))) 1)) + x2)) - s23.1))))
                      (cond (decide ((w64 ((w64 ((IntKind.wrap .i64 (ishr .u64 (IntKind.wrap .u64 (w64 (x1 + x3))) 1)) + x2)) - s23.1)) < x3))
                        (Option.bind (self r28.1 (IntKind.wrap .i64 (ishr .u64 (IntKind.wrap .u64 (w64 (x1 + x3))) 1)) (w64 ((w64 ((IntKind.wrap .i64 (ishr .u64 (IntKind.wrap .u64 (w64 (x1 + x3))) 1)) + x2)) - s23.1)) x3 x4) fun r32 =>
                        cond (Nat.beq (List.length r32.1) (List.length r28.1))
                          (some (r32.1, ())) none)
                        (some (r28.1, ())))
                      (some (r28.1, ())))) none)
                (cond (decide (x1 < s23.1))
                  (cond (decide (s23.1 < (IntKind.wrap .i64 (ishr .u64 (IntKind.wrap .u64 (w64 (x1 + x3))) 1))))
                    (Option.bind (self x0 x1 s23.1 (IntKind.wrap .i64 (ishr .u64 (IntKind.wrap .u64 (w64 (x1 + x3))) 1)) x4) fun r33 =>
                    cond (Nat.beq (List.length r33.1) (List.length x0))
                      (cond (decide ((IntKind.wrap .i64 (ishr .u64 (IntKind.wrap .u64 (w64 (x1 + x3))) 1)) < (w64 ((w64 ((IntKind.wrap .i64 (ishr .u64 (IntKind.wrap .u64 (w64 (x1 + x3))) 1)) + x2)) - s23.1))))
                        (cond (decide ((w64 ((w64 ((IntKind.wrap .i64 (ishr .u64 (IntKind.wrap .u64 (w64 (x1 + x3))) 1)) + x2)) - s23.1)) < x3))
                          (Option.bind (self r33.1 (IntKind.wrap .i64 (ishr .u64 (IntKind.wrap .u64 (w64 (x1 + x3))) 1)) (w64 ((w64 ((IntKind.wrap .i64 (ishr .u64 (IntKind.wrap .u64 (w64 (x1 + x3))) 1)) + x2)) - s23.1)) x3 x4) fun r34 =>
                          cond (Nat.beq (List.length r34.1) (List.length r33.1))
                            (some (r34.1, ())) none)
                          (some (r33.1, ())))
                        (some (r33.1, ()))) none)
                    (cond (decide ((IntKind.wrap .i64 (ishr .u64 (IntKind.wrap .u64 (w64 (x1 + x3))) 1)) < (w64 ((w64 ((IntKind.wrap .i64 (ishr .u64 (IntKind.wrap .u64 (w64 (x1 + x3))) 1)) + x2)) - s23.1))))
                      (cond (decide ((w64 ((w64 ((IntKind.wrap .i64 (ishr .u64 (IntKind.wrap .u64 (w64 (x1 + x3))) 1)) + x2)) - s23.1)) < x3))
                        (Option.bind (self x0 (IntKind.wrap .i64 (ishr .u64 (IntKind.wrap .u64 (w64 (x1 + x3))) 1)) (w64 ((w64 ((IntKind.wrap .i64 (ishr .u64 (IntKind.wrap .u64 (w64 (x1 + x3))) 1)) + x2)) - s23.1)) x3 x4) fun r35 =>
                        cond (Nat.beq (List.length r35.1) (List.length x0))
                          (some (r35.1, ())) none)
                        (some (x0, ())))
                      (some (x0, ()))))
                  (cond (decide ((IntKind.wrap .i64 (ishr .u64 (IntKind.wrap .u64 (w64 (x1 + x3))) 1)) < (w64 ((w64 ((IntKind.wrap .i64 (ishr .u64 (IntKind.wrap .u64 (w64 (x1 + x3))) 1)) + x2)) - s23.1))))
                    (cond (decide ((w64 ((w64 ((IntKind.wrap .i64 (ishr .u64 (IntKind.wrap .u64 (w64 (x1 + x3))) 1)) + x2)) - s23.1)) < x3))
                      (Option.bind (self x0 (IntKind.wrap .i64 (ishr .u64 (IntKind.wrap .u64 (w64 (x1 + x3))) 1)) (w64 ((w64 ((IntKind.wrap .i64 (ishr .u64 (IntKind.wrap .u64 (w64 (x1 + x3))) 1)) + x2)) - s23.1)) x3 x4) fun r36 =>
                      cond (Nat.beq (List.length r36.1) (List.length x0))
                        (some (r36.1, ())) none)
                      (some (x0, ())))
                    (some (x0, ())))))
              (cond (decide (x1 < s23.1))
                (cond (decide (s23.1 < (IntKind.wrap .i64 (ishr .u64 (IntKind.wrap .u64 (w64 (x1 + x3))) 1))))
                  (Option.bind (self x0 x1 s23.1 (IntKind.wrap .i64 (ishr .u64 (IntKind.wrap .u64 (w64 (x1 + x3))) 1)) x4) fun r37 =>
                  cond (Nat.beq (List.length r37.1) (List.length x0))
                    (cond (decide ((IntKind.wrap .i64 (ishr .u64 (IntKind.wrap .u64 (w64 (x1 + x3))) 1)) < (w64 ((w64 ((IntKind.wrap .i64 (ishr .u64 (IntKind.wrap .u64 (w64 (x1 + x3))) 1)) + x2)) - s23.1))))
                      (cond (decide ((w64 ((w64 ((IntKind.wrap .i64 (ishr .u64 (IntKind.wrap .u64 (w64 (x1 + x3))) 1)) + x2)) - s23.1)) < x3))
                        (Option.bind (self r37.1 (IntKind.wrap .i64 (ishr .u64 (IntKind.wrap .u64 (w64 (x1 + x3))) 1)) (w64 ((w64 ((IntKind.wrap .i64 (ishr .u64 (IntKind.wrap .u64 (w64 (x1 + x3))) 1)) + x2)) - s23.1)) x3 x4) fun r38 =>
                        cond (Nat.beq (List.length r38.1) (List.length r37.1))
                          (some (r38.1, ())) none)
                        (some (r37.1, ())))
                      (some (r37.1, ()))) none)
                  (cond (decide ((IntKind.wrap .i64 (ishr .u64 (IntKind.wrap .u64 (w64 (x1 + x3))) 1)) < (w64 ((w64 ((IntKind.wrap .i64 (ishr .u64 (IntKind.wrap .u64 (w64 (x1 + x3))) 1)) + x2)) - s23.1))))
                    (cond (decide ((w64 ((w64 ((IntKind.wrap .i64 (ishr .u64 (IntKind.wrap .u64 (w64 (x1 + x3))) 1)) + x2)) - s23.1)) < x3))
                      (Option.bind (self x0 (IntKind.wrap .i64 (ishr .u64 (IntKind.wrap .u64 (w64 (x1 + x3))) 1)) (w64 ((w64 ((IntKind.wrap .i64 (ishr .u64 (IntKind.wrap .u64 (w64 (x1 + x3))) 1)) + x2)) - s23.1)) x3 x4) fun r39 =>
                      cond (Nat.beq (List.length r39.1) (List.length x0))
                        (some (r39.1, ())) none)
                      (some (x0, ())))
                    (some (x0, ()))))
                (cond (decide ((IntKind.wrap .i64 (ishr .u64 (IntKind.wrap .u64 (w64 (x1 + x3))) 1)) < (w64 ((w64 ((IntKind.wrap .i64 (ishr .u64 (IntKind.wrap .u64 (w64 (x1 + x3))) 1)) + x2)) - s23.1))))
                  (cond (decide ((w64 ((w64 ((IntKind.wrap .i64 (ishr .u64 (IntKind.wrap .u64 (w64 (x1 + x3))) 1)) + x2)) - s23.1)) < x3))
                    (Option.bind (self x0 (IntKind.wrap .i64 (ishr .u64 (IntKind.wrap .u64 (w64 (x1 + x3))) 1)) (w64 ((w64 ((IntKind.wrap .i64 (ishr .u64 (IntKind.wrap .u64 (w64 (x1 + x3))) 1)) + x2)) - s23.1)) x3 x4) fun r40 =>
                    cond (Nat.beq (List.length r40.1) (List.length x0))
                      (some (r40.1, ())) none)
                    (some (x0, ())))
                  (some (x0, ())))))) N ((w64 ((w64 ((IntKind.wrap .i64 (ishr .u64 (IntKind.wrap .u64 (w64 (x1 + x3))) 1)) + x2)) - x3)), (IntKind.wrap .i64 (ishr .u64 (IntKind.wrap .u64 (w64 (x1 + x3))) 1)), ()))
        (loopN (fun (s41 : Int × Int × Unit) next42 =>
          cond (decide (s41.1 < s41.2.1))
            (cond (inB (w64 ((w64 ((w64 ((IntKind.wrap .i64 (ishr .u64 (IntKind.wrap .u64 (w64 (x1 + x3))) 1)) + x2)) - 1)) - (IntKind.wrap .i64 (ishr .u64 (IntKind.wrap .u64 (w64 (s41.1 + s41.2.1))) 1)))) (List.length x0))
              (Option.bind (x0[(Int.toNat (w64 ((w64 ((w64 ((IntKind.wrap .i64 (ishr .u64 (IntKind.wrap .u64 (w64 (x1 + x3))) 1)) + x2)) - 1)) - (IntKind.wrap .i64 (ishr .u64 (IntKind.wrap .u64 (w64 (s41.1 + s41.2.1))) 1)))))]?) fun v43 =>
              cond (inB (IntKind.wrap .i64 (ishr .u64 (IntKind.wrap .u64 (w64 (s41.1 + s41.2.1))) 1)) (List.length x0))
                (Option.bind (x0[(Int.toNat (IntKind.wrap .i64 (ishr .u64 (IntKind.wrap .u64 (w64 (s41.1 + s41.2.1))) 1)))]?) fun v44 =>
                Option.bind (impl_sortedBy_1_c0 N v43 v44 x4) fun r45 =>
                cond (!(decide (r45.1 < 0)))
                  (next42 ((w64 ((IntKind.wrap .i64 (ishr .u64 (IntKind.wrap .u64 (w64 (s41.1 + s41.2.1))) 1)) + 1)), s41.2.1, ()))
                  (next42 (s41.1, (IntKind.wrap .i64 (ishr .u64 (IntKind.wrap .u64 (w64 (s41.1 + s41.2.1))) 1)), ()))) none) none)
            (cond (decide (s41.1 < x2))
              (cond (decide (x2 < (w64 ((w64 ((IntKind.wrap .i64 (ishr .u64 (IntKind.wrap .u64 (w64 (x1 + x3))) 1)) + x2)) - s41.1))))
                (Option.bind (slices_rotateCmpFunc_int64_impl_sortedBy_1 N x0 s41.1 x2 (w64 ((w64 ((IntKind.wrap .i64 (ishr .u64 (IntKind.wrap .u64 (w64 (x1 + x3))) 1)) + x2)) - s41.1)) x4) fun r46 =>
                cond (Nat.beq (List.length r46.1) (List.length x0))
                  (cond (decide (x1 < s41.1))
                    (cond (decide (s41.1 < (IntKind.wrap .i64 (ishr .u64 (IntKind.wrap .u64 (w64 (x1 + x3))) 1))))
                      (Option.bind (self r46.1 x1 s41.1 (IntKind.wrap .i64 (ishr .u64 (IntKind.wrap .u64 (w64 (x1 + x3))) 1)) x4) fun r47 =>
                      cond (Nat.beq (List.length r47.1) (List.length r46.1))
                        (cond (decide ((IntKind.wrap .i64 (ishr .u64 (IntKind.wrap .u64 (w64 (x1 + x3))) 1)) < (w64 ((w64 ((IntKind.wrap .i64 (ishr .u64 (IntKind.wrap .u64 (w64 (x1 + x3))) 1)) + x2)) - s41.1))))
                          (cond (decide ((w64 ((w64 ((IntKind.wrap .i64 (ishr .u64 (IntKind.wrap .u64 (w64 (x1 + x3))) 1)) + x2)) - s41.1)) < x3))
                            (Option.bind (self r47.1 (IntKind.wrap .i64 (ishr .u64 (IntKind.wrap .u64 (w64 (x1 + x3))) 1)) (w64 ((w64 ((IntKind.wrap .i64 (ishr .u64 (IntKind.wrap .u64 (w64 (x1 + x3))) 1)) + x2)) - s41.1)) x3 x4) fun r48 =>
                            cond (Nat.beq (List.length r48.1) (List.length r47.1))
                              (some (r48.1, ())) none)
                            (some (r47.1, ())))
                          (some (r47.1, ()))) none)
                      (cond (decide ((IntKind.wrap .i64 (ishr .u64 (IntKind.wrap .u64 (w64 (x1 + x3))) 1)) < (w64 ((w64 ((IntKind.wrap .i64 (ishr .u64 (IntKind.wrap .u64 (w64 (x1 + x3))) 1)) + x2)) - s41.1))))
                        (cond (decide ((w64 ((w64 ((IntKind.wrap .i64 (ishr .u64 (IntKind.wrap .u64 (w64 (x1 + x3))) 1)) + x2)) - s41.1)) < x3))
                          (Option.bind (self r46.1 (IntKind.wrap .i64 (ishr .u64 (IntKind.wrap .u64 (w64 (x1 + x3))) 1)) (w64 ((w64 ((IntKind.wrap .i64 (ishr .u64 (IntKind.wrap .u64 (w64 (x1 + x3))) 1)) + x2)) - s41.1)) x3 x4) fun r49 =>
                          cond (Nat.beq (List.length r49.1) (List.length r46.1))
                            (some (r49.1, ())) none)
                          (some (r46.1, ())))
                        (some (r46.1, ()))))
                    (cond (decide ((IntKind.wrap .i64 (ishr .u64 (IntKind.wrap .u64 (w64 (x1 + x3))) 1)) < (w64 ((w64 ((IntKind.wrap .i64 (ishr .u64 (IntKind.wrap .u64 (w64 (x1 + x3))) 1)) + x2)) - s41.1))))
                      (cond (decide ((w64 ((w64 ((IntKind.wrap .i64 (ishr .u64 (IntKind.wrap .u64 (w64 (x1 + x3))) 1)) + x2)) - s41.1)) < x3))
                        (Option.bind (self r46.1 (IntKind.wrap .i64 (ishr .u64 (IntKind.wrap .u64 (w64 (x1 + x3))) 1)) (w64 ((w64 ((IntKind.wrap .i64 (ishr .u64 (IntKind.wrap .u64 (w64 (x1 + x3))) 1)) + x2)) - s41.1)) x3 x4) fun r50 =>
                        cond (Nat.beq (List.length r50.1) (List.length r46.1))
                          (some (r50.1, ())) none)
                        (some (r46.1, ())))
                      (some (r46.1, ())))) none)
                (cond (decide (x1 < s41.1))
                  (cond (decide (s41.1 < (IntKind.wrap .i64 (ishr .u64 (IntKind.wrap .u64 (w64 (x1 + x3))) 1))))
                    (Option.bind (self x0 x1 s41.1 (IntKind.wrap .i64 (ishr .u64 (IntKind.wrap .u64 (w64 (x1 + x3))) 1)) x4) fun r51 =>
                    cond (Nat.beq (List.length r51.1) (List.length x0))
                      (cond (decide ((IntKind.wrap .i64 (ishr .u64 (IntKind.wrap .u64 (w64 (x1 + x3))) 1)) < (w64 ((w64 ((IntKind.wrap .i64 (ishr .u64 (IntKind.wrap .u64 (w64 (x1 + x3))) 1)) + x2)) - s41.1))))
                        (cond (decide ((w64 ((w64 ((IntKind.wrap .i64 (ishr .u64 (IntKind.wrap .u64 (w64 (x1 + x3))) 1)) + x2)) - s41.1)) < x3))
                          (Option.bind (self r51.1 (IntKind.wrap .i64 (ishr .u64 (IntKind.wrap .u64 (w64 (x1 + x3))) 1)) (w64 ((w64 ((IntKind.wrap .i64 (ishr .u64 (IntKind.wrap .u64 (w64 (x1 + x3))) 1)) + x2)) - s41.1)) x3 x4) fun r52 =>
                          cond (Nat.beq (List.length r52.1) (List.length r51.1))
                            (some (r52.1, ())) none)
                          (some (r51.1, ())))
                        (some (r51.1, ()))) none)
                    (cond (decide ((IntKind.wrap .i64 (ishr .u64 (IntKind.wrap .u64 (w64 (x1 + x3))) 1)) < (w64 ((w64 ((IntKind.wrap .i64 (ishr .u64 (IntKind.wrap .u64 (w64 (x1 + x3))) 1)) + x2)) - s41.1))))
                      (cond (decide ((w64 ((w64 ((IntKind.wrap .i64 (ishr .u64 (IntKind.wrap .u64 (w64 (x1 + x3))) 1)) + x2)) - s41.1)) < x3))
                        (Option.bind (self x0 (IntKind.wrap .i64 (ishr .u64 (IntKind.wrap .u64 (w64 (x1 + x3))) 1)) (w64 ((w64 ((IntKind.wrap .i64 (ishr .u64 (IntKind.wrap .u64 (w64 (x1 + x3))) 1)) + x2)) - s41.1)) x3 x4) fun r53 =>
                        cond (Nat.beq (List.length r53.1) (List.length x0))
                          (some (r53.1, ())) none)
                        (some (x0, ())))
                      (some (x0, ()))))
                  (cond (decide ((IntKind.wrap .i64 (ishr .u64 (IntKind.wrap .u64 (w64 (x1 + x3))) 1)) < (w64 ((w64 ((IntKind.wrap .i64 (ishr .u64 (IntKind.wrap .u64 (w64 (x1 + x3))) 1)) + x2)) - s41.1))))
                    (cond (decide ((w64 ((w64 ((IntKind.wrap .i64 (ishr .u64 (IntKind.wrap .u64 (w64 (x1 + x3))) 1)) + x2)) - s41.1)) < x3))
                      (Option.bind (self x0 (IntKind.wrap .i64 (ishr .u64 (IntKind.wrap .u64 (w64 (x1 + x3))) 1)) (w64 ((w64 ((IntKind.wrap .i64 (ishr .u64 (IntKind.wrap .u64 (w64 (x1 + x3))) 1)) + x2)) - s41.1)) x3 x4) fun r54 =>
                      cond (Nat.beq (List.length r54.1) (List.length x0))
                        (some (r54.1, ())) none)
                      (some (x0, ())))
                    (some (x0, ())))))
              (cond (decide (x1 < s41.1))
                (cond (decide (s41.1 < (IntKind.wrap .i64 (ishr .u64 (IntKind.wrap .u64 (w64 (x1 + x3))) 1))))
                  (Option.bind (self x0 x1 s41.1 (IntKind.wrap .i64 (ishr .u64 (IntKind.wrap .u64 (w64 (x1 + x3))) 1)) x4) fun r55 =>
                  cond (Nat.beq (List.length r55.1) (List.length x0))
                    (cond (decide ((IntKind.wrap .i64 (ishr .u64 (IntKind.wrap .u64 (w64 (x1 + x3))) 1)) < (w64 ((w64 ((IntKind.wrap .i64 (ishr .u64 (IntKind.wrap .u64 (w64 (x1 + x3))) 1)) + x2)) - s41.1))))
                      (cond (decide ((w64 ((w64 ((IntKind.wrap .i64 (ishr .u64 (IntKind.wrap .u64 (w64 (x1 + x3))) 1)) + x2)) - s41.1)) < x3))
                        (Option.bind (self r55.1 (IntKind.wrap .i64 (ishr .u64 (IntKind.wrap .u64 (w64 (x1 + x3))) 1)) (w64 ((w64 ((IntKind.wrap .i64 (ishr .u64 (IntKind.wrap .u64 (w64 (x1 + x3))) 1)) + x2)) - s41.1)) x3 x4) fun r56 =>
                        cond (Nat.beq (List.length r56.1) (List.length r55.1))
                          (some (r56.1, ())) none)
                        (some (r55.1, ())))
                      (some (r55.1, ()))) none)
                  (cond (decide ((IntKind.wrap .i64 (ishr .u64 (IntKind.wrap .u64 (w64 (x1 + x3))) 1)) < (w64 ((w64 ((IntKind.wrap .i64 (ishr .u64 (IntKind.wrap .u64 (w64 (x1 + x3))) 1)) + x2)) - s41.1))))
                    (cond (decide ((w64 ((w64 ((IntKind.wrap .i64 (ishr .u64 (IntKind.wrap .u64 (w64 (x1 + x3))) 1)) + x2)) - s41.1)) < x3))
                      (Option.bind (self x0 (IntKind.wrap .i64 (ishr .u64 (IntKind.wrap .u64 (w64 (x1 + x3))) 1)) (w64 ((w64 ((IntKind.wrap .i64 (ishr .u64 (IntKind.wrap .u64 (w64 (x1 + x3))) 1)) + x2)) - s41.1)) x3 x4) fun r57 =>
                      cond (Nat.beq (List.length r57.1) (List.length x0))
                        (some (r57.1, ())) none)
                      (some (x0, ())))
                    (some (x0, ()))))
                (cond (decide ((IntKind.wrap .i64 (ishr .u64 (IntKind.wrap .u64 (w64 (x1 + x3))) 1)) < (w64 ((w64 ((IntKind.wrap .i64 (ishr .u64 (IntKind.wrap .u64 (w64 (x1 + x3))) 1)) + x2)) - s41.1))))
                  (cond (decide ((w64 ((w64 ((IntKind.wrap .i64 (ishr .u64 (IntKind.wrap .u64 (w64 (x1 + x3))) 1)) + x2)) - s41.1)) < x3))
                    (Option.bind (self x0 (IntKind.wrap .i64 (ishr .u64 (IntKind.wrap .u64 (w64 (x1 + x3))) 1)) (w64 ((w64 ((IntKind.wrap .i64 (ishr .u64 (IntKind.wrap .u64 (w64 (x1 + x3))) 1)) + x2)) - s41.1)) x3 x4) fun r58 =>
                    cond (Nat.beq (List.length r58.1) (List.length x0))
                      (some (r58.1, ())) none)
                    (some (x0, ())))
                  (some (x0, ())))))) N (x1, x2, ()))))
def slices_symMergeCmpFunc_int64_impl_sortedBy_1_r (N : Nat) : Nat → List (Int) → Int → Int → Int → List Int → Option (List (Int) × (Unit))
  | 0 => fun _ _ _ _ _ => none
  | F + 1 => slices_symMergeCmpFunc_int64_impl_sortedBy_1_step N (slices_symMergeCmpFunc_int64_impl_sortedBy_1_r N F)
def slices_symMergeCmpFunc_int64_impl_sortedBy_1 (N : Nat) (x0 : List Int) (x1 : Int) (x2 : Int) (x3 : Int) (x4 : List Int) : Option (List (Int) × (Unit)) := slices_symMergeCmpFunc_int64_impl_sortedBy_1_r N N x0 x1 x2 x3 x4
def slices_symMergeCmpFunc_int64_impl_sortedBy_1_ef (N F : Nat) : EntM := { io := (.int .i64), ins := [(.int .i64), (.int .i64), (.int .i64), (.clo 83 (.bx (.clo 49 (.bx (.sl (.int .i64))))))], outs := [], F := fun xs x => slices_symMergeCmpFunc_int64_impl_sortedBy_1_r N F xs x.1 x.2.1 x.2.2.1 x.2.2.2.1 }
def slices_symMergeCmpFunc_int64_impl_sortedBy_1_e (N : Nat) : EntM := slices_symMergeCmpFunc_int64_impl_sortedBy_1_ef N N
def slices_symMergeCmpFunc_int64_impl_sortedBy_1_T (N F : Nat) : Nat → List EntX
  | 83 => [.pl (impl_sortedBy_1_c0_e N)]
  | 130 => [.mu (slices_symMergeCmpFunc_int64_impl_sortedBy_1_ef N F)]
  | 134 => [.mu (slices_rotateCmpFunc_int64_impl_sortedBy_1_e N)]
  | _ => []
def slices_symMergeCmpFunc_int64_impl_sortedBy_1_L : Nat → List (Nat × TK)
  | 3 => [(10, .v (.int .i64)), (11, .v (.int .i64))]
  | 9 => [(0, .own (.int .i64)), (13, .v (.int .i64))]
  | 15 => [(14, .v (.int .i64)), (15, .v (.int .i64))]
  | 21 => [(0, .own (.int .i64)), (17, .v (.int .i64))]
  | 33 => [(20, .v (.int .i64)), (21, .v (.int .i64))]
  | _ => []
theorem slices_symMergeCmpFunc_int64_impl_sortedBy_1_eq (N F : Nat) : runM N tt (slices_symMergeCmpFunc_int64_impl_sortedBy_1_T N F) slices_symMergeCmpFunc_int64_impl_sortedBy_1_L (.int .i64) [(.int .i64), (.int .i64), (.int .i64), (.clo 83 (.bx (.clo 49 (.bx (.sl (.int .i64))))))] [] (bodyOf Try.f130) Try.f130.ntmps [] = (fun xs x => slices_symMergeCmpFunc_int64_impl_sortedBy_1_step N (slices_symMergeCmpFunc_int64_impl_sortedBy_1_r N F) xs x.1 x.2.1 x.2.2.1 x.2.2.2.1) := by
  funext xs x
  kernel_rfl
theorem slices_symMergeCmpFunc_int64_impl_sortedBy_1_soundf (N F : Nat) : SoundM Try.prog 130 (slices_symMergeCmpFunc_int64_impl_sortedBy_1_ef N F) := by
  induction F with
  | zero =>
    intro p w v ob vals xs x z _ _ _ _ _ hF
    exact absurd (show none = some _ from hF) (by simp)
  | succ F ih =>
    have h := runM_sound (f := 130) (code := bodyOf Try.f130) (N := N) (T := (slices_symMergeCmpFunc_int64_impl_sortedBy_1_T N F)) (L := slices_symMergeCmpFunc_int64_impl_sortedBy_1_L) (io := (.int .i64)) (ins := [(.int .i64), (.int .i64), (.int .i64), (.clo 83 (.bx (.clo 49 (.bx (.sl (.int .i64))))))]) (outs := []) (res := []) mixed tt_ok ?_ Try.func130 (by kernel_rfl) rfl (by kernel_rfl) (by kernel_rfl) (by decide +kernel)
    · rw [slices_symMergeCmpFunc_int64_impl_sortedBy_1_eq] at h
      exact h
    · intro f e he
      unfold slices_symMergeCmpFunc_int64_impl_sortedBy_1_T at he
      split at he
      · rw [List.mem_singleton.1 he]; exact impl_sortedBy_1_c0_sound N
      · rw [List.mem_singleton.1 he]; exact ih
      · rw [List.mem_singleton.1 he]; exact slices_rotateCmpFunc_int64_impl_sortedBy_1_sound N
      · cases he
theorem slices_symMergeCmpFunc_int64_impl_sortedBy_1_sound (N : Nat) : SoundM Try.prog 130 (slices_symMergeCmpFunc_int64_impl_sortedBy_1_e N) := slices_symMergeCmpFunc_int64_impl_sortedBy_1_soundf N N

/- slices.stableCmpFunc[int64] -/
def slices_stableCmpFunc_int64_impl_sortedBy_1 (N : Nat) (x0 : List Int) (x1 : Int) (x2 : List Int) : Option (List (Int) × (Unit)) :=
  loopN (fun (s1 : List (Int) × Int × Int × Unit) next2 =>
    cond (decide (s1.2.2.1 ≤ x1))
      (Option.bind (slices_insertionSortCmpFunc_int64_impl_sortedBy_1 N s1.1 s1.2.1 s1.2.2.1 x2) fun r3 =>
      cond (Nat.beq (List.length r3.1) (List.length s1.1))
        (next2 (r3.1, s1.2.2.1, (w64 (s1.2.2.1 + 20)), ())) none)
      (Option.bind (slices_insertionSortCmpFunc_int64_impl_sortedBy_1 N s1.1 s1.2.1 x1 x2) fun r4 =>
      cond (Nat.beq (List.length r4.1) (List.length s1.1))
        (loopN (fun (s5 : List (Int) × Int × Unit) next6 =>
          cond (decide (s5.2.1 < x1))
            (loopN (fun (s7 : List (Int) × Int × Int × Unit) next8 =>
              cond (decide (s7.2.2.1 ≤ x1))
                (Option.bind (slices_symMergeCmpFunc_int64_impl_sortedBy_1 N s7.1 s7.2.1 (w64 (s7.2.1 + s5.2.1)) s7.2.2.1 x2) fun r9 =>
                cond (Nat.beq (List.length r9.1) (List.length s7.1))
                  (next8 (r9.1, s7.2.2.1, (w64 (s7.2.2.1 + (w64 (2 * s5.2.1)))), ())) none)
                (cond (decide ((w64 (s7.2.1 + s5.2.1)) < x1))
                  (Option.bind (slices_symMergeCmpFunc_int64_impl_sortedBy_1 N s7.1 s7.2.1 (w64 (s7.2.1 + s5.2.1)) x1 x2) fun r10 =>
                  cond (Nat.beq (List.length r10.1) (List.length s7.1))
                    (next6 (r10.1, (w64 (s5.2.1 * 2)), ())) none)
                  (next6 (s7.1, (w64 (s5.2.1 * 2)), ())))) N (s5.1, 0, (w64 (2 * s5.2.1)), ()))
            (some (s5.1, ()))) N (r4.1, 20, ())) none)) N (x0, 0, 20, ())
def slices_stableCmpFunc_int64_impl_sortedBy_1_e (N : Nat) : EntM := { io := (.int .i64), ins := [(.int .i64), (.clo 83 (.bx (.clo 49 (.bx (.sl (.int .i64))))))], outs := [], F := fun xs x => slices_stableCmpFunc_int64_impl_sortedBy_1 N xs x.1 x.2.1 }
def slices_stableCmpFunc_int64_impl_sortedBy_1_T (N : Nat) : Nat → List EntX
  | 129 => [.mu (slices_insertionSortCmpFunc_int64_impl_sortedBy_1_e N)]
  | 130 => [.mu (slices_symMergeCmpFunc_int64_impl_sortedBy_1_e N)]
  | _ => []
def slices_stableCmpFunc_int64_impl_sortedBy_1_L : Nat → List (Nat × TK)
  | 2 => [(0, .own (.int .i64)), (7, .v (.int .i64)), (8, .v (.int .i64))]
  | 7 => [(0, .own (.int .i64)), (6, .v (.int .i64))]
  | 9 => [(0, .own (.int .i64)), (7, .v (.int .i64)), (8, .v (.int .i64))]
  | _ => []
theorem slices_stableCmpFunc_int64_impl_sortedBy_1_eq (N : Nat) : runM N tt (slices_stableCmpFunc_int64_impl_sortedBy_1_T N) slices_stableCmpFunc_int64_impl_sortedBy_1_L (.int .i64) [(.int .i64), (.clo 83 (.bx (.clo 49 (.bx (.sl (.int .i64))))))] [] (bodyOf Try.f119) Try.f119.ntmps [] = (slices_stableCmpFunc_int64_impl_sortedBy_1_e N).F := by
  funext xs x
  kernel_rfl
theorem slices_stableCmpFunc_int64_impl_sortedBy_1_sound (N : Nat) : SoundM Try.prog 119 (slices_stableCmpFunc_int64_impl_sortedBy_1_e N) := by
  have h := runM_sound (f := 119) (code := bodyOf Try.f119) (N := N) (T := (slices_stableCmpFunc_int64_impl_sortedBy_1_T N)) (L := slices_stableCmpFunc_int64_impl_sortedBy_1_L) (io := (.int .i64)) (ins := [(.int .i64), (.clo 83 (.bx (.clo 49 (.bx (.sl (.int .i64))))))]) (outs := []) (res := []) mixed tt_ok ?_ Try.func119 (by kernel_rfl) rfl (by kernel_rfl) (by kernel_rfl) (by decide +kernel)
  · rw [slices_stableCmpFunc_int64_impl_sortedBy_1_eq] at h
    exact h
  · intro f e he
    unfold slices_stableCmpFunc_int64_impl_sortedBy_1_T at he
    split at he
    · rw [List.mem_singleton.1 he]; exact slices_insertionSortCmpFunc_int64_impl_sortedBy_1_sound N
    · rw [List.mem_singleton.1 he]; exact slices_symMergeCmpFunc_int64_impl_sortedBy_1_sound N
    · cases he

/- slices.SortStableFunc[[]int64,int64] -/
def slices_SortStableFunc_int64_int64_impl_sortedBy_1 (N : Nat) (x0 : List Int) (x1 : List Int) : Option (List (Int) × (Unit)) :=
  Option.bind (slices_stableCmpFunc_int64_impl_sortedBy_1 N x0 (List.length x0 : Int) x1) fun r1 =>
  cond (Nat.beq (List.length r1.1) (List.length x0))
    (some (r1.1, ())) none
def slices_SortStableFunc_int64_int64_impl_sortedBy_1_e (N : Nat) : EntM := { io := (.int .i64), ins := [(.clo 83 (.bx (.clo 49 (.bx (.sl (.int .i64))))))], outs := [], F := fun xs x => slices_SortStableFunc_int64_int64_impl_sortedBy_1 N xs x.1 }
def slices_SortStableFunc_int64_int64_impl_sortedBy_1_T (N : Nat) : Nat → List EntX
  | 119 => [.mu (slices_stableCmpFunc_int64_impl_sortedBy_1_e N)]
  | _ => []
def slices_SortStableFunc_int64_int64_impl_sortedBy_1_L : Nat → List (Nat × TK) := fun _ => []
theorem slices_SortStableFunc_int64_int64_impl_sortedBy_1_eq (N : Nat) : runM N tt (slices_SortStableFunc_int64_int64_impl_sortedBy_1_T N) slices_SortStableFunc_int64_int64_impl_sortedBy_1_L (.int .i64) [(.clo 83 (.bx (.clo 49 (.bx (.sl (.int .i64))))))] [] (bodyOf Try.f82) Try.f82.ntmps [] = (slices_SortStableFunc_int64_int64_impl_sortedBy_1_e N).F := by
  funext xs x
  kernel_rfl
theorem slices_SortStableFunc_int64_int64_impl_sortedBy_1_sound (N : Nat) : SoundM Try.prog 82 (slices_SortStableFunc_int64_int64_impl_sortedBy_1_e N) := by
  have h := runM_sound (f := 82) (code := bodyOf Try.f82) (N := N) (T := (slices_SortStableFunc_int64_int64_impl_sortedBy_1_T N)) (L := slices_SortStableFunc_int64_int64_impl_sortedBy_1_L) (io := (.int .i64)) (ins := [(.clo 83 (.bx (.clo 49 (.bx (.sl (.int .i64))))))]) (outs := []) (res := []) mixed tt_ok ?_ Try.func82 (by kernel_rfl) rfl (by kernel_rfl) (by kernel_rfl) (by decide +kernel)
  · rw [slices_SortStableFunc_int64_int64_impl_sortedBy_1_eq] at h
    exact h
  · intro f e he
    unfold slices_SortStableFunc_int64_int64_impl_sortedBy_1_T at he
    split at he
    · rw [List.mem_singleton.1 he]; exact slices_stableCmpFunc_int64_impl_sortedBy_1_sound N
    · cases he

/- impl.sortedBy -/
def impl_sortedBy_impl_LongestFirst_1 (N : Nat) (x0 : Int) (x1 : List Int) : Option (List (Int) × Unit) :=
  Option.bind (impl_counting N x0) fun r1 =>
  Option.bind (slices_SortStableFunc_int64_int64_impl_sortedBy_1 N r1.1 x1) fun r2 =>
  cond (Nat.beq (List.length r2.1) (List.length r1.1))
    (some (r2.1, ())) none
def impl_sortedBy_impl_LongestFirst_1_e (N : Nat) : Ent := { ins := [(.int .i64), (.clo 49 (.bx (.sl (.int .i64))))], outs := [.own (.int .i64)], F := fun x => impl_sortedBy_impl_LongestFirst_1 N x.1 x.2.1 }
def impl_sortedBy_impl_LongestFirst_1_T (N : Nat) : Nat → List EntX
  | 81 => [.pl (impl_counting_e N)]
  | 82 => [.mu (slices_SortStableFunc_int64_int64_impl_sortedBy_1_e N)]
  | _ => []
def impl_sortedBy_impl_LongestFirst_1_L : Nat → List (Nat × TK) := fun _ => []
theorem impl_sortedBy_impl_LongestFirst_1_eq (N : Nat) : runF N tt (impl_sortedBy_impl_LongestFirst_1_T N) impl_sortedBy_impl_LongestFirst_1_L [(.int .i64), (.clo 49 (.bx (.sl (.int .i64))))] [.own (.int .i64)] (bodyOf Try.f48) Try.f48.ntmps [4] = (impl_sortedBy_impl_LongestFirst_1_e N).F := by
  funext x
  kernel_rfl
theorem impl_sortedBy_impl_LongestFirst_1_sound (N : Nat) : SoundC Try.prog 48 (impl_sortedBy_impl_LongestFirst_1_e N) := by
  have h := runF_sound (f := 48) (code := bodyOf Try.f48) (N := N) (T := (impl_sortedBy_impl_LongestFirst_1_T N)) (L := impl_sortedBy_impl_LongestFirst_1_L) (ins := [(.int .i64), (.clo 49 (.bx (.sl (.int .i64))))]) (outs := [.own (.int .i64)]) (res := [4]) mixed tt_ok ?_ Try.func48 (by kernel_rfl) rfl (by kernel_rfl) (by kernel_rfl) (by decide +kernel)
  · rw [impl_sortedBy_impl_LongestFirst_1_eq] at h
    exact h
  · intro f e he
    unfold impl_sortedBy_impl_LongestFirst_1_T at he
    split at he
    · rw [List.mem_singleton.1 he]; exact impl_counting_sound N
    · rw [List.mem_singleton.1 he]; exact slices_SortStableFunc_int64_int64_impl_sortedBy_1_sound N
    · cases he

/- impl.LongestFirst -/
def impl_LongestFirst (N : Nat) (x0 : List Int) (x1 : Int) : Option (List (Int) × Int × Bool × Unit) :=
  Option.bind (impl_areTimes N x0) fun r1 =>
  cond (!r1.1)
    (some ([], 0, false, ()))
    (Option.bind (impl_areMachines N x1) fun r2 =>
    cond (!r2.1)
      (some ([], 0, false, ()))
      (Option.bind (impl_sortedBy_impl_LongestFirst_1 N (List.length x0 : Int) x0) fun r3 =>
      Option.bind (impl_listPlan N x0 r3.1 x1) fun r4 =>
      some (r4.1, r4.2.1, true, ())))
def impl_LongestFirst_e (N : Nat) : Ent := { ins := [(.sl (.int .i64)), (.int .i64)], outs := [.own (.int .i64), .val (.int .i64), .val .bool], F := fun x => impl_LongestFirst N x.1 x.2.1 }
def impl_LongestFirst_T (N : Nat) : Nat → List EntX
  | 45 => [.pl (impl_areTimes_e N)]
  | 46 => [.pl (impl_areMachines_e N)]
  | 47 => [.pl (impl_listPlan_e N)]
  | 48 => [.pl (impl_sortedBy_impl_LongestFirst_1_e N)]
  | _ => []
def impl_LongestFirst_L : Nat → List (Nat × TK) := fun _ => []
theorem impl_LongestFirst_eq (N : Nat) : runF N tt (impl_LongestFirst_T N) impl_LongestFirst_L [(.sl (.int .i64)), (.int .i64)] [.own (.int .i64), .val (.int .i64), .val .bool] (bodyOf Try.f15) Try.f15.ntmps [4, 5, 6] = (impl_LongestFirst_e N).F := by
  funext x
  kernel_rfl
theorem impl_LongestFirst_sound (N : Nat) : SoundC Try.prog 15 (impl_LongestFirst_e N) := by
  have h := runF_sound (f := 15) (code := bodyOf Try.f15) (N := N) (T := (impl_LongestFirst_T N)) (L := impl_LongestFirst_L) (ins := [(.sl (.int .i64)), (.int .i64)]) (outs := [.own (.int .i64), .val (.int .i64), .val .bool]) (res := [4, 5, 6]) mixed tt_ok ?_ Try.func15 (by kernel_rfl) rfl (by kernel_rfl) (by kernel_rfl) (by decide +kernel)
  · rw [impl_LongestFirst_eq] at h
    exact h
  · intro f e he
    unfold impl_LongestFirst_T at he
    split at he
    · rw [List.mem_singleton.1 he]; exact impl_areTimes_sound N
    · rw [List.mem_singleton.1 he]; exact impl_areMachines_sound N
    · rw [List.mem_singleton.1 he]; exact impl_listPlan_sound N
    · rw [List.mem_singleton.1 he]; exact impl_sortedBy_impl_LongestFirst_1_sound N
    · cases he

/- laws.eqInt64S -/
def laws_eqInt64S (N : Nat) (x0 : List Int) (x1 : List Int) : Option (Bool × Unit) :=
  cond ((List.length x0 : Int) != (List.length x1 : Int))
    (some (false, ()))
    (loopN (fun (s1 : Int × Unit) next2 =>
      cond (decide (s1.1 < (List.length x0 : Int)))
        (Option.bind (idx x0 s1.1) fun v3 =>
        Option.bind (idx x1 s1.1) fun v4 =>
        cond (v3 != v4)
          (some (false, ()))
          (next2 ((w64 (s1.1 + 1)), ())))
        (some (true, ()))) N (0, ()))
def laws_eqInt64S_e (N : Nat) : Ent := { ins := [(.sl (.int .i64)), (.sl (.int .i64))], outs := [.val .bool], F := fun x => laws_eqInt64S N x.1 x.2.1 }
def laws_eqInt64S_T (_ : Nat) : Nat → List EntX := fun _ => []
def laws_eqInt64S_L : Nat → List (Nat × TK)
  | 4 => [(5, .v (.int .i64))]
  | _ => []
theorem laws_eqInt64S_eq (N : Nat) : runF N tt (laws_eqInt64S_T N) laws_eqInt64S_L [(.sl (.int .i64)), (.sl (.int .i64))] [.val .bool] (bodyOf Try.f16) Try.f16.ntmps [4] = (laws_eqInt64S_e N).F := by
  funext x
  kernel_rfl
theorem laws_eqInt64S_sound (N : Nat) : SoundC Try.prog 16 (laws_eqInt64S_e N) := by
  have h := runF_sound (f := 16) (code := bodyOf Try.f16) (N := N) (T := (laws_eqInt64S_T N)) (L := laws_eqInt64S_L) (ins := [(.sl (.int .i64)), (.sl (.int .i64))]) (outs := [.val .bool]) (res := [4]) mixed tt_ok ?_ Try.func16 (by kernel_rfl) rfl (by kernel_rfl) (by kernel_rfl) (by decide +kernel)
  · rw [laws_eqInt64S_eq] at h
    exact h
  · intro f e he
    cases he

/- laws.markInt64S -/
def laws_markInt64S (N : Nat) (x0 : List Int) (x1 : Int) : Option (List (Int) × (Int × Unit)) :=
  loopN (fun (s1 : List (Int) × Int × Int × Unit) next2 =>
    cond (decide (s1.2.2.1 < (List.length s1.1 : Int)))
      (cond (inB s1.2.2.1 (List.length s1.1))
        (let xs3 := (List.set s1.1 (Int.toNat s1.2.2.1) s1.2.1)
        next2 (xs3, (w64 (s1.2.1 + 1)), (w64 (s1.2.2.1 + 1)), ())) none)
      (some (s1.1, (s1.2.1, ())))) N (x0, x1, 0, ())
def laws_markInt64S_e (N : Nat) : EntM := { io := (.int .i64), ins := [(.int .i64)], outs := [.val (.int .i64)], F := fun xs x => laws_markInt64S N xs x.1 }
def laws_markInt64S_T (_ : Nat) : Nat → List EntX := fun _ => []
def laws_markInt64S_L : Nat → List (Nat × TK)
  | 2 => [(0, .own (.int .i64)), (1, .v (.int .i64)), (5, .v (.int .i64))]
  | _ => []
theorem laws_markInt64S_eq (N : Nat) : runM N tt (laws_markInt64S_T N) laws_markInt64S_L (.int .i64) [(.int .i64)] [.val (.int .i64)] (bodyOf Try.f17) Try.f17.ntmps [4] = (laws_markInt64S_e N).F := by
  funext xs x
  kernel_rfl
theorem laws_markInt64S_sound (N : Nat) : SoundM Try.prog 17 (laws_markInt64S_e N) := by
  have h := runM_sound (f := 17) (code := bodyOf Try.f17) (N := N) (T := (laws_markInt64S_T N)) (L := laws_markInt64S_L) (io := (.int .i64)) (ins := [(.int .i64)]) (outs := [.val (.int .i64)]) (res := [4]) mixed tt_ok ?_ Try.func17 (by kernel_rfl) rfl (by kernel_rfl) (by kernel_rfl) (by decide +kernel)
  · rw [laws_markInt64S_eq] at h
    exact h
  · intro f e he
    cases he

/- laws.heldInt64S -/
def laws_heldInt64S (N : Nat) (x0 : List Int) (x1 : Int) : Option (Int × Unit) :=
  loopN (fun (s1 : Int × Int × Unit) next2 =>
    cond (decide (s1.2.1 < (List.length x0 : Int)))
      (Option.bind (idx x0 s1.2.1) fun v3 =>
      cond (v3 != s1.1)
        (some ((-1), ()))
        (next2 ((w64 (s1.1 + 1)), (w64 (s1.2.1 + 1)), ())))
      (some (s1.1, ()))) N (x1, 0, ())
def laws_heldInt64S_e (N : Nat) : Ent := { ins := [(.sl (.int .i64)), (.int .i64)], outs := [.val (.int .i64)], F := fun x => laws_heldInt64S N x.1 x.2.1 }
def laws_heldInt64S_T (_ : Nat) : Nat → List EntX := fun _ => []
def laws_heldInt64S_L : Nat → List (Nat × TK)
  | 2 => [(1, .v (.int .i64)), (5, .v (.int .i64))]
  | _ => []
theorem laws_heldInt64S_eq (N : Nat) : runF N tt (laws_heldInt64S_T N) laws_heldInt64S_L [(.sl (.int .i64)), (.int .i64)] [.val (.int .i64)] (bodyOf Try.f18) Try.f18.ntmps [4] = (laws_heldInt64S_e N).F := by
  funext x
  kernel_rfl
theorem laws_heldInt64S_sound (N : Nat) : SoundC Try.prog 18 (laws_heldInt64S_e N) := by
  have h := runF_sound (f := 18) (code := bodyOf Try.f18) (N := N) (T := (laws_heldInt64S_T N)) (L := laws_heldInt64S_L) (ins := [(.sl (.int .i64)), (.int .i64)]) (outs := [.val (.int .i64)]) (res := [4]) mixed tt_ok ?_ Try.func18 (by kernel_rfl) rfl (by kernel_rfl) (by kernel_rfl) (by decide +kernel)
  · rw [laws_heldInt64S_eq] at h
    exact h
  · intro f e he
    cases he

/- laws.FnExactLongestFirst -/
def laws_FnExactLongestFirst (N : Nat) (x0 : List Int) (x1 : Int) : Option (Bool × Unit) :=
  cond (decide ((List.length x0 : Int) > 1048576))
    (some (true, ()))
    (Option.bind (laws_toInt64S N x0) fun r1 =>
    Option.bind (spec_LongestFirst N r1.1 x1) fun r2 =>
    Option.bind (laws_toInt64S N x0) fun r3 =>
    Option.bind (impl_LongestFirst N r3.1 x1) fun r4 =>
    Option.bind (laws_eqInt64S N r4.1 r2.1) fun r5 =>
    cond (!r5.1)
      (some (false, ()))
      (cond (r4.2.1 != r2.2.1)
        (some (false, ()))
        (cond (!(r4.2.2.1 == r2.2.2.1))
          (some (false, ()))
          (Option.bind (laws_toInt64S N x0) fun r6 =>
          Option.bind (laws_eqInt64S N r3.1 r6.1) fun r7 =>
          cond (!r7.1)
            (some (false, ()))
            (Option.bind (laws_markInt64S N r3.1 1) fun r8 =>
            cond (Nat.beq (List.length r8.1) (List.length r3.1))
              (cond (decide (r8.2.1 < 0))
                (some (false, ()))
                (Option.bind (laws_eqInt64S N r4.1 r2.1) fun r9 =>
                cond (!r9.1)
                  (some (false, ()))
                  (cond (r4.2.1 != r2.2.1)
                    (some (false, ()))
                    (cond (!(r4.2.2.1 == r2.2.2.1))
                      (some (false, ()))
                      (Option.bind (laws_markInt64S N r4.1 1) fun r10 =>
                      cond (Nat.beq (List.length r10.1) (List.length r4.1))
                        (Option.bind (laws_heldInt64S N r10.1 1) fun r11 =>
                        cond (decide (r11.1 < 0))
                          (some (false, ()))
                          (cond (r11.1 != r10.2.1)
                            (some (false, ()))
                            (Option.bind (laws_toInt64S N x0) fun r12 =>
                            Option.bind (impl_LongestFirst N r12.1 x1) fun r13 =>
                            Option.bind (laws_eqInt64S N r13.1 r2.1) fun r14 =>
                            cond (!r14.1)
                              (some (false, ()))
                              (cond (r13.2.1 != r2.2.1)
                                (some (false, ()))
                                (cond (!(r13.2.2.1 == r2.2.2.1))
                                  (some (false, ()))
                                  (Option.bind (laws_heldInt64S N r10.1 1) fun r15 =>
                                  cond (decide (r15.1 < 0))
                                    (some (false, ()))
                                    (cond (r15.1 != r10.2.1)
                                      (some (false, ()))
                                      (some (true, ()))))))))) none))))) none)))))
def laws_FnExactLongestFirst_e (N : Nat) : Ent := { ins := [(.sl (.int .i64)), (.int .i64)], outs := [.val .bool], F := fun x => laws_FnExactLongestFirst N x.1 x.2.1 }
def laws_FnExactLongestFirst_T (N : Nat) : Nat → List EntX
  | 13 => [.pl (spec_LongestFirst_e N)]
  | 14 => [.pl (laws_toInt64S_e N)]
  | 15 => [.pl (impl_LongestFirst_e N)]
  | 16 => [.pl (laws_eqInt64S_e N)]
  | 17 => [.mu (laws_markInt64S_e N)]
  | 18 => [.pl (laws_heldInt64S_e N)]
  | _ => []
def laws_FnExactLongestFirst_L : Nat → List (Nat × TK) := fun _ => []
theorem laws_FnExactLongestFirst_eq (N : Nat) : runF N tt (laws_FnExactLongestFirst_T N) laws_FnExactLongestFirst_L [(.sl (.int .i64)), (.int .i64)] [.val .bool] (bodyOf Try.f3) Try.f3.ntmps [4] = (laws_FnExactLongestFirst_e N).F := by
  funext x
  kernel_rfl
theorem laws_FnExactLongestFirst_sound (N : Nat) : SoundC Try.prog 3 (laws_FnExactLongestFirst_e N) := by
  have h := runF_sound (f := 3) (code := bodyOf Try.f3) (N := N) (T := (laws_FnExactLongestFirst_T N)) (L := laws_FnExactLongestFirst_L) (ins := [(.sl (.int .i64)), (.int .i64)]) (outs := [.val .bool]) (res := [4]) mixed tt_ok ?_ Try.func3 (by kernel_rfl) rfl (by kernel_rfl) (by kernel_rfl) (by decide +kernel)
  · rw [laws_FnExactLongestFirst_eq] at h
    exact h
  · intro f e he
    unfold laws_FnExactLongestFirst_T at he
    split at he
    · rw [List.mem_singleton.1 he]; exact spec_LongestFirst_sound N
    · rw [List.mem_singleton.1 he]; exact laws_toInt64S_sound N
    · rw [List.mem_singleton.1 he]; exact impl_LongestFirst_sound N
    · rw [List.mem_singleton.1 he]; exact laws_eqInt64S_sound N
    · rw [List.mem_singleton.1 he]; exact laws_markInt64S_sound N
    · rw [List.mem_singleton.1 he]; exact laws_heldInt64S_sound N
    · cases he

/- laws.szInt64S -/
def laws_szInt64S (_N : Nat) (x0 : List Int) (x1 : Int) : Option (Int × Unit) :=
  cond (decide ((w64 (x1 - (List.length x0 : Int))) < 0))
    (some ((-1), ()))
    (some ((w64 (x1 - (List.length x0 : Int))), ()))
def laws_szInt64S_e (N : Nat) : Ent := { ins := [(.sl (.int .i64)), (.int .i64)], outs := [.val (.int .i64)], F := fun x => laws_szInt64S N x.1 x.2.1 }
def laws_szInt64S_T (_ : Nat) : Nat → List EntX := fun _ => []
def laws_szInt64S_L : Nat → List (Nat × TK) := fun _ => []
theorem laws_szInt64S_eq (N : Nat) : runF N tt (laws_szInt64S_T N) laws_szInt64S_L [(.sl (.int .i64)), (.int .i64)] [.val (.int .i64)] (bodyOf Try.f54) Try.f54.ntmps [4] = (laws_szInt64S_e N).F := by
  funext x
  kernel_rfl
theorem laws_szInt64S_sound (N : Nat) : SoundC Try.prog 54 (laws_szInt64S_e N) := by
  have h := runF_sound (f := 54) (code := bodyOf Try.f54) (N := N) (T := (laws_szInt64S_T N)) (L := laws_szInt64S_L) (ins := [(.sl (.int .i64)), (.int .i64)]) (outs := [.val (.int .i64)]) (res := [4]) mixed tt_ok ?_ Try.func54 (by kernel_rfl) rfl (by kernel_rfl) (by kernel_rfl) (by decide +kernel)
  · rw [laws_szInt64S_eq] at h
    exact h
  · intro f e he
    cases he

/- laws.szInt64SS -/
def laws_szInt64SS (N : Nat) (x0 : List (List Int)) (x1 : Int) : Option (Int × Unit) :=
  cond (decide ((w64 (x1 - (List.length x0 : Int))) < 0))
    (some ((-1), ()))
    (loopN (fun (s1 : Int × Int × Unit) next2 =>
      cond (decide (s1.2.1 < (List.length x0 : Int)))
        (Option.bind (idx x0 s1.2.1) fun v3 =>
        Option.bind (laws_szInt64S N v3 s1.1) fun r4 =>
        cond (decide (r4.1 < 0))
          (some ((-1), ()))
          (next2 (r4.1, (w64 (s1.2.1 + 1)), ())))
        (some (s1.1, ()))) N ((w64 (x1 - (List.length x0 : Int))), 0, ()))
def laws_szInt64SS_e (N : Nat) : Ent := { ins := [(.sl (.sl (.int .i64))), (.int .i64)], outs := [.val (.int .i64)], F := fun x => laws_szInt64SS N x.1 x.2.1 }
def laws_szInt64SS_T (N : Nat) : Nat → List EntX
  | 54 => [.pl (laws_szInt64S_e N)]
  | _ => []
def laws_szInt64SS_L : Nat → List (Nat × TK)
  | 5 => [(1, .v (.int .i64)), (5, .v (.int .i64))]
  | _ => []
theorem laws_szInt64SS_eq (N : Nat) : runF N tt (laws_szInt64SS_T N) laws_szInt64SS_L [(.sl (.sl (.int .i64))), (.int .i64)] [.val (.int .i64)] (bodyOf Try.f21) Try.f21.ntmps [4] = (laws_szInt64SS_e N).F := by
  funext x
  kernel_rfl
theorem laws_szInt64SS_sound (N : Nat) : SoundC Try.prog 21 (laws_szInt64SS_e N) := by
  have h := runF_sound (f := 21) (code := bodyOf Try.f21) (N := N) (T := (laws_szInt64SS_T N)) (L := laws_szInt64SS_L) (ins := [(.sl (.sl (.int .i64))), (.int .i64)]) (outs := [.val (.int .i64)]) (res := [4]) mixed tt_ok ?_ Try.func21 (by kernel_rfl) rfl (by kernel_rfl) (by kernel_rfl) (by decide +kernel)
  · rw [laws_szInt64SS_eq] at h
    exact h
  · intro f e he
    unfold laws_szInt64SS_T at he
    split at he
    · rw [List.mem_singleton.1 he]; exact laws_szInt64S_sound N
    · cases he

/- spec.LastsShared -/
def spec_LastsShared (N : Nat) (x0 : List (List Int)) (x1 : Int) (x2 : Int) : Option (List (Int) × Bool × Unit) :=
  cond (decide ((List.length x0 : Int) < 1))
    (some ([], false, ()))
    (cond (decide ((List.length x0 : Int) > 16))
      (some ([], false, ()))
      (Option.bind (spec_l02Machines N x1) fun r1 =>
      cond (!r1.1)
        (some ([], false, ()))
        (Option.bind (spec_l00In N x2 1 8) fun r2 =>
        cond (!r2.1)
          (some ([], false, ()))
          (loopN (fun (s3 : List (Int) × Int × Unit) next4 =>
            cond (decide (s3.2.1 < (List.length x0 : Int)))
              (Option.bind (idx x0 s3.2.1) fun v5 =>
              Option.bind (spec_l02Times N v5) fun r6 =>
              cond (!r6.1)
                (some ([], false, ()))
                (Option.bind (idx x0 s3.2.1) fun v7 =>
                Option.bind (spec_l02Longest N v7 x1) fun r8 =>
                cond (appOk (List.length s3.1) (List.length ([r8.2.1] : List Int)))
                  (let xs9 := (s3.1 ++ ([r8.2.1] : List Int))
                  next4 (xs9, (w64 (s3.2.1 + 1)), ())) none))
              (some (s3.1, true, ()))) N (([] : List Int), 0, ())))))
def spec_LastsShared_e (N : Nat) : Ent := { ins := [(.sl (.sl (.int .i64))), (.int .i64), (.int .i64)], outs := [.own (.int .i64), .val .bool], F := fun x => spec_LastsShared N x.1 x.2.1 x.2.2.1 }
def spec_LastsShared_T (N : Nat) : Nat → List EntX
  | 42 => [.pl (spec_l02Times_e N)]
  | 43 => [.pl (spec_l02Machines_e N)]
  | 44 => [.pl (spec_l02Longest_e N)]
  | 55 => [.pl (spec_l00In_e N)]
  | _ => []
def spec_LastsShared_L : Nat → List (Nat × TK)
  | 5 => [(8, .own (.int .i64)), (9, .v (.int .i64))]
  | _ => []
theorem spec_LastsShared_eq (N : Nat) : runF N tt (spec_LastsShared_T N) spec_LastsShared_L [(.sl (.sl (.int .i64))), (.int .i64), (.int .i64)] [.own (.int .i64), .val .bool] (bodyOf Try.f22) Try.f22.ntmps [6, 7] = (spec_LastsShared_e N).F := by
  funext x
  kernel_rfl
theorem spec_LastsShared_sound (N : Nat) : SoundC Try.prog 22 (spec_LastsShared_e N) := by
  have h := runF_sound (f := 22) (code := bodyOf Try.f22) (N := N) (T := (spec_LastsShared_T N)) (L := spec_LastsShared_L) (ins := [(.sl (.sl (.int .i64))), (.int .i64), (.int .i64)]) (outs := [.own (.int .i64), .val .bool]) (res := [6, 7]) mixed tt_ok ?_ Try.func22 (by kernel_rfl) rfl (by kernel_rfl) (by kernel_rfl) (by decide +kernel)
  · rw [spec_LastsShared_eq] at h
    exact h
  · intro f e he
    unfold spec_LastsShared_T at he
    split at he
    · rw [List.mem_singleton.1 he]; exact spec_l02Times_sound N
    · rw [List.mem_singleton.1 he]; exact spec_l02Machines_sound N
    · rw [List.mem_singleton.1 he]; exact spec_l02Longest_sound N
    · rw [List.mem_singleton.1 he]; exact spec_l00In_sound N
    · cases he

/- laws.toInt64SS -/
def laws_toInt64SS (N : Nat) (x0 : List (List Int)) : Option (List (List Int) × Unit) :=
  cond (mkOk (List.length x0 : Int) (List.length x0 : Int))
    (let xs1 := (List.replicate (Int.toNat (List.length x0 : Int)) [] : List (List Int))
    loopN (fun (s2 : List (List Int) × Int × Unit) next3 =>
      cond (decide (s2.2.1 < (List.length x0 : Int)))
        (Option.bind (idx x0 s2.2.1) fun v4 =>
        Option.bind (laws_toInt64S N v4) fun r5 =>
        cond (inB s2.2.1 (List.length s2.1))
          (let xs6 := (List.set s2.1 (Int.toNat s2.2.1) r5.1)
          next3 (xs6, (w64 (s2.2.1 + 1)), ())) none)
        (some (s2.1, ()))) N (xs1, 0, ())) none
def laws_toInt64SS_e (N : Nat) : Ent := { ins := [(.sl (.sl (.int .i64)))], outs := [.own (.nw (.sl (.int .i64)))], F := fun x => laws_toInt64SS N x.1 }
def laws_toInt64SS_T (N : Nat) : Nat → List EntX
  | 14 => [.pl (laws_toInt64S_e N)]
  | _ => []
def laws_toInt64SS_L : Nat → List (Nat × TK)
  | 3 => [(3, .own (.nw (.sl (.int .i64)))), (4, .v (.int .i64))]
  | _ => []
theorem laws_toInt64SS_eq (N : Nat) : runF N tt (laws_toInt64SS_T N) laws_toInt64SS_L [(.sl (.sl (.int .i64)))] [.own (.nw (.sl (.int .i64)))] (bodyOf Try.f23) Try.f23.ntmps [2] = (laws_toInt64SS_e N).F := by
  funext x
  kernel_rfl
theorem laws_toInt64SS_sound (N : Nat) : SoundC Try.prog 23 (laws_toInt64SS_e N) := by
  have h := runF_sound (f := 23) (code := bodyOf Try.f23) (N := N) (T := (laws_toInt64SS_T N)) (L := laws_toInt64SS_L) (ins := [(.sl (.sl (.int .i64)))]) (outs := [.own (.nw (.sl (.int .i64)))]) (res := [2]) mixed tt_ok ?_ Try.func23 (by kernel_rfl) rfl (by kernel_rfl) (by kernel_rfl) (by decide +kernel)
  · rw [laws_toInt64SS_eq] at h
    exact h
  · intro f e he
    unfold laws_toInt64SS_T at he
    split at he
    · rw [List.mem_singleton.1 he]; exact laws_toInt64S_sound N
    · cases he

/- impl.areWorkers -/
def impl_areWorkers (N : Nat) (x0 : Int) : Option (Bool × Unit) :=
  Option.bind (impl_within N x0 1 8) fun r1 =>
  some (r1.1, ())
def impl_areWorkers_e (N : Nat) : Ent := { ins := [(.int .i64)], outs := [.val .bool], F := fun x => impl_areWorkers N x.1 }
def impl_areWorkers_T (N : Nat) : Nat → List EntX
  | 65 => [.pl (impl_within_e N)]
  | _ => []
def impl_areWorkers_L : Nat → List (Nat × TK) := fun _ => []
theorem impl_areWorkers_eq (N : Nat) : runF N tt (impl_areWorkers_T N) impl_areWorkers_L [(.int .i64)] [.val .bool] (bodyOf Try.f56) Try.f56.ntmps [2] = (impl_areWorkers_e N).F := by
  funext x
  kernel_rfl
theorem impl_areWorkers_sound (N : Nat) : SoundC Try.prog 56 (impl_areWorkers_e N) := by
  have h := runF_sound (f := 56) (code := bodyOf Try.f56) (N := N) (T := (impl_areWorkers_T N)) (L := impl_areWorkers_L) (ins := [(.int .i64)]) (outs := [.val .bool]) (res := [2]) mixed tt_ok ?_ Try.func56 (by kernel_rfl) rfl (by kernel_rfl) (by kernel_rfl) (by decide +kernel)
  · rw [impl_areWorkers_eq] at h
    exact h
  · intro f e he
    unfold impl_areWorkers_T at he
    split at he
    · rw [List.mem_singleton.1 he]; exact impl_within_sound N
    · cases he

/- impl.LastsShared -/
def impl_LastsShared (N : Nat) (x0 : List (List Int)) (x1 : Int) (x2 : Int) : Option (List (Int) × Bool × Unit) :=
  cond (decide ((List.length x0 : Int) < 1))
    (some ([], false, ()))
    (cond (decide ((List.length x0 : Int) > 16))
      (some ([], false, ()))
      (Option.bind (impl_areWorkers N x2) fun r1 =>
      cond (!r1.1)
        (some ([], false, ()))
        (loopN (fun (s2 : List (Int) × Int × Unit) next3 =>
          cond (decide (s2.2.1 < (List.length x0 : Int)))
            (Option.bind (idx x0 s2.2.1) fun v4 =>
            Option.bind (impl_LongestFirst N v4 x1) fun r5 =>
            cond (!r5.2.2.1)
              (some ([], false, ()))
              (cond (appOk (List.length s2.1) (List.length ([r5.2.1] : List Int)))
                (let xs6 := (s2.1 ++ ([r5.2.1] : List Int))
                next3 (xs6, (w64 (s2.2.1 + 1)), ())) none))
            (some (s2.1, true, ()))) N (([] : List Int), 0, ()))))
def impl_LastsShared_e (N : Nat) : Ent := { ins := [(.sl (.sl (.int .i64))), (.int .i64), (.int .i64)], outs := [.own (.int .i64), .val .bool], F := fun x => impl_LastsShared N x.1 x.2.1 x.2.2.1 }
def impl_LastsShared_T (N : Nat) : Nat → List EntX
  | 15 => [.pl (impl_LongestFirst_e N)]
  | 56 => [.pl (impl_areWorkers_e N)]
  | _ => []
def impl_LastsShared_L : Nat → List (Nat × TK)
  | 5 => [(8, .own (.int .i64)), (30, .v (.int .i64))]
  | _ => []
theorem impl_LastsShared_eq (N : Nat) : runF N tt (impl_LastsShared_T N) impl_LastsShared_L [(.sl (.sl (.int .i64))), (.int .i64), (.int .i64)] [.own (.int .i64), .val .bool] (bodyOf Try.f24) Try.f24.ntmps [6, 7] = (impl_LastsShared_e N).F := by
  funext x
  kernel_rfl
theorem impl_LastsShared_sound (N : Nat) : SoundC Try.prog 24 (impl_LastsShared_e N) := by
  have h := runF_sound (f := 24) (code := bodyOf Try.f24) (N := N) (T := (impl_LastsShared_T N)) (L := impl_LastsShared_L) (ins := [(.sl (.sl (.int .i64))), (.int .i64), (.int .i64)]) (outs := [.own (.int .i64), .val .bool]) (res := [6, 7]) mixed tt_ok ?_ Try.func24 (by kernel_rfl) rfl (by kernel_rfl) (by kernel_rfl) (by decide +kernel)
  · rw [impl_LastsShared_eq] at h
    exact h
  · intro f e he
    unfold impl_LastsShared_T at he
    split at he
    · rw [List.mem_singleton.1 he]; exact impl_LongestFirst_sound N
    · rw [List.mem_singleton.1 he]; exact impl_areWorkers_sound N
    · cases he

/- laws.eqInt64SS -/
def laws_eqInt64SS (N : Nat) (x0 : List (List Int)) (x1 : List (List Int)) : Option (Bool × Unit) :=
  cond ((List.length x0 : Int) != (List.length x1 : Int))
    (some (false, ()))
    (loopN (fun (s1 : Int × Unit) next2 =>
      cond (decide (s1.1 < (List.length x0 : Int)))
        (Option.bind (idx x0 s1.1) fun v3 =>
        Option.bind (idx x1 s1.1) fun v4 =>
        Option.bind (laws_eqInt64S N v3 v4) fun r5 =>
        cond (!r5.1)
          (some (false, ()))
          (next2 ((w64 (s1.1 + 1)), ())))
        (some (true, ()))) N (0, ()))
def laws_eqInt64SS_e (N : Nat) : Ent := { ins := [(.sl (.sl (.int .i64))), (.sl (.sl (.int .i64)))], outs := [.val .bool], F := fun x => laws_eqInt64SS N x.1 x.2.1 }
def laws_eqInt64SS_T (N : Nat) : Nat → List EntX
  | 16 => [.pl (laws_eqInt64S_e N)]
  | _ => []
def laws_eqInt64SS_L : Nat → List (Nat × TK)
  | 4 => [(5, .v (.int .i64))]
  | _ => []
theorem laws_eqInt64SS_eq (N : Nat) : runF N tt (laws_eqInt64SS_T N) laws_eqInt64SS_L [(.sl (.sl (.int .i64))), (.sl (.sl (.int .i64)))] [.val .bool] (bodyOf Try.f25) Try.f25.ntmps [4] = (laws_eqInt64SS_e N).F := by
  funext x
  kernel_rfl
theorem laws_eqInt64SS_sound (N : Nat) : SoundC Try.prog 25 (laws_eqInt64SS_e N) := by
  have h := runF_sound (f := 25) (code := bodyOf Try.f25) (N := N) (T := (laws_eqInt64SS_T N)) (L := laws_eqInt64SS_L) (ins := [(.sl (.sl (.int .i64))), (.sl (.sl (.int .i64)))]) (outs := [.val .bool]) (res := [4]) mixed tt_ok ?_ Try.func25 (by kernel_rfl) rfl (by kernel_rfl) (by kernel_rfl) (by decide +kernel)
  · rw [laws_eqInt64SS_eq] at h
    exact h
  · intro f e he
    unfold laws_eqInt64SS_T at he
    split at he
    · rw [List.mem_singleton.1 he]; exact laws_eqInt64S_sound N
    · cases he

/- laws.FnExactLastsShared -/
def laws_FnExactLastsShared (N : Nat) (x0 : List (List Int)) (x1 : Int) (x2 : Int) : Option (Bool × Unit) :=
  Option.bind (laws_szInt64SS N x0 1048576) fun r1 =>
  cond (decide (r1.1 < 0))
    (some (true, ()))
    (Option.bind (laws_toInt64SS N x0) fun r2 =>
    Option.bind (spec_LastsShared N r2.1 x1 x2) fun r3 =>
    Option.bind (laws_toInt64SS N x0) fun r4 =>
    Option.bind (impl_LastsShared N r4.1 x1 x2) fun r5 =>
    Option.bind (laws_eqInt64S N r5.1 r3.1) fun r6 =>
    cond (!r6.1)
      (some (false, ()))
      (cond (!(r5.2.1 == r3.2.1))
        (some (false, ()))
        (Option.bind (laws_toInt64SS N x0) fun r7 =>
        Option.bind (laws_eqInt64SS N r4.1 r7.1) fun r8 =>
        cond (!r8.1)
          (some (false, ()))
          (Option.bind (laws_markInt64SS_d r4.1 1) fun r9 =>
          cond (decide (r9 < 0))
            (some (false, ()))
            (Option.bind (laws_eqInt64S N r5.1 r3.1) fun r10 =>
            cond (!r10.1)
              (some (false, ()))
              (cond (!(r5.2.1 == r3.2.1))
                (some (false, ()))
                (Option.bind (laws_markInt64S N r5.1 1) fun r11 =>
                cond (Nat.beq (List.length r11.1) (List.length r5.1))
                  (Option.bind (laws_heldInt64S N r11.1 1) fun r12 =>
                  cond (decide (r12.1 < 0))
                    (some (false, ()))
                    (cond (r12.1 != r11.2.1)
                      (some (false, ()))
                      (Option.bind (laws_toInt64SS N x0) fun r13 =>
                      Option.bind (impl_LastsShared N r13.1 x1 x2) fun r14 =>
                      Option.bind (laws_eqInt64S N r14.1 r3.1) fun r15 =>
                      cond (!r15.1)
                        (some (false, ()))
                        (cond (!(r14.2.1 == r3.2.1))
                          (some (false, ()))
                          (Option.bind (laws_heldInt64S N r11.1 1) fun r16 =>
                          cond (decide (r16.1 < 0))
                            (some (false, ()))
                            (cond (r16.1 != r11.2.1)
                              (some (false, ()))
                              (some (true, ())))))))) none)))))))
def laws_FnExactLastsShared_e (N : Nat) : Ent := { ins := [(.sl (.sl (.int .i64))), (.int .i64), (.int .i64)], outs := [.val .bool], F := fun x => laws_FnExactLastsShared N x.1 x.2.1 x.2.2.1 }
def laws_FnExactLastsShared_T (N : Nat) : Nat → List EntX
  | 16 => [.pl (laws_eqInt64S_e N)]
  | 17 => [.mu (laws_markInt64S_e N)]
  | 18 => [.pl (laws_heldInt64S_e N)]
  | 21 => [.pl (laws_szInt64SS_e N)]
  | 22 => [.pl (spec_LastsShared_e N)]
  | 23 => [.pl (laws_toInt64SS_e N)]
  | 24 => [.pl (impl_LastsShared_e N)]
  | 25 => [.pl (laws_eqInt64SS_e N)]
  | 26 => [.dp (laws_markInt64SS_d_e N)]
  | _ => []
def laws_FnExactLastsShared_L : Nat → List (Nat × TK) := fun _ => []
theorem laws_FnExactLastsShared_eq (N : Nat) : runL N tt (laws_FnExactLastsShared_T N) laws_FnExactLastsShared_L [(.sl (.sl (.int .i64))), (.int .i64), (.int .i64)] [.val .bool] (bodyOf Try.f5) Try.f5.ntmps [6] = (laws_FnExactLastsShared_e N).F := by
  funext x
  kernel_rfl
theorem laws_FnExactLastsShared_sound (N : Nat) : SoundC Try.prog 5 (laws_FnExactLastsShared_e N) := by
  have h := runL_sound (f := 5) (code := bodyOf Try.f5) (N := N) (T := (laws_FnExactLastsShared_T N)) (L := laws_FnExactLastsShared_L) (ins := [(.sl (.sl (.int .i64))), (.int .i64), (.int .i64)]) (outs := [.val .bool]) (res := [6]) mixed tt_ok ?_ Try.func5 (by kernel_rfl) rfl (by kernel_rfl) (by kernel_rfl) (by decide +kernel)
  · rw [laws_FnExactLastsShared_eq] at h
    exact h
  · intro f e he
    unfold laws_FnExactLastsShared_T at he
    split at he
    · rw [List.mem_singleton.1 he]; exact laws_eqInt64S_sound N
    · rw [List.mem_singleton.1 he]; exact laws_markInt64S_sound N
    · rw [List.mem_singleton.1 he]; exact laws_heldInt64S_sound N
    · rw [List.mem_singleton.1 he]; exact laws_szInt64SS_sound N
    · rw [List.mem_singleton.1 he]; exact spec_LastsShared_sound N
    · rw [List.mem_singleton.1 he]; exact laws_toInt64SS_sound N
    · rw [List.mem_singleton.1 he]; exact impl_LastsShared_sound N
    · rw [List.mem_singleton.1 he]; exact laws_eqInt64SS_sound N
    · rw [List.mem_singleton.1 he]; exact laws_markInt64SS_d_sound N
    · cases he

end Go.Proofs.Ytkcdhdnmmpapdaa
