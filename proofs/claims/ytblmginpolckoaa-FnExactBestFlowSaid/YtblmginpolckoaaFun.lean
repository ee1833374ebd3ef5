/-
  The plain functions of this seat, printed by a program, each equal to the evaluator's run, with its contract. No condition.
-/
import Derived.Test.YtblmginpolckoaaFwV
import Derived.Test.YtblmginpolckoaaChecked
import Derived.Test.YtblmginpolckoaaClo
import Derived.Test.YtblmginpolckoaaPerm4
namespace Go.Proofs.Ytblmginpolckoaa
open Go Go.Proofs.Ytblmginpolckoaa.Fw
set_option maxRecDepth 100000
set_option linter.unusedVariables false

theorem mixed : Try.prog.follows .mixedOrders = true := Try.checked.mixed
def tt : Nat → TD
  | 2 => tdInt .i64
  | 3 => tdInt .i64
  | 4 => tdBool
  | 22 => tdSl (.int .i64) 8
  | 60 => tdSt 3 [(0, 1, false), (1, 1, false), (2, 1, false)] [.nil, .g (.int .i64) (0 : Int), .g (.int .i64) (0 : Int)]
  | _ => tdNone
theorem tt_2 : TDok Try.prog 2 (tdInt .i64) := tdok_int (b := 8) (by kernel_rfl) (by kernel_rfl)
theorem tt_3 : TDok Try.prog 3 (tdInt .i64) := tdok_int (b := 8) (by kernel_rfl) (by kernel_rfl)
theorem tt_4 : TDok Try.prog 4 (tdBool) := tdok_bool (b := 1) (by kernel_rfl) (by kernel_rfl)
theorem tt_22 : TDok Try.prog 22 (tdSl (.int .i64) 8) := tdok_sl (b := 24) (e := 2) (z := (.int .i64 0)) (by kernel_rfl) (by kernel_rfl) (by kernel_rfl) (by decide) (fun _ => by kernel_rfl)
theorem tt_60 : TDok Try.prog 60 (tdSt 3 [(0, 1, false), (1, 1, false), (2, 1, false)] [.nil, .g (.int .i64) (0 : Int), .g (.int .i64) (0 : Int)]) := tdok_st (b := 40) (z := (.agg #[(.slice none 0 0), (.int .i64 0), (.int .i64 0)])) (by kernel_rfl) (by kernel_rfl) (by kernel_rfl) (by kernel_rfl) (by kernel_rfl)
theorem tt_ok (t : Nat) : TDok Try.prog t (tt t) := by
  unfold tt
  split
  · exact tt_2
  · exact tt_3
  · exact tt_4
  · exact tt_22
  · exact tt_60
  · exact tdok_none

/- laws.toInt64S -/
def laws_toInt64S (N : Nat) (x0 : List Int) : Option (List (Int) × Unit) :=
  cond (mkOk (List.length x0 : Int) (List.length x0 : Int))
    (let xs1 := (List.replicate (Int.toNat (List.length x0 : Int)) (0 : Int) : List (Int))
    loopN (fun (s2 : List (Int) × Int × Unit) next3 =>
      cond (decide (s2.2.1 < (List.length x0 : Int)))
        (Option.bind (idx x0 s2.2.1) fun v4 =>
        cond (inB s2.2.1 (List.length s2.1))
          (let xs5 := (List.set s2.1 (Int.toNat s2.2.1) v4)
          next3 (xs5, (w64 (s2.2.1 + 1)), ())) none)
        (some (s2.1, ()))) N (xs1, 0, ())) none
def laws_toInt64S_e (N : Nat) : Ent := { ins := [(.sl (.int .i64))], outs := [.own (.int .i64)], F := fun x => laws_toInt64S N x.1 }
def laws_toInt64S_T (_ : Nat) : Nat → List EntX := fun _ => []
def laws_toInt64S_L : Nat → List (Nat × TK)
  | 3 => [(3, .own (.int .i64)), (4, .v (.int .i64))]
  | _ => []
theorem laws_toInt64S_eq (N : Nat) : runF N tt (laws_toInt64S_T N) laws_toInt64S_L [(.sl (.int .i64))] [.own (.int .i64)] (bodyOf Try.f16) Try.f16.ntmps [2] = (laws_toInt64S_e N).F := by
  funext x
  kernel_rfl
theorem laws_toInt64S_sound (N : Nat) : SoundC Try.prog 16 (laws_toInt64S_e N) := by
  have h := runF_sound (f := 16) (code := bodyOf Try.f16) (N := N) (T := (laws_toInt64S_T N)) (L := laws_toInt64S_L) (ins := [(.sl (.int .i64))]) (outs := [.own (.int .i64)]) (res := [2]) mixed tt_ok ?_ Try.func16 (by kernel_rfl) rfl (by kernel_rfl) (by kernel_rfl) (by decide +kernel)
  · rw [laws_toInt64S_eq] at h
    exact h
  · intro f e he
    cases he

/- laws.eqInt64S -/
def laws_eqInt64S (N : Nat) (x0 : List Int) (x1 : List Int) : Option (Bool × Unit) :=
  cond ((List.length x0 : Int) != (List.length x1 : Int))
    (some (false, ()))
    (loopN (fun (s1 : Int × Unit) next2 =>
      cond (decide (s1.1 < (List.length x0 : Int)))
        (Option.bind (idx x0 s1.1) fun v3 =>
        Option.bind (idx x1 s1.1) fun v4 =>
        cond (v3 != v4)
          (some (false, ()))
          (next2 ((w64 (s1.1 + 1)), ())))
        (some (true, ()))) N (0, ()))
def laws_eqInt64S_e (N : Nat) : Ent := { ins := [(.sl (.int .i64)), (.sl (.int .i64))], outs := [.val .bool], F := fun x => laws_eqInt64S N x.1 x.2.1 }
def laws_eqInt64S_T (_ : Nat) : Nat → List EntX := fun _ => []
def laws_eqInt64S_L : Nat → List (Nat × TK)
  | 4 => [(5, .v (.int .i64))]
  | _ => []
theorem laws_eqInt64S_eq (N : Nat) : runF N tt (laws_eqInt64S_T N) laws_eqInt64S_L [(.sl (.int .i64)), (.sl (.int .i64))] [.val .bool] (bodyOf Try.f18) Try.f18.ntmps [4] = (laws_eqInt64S_e N).F := by
  funext x
  kernel_rfl
theorem laws_eqInt64S_sound (N : Nat) : SoundC Try.prog 18 (laws_eqInt64S_e N) := by
  have h := runF_sound (f := 18) (code := bodyOf Try.f18) (N := N) (T := (laws_eqInt64S_T N)) (L := laws_eqInt64S_L) (ins := [(.sl (.int .i64)), (.sl (.int .i64))]) (outs := [.val .bool]) (res := [4]) mixed tt_ok ?_ Try.func18 (by kernel_rfl) rfl (by kernel_rfl) (by kernel_rfl) (by decide +kernel)
  · rw [laws_eqInt64S_eq] at h
    exact h
  · intro f e he
    cases he

/- spec.l00In -/
def spec_l00In (_N : Nat) (x0 : Int) (x1 : Int) (x2 : Int) : Option (Bool × Unit) :=
  cond (decide (x0 ≥ x1))
    (some ((decide (x0 ≤ x2)), ()))
    (some (false, ()))
def spec_l00In_e (N : Nat) : Ent := { ins := [(.int .i64), (.int .i64), (.int .i64)], outs := [.val .bool], F := fun x => spec_l00In N x.1 x.2.1 x.2.2.1 }
def spec_l00In_T (_ : Nat) : Nat → List EntX := fun _ => []
def spec_l00In_L : Nat → List (Nat × TK) := fun _ => []
theorem spec_l00In_eq (N : Nat) : runF N tt (spec_l00In_T N) spec_l00In_L [(.int .i64), (.int .i64), (.int .i64)] [.val .bool] (bodyOf Try.f114) Try.f114.ntmps [6] = (spec_l00In_e N).F := by
  funext x
  kernel_rfl
theorem spec_l00In_sound (N : Nat) : SoundC Try.prog 114 (spec_l00In_e N) := by
  have h := runF_sound (f := 114) (code := bodyOf Try.f114) (N := N) (T := (spec_l00In_T N)) (L := spec_l00In_L) (ins := [(.int .i64), (.int .i64), (.int .i64)]) (outs := [.val .bool]) (res := [6]) mixed tt_ok ?_ Try.func114 (by kernel_rfl) rfl (by kernel_rfl) (by kernel_rfl) (by decide +kernel)
  · rw [spec_l00In_eq] at h
    exact h
  · intro f e he
    cases he

/- spec.l02Machines -/
def spec_l02Machines (N : Nat) (x0 : Int) : Option (Bool × Unit) :=
  Option.bind (spec_l00In N x0 1 8) fun r1 =>
  some (r1.1, ())
def spec_l02Machines_e (N : Nat) : Ent := { ins := [(.int .i64)], outs := [.val .bool], F := fun x => spec_l02Machines N x.1 }
def spec_l02Machines_T (N : Nat) : Nat → List EntX
  | 114 => [.pl (spec_l00In_e N)]
  | _ => []
def spec_l02Machines_L : Nat → List (Nat × TK) := fun _ => []
theorem spec_l02Machines_eq (N : Nat) : runF N tt (spec_l02Machines_T N) spec_l02Machines_L [(.int .i64)] [.val .bool] (bodyOf Try.f122) Try.f122.ntmps [2] = (spec_l02Machines_e N).F := by
  funext x
  kernel_rfl
theorem spec_l02Machines_sound (N : Nat) : SoundC Try.prog 122 (spec_l02Machines_e N) := by
  have h := runF_sound (f := 122) (code := bodyOf Try.f122) (N := N) (T := (spec_l02Machines_T N)) (L := spec_l02Machines_L) (ins := [(.int .i64)]) (outs := [.val .bool]) (res := [2]) mixed tt_ok ?_ Try.func122 (by kernel_rfl) rfl (by kernel_rfl) (by kernel_rfl) (by decide +kernel)
  · rw [spec_l02Machines_eq] at h
    exact h
  · intro f e he
    unfold spec_l02Machines_T at he
    split at he
    · rw [List.mem_singleton.1 he]; exact spec_l00In_sound N
    · cases he

/- spec.l02Unlike -/
def spec_l02Unlike (N : Nat) (x0 : List Int) (x1 : Int) : Option (Bool × Unit) :=
  Option.bind (spec_l02Machines N x1) fun r1 =>
  cond (!r1.1)
    (some (false, ()))
    (cond (decide ((List.length x0 : Int) < 1))
      (some (false, ()))
      (cond (x1 == 0) none
        (cond ((Int.tmod (List.length x0 : Int) x1) != 0)
          (some (false, ()))
          (cond (x1 == 0) none
            (cond (decide ((w64 (Int.tdiv (List.length x0 : Int) x1)) > 24))
              (some (false, ()))
              (loopN (fun (s2 : Int × Unit) next3 =>
                cond (decide (s2.1 < (List.length x0 : Int)))
                  (Option.bind (idx x0 s2.1) fun v4 =>
                  Option.bind (spec_l00In N v4 1 10000) fun r5 =>
                  cond (!r5.1)
                    (some (false, ()))
                    (next3 ((w64 (s2.1 + 1)), ())))
                  (some (true, ()))) N (0, ())))))))
def spec_l02Unlike_e (N : Nat) : Ent := { ins := [(.sl (.int .i64)), (.int .i64)], outs := [.val .bool], F := fun x => spec_l02Unlike N x.1 x.2.1 }
def spec_l02Unlike_T (N : Nat) : Nat → List EntX
  | 114 => [.pl (spec_l00In_e N)]
  | 122 => [.pl (spec_l02Machines_e N)]
  | _ => []
def spec_l02Unlike_L : Nat → List (Nat × TK)
  | 5 => [(6, .v (.int .i64))]
  | _ => []
theorem spec_l02Unlike_eq (N : Nat) : runF N tt (spec_l02Unlike_T N) spec_l02Unlike_L [(.sl (.int .i64)), (.int .i64)] [.val .bool] (bodyOf Try.f107) Try.f107.ntmps [4] = (spec_l02Unlike_e N).F := by
  funext x
  kernel_rfl
theorem spec_l02Unlike_sound (N : Nat) : SoundC Try.prog 107 (spec_l02Unlike_e N) := by
  have h := runF_sound (f := 107) (code := bodyOf Try.f107) (N := N) (T := (spec_l02Unlike_T N)) (L := spec_l02Unlike_L) (ins := [(.sl (.int .i64)), (.int .i64)]) (outs := [.val .bool]) (res := [4]) mixed tt_ok ?_ Try.func107 (by kernel_rfl) rfl (by kernel_rfl) (by kernel_rfl) (by decide +kernel)
  · rw [spec_l02Unlike_eq] at h
    exact h
  · intro f e he
    unfold spec_l02Unlike_T at he
    split at he
    · rw [List.mem_singleton.1 he]; exact spec_l00In_sound N
    · rw [List.mem_singleton.1 he]; exact spec_l02Machines_sound N
    · cases he

/- spec.l04Can -/
def spec_l04Can (N : Nat) (x0 : List Int) (x1 : Int) : Option (Bool × Unit) :=
  Option.bind (spec_l02Unlike N x0 x1) fun r1 =>
  some (r1.1, ())
def spec_l04Can_e (N : Nat) : Ent := { ins := [(.sl (.int .i64)), (.int .i64)], outs := [.val .bool], F := fun x => spec_l04Can N x.1 x.2.1 }
def spec_l04Can_T (N : Nat) : Nat → List EntX
  | 107 => [.pl (spec_l02Unlike_e N)]
  | _ => []
def spec_l04Can_L : Nat → List (Nat × TK) := fun _ => []
theorem spec_l04Can_eq (N : Nat) : runF N tt (spec_l04Can_T N) spec_l04Can_L [(.sl (.int .i64)), (.int .i64)] [.val .bool] (bodyOf Try.f52) Try.f52.ntmps [4] = (spec_l04Can_e N).F := by
  funext x
  kernel_rfl
theorem spec_l04Can_sound (N : Nat) : SoundC Try.prog 52 (spec_l04Can_e N) := by
  have h := runF_sound (f := 52) (code := bodyOf Try.f52) (N := N) (T := (spec_l04Can_T N)) (L := spec_l04Can_L) (ins := [(.sl (.int .i64)), (.int .i64)]) (outs := [.val .bool]) (res := [4]) mixed tt_ok ?_ Try.func52 (by kernel_rfl) rfl (by kernel_rfl) (by kernel_rfl) (by decide +kernel)
  · rw [spec_l04Can_eq] at h
    exact h
  · intro f e he
    unfold spec_l04Can_T at he
    split at he
    · rw [List.mem_singleton.1 he]; exact spec_l02Unlike_sound N
    · cases he

/- spec.l04Count -/
def spec_l04Count (_N : Nat) (x0 : List Int) (x1 : Int) : Option (Int × Unit) :=
  cond (x1 == 0) none
    (some ((w64 (Int.tdiv (List.length x0 : Int) x1)), ()))
def spec_l04Count_e (N : Nat) : Ent := { ins := [(.sl (.int .i64)), (.int .i64)], outs := [.val (.int .i64)], F := fun x => spec_l04Count N x.1 x.2.1 }
def spec_l04Count_T (_ : Nat) : Nat → List EntX := fun _ => []
def spec_l04Count_L : Nat → List (Nat × TK) := fun _ => []
theorem spec_l04Count_eq (N : Nat) : runF N tt (spec_l04Count_T N) spec_l04Count_L [(.sl (.int .i64)), (.int .i64)] [.val (.int .i64)] (bodyOf Try.f53) Try.f53.ntmps [4] = (spec_l04Count_e N).F := by
  funext x
  kernel_rfl
theorem spec_l04Count_sound (N : Nat) : SoundC Try.prog 53 (spec_l04Count_e N) := by
  have h := runF_sound (f := 53) (code := bodyOf Try.f53) (N := N) (T := (spec_l04Count_T N)) (L := spec_l04Count_L) (ins := [(.sl (.int .i64)), (.int .i64)]) (outs := [.val (.int .i64)]) (res := [4]) mixed tt_ok ?_ Try.func53 (by kernel_rfl) rfl (by kernel_rfl) (by kernel_rfl) (by decide +kernel)
  · rw [spec_l04Count_eq] at h
    exact h
  · intro f e he
    cases he

/- spec.l02Count -/
def spec_l02Count (N : Nat) (x0 : Int) : Option (List (Int) × Unit) :=
  loopN (fun (s1 : List (Int) × Int × Unit) next2 =>
    cond (decide (s1.2.1 < x0))
      (cond (appOk (List.length s1.1) (List.length ([s1.2.1] : List Int)))
        (let xs3 := (s1.1 ++ ([s1.2.1] : List Int))
        next2 (xs3, (w64 (s1.2.1 + 1)), ())) none)
      (some (s1.1, ()))) N (([] : List Int), 0, ())
def spec_l02Count_e (N : Nat) : Ent := { ins := [(.int .i64)], outs := [.own (.int .i64)], F := fun x => spec_l02Count N x.1 }
def spec_l02Count_T (_ : Nat) : Nat → List EntX := fun _ => []
def spec_l02Count_L : Nat → List (Nat × TK)
  | 3 => [(3, .own (.int .i64)), (4, .v (.int .i64))]
  | _ => []
theorem spec_l02Count_eq (N : Nat) : runF N tt (spec_l02Count_T N) spec_l02Count_L [(.int .i64)] [.own (.int .i64)] (bodyOf Try.f54) Try.f54.ntmps [2] = (spec_l02Count_e N).F := by
  funext x
  kernel_rfl
theorem spec_l02Count_sound (N : Nat) : SoundC Try.prog 54 (spec_l02Count_e N) := by
  have h := runF_sound (f := 54) (code := bodyOf Try.f54) (N := N) (T := (spec_l02Count_T N)) (L := spec_l02Count_L) (ins := [(.int .i64)]) (outs := [.own (.int .i64)]) (res := [2]) mixed tt_ok ?_ Try.func54 (by kernel_rfl) rfl (by kernel_rfl) (by kernel_rfl) (by decide +kernel)
  · rw [spec_l02Count_eq] at h
    exact h
  · intro f e he
    cases he

/- spec.l00Max -/
def spec_l00Max (_N : Nat) (x0 : Int) (x1 : Int) : Option (Int × Unit) :=
  cond (decide (x0 > x1))
    (some (x0, ()))
    (some (x1, ()))
def spec_l00Max_e (N : Nat) : Ent := { ins := [(.int .i64), (.int .i64)], outs := [.val (.int .i64)], F := fun x => spec_l00Max N x.1 x.2.1 }
def spec_l00Max_T (_ : Nat) : Nat → List EntX := fun _ => []
def spec_l00Max_L : Nat → List (Nat × TK) := fun _ => []
theorem spec_l00Max_eq (N : Nat) : runF N tt (spec_l00Max_T N) spec_l00Max_L [(.int .i64), (.int .i64)] [.val (.int .i64)] (bodyOf Try.f61) Try.f61.ntmps [4] = (spec_l00Max_e N).F := by
  funext x
  kernel_rfl
theorem spec_l00Max_sound (N : Nat) : SoundC Try.prog 61 (spec_l00Max_e N) := by
  have h := runF_sound (f := 61) (code := bodyOf Try.f61) (N := N) (T := (spec_l00Max_T N)) (L := spec_l00Max_L) (ins := [(.int .i64), (.int .i64)]) (outs := [.val (.int .i64)]) (res := [4]) mixed tt_ok ?_ Try.func61 (by kernel_rfl) rfl (by kernel_rfl) (by kernel_rfl) (by decide +kernel)
  · rw [spec_l00Max_eq] at h
    exact h
  · intro f e he
    cases he

/- spec.l04Ends -/
def spec_l04Ends (N : Nat) (x0 : List Int) (x1 : Int) (x2 : List Int) : Option (List (Int) × Int × Unit) :=
  cond (mkOk (List.length x0 : Int) (List.length x0 : Int))
    (let xs1 := (List.replicate (Int.toNat (List.length x0 : Int)) (0 : Int) : List (Int))
    cond (mkOk x1 x1)
      (let xs2 := (List.replicate (Int.toNat x1) (0 : Int) : List (Int))
      loopN (fun (s3 : List (Int) × List (Int) × Int × Unit) next4 =>
        cond (decide (s3.2.2.1 < (List.length x2 : Int)))
          (loopN (fun (s5 : List (Int) × List (Int) × Int × Int × Unit) next6 =>
            cond (decide (s5.2.2.2.1 < x1))
              (cond (inB s5.2.2.2.1 (List.length s5.2.1))
                (Option.bind (s5.2.1[(Int.toNat s5.2.2.2.1)]?) fun v7 =>
                Option.bind (spec_l00Max N s5.2.2.1 v7) fun r8 =>
                Option.bind (idx x2 s3.2.2.1) fun v9 =>
                Option.bind (idx x0 (w64 ((w64 (v9 * x1)) + s5.2.2.2.1))) fun v10 =>
                cond (inB s5.2.2.2.1 (List.length s5.2.1))
                  (let xs11 := (List.set s5.2.1 (Int.toNat s5.2.2.2.1) (w64 (r8.1 + v10)))
                  Option.bind (idx x2 s3.2.2.1) fun v12 =>
                  cond (inB (w64 ((w64 (v12 * x1)) + s5.2.2.2.1)) (List.length s5.1))
                    (let xs13 := (List.set s5.1 (Int.toNat (w64 ((w64 (v12 * x1)) + s5.2.2.2.1))) (w64 (r8.1 + v10)))
                    next6 (xs13, xs11, (w64 (r8.1 + v10)), (w64 (s5.2.2.2.1 + 1)), ())) none) none) none)
              (next4 (s5.1, s5.2.1, (w64 (s3.2.2.1 + 1)), ()))) N (s3.1, s3.2.1, 0, 0, ()))
          (cond (inB (w64 (x1 - 1)) (List.length s3.2.1))
            (Option.bind (s3.2.1[(Int.toNat (w64 (x1 - 1)))]?) fun v14 =>
            some (s3.1, v14, ())) none)) N (xs1, xs2, 0, ())) none) none
def spec_l04Ends_e (N : Nat) : Ent := { ins := [(.sl (.int .i64)), (.int .i64), (.sl (.int .i64))], outs := [.own (.int .i64), .val (.int .i64)], F := fun x => spec_l04Ends N x.1 x.2.1 x.2.2.1 }
def spec_l04Ends_T (N : Nat) : Nat → List EntX
  | 61 => [.pl (spec_l00Max_e N)]
  | _ => []
def spec_l04Ends_L : Nat → List (Nat × TK)
  | 4 => [(8, .own (.int .i64)), (9, .own (.int .i64)), (10, .v (.int .i64))]
  | 8 => [(8, .own (.int .i64)), (9, .own (.int .i64)), (11, .v (.int .i64)), (12, .v (.int .i64))]
  | _ => []
theorem spec_l04Ends_eq (N : Nat) : runF N tt (spec_l04Ends_T N) spec_l04Ends_L [(.sl (.int .i64)), (.int .i64), (.sl (.int .i64))] [.own (.int .i64), .val (.int .i64)] (bodyOf Try.f55) Try.f55.ntmps [6, 7] = (spec_l04Ends_e N).F := by
  funext x
  kernel_rfl
theorem spec_l04Ends_sound (N : Nat) : SoundC Try.prog 55 (spec_l04Ends_e N) := by
  have h := runF_sound (f := 55) (code := bodyOf Try.f55) (N := N) (T := (spec_l04Ends_T N)) (L := spec_l04Ends_L) (ins := [(.sl (.int .i64)), (.int .i64), (.sl (.int .i64))]) (outs := [.own (.int .i64), .val (.int .i64)]) (res := [6, 7]) mixed tt_ok ?_ Try.func55 (by kernel_rfl) rfl (by kernel_rfl) (by kernel_rfl) (by decide +kernel)
  · rw [spec_l04Ends_eq] at h
    exact h
  · intro f e he
    unfold spec_l04Ends_T at he
    split at he
    · rw [List.mem_singleton.1 he]; exact spec_l00Max_sound N
    · cases he

/- spec.l02NextOrder -/
def spec_l02NextOrder (N : Nat) (x0 : List Int) : Option (List (Int) × (Bool × Unit)) :=
  loopN (fun (s1 : Int × Unit) next2 =>
    cond (decide (s1.1 ≥ 0))
      (cond (inB s1.1 (List.length x0))
        (Option.bind (x0[(Int.toNat s1.1)]?) fun v3 =>
        cond (inB (w64 (s1.1 + 1)) (List.length x0))
          (Option.bind (x0[(Int.toNat (w64 (s1.1 + 1)))]?) fun v4 =>
          cond (decide (v3 > v4))
            (next2 ((w64 (s1.1 - 1)), ()))
            (cond (decide (s1.1 < 0))
              (some (x0, (false, ())))
              (loopN (fun (s5 : Int × Unit) next6 =>
                cond (inB s5.1 (List.length x0))
                  (Option.bind (x0[(Int.toNat s5.1)]?) fun v7 =>
                  cond (inB s1.1 (List.length x0))
                    (Option.bind (x0[(Int.toNat s1.1)]?) fun v8 =>
                    cond (decide (v7 < v8))
                      (next6 ((w64 (s5.1 - 1)), ()))
                      (cond (inB s1.1 (List.length x0))
                        (Option.bind (x0[(Int.toNat s1.1)]?) fun v9 =>
                        cond (inB s5.1 (List.length x0))
                          (Option.bind (x0[(Int.toNat s5.1)]?) fun v10 =>
                          cond (inB s1.1 (List.length x0))
                            (let xs11 := (List.set x0 (Int.toNat s1.1) v10)
                            cond (inB s5.1 (List.length xs11))
                              (let xs12 := (List.set xs11 (Int.toNat s5.1) v9)
                              loopN (fun (s13 : List (Int) × Int × Int × Unit) next14 =>
                                cond (decide (s13.2.2.1 < s13.2.1))
                                  (cond (inB s13.2.2.1 (List.length s13.1))
                                    (Option.bind (s13.1[(Int.toNat s13.2.2.1)]?) fun v15 =>
                                    cond (inB s13.2.1 (List.length s13.1))
                                      (Option.bind (s13.1[(Int.toNat s13.2.1)]?) fun v16 =>
                                      cond (inB s13.2.2.1 (List.length s13.1))
                                        (let xs17 := (List.set s13.1 (Int.toNat s13.2.2.1) v16)
                                        cond (inB s13.2.1 (List.length xs17))
                                          (let xs18 := (List.set xs17 (Int.toNat s13.2.1) v15)
                                          next14 (xs18, (w64 (s13.2.1 - 1)), (w64 (s13.2.2.1 + 1)), ())) none) none) none) none)
                                  (some (s13.1, (true, ())))) N (xs12, (w64 ((List.length xs12 : Int) - 1)), (w64 (s1.1 + 1)), ())) none) none) none) none)) none) none) N ((w64 ((List.length x0 : Int) - 1)), ())))) none) none)
      (cond (decide (s1.1 < 0))
        (some (x0, (false, ())))
        (loopN (fun (s19 : Int × Unit) next20 =>
          cond (inB s19.1 (List.length x0))
            (Option.bind (x0[(Int.toNat s19.1)]?) fun v21 =>
            cond (inB s1.1 (List.length x0))
              (Option.bind (x0[(Int.toNat s1.1)]?) fun v22 =>
              cond (decide (v21 < v22))
                (next20 ((w64 (s19.1 - 1)), ()))
                (cond (inB s1.1 (List.length x0))
                  (Option.bind (x0[(Int.toNat s1.1)]?) fun v23 =>
                  cond (inB s19.1 (List.length x0))
                    (Option.bind (x0[(Int.toNat s19.1)]?) fun v24 =>
                    cond (inB s1.1 (List.length x0))
                      (let xs25 := (List.set x0 (Int.toNat s1.1) v24)
                      cond (inB s19.1 (List.length xs25))
                        (let xs26 := (List.set xs25 (Int.toNat s19.1) v23)
                        loopN (fun (s27 : List (Int) × Int × Int × Unit) next28 =>
                          cond (decide (s27.2.2.1 < s27.2.1))
                            (cond (inB s27.2.2.1 (List.length s27.1))
                              (Option.bind (s27.1[(Int.toNat s27.2.2.1)]?) fun v29 =>
                              cond (inB s27.2.1 (List.length s27.1))
                                (Option.bind (s27.1[(Int.toNat s27.2.1)]?) fun v30 =>
                                cond (inB s27.2.2.1 (List.length s27.1))
                                  (let xs31 := (List.set s27.1 (Int.toNat s27.2.2.1) v30)
                                  cond (inB s27.2.1 (List.length xs31))
                                    (let xs32 := (List.set xs31 (Int.toNat s27.2.1) v29)
                                    next28 (xs32, (w64 (s27.2.1 - 1)), (w64 (s27.2.2.1 + 1)), ())) none) none) none) none)
                            (some (s27.1, (true, ())))) N (xs26, (w64 ((List.length xs26 : Int) - 1)), (w64 (s1.1 + 1)), ())) none) none) none) none)) none) none) N ((w64 ((List.length x0 : Int) - 1)), ())))) N ((w64 ((List.length x0 : Int) - 2)), ())
def spec_l02NextOrder_e (N : Nat) : EntM := { io := (.int .i64), ins := [], outs := [.val .bool], F := fun xs x => spec_l02NextOrder N xs }
def spec_l02NextOrder_T (_ : Nat) : Nat → List EntX := fun _ => []
def spec_l02NextOrder_L : Nat → List (Nat × TK)
  | 2 => [(3, .v (.int .i64))]
  | 7 => [(4, .v (.int .i64))]
  | 14 => [(0, .own (.int .i64)), (6, .v (.int .i64)), (7, .v (.int .i64))]
  | _ => []
theorem spec_l02NextOrder_eq (N : Nat) : runM N tt (spec_l02NextOrder_T N) spec_l02NextOrder_L (.int .i64) [] [.val .bool] (bodyOf Try.f56) Try.f56.ntmps [2] = (spec_l02NextOrder_e N).F := by
  funext xs x
  kernel_rfl
theorem spec_l02NextOrder_sound (N : Nat) : SoundM Try.prog 56 (spec_l02NextOrder_e N) := by
  have h := runM_sound (f := 56) (code := bodyOf Try.f56) (N := N) (T := (spec_l02NextOrder_T N)) (L := spec_l02NextOrder_L) (io := (.int .i64)) (ins := []) (outs := [.val .bool]) (res := [2]) mixed tt_ok ?_ Try.func56 (by kernel_rfl) rfl (by kernel_rfl) (by kernel_rfl) (by decide +kernel)
  · rw [spec_l02NextOrder_eq] at h
    exact h
  · intro f e he
    cases he

/- spec.BestFlow -/
def spec_BestFlow (N : Nat) (x0 : List Int) (x1 : Int) : Option (List (Int) × Int × Bool × Unit) :=
  Option.bind (spec_l04Can N x0 x1) fun r1 =>
  cond (!r1.1)
    (some ([], 0, false, ()))
    (Option.bind (spec_l04Count N x0 x1) fun r2 =>
    cond (decide (r2.1 > 7))
      (some ([], 0, false, ()))
      (Option.bind (spec_l04Count N x0 x1) fun r3 =>
      Option.bind (spec_l02Count N r3.1) fun r4 =>
      cond (appOk (List.length ([] : List Int)) (List.length r4.1))
        (let xs5 := (([] : List Int) ++ r4.1)
        Option.bind (spec_l04Ends N x0 x1 r4.1) fun r6 =>
        loopN (fun (s7 : List (Int) × List (Int) × Int × Unit) next8 =>
          Option.bind (spec_l02NextOrder N s7.1) fun r9 =>
          cond (Nat.beq (List.length r9.1) (List.length s7.1))
            (cond r9.2.1
              (Option.bind (spec_l04Ends N x0 x1 r9.1) fun r10 =>
              cond (decide (r10.2.1 < s7.2.2.1))
                (cond (appOk (List.length ([] : List Int)) (List.length r9.1))
                  (let xs11 := (([] : List Int) ++ r9.1)
                  next8 (r9.1, xs11, r10.2.1, ())) none)
                (next8 (r9.1, s7.2.1, s7.2.2.1, ())))
              (some (s7.2.1, s7.2.2.1, true, ()))) none) N (r4.1, xs5, r6.2.1, ())) none))
def spec_BestFlow_e (N : Nat) : Ent := { ins := [(.sl (.int .i64)), (.int .i64)], outs := [.own (.int .i64), .val (.int .i64), .val .bool], F := fun x => spec_BestFlow N x.1 x.2.1 }
def spec_BestFlow_T (N : Nat) : Nat → List EntX
  | 52 => [.pl (spec_l04Can_e N)]
  | 53 => [.pl (spec_l04Count_e N)]
  | 54 => [.pl (spec_l02Count_e N)]
  | 55 => [.pl (spec_l04Ends_e N)]
  | 56 => [.mu (spec_l02NextOrder_e N)]
  | _ => []
def spec_BestFlow_L : Nat → List (Nat × TK)
  | 6 => [(7, .own (.int .i64)), (8, .own (.int .i64)), (10, .v (.int .i64))]
  | _ => []
theorem spec_BestFlow_eq (N : Nat) : runF N tt (spec_BestFlow_T N) spec_BestFlow_L [(.sl (.int .i64)), (.int .i64)] [.own (.int .i64), .val (.int .i64), .val .bool] (bodyOf Try.f19) Try.f19.ntmps [4, 5, 6] = (spec_BestFlow_e N).F := by
  funext x
  kernel_rfl
theorem spec_BestFlow_sound (N : Nat) : SoundC Try.prog 19 (spec_BestFlow_e N) := by
  have h := runF_sound (f := 19) (code := bodyOf Try.f19) (N := N) (T := (spec_BestFlow_T N)) (L := spec_BestFlow_L) (ins := [(.sl (.int .i64)), (.int .i64)]) (outs := [.own (.int .i64), .val (.int .i64), .val .bool]) (res := [4, 5, 6]) mixed tt_ok ?_ Try.func19 (by kernel_rfl) rfl (by kernel_rfl) (by kernel_rfl) (by decide +kernel)
  · rw [spec_BestFlow_eq] at h
    exact h
  · intro f e he
    unfold spec_BestFlow_T at he
    split at he
    · rw [List.mem_singleton.1 he]; exact spec_l04Can_sound N
    · rw [List.mem_singleton.1 he]; exact spec_l04Count_sound N
    · rw [List.mem_singleton.1 he]; exact spec_l02Count_sound N
    · rw [List.mem_singleton.1 he]; exact spec_l04Ends_sound N
    · rw [List.mem_singleton.1 he]; exact spec_l02NextOrder_sound N
    · cases he

/- impl.within -/
def impl_within (_N : Nat) (x0 : Int) (x1 : Int) (x2 : Int) : Option (Bool × Unit) :=
  cond (decide (x0 ≥ x1))
    (some ((decide (x0 ≤ x2)), ()))
    (some (false, ()))
def impl_within_e (N : Nat) : Ent := { ins := [(.int .i64), (.int .i64), (.int .i64)], outs := [.val .bool], F := fun x => impl_within N x.1 x.2.1 x.2.2.1 }
def impl_within_T (_ : Nat) : Nat → List EntX := fun _ => []
def impl_within_L : Nat → List (Nat × TK) := fun _ => []
theorem impl_within_eq (N : Nat) : runF N tt (impl_within_T N) impl_within_L [(.int .i64), (.int .i64), (.int .i64)] [.val .bool] (bodyOf Try.f117) Try.f117.ntmps [6] = (impl_within_e N).F := by
  funext x
  kernel_rfl
theorem impl_within_sound (N : Nat) : SoundC Try.prog 117 (impl_within_e N) := by
  have h := runF_sound (f := 117) (code := bodyOf Try.f117) (N := N) (T := (impl_within_T N)) (L := impl_within_L) (ins := [(.int .i64), (.int .i64), (.int .i64)]) (outs := [.val .bool]) (res := [6]) mixed tt_ok ?_ Try.func117 (by kernel_rfl) rfl (by kernel_rfl) (by kernel_rfl) (by decide +kernel)
  · rw [impl_within_eq] at h
    exact h
  · intro f e he
    cases he

/- impl.areMachines -/
def impl_areMachines (N : Nat) (x0 : Int) : Option (Bool × Unit) :=
  Option.bind (impl_within N x0 1 8) fun r1 =>
  some (r1.1, ())
def impl_areMachines_e (N : Nat) : Ent := { ins := [(.int .i64)], outs := [.val .bool], F := fun x => impl_areMachines N x.1 }
def impl_areMachines_T (N : Nat) : Nat → List EntX
  | 117 => [.pl (impl_within_e N)]
  | _ => []
def impl_areMachines_L : Nat → List (Nat × TK) := fun _ => []
theorem impl_areMachines_eq (N : Nat) : runF N tt (impl_areMachines_T N) impl_areMachines_L [(.int .i64)] [.val .bool] (bodyOf Try.f74) Try.f74.ntmps [2] = (impl_areMachines_e N).F := by
  funext x
  kernel_rfl
theorem impl_areMachines_sound (N : Nat) : SoundC Try.prog 74 (impl_areMachines_e N) := by
  have h := runF_sound (f := 74) (code := bodyOf Try.f74) (N := N) (T := (impl_areMachines_T N)) (L := impl_areMachines_L) (ins := [(.int .i64)]) (outs := [.val .bool]) (res := [2]) mixed tt_ok ?_ Try.func74 (by kernel_rfl) rfl (by kernel_rfl) (by kernel_rfl) (by decide +kernel)
  · rw [impl_areMachines_eq] at h
    exact h
  · intro f e he
    unfold impl_areMachines_T at he
    split at he
    · rw [List.mem_singleton.1 he]; exact impl_within_sound N
    · cases he

/- impl.areWithin -/
def impl_areWithin (N : Nat) (x0 : List Int) (x1 : Int) (x2 : Int) : Option (Bool × Unit) :=
  loopN (fun (s1 : Int × Unit) next2 =>
    cond (decide (s1.1 < (List.length x0 : Int)))
      (Option.bind (idx x0 s1.1) fun v3 =>
      Option.bind (impl_within N v3 x1 x2) fun r4 =>
      cond (!r4.1)
        (some (false, ()))
        (next2 ((w64 (s1.1 + 1)), ())))
      (some (true, ()))) N (0, ())
def impl_areWithin_e (N : Nat) : Ent := { ins := [(.sl (.int .i64)), (.int .i64), (.int .i64)], outs := [.val .bool], F := fun x => impl_areWithin N x.1 x.2.1 x.2.2.1 }
def impl_areWithin_T (N : Nat) : Nat → List EntX
  | 117 => [.pl (impl_within_e N)]
  | _ => []
def impl_areWithin_L : Nat → List (Nat × TK)
  | 2 => [(11, .v (.int .i64))]
  | _ => []
theorem impl_areWithin_eq (N : Nat) : runF N tt (impl_areWithin_T N) impl_areWithin_L [(.sl (.int .i64)), (.int .i64), (.int .i64)] [.val .bool] (bodyOf Try.f86) Try.f86.ntmps [6] = (impl_areWithin_e N).F := by
  funext x
  kernel_rfl
theorem impl_areWithin_sound (N : Nat) : SoundC Try.prog 86 (impl_areWithin_e N) := by
  have h := runF_sound (f := 86) (code := bodyOf Try.f86) (N := N) (T := (impl_areWithin_T N)) (L := impl_areWithin_L) (ins := [(.sl (.int .i64)), (.int .i64), (.int .i64)]) (outs := [.val .bool]) (res := [6]) mixed tt_ok ?_ Try.func86 (by kernel_rfl) rfl (by kernel_rfl) (by kernel_rfl) (by decide +kernel)
  · rw [impl_areWithin_eq] at h
    exact h
  · intro f e he
    unfold impl_areWithin_T at he
    split at he
    · rw [List.mem_singleton.1 he]; exact impl_within_sound N
    · cases he

/- impl.unlikeJobs -/
def impl_unlikeJobs (N : Nat) (x0 : List Int) (x1 : Int) : Option (Int × Bool × Unit) :=
  Option.bind (impl_areMachines N x1) fun r1 =>
  cond (!r1.1)
    (some (0, false, ()))
    (cond (x1 == 0) none
      (cond ((Int.tmod (List.length x0 : Int) x1) != 0)
        (some (0, false, ()))
        (Option.bind (impl_areWithin N x0 1 10000) fun r2 =>
        cond (!r2.1)
          (some (0, false, ()))
          (cond (x1 == 0) none
            (cond (decide ((w64 (Int.tdiv (List.length x0 : Int) x1)) ≥ 1))
              (some ((w64 (Int.tdiv (List.length x0 : Int) x1)), (decide ((w64 (Int.tdiv (List.length x0 : Int) x1)) ≤ 24)), ()))
              (some ((w64 (Int.tdiv (List.length x0 : Int) x1)), false, ())))))))
def impl_unlikeJobs_e (N : Nat) : Ent := { ins := [(.sl (.int .i64)), (.int .i64)], outs := [.val (.int .i64), .val .bool], F := fun x => impl_unlikeJobs N x.1 x.2.1 }
def impl_unlikeJobs_T (N : Nat) : Nat → List EntX
  | 74 => [.pl (impl_areMachines_e N)]
  | 86 => [.pl (impl_areWithin_e N)]
  | _ => []
def impl_unlikeJobs_L : Nat → List (Nat × TK) := fun _ => []
theorem impl_unlikeJobs_eq (N : Nat) : runF N tt (impl_unlikeJobs_T N) impl_unlikeJobs_L [(.sl (.int .i64)), (.int .i64)] [.val (.int .i64), .val .bool] (bodyOf Try.f108) Try.f108.ntmps [4, 5] = (impl_unlikeJobs_e N).F := by
  funext x
  kernel_rfl
theorem impl_unlikeJobs_sound (N : Nat) : SoundC Try.prog 108 (impl_unlikeJobs_e N) := by
  have h := runF_sound (f := 108) (code := bodyOf Try.f108) (N := N) (T := (impl_unlikeJobs_T N)) (L := impl_unlikeJobs_L) (ins := [(.sl (.int .i64)), (.int .i64)]) (outs := [.val (.int .i64), .val .bool]) (res := [4, 5]) mixed tt_ok ?_ Try.func108 (by kernel_rfl) rfl (by kernel_rfl) (by kernel_rfl) (by decide +kernel)
  · rw [impl_unlikeJobs_eq] at h
    exact h
  · intro f e he
    unfold impl_unlikeJobs_T at he
    split at he
    · rw [List.mem_singleton.1 he]; exact impl_areMachines_sound N
    · rw [List.mem_singleton.1 he]; exact impl_areWithin_sound N
    · cases he

/- impl.asShop -/
def impl_asShop (N : Nat) (x0 : List Int) (x1 : Int) : Option (((List Int) × Int × Int) × Bool × Unit) :=
  Option.bind (impl_unlikeJobs N x0 x1) fun r1 =>
  some ((x0, (r1.1, x1)), r1.2.1, ())
def impl_asShop_e (N : Nat) : Ent := { ins := [(.sl (.int .i64)), (.int .i64)], outs := [.val (.pair (.sl (.int .i64)) (.pair (.int .i64) (.int .i64))), .val .bool], F := fun x => impl_asShop N x.1 x.2.1 }
def impl_asShop_T (N : Nat) : Nat → List EntX
  | 108 => [.pl (impl_unlikeJobs_e N)]
  | _ => []
def impl_asShop_L : Nat → List (Nat × TK) := fun _ => []
theorem impl_asShop_eq (N : Nat) : runC N tt (impl_asShop_T N) impl_asShop_L [(.sl (.int .i64)), (.int .i64)] [.val (.pair (.sl (.int .i64)) (.pair (.int .i64) (.int .i64))), .val .bool] (bodyOf Try.f57) Try.f57.ntmps [4, 5] [(4, 60)] = (impl_asShop_e N).F := by
  funext x
  kernel_rfl
theorem impl_asShop_sound (N : Nat) : SoundC Try.prog 57 (impl_asShop_e N) := by
  have h := runC_sound (f := 57) (code := bodyOf Try.f57) (N := N) (T := (impl_asShop_T N)) (L := impl_asShop_L) (ins := [(.sl (.int .i64)), (.int .i64)]) (outs := [.val (.pair (.sl (.int .i64)) (.pair (.int .i64) (.int .i64))), .val .bool]) (res := [4, 5]) (rs := [.cell 4 60, .tmp 5]) (cells := [(4, 60)]) mixed tt_ok ?_ Try.func57 (by kernel_rfl) rfl (by kernel_rfl) (by kernel_rfl) rfl rfl (by decide) (by decide +kernel) (by decide +kernel)
  · rw [impl_asShop_eq] at h
    exact h
  · intro f e he
    unfold impl_asShop_T at he
    split at he
    · rw [List.mem_singleton.1 he]; exact impl_unlikeJobs_sound N
    · cases he

/- (impl.shop).at -/
def impl_shop_at (_N : Nat) (x0 : (List Int) × Int × Int) (x1 : Int) (x2 : Int) : Option (Int × Unit) :=
  Option.bind (idx x0.1 (w64 ((w64 (x1 * x0.2.2)) + x2))) fun v1 =>
  some (v1, ())
def impl_shop_at_e (N : Nat) : Ent := { ins := [(.pair (.sl (.int .i64)) (.pair (.int .i64) (.int .i64))), (.int .i64), (.int .i64)], outs := [.val (.int .i64)], F := fun x => impl_shop_at N x.1 x.2.1 x.2.2.1 }
def impl_shop_at_T (_ : Nat) : Nat → List EntX := fun _ => []
def impl_shop_at_L : Nat → List (Nat × TK) := fun _ => []
theorem impl_shop_at_eq (N : Nat) : runF N tt (impl_shop_at_T N) impl_shop_at_L [(.pair (.sl (.int .i64)) (.pair (.int .i64) (.int .i64))), (.int .i64), (.int .i64)] [.val (.int .i64)] (bodyOf Try.f71) Try.f71.ntmps [6] = (impl_shop_at_e N).F := by
  funext x
  kernel_rfl
theorem impl_shop_at_sound (N : Nat) : SoundC Try.prog 71 (impl_shop_at_e N) := by
  have h := runF_sound (f := 71) (code := bodyOf Try.f71) (N := N) (T := (impl_shop_at_T N)) (L := impl_shop_at_L) (ins := [(.pair (.sl (.int .i64)) (.pair (.int .i64) (.int .i64))), (.int .i64), (.int .i64)]) (outs := [.val (.int .i64)]) (res := [6]) mixed tt_ok ?_ Try.func71 (by kernel_rfl) rfl (by kernel_rfl) (by kernel_rfl) (by decide +kernel)
  · rw [impl_shop_at_eq] at h
    exact h
  · intro f e he
    cases he

/- (impl.shop).flow -/
def impl_shop_flow (N : Nat) (x0 : (List Int) × Int × Int) (x1 : List Int) : Option (List (Int) × Int × Unit) :=
  cond (mkOk (List.length x0.1 : Int) (List.length x0.1 : Int))
    (let xs1 := (List.replicate (Int.toNat (List.length x0.1 : Int)) (0 : Int) : List (Int))
    cond (mkOk x0.2.2 x0.2.2)
      (let xs2 := (List.replicate (Int.toNat x0.2.2) (0 : Int) : List (Int))
      loopN (fun (s3 : List (Int) × List (Int) × Int × Unit) next4 =>
        cond (decide (s3.2.2.1 < (List.length x1 : Int)))
          (Option.bind (idx x1 s3.2.2.1) fun v5 =>
          loopN (fun (s6 : List (Int) × List (Int) × Int × Int × Unit) next7 =>
            cond (decide (s6.2.2.2.1 < x0.2.2))
              (cond (inB s6.2.2.2.1 (List.length s6.2.1))
                (Option.bind (s6.2.1[(Int.toNat s6.2.2.2.1)]?) fun v8 =>
                Option.bind (impl_shop_at N (x0.1, (x0.2.1, x0.2.2)) v5 s6.2.2.2.1) fun r9 =>
                cond (inB s6.2.2.2.1 (List.length s6.2.1))
                  (let xs10 := (List.set s6.2.1 (Int.toNat s6.2.2.2.1) (w64 ((imax s6.2.2.1 v8) + r9.1)))
                  cond (inB (w64 ((w64 (v5 * x0.2.2)) + s6.2.2.2.1)) (List.length s6.1))
                    (let xs11 := (List.set s6.1 (Int.toNat (w64 ((w64 (v5 * x0.2.2)) + s6.2.2.2.1))) (w64 ((imax s6.2.2.1 v8) + r9.1)))
                    next7 (xs11, xs10, (w64 ((imax s6.2.2.1 v8) + r9.1)), (w64 (s6.2.2.2.1 + 1)), ())) none) none) none)
              (next4 (s6.1, s6.2.1, (w64 (s3.2.2.1 + 1)), ()))) N (s3.1, s3.2.1, 0, 0, ()))
          (cond (inB (w64 (x0.2.2 - 1)) (List.length s3.2.1))
            (Option.bind (s3.2.1[(Int.toNat (w64 (x0.2.2 - 1)))]?) fun v12 =>
            some (s3.1, v12, ())) none)) N (xs1, xs2, 0, ())) none) none
def impl_shop_flow_e (N : Nat) : Ent := { ins := [(.pair (.sl (.int .i64)) (.pair (.int .i64) (.int .i64))), (.sl (.int .i64))], outs := [.own (.int .i64), .val (.int .i64)], F := fun x => impl_shop_flow N x.1 x.2.1 }
def impl_shop_flow_T (N : Nat) : Nat → List EntX
  | 71 => [.pl (impl_shop_at_e N)]
  | _ => []
def impl_shop_flow_L : Nat → List (Nat × TK)
  | 4 => [(6, .own (.int .i64)), (7, .own (.int .i64)), (21, .v (.int .i64))]
  | 8 => [(6, .own (.int .i64)), (7, .own (.int .i64)), (10, .v (.int .i64)), (27, .v (.int .i64))]
  | _ => []
theorem impl_shop_flow_eq (N : Nat) : runF N tt (impl_shop_flow_T N) impl_shop_flow_L [(.pair (.sl (.int .i64)) (.pair (.int .i64) (.int .i64))), (.sl (.int .i64))] [.own (.int .i64), .val (.int .i64)] (bodyOf Try.f60) Try.f60.ntmps [4, 5] = (impl_shop_flow_e N).F := by
  funext x
  kernel_rfl
theorem impl_shop_flow_sound (N : Nat) : SoundC Try.prog 60 (impl_shop_flow_e N) := by
  have h := runF_sound (f := 60) (code := bodyOf Try.f60) (N := N) (T := (impl_shop_flow_T N)) (L := impl_shop_flow_L) (ins := [(.pair (.sl (.int .i64)) (.pair (.int .i64) (.int .i64))), (.sl (.int .i64))]) (outs := [.own (.int .i64), .val (.int .i64)]) (res := [4, 5]) mixed tt_ok ?_ Try.func60 (by kernel_rfl) rfl (by kernel_rfl) (by kernel_rfl) (by decide +kernel)
  · rw [impl_shop_flow_eq] at h
    exact h
  · intro f e he
    unfold impl_shop_flow_T at he
    split at he
    · rw [List.mem_singleton.1 he]; exact impl_shop_at_sound N
    · cases he

/- impl.BestFlow$1 -/
def impl_BestFlow_1_c0 (N : Nat) (x0 : List Int) (x1 : (List Int) × Int × Int) : Option (Int × Bool × Unit) :=
  Option.bind (impl_shop_flow N x1 x0) fun r1 =>
  some (r1.2.1, true, ())
def impl_BestFlow_1_c0_e (N : Nat) : Ent := { ins := [(.sl (.int .i64)), (.bx (.pair (.sl (.int .i64)) (.pair (.int .i64) (.int .i64))))], outs := [.val (.int .i64), .val .bool], F := fun x => impl_BestFlow_1_c0 N x.1 x.2.1 }
def impl_BestFlow_1_c0_T (N : Nat) : Nat → List EntX
  | 60 => [.pl (impl_shop_flow_e N)]
  | _ => []
def impl_BestFlow_1_c0_L : Nat → List (Nat × TK) := fun _ => []
theorem impl_BestFlow_1_c0_eq (N : Nat) : runF N tt (impl_BestFlow_1_c0_T N) impl_BestFlow_1_c0_L [(.sl (.int .i64)), (.bx (.pair (.sl (.int .i64)) (.pair (.int .i64) (.int .i64))))] [.val (.int .i64), .val .bool] (bodyOf Try.f59) Try.f59.ntmps [3, 4] = (impl_BestFlow_1_c0_e N).F := by
  funext x
  kernel_rfl
theorem impl_BestFlow_1_c0_sound (N : Nat) : SoundC Try.prog 59 (impl_BestFlow_1_c0_e N) := by
  have h := runF_sound (f := 59) (code := bodyOf Try.f59) (N := N) (T := (impl_BestFlow_1_c0_T N)) (L := impl_BestFlow_1_c0_L) (ins := [(.sl (.int .i64)), (.bx (.pair (.sl (.int .i64)) (.pair (.int .i64) (.int .i64))))]) (outs := [.val (.int .i64), .val .bool]) (res := [3, 4]) mixed tt_ok ?_ Try.func59 (by kernel_rfl) rfl (by kernel_rfl) (by kernel_rfl) (by decide +kernel)
  · rw [impl_BestFlow_1_c0_eq] at h
    exact h
  · intro f e he
    unfold impl_BestFlow_1_c0_T at he
    split at he
    · rw [List.mem_singleton.1 he]; exact impl_shop_flow_sound N
    · cases he

/- slices.Clone[[]int64,int64] -/
def slices_Clone_int64_int64_ne (_N : Nat) (x0 : List Int) : Option (List (Int) × Unit) :=
  cond (List.isEmpty x0) none
    (cond (appOk (List.length ([] : List Int)) (List.length x0))
      (let xs1 := (([] : List Int) ++ x0)
      some (xs1, ())) none)
def slices_Clone_int64_int64_ne_e (N : Nat) : Ent := { ins := [(.sl (.int .i64))], outs := [.own (.int .i64)], F := fun x => slices_Clone_int64_int64_ne N x.1 }
def slices_Clone_int64_int64_ne_T (_ : Nat) : Nat → List EntX := fun _ => []
def slices_Clone_int64_int64_ne_L : Nat → List (Nat × TK) := fun _ => []
theorem slices_Clone_int64_int64_ne_eq (N : Nat) : runF N tt (slices_Clone_int64_int64_ne_T N) slices_Clone_int64_int64_ne_L [(.sl (.int .i64))] [.own (.int .i64)] (bodyOf Try.f111) Try.f111.ntmps [2] = (slices_Clone_int64_int64_ne_e N).F := by
  funext x
  kernel_rfl
theorem slices_Clone_int64_int64_ne_sound (N : Nat) : SoundC Try.prog 111 (slices_Clone_int64_int64_ne_e N) := by
  have h := runF_sound (f := 111) (code := bodyOf Try.f111) (N := N) (T := (slices_Clone_int64_int64_ne_T N)) (L := slices_Clone_int64_int64_ne_L) (ins := [(.sl (.int .i64))]) (outs := [.own (.int .i64)]) (res := [2]) mixed tt_ok ?_ Try.func111 (by kernel_rfl) rfl (by kernel_rfl) (by kernel_rfl) (by decide +kernel)
  · rw [slices_Clone_int64_int64_ne_eq] at h
    exact h
  · intro f e he
    cases he

/- slices.Clone[[]int64,int64] -/
def slices_Clone_int64_int64 (_N : Nat) (x0 : List Int) : Option (List Int × Unit) := cond (appOk 0 (List.length x0)) (some (x0, ())) none
def slices_Clone_int64_int64_e (N : Nat) : Ent := { ins := [(.sl (.int .i64))], outs := [.own (.int .i64)], F := fun x => slices_Clone_int64_int64 N x.1 }
theorem slices_Clone_int64_int64_sound (N : Nat) : SoundC Try.prog 111 (slices_Clone_int64_int64_e N) := clone_sound (slices_Clone_int64_int64_ne_sound N) fun x h1 h2 => by
  show slices_Clone_int64_int64_ne N x.1 = _
  unfold slices_Clone_int64_int64_ne
  simp only [isEmpty_no h1, cond_false]
  exact congrArg (fun b => cond b _ _) h2

/- impl.firstLeast -/
def impl_firstLeast_impl_BestFlow_1 (N : Nat) (x0 : Int) (x1 : (List Int) × Int × Int) : Option (List (Int) × Int × Bool × Unit) :=
  leastF (fun o => impl_BestFlow_1_c0 N o x1) x0
def impl_firstLeast_impl_BestFlow_1_e (N : Nat) : Ent := { ins := [(.int .i64), (.clo 59 (.bx (.pair (.sl (.int .i64)) (.pair (.int .i64) (.int .i64)))))], outs := [.own (.int .i64), .val (.int .i64), .val .bool], F := fun x => impl_firstLeast_impl_BestFlow_1 N x.1 x.2.1 }
theorem impl_firstLeast_impl_BestFlow_1_sound (N : Nat) : SoundC Try.prog 58 (impl_firstLeast_impl_BestFlow_1_e N) := least_sound1 (slices_Clone_int64_int64_sound N) (impl_BestFlow_1_c0_sound N)

/- impl.BestFlow -/
def impl_BestFlow (N : Nat) (x0 : List Int) (x1 : Int) : Option (List (Int) × Int × Bool × Unit) :=
  Option.bind (impl_asShop N x0 x1) fun r1 =>
  cond (!r1.2.1)
    (some ([], 0, false, ()))
    (cond (decide (r1.1.2.1 > 7))
      (some ([], 0, false, ()))
      (Option.bind (impl_firstLeast_impl_BestFlow_1 N r1.1.2.1 (r1.1.1, (r1.1.2.1, r1.1.2.2))) fun r2 =>
      some (r2.1, r2.2.1, r2.2.2.1, ())))
def impl_BestFlow_e (N : Nat) : Ent := { ins := [(.sl (.int .i64)), (.int .i64)], outs := [.own (.int .i64), .val (.int .i64), .val .bool], F := fun x => impl_BestFlow N x.1 x.2.1 }
def impl_BestFlow_T (N : Nat) : Nat → List EntX
  | 57 => [.pl (impl_asShop_e N)]
  | 58 => [.pl (impl_firstLeast_impl_BestFlow_1_e N)]
  | _ => []
def impl_BestFlow_L : Nat → List (Nat × TK) := fun _ => []
theorem impl_BestFlow_eq (N : Nat) : runF N tt (impl_BestFlow_T N) impl_BestFlow_L [(.sl (.int .i64)), (.int .i64)] [.own (.int .i64), .val (.int .i64), .val .bool] (bodyOf Try.f20) Try.f20.ntmps [4, 5, 6] = (impl_BestFlow_e N).F := by
  funext x
  kernel_rfl
theorem impl_BestFlow_sound (N : Nat) : SoundC Try.prog 20 (impl_BestFlow_e N) := by
  have h := runF_sound (f := 20) (code := bodyOf Try.f20) (N := N) (T := (impl_BestFlow_T N)) (L := impl_BestFlow_L) (ins := [(.sl (.int .i64)), (.int .i64)]) (outs := [.own (.int .i64), .val (.int .i64), .val .bool]) (res := [4, 5, 6]) mixed tt_ok ?_ Try.func20 (by kernel_rfl) rfl (by kernel_rfl) (by kernel_rfl) (by decide +kernel)
  · rw [impl_BestFlow_eq] at h
    exact h
  · intro f e he
    unfold impl_BestFlow_T at he
    split at he
    · rw [List.mem_singleton.1 he]; exact impl_asShop_sound N
    · rw [List.mem_singleton.1 he]; exact impl_firstLeast_impl_BestFlow_1_sound N
    · cases he

/- laws.markInt64S -/
def laws_markInt64S (N : Nat) (x0 : List Int) (x1 : Int) : Option (List (Int) × (Int × Unit)) :=
  loopN (fun (s1 : List (Int) × Int × Int × Unit) next2 =>
    cond (decide (s1.2.2.1 < (List.length s1.1 : Int)))
      (cond (inB s1.2.2.1 (List.length s1.1))
        (let xs3 := (List.set s1.1 (Int.toNat s1.2.2.1) s1.2.1)
        next2 (xs3, (w64 (s1.2.1 + 1)), (w64 (s1.2.2.1 + 1)), ())) none)
      (some (s1.1, (s1.2.1, ())))) N (x0, x1, 0, ())
def laws_markInt64S_e (N : Nat) : EntM := { io := (.int .i64), ins := [(.int .i64)], outs := [.val (.int .i64)], F := fun xs x => laws_markInt64S N xs x.1 }
def laws_markInt64S_T (_ : Nat) : Nat → List EntX := fun _ => []
def laws_markInt64S_L : Nat → List (Nat × TK)
  | 2 => [(0, .own (.int .i64)), (1, .v (.int .i64)), (5, .v (.int .i64))]
  | _ => []
theorem laws_markInt64S_eq (N : Nat) : runM N tt (laws_markInt64S_T N) laws_markInt64S_L (.int .i64) [(.int .i64)] [.val (.int .i64)] (bodyOf Try.f21) Try.f21.ntmps [4] = (laws_markInt64S_e N).F := by
  funext xs x
  kernel_rfl
theorem laws_markInt64S_sound (N : Nat) : SoundM Try.prog 21 (laws_markInt64S_e N) := by
  have h := runM_sound (f := 21) (code := bodyOf Try.f21) (N := N) (T := (laws_markInt64S_T N)) (L := laws_markInt64S_L) (io := (.int .i64)) (ins := [(.int .i64)]) (outs := [.val (.int .i64)]) (res := [4]) mixed tt_ok ?_ Try.func21 (by kernel_rfl) rfl (by kernel_rfl) (by kernel_rfl) (by decide +kernel)
  · rw [laws_markInt64S_eq] at h
    exact h
  · intro f e he
    cases he

/- laws.heldInt64S -/
def laws_heldInt64S (N : Nat) (x0 : List Int) (x1 : Int) : Option (Int × Unit) :=
  loopN (fun (s1 : Int × Int × Unit) next2 =>
    cond (decide (s1.2.1 < (List.length x0 : Int)))
      (Option.bind (idx x0 s1.2.1) fun v3 =>
      cond (v3 != s1.1)
        (some ((-1), ()))
        (next2 ((w64 (s1.1 + 1)), (w64 (s1.2.1 + 1)), ())))
      (some (s1.1, ()))) N (x1, 0, ())
def laws_heldInt64S_e (N : Nat) : Ent := { ins := [(.sl (.int .i64)), (.int .i64)], outs := [.val (.int .i64)], F := fun x => laws_heldInt64S N x.1 x.2.1 }
def laws_heldInt64S_T (_ : Nat) : Nat → List EntX := fun _ => []
def laws_heldInt64S_L : Nat → List (Nat × TK)
  | 2 => [(1, .v (.int .i64)), (5, .v (.int .i64))]
  | _ => []
theorem laws_heldInt64S_eq (N : Nat) : runF N tt (laws_heldInt64S_T N) laws_heldInt64S_L [(.sl (.int .i64)), (.int .i64)] [.val (.int .i64)] (bodyOf Try.f22) Try.f22.ntmps [4] = (laws_heldInt64S_e N).F := by
  funext x
  kernel_rfl
theorem laws_heldInt64S_sound (N : Nat) : SoundC Try.prog 22 (laws_heldInt64S_e N) := by
  have h := runF_sound (f := 22) (code := bodyOf Try.f22) (N := N) (T := (laws_heldInt64S_T N)) (L := laws_heldInt64S_L) (ins := [(.sl (.int .i64)), (.int .i64)]) (outs := [.val (.int .i64)]) (res := [4]) mixed tt_ok ?_ Try.func22 (by kernel_rfl) rfl (by kernel_rfl) (by kernel_rfl) (by decide +kernel)
  · rw [laws_heldInt64S_eq] at h
    exact h
  · intro f e he
    cases he

/- laws.FnExactBestFlow -/
def laws_FnExactBestFlow (N : Nat) (x0 : List Int) (x1 : Int) : Option (Bool × Unit) :=
  cond (decide ((List.length x0 : Int) > 1048576))
    (some (true, ()))
    (Option.bind (laws_toInt64S N x0) fun r1 =>
    Option.bind (spec_BestFlow N r1.1 x1) fun r2 =>
    Option.bind (laws_toInt64S N x0) fun r3 =>
    Option.bind (impl_BestFlow N r3.1 x1) fun r4 =>
    Option.bind (laws_eqInt64S N r4.1 r2.1) fun r5 =>
    cond (!r5.1)
      (some (false, ()))
      (cond (r4.2.1 != r2.2.1)
        (some (false, ()))
        (cond (!(r4.2.2.1 == r2.2.2.1))
          (some (false, ()))
          (Option.bind (laws_toInt64S N x0) fun r6 =>
          Option.bind (laws_eqInt64S N r3.1 r6.1) fun r7 =>
          cond (!r7.1)
            (some (false, ()))
            (Option.bind (laws_markInt64S N r3.1 1) fun r8 =>
            cond (Nat.beq (List.length r8.1) (List.length r3.1))
              (cond (decide (r8.2.1 < 0))
                (some (false, ()))
                (Option.bind (laws_eqInt64S N r4.1 r2.1) fun r9 =>
                cond (!r9.1)
                  (some (false, ()))
                  (cond (r4.2.1 != r2.2.1)
                    (some (false, ()))
                    (cond (!(r4.2.2.1 == r2.2.2.1))
                      (some (false, ()))
                      (Option.bind (laws_markInt64S N r4.1 1) fun r10 =>
                      cond (Nat.beq (List.length r10.1) (List.length r4.1))
                        (Option.bind (laws_heldInt64S N r10.1 1) fun r11 =>
                        cond (decide (r11.1 < 0))
                          (some (false, ()))
                          (cond (r11.1 != r10.2.1)
                            (some (false, ()))
                            (Option.bind (laws_toInt64S N x0) fun r12 =>
                            Option.bind (impl_BestFlow N r12.1 x1) fun r13 =>
                            Option.bind (laws_eqInt64S N r13.1 r2.1) fun r14 =>
                            cond (!r14.1)
                              (some (false, ()))
                              (cond (r13.2.1 != r2.2.1)
                                (some (false, ()))
                                (cond (!(r13.2.2.1 == r2.2.2.1))
                                  (some (false, ()))
                                  (Option.bind (laws_heldInt64S N r10.1 1) fun r15 =>
                                  cond (decide (r15.1 < 0))
                                    (some (false, ()))
                                    (cond (r15.1 != r10.2.1)
                                      (some (false, ()))
                                      (some (true, ()))))))))) none))))) none)))))
def laws_FnExactBestFlow_e (N : Nat) : Ent := { ins := [(.sl (.int .i64)), (.int .i64)], outs := [.val .bool], F := fun x => laws_FnExactBestFlow N x.1 x.2.1 }
def laws_FnExactBestFlow_T (N : Nat) : Nat → List EntX
  | 16 => [.pl (laws_toInt64S_e N)]
  | 18 => [.pl (laws_eqInt64S_e N)]
  | 19 => [.pl (spec_BestFlow_e N)]
  | 20 => [.pl (impl_BestFlow_e N)]
  | 21 => [.mu (laws_markInt64S_e N)]
  | 22 => [.pl (laws_heldInt64S_e N)]
  | _ => []
def laws_FnExactBestFlow_L : Nat → List (Nat × TK) := fun _ => []
theorem laws_FnExactBestFlow_eq (N : Nat) : runF N tt (laws_FnExactBestFlow_T N) laws_FnExactBestFlow_L [(.sl (.int .i64)), (.int .i64)] [.val .bool] (bodyOf Try.f4) Try.f4.ntmps [4] = (laws_FnExactBestFlow_e N).F := by
  funext x
  kernel_rfl
theorem laws_FnExactBestFlow_sound (N : Nat) : SoundC Try.prog 4 (laws_FnExactBestFlow_e N) := by
  have h := runF_sound (f := 4) (code := bodyOf Try.f4) (N := N) (T := (laws_FnExactBestFlow_T N)) (L := laws_FnExactBestFlow_L) (ins := [(.sl (.int .i64)), (.int .i64)]) (outs := [.val .bool]) (res := [4]) mixed tt_ok ?_ Try.func4 (by kernel_rfl) rfl (by kernel_rfl) (by kernel_rfl) (by decide +kernel)
  · rw [laws_FnExactBestFlow_eq] at h
    exact h
  · intro f e he
    unfold laws_FnExactBestFlow_T at he
    split at he
    · rw [List.mem_singleton.1 he]; exact laws_toInt64S_sound N
    · rw [List.mem_singleton.1 he]; exact laws_eqInt64S_sound N
    · rw [List.mem_singleton.1 he]; exact spec_BestFlow_sound N
    · rw [List.mem_singleton.1 he]; exact impl_BestFlow_sound N
    · rw [List.mem_singleton.1 he]; exact laws_markInt64S_sound N
    · rw [List.mem_singleton.1 he]; exact laws_heldInt64S_sound N
    · cases he

end Go.Proofs.Ytblmginpolckoaa
