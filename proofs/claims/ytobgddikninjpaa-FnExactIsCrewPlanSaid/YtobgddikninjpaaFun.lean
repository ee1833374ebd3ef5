/-
  The plain functions of this seat, printed by a program, each equal to the evaluator's run, with its contract. No condition.
-/
import Derived.Test.YtobgddikninjpaaFwV
import Derived.Test.YtobgddikninjpaaChecked
namespace Go.Proofs.Ytobgddikninjpaa
open Go Go.Proofs.Ytobgddikninjpaa.Fw
set_option maxRecDepth 100000
set_option linter.unusedVariables false

theorem mixed : Try.prog.follows .mixedOrders = true := Try.checked.mixed
def tt : Nat → TD
  | 2 => tdInt .i64
  | 3 => tdInt .i64
  | 4 => tdBool
  | 22 => tdSl (.pair (.int .i64) (.pair (.int .i64) (.pair (.sl (.int .i64)) (.sl (.int .i64))))) 64
  | 23 => tdSl (.int .i64) 8
  | 27 => tdSl (.pair (.int .i64) (.pair (.int .i64) (.pair (.sl (.int .i64)) (.sl (.int .i64))))) 64
  | 52 => tdSt 4 [(0, 1, false), (1, 1, false), (2, 1, false), (3, 1, false)] [.g (.int .i64) (0 : Int), .g (.int .i64) (0 : Int), .nil, .nil]
  | 55 => tdSt 4 [(0, 1, false), (1, 1, false), (2, 1, false), (3, 1, false)] [.g (.int .i64) (0 : Int), .g (.int .i64) (0 : Int), .nil, .nil]
  | _ => tdNone
theorem tt_2 : TDok Try.prog 2 (tdInt .i64) := tdok_int (b := 8) (by kernel_rfl) (by kernel_rfl)
theorem tt_3 : TDok Try.prog 3 (tdInt .i64) := tdok_int (b := 8) (by kernel_rfl) (by kernel_rfl)
theorem tt_4 : TDok Try.prog 4 (tdBool) := tdok_bool (b := 1) (by kernel_rfl) (by kernel_rfl)
theorem tt_22 : TDok Try.prog 22 (tdSl (.pair (.int .i64) (.pair (.int .i64) (.pair (.sl (.int .i64)) (.sl (.int .i64))))) 64) := tdok_sl (b := 24) (e := 52) (z := (.agg #[(.int .i64 0), (.int .i64 0), (.slice none 0 0), (.slice none 0 0)])) (by kernel_rfl) (by kernel_rfl) (by kernel_rfl) (by decide) (fun _ => by kernel_rfl)
theorem tt_23 : TDok Try.prog 23 (tdSl (.int .i64) 8) := tdok_sl (b := 24) (e := 2) (z := (.int .i64 0)) (by kernel_rfl) (by kernel_rfl) (by kernel_rfl) (by decide) (fun _ => by kernel_rfl)
theorem tt_27 : TDok Try.prog 27 (tdSl (.pair (.int .i64) (.pair (.int .i64) (.pair (.sl (.int .i64)) (.sl (.int .i64))))) 64) := tdok_sl (b := 24) (e := 55) (z := (.agg #[(.int .i64 0), (.int .i64 0), (.slice none 0 0), (.slice none 0 0)])) (by kernel_rfl) (by kernel_rfl) (by kernel_rfl) (by decide) (fun _ => by kernel_rfl)
theorem tt_52 : TDok Try.prog 52 (tdSt 4 [(0, 1, false), (1, 1, false), (2, 1, false), (3, 1, false)] [.g (.int .i64) (0 : Int), .g (.int .i64) (0 : Int), .nil, .nil]) := tdok_st (b := 64) (z := (.agg #[(.int .i64 0), (.int .i64 0), (.slice none 0 0), (.slice none 0 0)])) (by kernel_rfl) (by kernel_rfl) (by kernel_rfl) (by kernel_rfl) (by kernel_rfl)
theorem tt_55 : TDok Try.prog 55 (tdSt 4 [(0, 1, false), (1, 1, false), (2, 1, false), (3, 1, false)] [.g (.int .i64) (0 : Int), .g (.int .i64) (0 : Int), .nil, .nil]) := tdok_st (b := 64) (z := (.agg #[(.int .i64 0), (.int .i64 0), (.slice none 0 0), (.slice none 0 0)])) (by kernel_rfl) (by kernel_rfl) (by kernel_rfl) (by kernel_rfl) (by kernel_rfl)
theorem tt_ok (t : Nat) : TDok Try.prog t (tt t) := by
  unfold tt
  split
  · exact tt_2
  · exact tt_3
  · exact tt_4
  · exact tt_22
  · exact tt_23
  · exact tt_27
  · exact tt_52
  · exact tt_55
  · exact tdok_none

/- laws.szInt64S -/
def laws_szInt64S (_N : Nat) (x0 : List Int) (x1 : Int) : Option (Int × Unit) :=
  cond (decide ((w64 (x1 - (List.length x0 : Int))) < 0))
    (some ((-1), ()))
    (some ((w64 (x1 - (List.length x0 : Int))), ()))
def laws_szInt64S_e (N : Nat) : Ent := { ins := [(.sl (.int .i64)), (.int .i64)], outs := [.val (.int .i64)], F := fun x => laws_szInt64S N x.1 x.2.1 }
def laws_szInt64S_T (_ : Nat) : Nat → List EntX := fun _ => []
def laws_szInt64S_L : Nat → List (Nat × TK) := fun _ => []
theorem laws_szInt64S_eq (N : Nat) : runF N tt (laws_szInt64S_T N) laws_szInt64S_L [(.sl (.int .i64)), (.int .i64)] [.val (.int .i64)] (bodyOf Try.f85) Try.f85.ntmps [4] = (laws_szInt64S_e N).F := by
  funext x
  kernel_rfl
theorem laws_szInt64S_sound (N : Nat) : SoundC Try.prog 85 (laws_szInt64S_e N) := by
  have h := runF_sound (f := 85) (code := bodyOf Try.f85) (N := N) (T := laws_szInt64S_T N) (L := laws_szInt64S_L) (ins := [(.sl (.int .i64)), (.int .i64)]) (outs := [.val (.int .i64)]) (res := [4]) mixed tt_ok ?_ Try.func85 (by kernel_rfl) rfl (by kernel_rfl) (by kernel_rfl) (by decide +kernel)
  · rw [laws_szInt64S_eq] at h
    exact h
  · intro f e he
    cases he

/- laws.szTask -/
def laws_szTask (N : Nat) (x0 : Int × Int × (List Int) × List Int) (x1 : Int) : Option (Int × Unit) :=
  Option.bind (laws_szInt64S N x0.2.2.1 x1) fun r1 =>
  cond (decide (r1.1 < 0))
    (some ((-1), ()))
    (Option.bind (laws_szInt64S N x0.2.2.2 r1.1) fun r2 =>
    cond (decide (r2.1 < 0))
      (some ((-1), ()))
      (some (r2.1, ())))
def laws_szTask_e (N : Nat) : Ent := { ins := [(.pair (.int .i64) (.pair (.int .i64) (.pair (.sl (.int .i64)) (.sl (.int .i64))))), (.int .i64)], outs := [.val (.int .i64)], F := fun x => laws_szTask N x.1 x.2.1 }
def laws_szTask_T (N : Nat) : Nat → List EntX
  | 85 => [.pl (laws_szInt64S_e N)]
  | _ => []
def laws_szTask_L : Nat → List (Nat × TK) := fun _ => []
theorem laws_szTask_eq (N : Nat) : runF N tt (laws_szTask_T N) laws_szTask_L [(.pair (.int .i64) (.pair (.int .i64) (.pair (.sl (.int .i64)) (.sl (.int .i64))))), (.int .i64)] [.val (.int .i64)] (bodyOf Try.f47) Try.f47.ntmps [4] = (laws_szTask_e N).F := by
  funext x
  kernel_rfl
theorem laws_szTask_sound (N : Nat) : SoundC Try.prog 47 (laws_szTask_e N) := by
  have h := runF_sound (f := 47) (code := bodyOf Try.f47) (N := N) (T := laws_szTask_T N) (L := laws_szTask_L) (ins := [(.pair (.int .i64) (.pair (.int .i64) (.pair (.sl (.int .i64)) (.sl (.int .i64))))), (.int .i64)]) (outs := [.val (.int .i64)]) (res := [4]) mixed tt_ok ?_ Try.func47 (by kernel_rfl) rfl (by kernel_rfl) (by kernel_rfl) (by decide +kernel)
  · rw [laws_szTask_eq] at h
    exact h
  · intro f e he
    unfold laws_szTask_T at he
    split at he
    · rw [List.mem_singleton.1 he]; exact laws_szInt64S_sound N
    · cases he

/- laws.szTaskS -/
def laws_szTaskS (N : Nat) (x0 : List (Int × Int × (List Int) × List Int)) (x1 : Int) : Option (Int × Unit) :=
  cond (decide ((w64 (x1 - (List.length x0 : Int))) < 0))
    (some ((-1), ()))
    (loopN (fun (s1 : Int × Int × Unit) next2 =>
      cond (decide (s1.2.1 < (List.length x0 : Int)))
        (Option.bind (idx x0 s1.2.1) fun v3 =>
        Option.bind (laws_szTask N v3 s1.1) fun r4 =>
        cond (decide (r4.1 < 0))
          (some ((-1), ()))
          (next2 (r4.1, (w64 (s1.2.1 + 1)), ())))
        (some (s1.1, ()))) N ((w64 (x1 - (List.length x0 : Int))), 0, ()))
def laws_szTaskS_e (N : Nat) : Ent := { ins := [(.sl (.pair (.int .i64) (.pair (.int .i64) (.pair (.sl (.int .i64)) (.sl (.int .i64)))))), (.int .i64)], outs := [.val (.int .i64)], F := fun x => laws_szTaskS N x.1 x.2.1 }
def laws_szTaskS_T (N : Nat) : Nat → List EntX
  | 47 => [.pl (laws_szTask_e N)]
  | _ => []
def laws_szTaskS_L : Nat → List (Nat × TK)
  | 5 => [(1, .v (.int .i64)), (5, .v (.int .i64))]
  | _ => []
theorem laws_szTaskS_eq (N : Nat) : runF N tt (laws_szTaskS_T N) laws_szTaskS_L [(.sl (.pair (.int .i64) (.pair (.int .i64) (.pair (.sl (.int .i64)) (.sl (.int .i64)))))), (.int .i64)] [.val (.int .i64)] (bodyOf Try.f15) Try.f15.ntmps [4] = (laws_szTaskS_e N).F := by
  funext x
  kernel_rfl
theorem laws_szTaskS_sound (N : Nat) : SoundC Try.prog 15 (laws_szTaskS_e N) := by
  have h := runF_sound (f := 15) (code := bodyOf Try.f15) (N := N) (T := laws_szTaskS_T N) (L := laws_szTaskS_L) (ins := [(.sl (.pair (.int .i64) (.pair (.int .i64) (.pair (.sl (.int .i64)) (.sl (.int .i64)))))), (.int .i64)]) (outs := [.val (.int .i64)]) (res := [4]) mixed tt_ok ?_ Try.func15 (by kernel_rfl) rfl (by kernel_rfl) (by kernel_rfl) (by decide +kernel)
  · rw [laws_szTaskS_eq] at h
    exact h
  · intro f e he
    unfold laws_szTaskS_T at he
    split at he
    · rw [List.mem_singleton.1 he]; exact laws_szTask_sound N
    · cases he

/- spec.l00In -/
def spec_l00In (_N : Nat) (x0 : Int) (x1 : Int) (x2 : Int) : Option (Bool × Unit) :=
  cond (decide (x0 ≥ x1))
    (some ((decide (x0 ≤ x2)), ()))
    (some (false, ()))
def spec_l00In_e (N : Nat) : Ent := { ins := [(.int .i64), (.int .i64), (.int .i64)], outs := [.val .bool], F := fun x => spec_l00In N x.1 x.2.1 x.2.2.1 }
def spec_l00In_T (_ : Nat) : Nat → List EntX := fun _ => []
def spec_l00In_L : Nat → List (Nat × TK) := fun _ => []
theorem spec_l00In_eq (N : Nat) : runF N tt (spec_l00In_T N) spec_l00In_L [(.int .i64), (.int .i64), (.int .i64)] [.val .bool] (bodyOf Try.f49) Try.f49.ntmps [6] = (spec_l00In_e N).F := by
  funext x
  kernel_rfl
theorem spec_l00In_sound (N : Nat) : SoundC Try.prog 49 (spec_l00In_e N) := by
  have h := runF_sound (f := 49) (code := bodyOf Try.f49) (N := N) (T := spec_l00In_T N) (L := spec_l00In_L) (ins := [(.int .i64), (.int .i64), (.int .i64)]) (outs := [.val .bool]) (res := [6]) mixed tt_ok ?_ Try.func49 (by kernel_rfl) rfl (by kernel_rfl) (by kernel_rfl) (by decide +kernel)
  · rw [spec_l00In_eq] at h
    exact h
  · intro f e he
    cases he

/- spec.l03Task -/
def spec_l03Task (N : Nat) (x0 : Int × Int × (List Int) × List Int) (x1 : Int) : Option (Bool × Unit) :=
  Option.bind (spec_l00In N x0.1 0 100) fun r1 =>
  cond (!r1.1)
    (some (false, ()))
    (Option.bind (spec_l00In N x0.2.1 0 20) fun r2 =>
    cond (!r2.1)
      (some (false, ()))
      (cond ((List.length x0.2.2.2 : Int) != (List.length x0.2.2.1 : Int))
        (some (false, ()))
        (loopN (fun (s3 : Int × Unit) next4 =>
          cond (decide (s3.1 < (List.length x0.2.2.1 : Int)))
            (Option.bind (idx x0.2.2.1 s3.1) fun v5 =>
            Option.bind (spec_l00In N v5 0 (w64 (x1 - 1))) fun r6 =>
            cond (!r6.1)
              (some (false, ()))
              (cond (decide (s3.1 > 0))
                (Option.bind (idx x0.2.2.1 s3.1) fun v7 =>
                Option.bind (idx x0.2.2.1 (w64 (s3.1 - 1))) fun v8 =>
                cond (decide (v7 ≤ v8))
                  (some (false, ()))
                  (Option.bind (idx x0.2.2.2 s3.1) fun v9 =>
                  Option.bind (spec_l00In N v9 (-100) 100) fun r10 =>
                  cond (!r10.1)
                    (some (false, ()))
                    (next4 ((w64 (s3.1 + 1)), ()))))
                (Option.bind (idx x0.2.2.2 s3.1) fun v11 =>
                Option.bind (spec_l00In N v11 (-100) 100) fun r12 =>
                cond (!r12.1)
                  (some (false, ()))
                  (next4 ((w64 (s3.1 + 1)), ())))))
            (some (true, ()))) N (0, ()))))
def spec_l03Task_e (N : Nat) : Ent := { ins := [(.bx (.pair (.int .i64) (.pair (.int .i64) (.pair (.sl (.int .i64)) (.sl (.int .i64)))))), (.int .i64)], outs := [.val .bool], F := fun x => spec_l03Task N x.1 x.2.1 }
def spec_l03Task_T (N : Nat) : Nat → List EntX
  | 49 => [.pl (spec_l00In_e N)]
  | _ => []
def spec_l03Task_L : Nat → List (Nat × TK)
  | 4 => [(38, .v (.int .i64))]
  | _ => []
theorem spec_l03Task_eq (N : Nat) : runF N tt (spec_l03Task_T N) spec_l03Task_L [(.bx (.pair (.int .i64) (.pair (.int .i64) (.pair (.sl (.int .i64)) (.sl (.int .i64)))))), (.int .i64)] [.val .bool] (bodyOf Try.f86) Try.f86.ntmps [4] = (spec_l03Task_e N).F := by
  funext x
  kernel_rfl
theorem spec_l03Task_sound (N : Nat) : SoundC Try.prog 86 (spec_l03Task_e N) := by
  have h := runF_sound (f := 86) (code := bodyOf Try.f86) (N := N) (T := spec_l03Task_T N) (L := spec_l03Task_L) (ins := [(.bx (.pair (.int .i64) (.pair (.int .i64) (.pair (.sl (.int .i64)) (.sl (.int .i64)))))), (.int .i64)]) (outs := [.val .bool]) (res := [4]) mixed tt_ok ?_ Try.func86 (by kernel_rfl) rfl (by kernel_rfl) (by kernel_rfl) (by decide +kernel)
  · rw [spec_l03Task_eq] at h
    exact h
  · intro f e he
    unfold spec_l03Task_T at he
    split at he
    · rw [List.mem_singleton.1 he]; exact spec_l00In_sound N
    · cases he

/- spec.l03Are -/
def spec_l03Are (N : Nat) (x0 : List (Int × Int × (List Int) × List Int)) : Option (Bool × Unit) :=
  loopN (fun (s1 : Int × Unit) next2 =>
    cond (decide (s1.1 < (List.length x0 : Int)))
      (Option.bind (idx x0 s1.1) fun v3 =>
      Option.bind (spec_l03Task N v3 s1.1) fun r4 =>
      cond (!r4.1)
        (some (false, ()))
        (next2 ((w64 (s1.1 + 1)), ())))
      (cond (decide ((List.length x0 : Int) ≥ 1))
        (some ((decide ((List.length x0 : Int) ≤ 16)), ()))
        (some (false, ())))) N (0, ())
def spec_l03Are_e (N : Nat) : Ent := { ins := [(.sl (.pair (.int .i64) (.pair (.int .i64) (.pair (.sl (.int .i64)) (.sl (.int .i64))))))], outs := [.val .bool], F := fun x => spec_l03Are N x.1 }
def spec_l03Are_T (N : Nat) : Nat → List EntX
  | 86 => [.pl (spec_l03Task_e N)]
  | _ => []
def spec_l03Are_L : Nat → List (Nat × TK)
  | 2 => [(6, .v (.int .i64))]
  | _ => []
theorem spec_l03Are_eq (N : Nat) : runF N tt (spec_l03Are_T N) spec_l03Are_L [(.sl (.pair (.int .i64) (.pair (.int .i64) (.pair (.sl (.int .i64)) (.sl (.int .i64))))))] [.val .bool] (bodyOf Try.f57) Try.f57.ntmps [2] = (spec_l03Are_e N).F := by
  funext x
  kernel_rfl
theorem spec_l03Are_sound (N : Nat) : SoundC Try.prog 57 (spec_l03Are_e N) := by
  have h := runF_sound (f := 57) (code := bodyOf Try.f57) (N := N) (T := spec_l03Are_T N) (L := spec_l03Are_L) (ins := [(.sl (.pair (.int .i64) (.pair (.int .i64) (.pair (.sl (.int .i64)) (.sl (.int .i64))))))]) (outs := [.val .bool]) (res := [2]) mixed tt_ok ?_ Try.func57 (by kernel_rfl) rfl (by kernel_rfl) (by kernel_rfl) (by decide +kernel)
  · rw [spec_l03Are_eq] at h
    exact h
  · intro f e he
    unfold spec_l03Are_T at he
    split at he
    · rw [List.mem_singleton.1 he]; exact spec_l03Task_sound N
    · cases he

/- spec.l03Starts -/
def spec_l03Starts (N : Nat) (x0 : List (Int × Int × (List Int) × List Int)) (x1 : List Int) : Option (Bool × Unit) :=
  Option.bind (spec_l03Are N x0) fun r1 =>
  cond (!r1.1)
    (some (false, ()))
    (cond ((List.length x1 : Int) != (List.length x0 : Int))
      (some (false, ()))
      (loopN (fun (s2 : Int × Unit) next3 =>
        cond (decide (s2.1 < (List.length x1 : Int)))
          (Option.bind (idx x1 s2.1) fun v4 =>
          Option.bind (spec_l00In N v4 0 100000) fun r5 =>
          cond (!r5.1)
            (some (false, ()))
            (next3 ((w64 (s2.1 + 1)), ())))
          (some (true, ()))) N (0, ())))
def spec_l03Starts_e (N : Nat) : Ent := { ins := [(.sl (.pair (.int .i64) (.pair (.int .i64) (.pair (.sl (.int .i64)) (.sl (.int .i64)))))), (.sl (.int .i64))], outs := [.val .bool], F := fun x => spec_l03Starts N x.1 x.2.1 }
def spec_l03Starts_T (N : Nat) : Nat → List EntX
  | 49 => [.pl (spec_l00In_e N)]
  | 57 => [.pl (spec_l03Are_e N)]
  | _ => []
def spec_l03Starts_L : Nat → List (Nat × TK)
  | 4 => [(18, .v (.int .i64))]
  | _ => []
theorem spec_l03Starts_eq (N : Nat) : runF N tt (spec_l03Starts_T N) spec_l03Starts_L [(.sl (.pair (.int .i64) (.pair (.int .i64) (.pair (.sl (.int .i64)) (.sl (.int .i64)))))), (.sl (.int .i64))] [.val .bool] (bodyOf Try.f48) Try.f48.ntmps [4] = (spec_l03Starts_e N).F := by
  funext x
  kernel_rfl
theorem spec_l03Starts_sound (N : Nat) : SoundC Try.prog 48 (spec_l03Starts_e N) := by
  have h := runF_sound (f := 48) (code := bodyOf Try.f48) (N := N) (T := spec_l03Starts_T N) (L := spec_l03Starts_L) (ins := [(.sl (.pair (.int .i64) (.pair (.int .i64) (.pair (.sl (.int .i64)) (.sl (.int .i64)))))), (.sl (.int .i64))]) (outs := [.val .bool]) (res := [4]) mixed tt_ok ?_ Try.func48 (by kernel_rfl) rfl (by kernel_rfl) (by kernel_rfl) (by decide +kernel)
  · rw [spec_l03Starts_eq] at h
    exact h
  · intro f e he
    unfold spec_l03Starts_T at he
    split at he
    · rw [List.mem_singleton.1 he]; exact spec_l00In_sound N
    · rw [List.mem_singleton.1 he]; exact spec_l03Are_sound N
    · cases he

/- spec.l00Max -/
def spec_l00Max (_N : Nat) (x0 : Int) (x1 : Int) : Option (Int × Unit) :=
  cond (decide (x0 > x1))
    (some (x0, ()))
    (some (x1, ()))
def spec_l00Max_e (N : Nat) : Ent := { ins := [(.int .i64), (.int .i64)], outs := [.val (.int .i64)], F := fun x => spec_l00Max N x.1 x.2.1 }
def spec_l00Max_T (_ : Nat) : Nat → List EntX := fun _ => []
def spec_l00Max_L : Nat → List (Nat × TK) := fun _ => []
theorem spec_l00Max_eq (N : Nat) : runF N tt (spec_l00Max_T N) spec_l00Max_L [(.int .i64), (.int .i64)] [.val (.int .i64)] (bodyOf Try.f50) Try.f50.ntmps [4] = (spec_l00Max_e N).F := by
  funext x
  kernel_rfl
theorem spec_l00Max_sound (N : Nat) : SoundC Try.prog 50 (spec_l00Max_e N) := by
  have h := runF_sound (f := 50) (code := bodyOf Try.f50) (N := N) (T := spec_l00Max_T N) (L := spec_l00Max_L) (ins := [(.int .i64), (.int .i64)]) (outs := [.val (.int .i64)]) (res := [4]) mixed tt_ok ?_ Try.func50 (by kernel_rfl) rfl (by kernel_rfl) (by kernel_rfl) (by decide +kernel)
  · rw [spec_l00Max_eq] at h
    exact h
  · intro f e he
    cases he

/- spec.l00Min -/
def spec_l00Min (_N : Nat) (x0 : Int) (x1 : Int) : Option (Int × Unit) :=
  cond (decide (x0 < x1))
    (some (x0, ()))
    (some (x1, ()))
def spec_l00Min_e (N : Nat) : Ent := { ins := [(.int .i64), (.int .i64)], outs := [.val (.int .i64)], F := fun x => spec_l00Min N x.1 x.2.1 }
def spec_l00Min_T (_ : Nat) : Nat → List EntX := fun _ => []
def spec_l00Min_L : Nat → List (Nat × TK) := fun _ => []
theorem spec_l00Min_eq (N : Nat) : runF N tt (spec_l00Min_T N) spec_l00Min_L [(.int .i64), (.int .i64)] [.val (.int .i64)] (bodyOf Try.f51) Try.f51.ntmps [4] = (spec_l00Min_e N).F := by
  funext x
  kernel_rfl
theorem spec_l00Min_sound (N : Nat) : SoundC Try.prog 51 (spec_l00Min_e N) := by
  have h := runF_sound (f := 51) (code := bodyOf Try.f51) (N := N) (T := spec_l00Min_T N) (L := spec_l00Min_L) (ins := [(.int .i64), (.int .i64)]) (outs := [.val (.int .i64)]) (res := [4]) mixed tt_ok ?_ Try.func51 (by kernel_rfl) rfl (by kernel_rfl) (by kernel_rfl) (by decide +kernel)
  · rw [spec_l00Min_eq] at h
    exact h
  · intro f e he
    cases he

/- spec.ProgressOf -/
def spec_ProgressOf (N : Nat) (x0 : List (Int × Int × (List Int) × List Int)) (x1 : List Int) (x2 : Int) : Option (Int × Int × Bool × Unit) :=
  Option.bind (spec_l03Starts N x0 x1) fun r1 =>
  cond (!r1.1)
    (some (0, 0, false, ()))
    (Option.bind (spec_l00In N x2 0 100000) fun r2 =>
    cond (!r2.1)
      (some (0, 0, false, ()))
      (loopN (fun (s3 : Int × Int × Int × Unit) next4 =>
        cond (decide (s3.2.2.1 < (List.length x0 : Int)))
          (Option.bind (idx x0 s3.2.2.1) fun v5 =>
          Option.bind (idx x0 s3.2.2.1) fun v6 =>
          Option.bind (idx x0 s3.2.2.1) fun v7 =>
          Option.bind (idx x0 s3.2.2.1) fun v8 =>
          Option.bind (idx x1 s3.2.2.1) fun v9 =>
          Option.bind (spec_l00Min N v8.1 (w64 (x2 - v9))) fun r10 =>
          Option.bind (spec_l00Max N 0 r10.1) fun r11 =>
          next4 ((w64 (s3.1 + (w64 (v7.2.1 * r11.1)))), (w64 (s3.2.1 + (w64 (v5.1 * v6.2.1)))), (w64 (s3.2.2.1 + 1)), ()))
          (some (s3.1, s3.2.1, true, ()))) N (0, 0, 0, ())))
def spec_ProgressOf_e (N : Nat) : Ent := { ins := [(.sl (.pair (.int .i64) (.pair (.int .i64) (.pair (.sl (.int .i64)) (.sl (.int .i64)))))), (.sl (.int .i64)), (.int .i64)], outs := [.val (.int .i64), .val (.int .i64), .val .bool], F := fun x => spec_ProgressOf N x.1 x.2.1 x.2.2.1 }
def spec_ProgressOf_T (N : Nat) : Nat → List EntX
  | 48 => [.pl (spec_l03Starts_e N)]
  | 49 => [.pl (spec_l00In_e N)]
  | 50 => [.pl (spec_l00Max_e N)]
  | 51 => [.pl (spec_l00Min_e N)]
  | _ => []
def spec_ProgressOf_L : Nat → List (Nat × TK)
  | 6 => [(9, .v (.int .i64)), (10, .v (.int .i64)), (23, .v (.int .i64))]
  | _ => []
theorem spec_ProgressOf_eq (N : Nat) : runF N tt (spec_ProgressOf_T N) spec_ProgressOf_L [(.sl (.pair (.int .i64) (.pair (.int .i64) (.pair (.sl (.int .i64)) (.sl (.int .i64)))))), (.sl (.int .i64)), (.int .i64)] [.val (.int .i64), .val (.int .i64), .val .bool] (bodyOf Try.f16) Try.f16.ntmps [6, 7, 8] = (spec_ProgressOf_e N).F := by
  funext x
  kernel_rfl
theorem spec_ProgressOf_sound (N : Nat) : SoundC Try.prog 16 (spec_ProgressOf_e N) := by
  have h := runF_sound (f := 16) (code := bodyOf Try.f16) (N := N) (T := spec_ProgressOf_T N) (L := spec_ProgressOf_L) (ins := [(.sl (.pair (.int .i64) (.pair (.int .i64) (.pair (.sl (.int .i64)) (.sl (.int .i64)))))), (.sl (.int .i64)), (.int .i64)]) (outs := [.val (.int .i64), .val (.int .i64), .val .bool]) (res := [6, 7, 8]) mixed tt_ok ?_ Try.func16 (by kernel_rfl) rfl (by kernel_rfl) (by kernel_rfl) (by decide +kernel)
  · rw [spec_ProgressOf_eq] at h
    exact h
  · intro f e he
    unfold spec_ProgressOf_T at he
    split at he
    · rw [List.mem_singleton.1 he]; exact spec_l03Starts_sound N
    · rw [List.mem_singleton.1 he]; exact spec_l00In_sound N
    · rw [List.mem_singleton.1 he]; exact spec_l00Max_sound N
    · rw [List.mem_singleton.1 he]; exact spec_l00Min_sound N
    · cases he

/- laws.toInt64S -/
def laws_toInt64S (N : Nat) (x0 : List Int) : Option (List (Int) × Unit) :=
  cond (mkOk (List.length x0 : Int) (List.length x0 : Int))
    (let xs1 := (List.replicate (Int.toNat (List.length x0 : Int)) (0 : Int) : List (Int))
    loopN (fun (s2 : List (Int) × Int × Unit) next3 =>
      cond (decide (s2.2.1 < (List.length x0 : Int)))
        (Option.bind (idx x0 s2.2.1) fun v4 =>
        cond (inB s2.2.1 (List.length s2.1))
          (let xs5 := (List.set s2.1 (Int.toNat s2.2.1) v4)
          next3 (xs5, (w64 (s2.2.1 + 1)), ())) none)
        (some (s2.1, ()))) N (xs1, 0, ())) none
def laws_toInt64S_e (N : Nat) : Ent := { ins := [(.sl (.int .i64))], outs := [.own (.int .i64)], F := fun x => laws_toInt64S N x.1 }
def laws_toInt64S_T (_ : Nat) : Nat → List EntX := fun _ => []
def laws_toInt64S_L : Nat → List (Nat × TK)
  | 3 => [(3, .own (.int .i64)), (4, .v (.int .i64))]
  | _ => []
theorem laws_toInt64S_eq (N : Nat) : runF N tt (laws_toInt64S_T N) laws_toInt64S_L [(.sl (.int .i64))] [.own (.int .i64)] (bodyOf Try.f18) Try.f18.ntmps [2] = (laws_toInt64S_e N).F := by
  funext x
  kernel_rfl
theorem laws_toInt64S_sound (N : Nat) : SoundC Try.prog 18 (laws_toInt64S_e N) := by
  have h := runF_sound (f := 18) (code := bodyOf Try.f18) (N := N) (T := laws_toInt64S_T N) (L := laws_toInt64S_L) (ins := [(.sl (.int .i64))]) (outs := [.own (.int .i64)]) (res := [2]) mixed tt_ok ?_ Try.func18 (by kernel_rfl) rfl (by kernel_rfl) (by kernel_rfl) (by decide +kernel)
  · rw [laws_toInt64S_eq] at h
    exact h
  · intro f e he
    cases he

/- laws.toTask -/
def laws_toTask (N : Nat) (x0 : Int × Int × (List Int) × List Int) : Option ((Int × Int × (List Int) × List Int) × Unit) :=
  Option.bind (laws_toInt64S N x0.2.2.1) fun r1 =>
  Option.bind (laws_toInt64S N x0.2.2.2) fun r2 =>
  some ((x0.1, (x0.2.1, (r1.1, r2.1))), ())
def laws_toTask_e (N : Nat) : Ent := { ins := [(.pair (.int .i64) (.pair (.int .i64) (.pair (.sl (.int .i64)) (.sl (.int .i64)))))], outs := [.val (.nw (.pair (.int .i64) (.pair (.int .i64) (.pair (.sl (.int .i64)) (.sl (.int .i64))))))], F := fun x => laws_toTask N x.1 }
def laws_toTask_T (N : Nat) : Nat → List EntX
  | 18 => [.pl (laws_toInt64S_e N)]
  | _ => []
def laws_toTask_L : Nat → List (Nat × TK) := fun _ => []
theorem laws_toTask_eq (N : Nat) : runC N tt (laws_toTask_T N) laws_toTask_L [(.pair (.int .i64) (.pair (.int .i64) (.pair (.sl (.int .i64)) (.sl (.int .i64)))))] [.val (.nw (.pair (.int .i64) (.pair (.int .i64) (.pair (.sl (.int .i64)) (.sl (.int .i64))))))] (bodyOf Try.f52) Try.f52.ntmps [2] [(2, 55)] = (laws_toTask_e N).F := by
  funext x
  kernel_rfl
theorem laws_toTask_sound (N : Nat) : SoundC Try.prog 52 (laws_toTask_e N) := by
  have h := runC_sound (f := 52) (code := bodyOf Try.f52) (N := N) (T := laws_toTask_T N) (L := laws_toTask_L) (ins := [(.pair (.int .i64) (.pair (.int .i64) (.pair (.sl (.int .i64)) (.sl (.int .i64)))))]) (outs := [.val (.nw (.pair (.int .i64) (.pair (.int .i64) (.pair (.sl (.int .i64)) (.sl (.int .i64))))))]) (res := [2]) (rs := [.cell 2 55]) (cells := [(2, 55)]) mixed tt_ok ?_ Try.func52 (by kernel_rfl) rfl (by kernel_rfl) (by kernel_rfl) rfl rfl (by decide) (by decide +kernel) (by decide +kernel)
  · rw [laws_toTask_eq] at h
    exact h
  · intro f e he
    unfold laws_toTask_T at he
    split at he
    · rw [List.mem_singleton.1 he]; exact laws_toInt64S_sound N
    · cases he

/- laws.toTaskS -/
def laws_toTaskS (N : Nat) (x0 : List (Int × Int × (List Int) × List Int)) : Option (List (Int × Int × (List Int) × List Int) × Unit) :=
  cond (mkOk (List.length x0 : Int) (List.length x0 : Int))
    (let xs1 := (List.replicate (Int.toNat (List.length x0 : Int)) ((0 : Int), ((0 : Int), ([], []))) : List (Int × Int × (List Int) × List Int))
    loopN (fun (s2 : List (Int × Int × (List Int) × List Int) × Int × Unit) next3 =>
      cond (decide (s2.2.1 < (List.length x0 : Int)))
        (Option.bind (idx x0 s2.2.1) fun v4 =>
        Option.bind (laws_toTask N v4) fun r5 =>
        cond (inB s2.2.1 (List.length s2.1))
          (let xs6 := (List.set s2.1 (Int.toNat s2.2.1) r5.1)
          next3 (xs6, (w64 (s2.2.1 + 1)), ())) none)
        (some (s2.1, ()))) N (xs1, 0, ())) none
def laws_toTaskS_e (N : Nat) : Ent := { ins := [(.sl (.pair (.int .i64) (.pair (.int .i64) (.pair (.sl (.int .i64)) (.sl (.int .i64))))))], outs := [.own (.nw (.pair (.int .i64) (.pair (.int .i64) (.pair (.sl (.int .i64)) (.sl (.int .i64))))))], F := fun x => laws_toTaskS N x.1 }
def laws_toTaskS_T (N : Nat) : Nat → List EntX
  | 52 => [.pl (laws_toTask_e N)]
  | _ => []
def laws_toTaskS_L : Nat → List (Nat × TK)
  | 3 => [(3, .own (.nw (.pair (.int .i64) (.pair (.int .i64) (.pair (.sl (.int .i64)) (.sl (.int .i64))))))), (4, .v (.int .i64))]
  | _ => []
theorem laws_toTaskS_eq (N : Nat) : runF N tt (laws_toTaskS_T N) laws_toTaskS_L [(.sl (.pair (.int .i64) (.pair (.int .i64) (.pair (.sl (.int .i64)) (.sl (.int .i64))))))] [.own (.nw (.pair (.int .i64) (.pair (.int .i64) (.pair (.sl (.int .i64)) (.sl (.int .i64))))))] (bodyOf Try.f17) Try.f17.ntmps [2] = (laws_toTaskS_e N).F := by
  funext x
  kernel_rfl
theorem laws_toTaskS_sound (N : Nat) : SoundC Try.prog 17 (laws_toTaskS_e N) := by
  have h := runF_sound (f := 17) (code := bodyOf Try.f17) (N := N) (T := laws_toTaskS_T N) (L := laws_toTaskS_L) (ins := [(.sl (.pair (.int .i64) (.pair (.int .i64) (.pair (.sl (.int .i64)) (.sl (.int .i64))))))]) (outs := [.own (.nw (.pair (.int .i64) (.pair (.int .i64) (.pair (.sl (.int .i64)) (.sl (.int .i64))))))]) (res := [2]) mixed tt_ok ?_ Try.func17 (by kernel_rfl) rfl (by kernel_rfl) (by kernel_rfl) (by decide +kernel)
  · rw [laws_toTaskS_eq] at h
    exact h
  · intro f e he
    unfold laws_toTaskS_T at he
    split at he
    · rw [List.mem_singleton.1 he]; exact laws_toTask_sound N
    · cases he

/- impl.within -/
def impl_within (_N : Nat) (x0 : Int) (x1 : Int) (x2 : Int) : Option (Bool × Unit) :=
  cond (decide (x0 ≥ x1))
    (some ((decide (x0 ≤ x2)), ()))
    (some (false, ()))
def impl_within_e (N : Nat) : Ent := { ins := [(.int .i64), (.int .i64), (.int .i64)], outs := [.val .bool], F := fun x => impl_within N x.1 x.2.1 x.2.2.1 }
def impl_within_T (_ : Nat) : Nat → List EntX := fun _ => []
def impl_within_L : Nat → List (Nat × TK) := fun _ => []
theorem impl_within_eq (N : Nat) : runF N tt (impl_within_T N) impl_within_L [(.int .i64), (.int .i64), (.int .i64)] [.val .bool] (bodyOf Try.f55) Try.f55.ntmps [6] = (impl_within_e N).F := by
  funext x
  kernel_rfl
theorem impl_within_sound (N : Nat) : SoundC Try.prog 55 (impl_within_e N) := by
  have h := runF_sound (f := 55) (code := bodyOf Try.f55) (N := N) (T := impl_within_T N) (L := impl_within_L) (ins := [(.int .i64), (.int .i64), (.int .i64)]) (outs := [.val .bool]) (res := [6]) mixed tt_ok ?_ Try.func55 (by kernel_rfl) rfl (by kernel_rfl) (by kernel_rfl) (by decide +kernel)
  · rw [impl_within_eq] at h
    exact h
  · intro f e he
    cases he

/- impl.areWithin -/
def impl_areWithin (N : Nat) (x0 : List Int) (x1 : Int) (x2 : Int) : Option (Bool × Unit) :=
  loopN (fun (s1 : Int × Unit) next2 =>
    cond (decide (s1.1 < (List.length x0 : Int)))
      (Option.bind (idx x0 s1.1) fun v3 =>
      Option.bind (impl_within N v3 x1 x2) fun r4 =>
      cond (!r4.1)
        (some (false, ()))
        (next2 ((w64 (s1.1 + 1)), ())))
      (some (true, ()))) N (0, ())
def impl_areWithin_e (N : Nat) : Ent := { ins := [(.sl (.int .i64)), (.int .i64), (.int .i64)], outs := [.val .bool], F := fun x => impl_areWithin N x.1 x.2.1 x.2.2.1 }
def impl_areWithin_T (N : Nat) : Nat → List EntX
  | 55 => [.pl (impl_within_e N)]
  | _ => []
def impl_areWithin_L : Nat → List (Nat × TK)
  | 2 => [(11, .v (.int .i64))]
  | _ => []
theorem impl_areWithin_eq (N : Nat) : runF N tt (impl_areWithin_T N) impl_areWithin_L [(.sl (.int .i64)), (.int .i64), (.int .i64)] [.val .bool] (bodyOf Try.f68) Try.f68.ntmps [6] = (impl_areWithin_e N).F := by
  funext x
  kernel_rfl
theorem impl_areWithin_sound (N : Nat) : SoundC Try.prog 68 (impl_areWithin_e N) := by
  have h := runF_sound (f := 68) (code := bodyOf Try.f68) (N := N) (T := impl_areWithin_T N) (L := impl_areWithin_L) (ins := [(.sl (.int .i64)), (.int .i64), (.int .i64)]) (outs := [.val .bool]) (res := [6]) mixed tt_ok ?_ Try.func68 (by kernel_rfl) rfl (by kernel_rfl) (by kernel_rfl) (by decide +kernel)
  · rw [impl_areWithin_eq] at h
    exact h
  · intro f e he
    unfold impl_areWithin_T at he
    split at he
    · rw [List.mem_singleton.1 he]; exact impl_within_sound N
    · cases he

/- impl.AreTasks -/
def impl_AreTasks (N : Nat) (x0 : List (Int × Int × (List Int) × List Int)) : Option (Bool × Unit) :=
  loopN (fun (s1 : Int × Unit) next2 =>
    cond (decide (s1.1 < (List.length x0 : Int)))
      (Option.bind (idx x0 s1.1) fun v3 =>
      Option.bind (impl_within N v3.1 0 100) fun r4 =>
      cond (!r4.1)
        (some (false, ()))
        (Option.bind (impl_within N v3.2.1 0 20) fun r5 =>
        cond (!r5.1)
          (some (false, ()))
          (cond ((List.length v3.2.2.1 : Int) != (List.length v3.2.2.2 : Int))
            (some (false, ()))
            (Option.bind (impl_areWithin N v3.2.2.2 (-100) 100) fun r6 =>
            cond (!r6.1)
              (some (false, ()))
              (loopN (fun (s7 : Int × Unit) next8 =>
                cond (decide (s7.1 < (List.length v3.2.2.1 : Int)))
                  (Option.bind (idx v3.2.2.1 s7.1) fun v9 =>
                  Option.bind (impl_within N v9 0 (w64 (s1.1 - 1))) fun r10 =>
                  cond (!r10.1)
                    (some (false, ()))
                    (cond (decide (s7.1 > 0))
                      (Option.bind (idx v3.2.2.1 (w64 (s7.1 - 1))) fun v11 =>
                      cond (decide (v9 ≤ v11))
                        (some (false, ()))
                        (next8 ((w64 (s7.1 + 1)), ())))
                      (next8 ((w64 (s7.1 + 1)), ()))))
                  (next2 ((w64 (s1.1 + 1)), ()))) N (0, ()))))))
      (cond (decide ((List.length x0 : Int) ≥ 1))
        (some ((decide ((List.length x0 : Int) ≤ 16)), ()))
        (some (false, ())))) N (0, ())
def impl_AreTasks_e (N : Nat) : Ent := { ins := [(.sl (.pair (.int .i64) (.pair (.int .i64) (.pair (.sl (.int .i64)) (.sl (.int .i64))))))], outs := [.val .bool], F := fun x => impl_AreTasks N x.1 }
def impl_AreTasks_T (N : Nat) : Nat → List EntX
  | 55 => [.pl (impl_within_e N)]
  | 68 => [.pl (impl_areWithin_e N)]
  | _ => []
def impl_AreTasks_L : Nat → List (Nat × TK)
  | 2 => [(9, .v (.int .i64))]
  | 7 => [(42, .v (.int .i64))]
  | _ => []
theorem impl_AreTasks_eq (N : Nat) : runF N tt (impl_AreTasks_T N) impl_AreTasks_L [(.sl (.pair (.int .i64) (.pair (.int .i64) (.pair (.sl (.int .i64)) (.sl (.int .i64))))))] [.val .bool] (bodyOf Try.f53) Try.f53.ntmps [2] = (impl_AreTasks_e N).F := by
  funext x
  kernel_rfl
theorem impl_AreTasks_sound (N : Nat) : SoundC Try.prog 53 (impl_AreTasks_e N) := by
  have h := runF_sound (f := 53) (code := bodyOf Try.f53) (N := N) (T := impl_AreTasks_T N) (L := impl_AreTasks_L) (ins := [(.sl (.pair (.int .i64) (.pair (.int .i64) (.pair (.sl (.int .i64)) (.sl (.int .i64))))))]) (outs := [.val .bool]) (res := [2]) mixed tt_ok ?_ Try.func53 (by kernel_rfl) rfl (by kernel_rfl) (by kernel_rfl) (by decide +kernel)
  · rw [impl_AreTasks_eq] at h
    exact h
  · intro f e he
    unfold impl_AreTasks_T at he
    split at he
    · rw [List.mem_singleton.1 he]; exact impl_within_sound N
    · rw [List.mem_singleton.1 he]; exact impl_areWithin_sound N
    · cases he

/- impl.areMany -/
def impl_areMany (N : Nat) (x0 : List Int) (x1 : Int) (x2 : Int) (x3 : Int) (x4 : Int) : Option (Bool × Unit) :=
  cond (decide ((List.length x0 : Int) ≥ x1))
    (cond (decide ((List.length x0 : Int) ≤ x2))
      (Option.bind (impl_areWithin N x0 x3 x4) fun r1 =>
      some (r1.1, ()))
      (some (false, ())))
    (some (false, ()))
def impl_areMany_e (N : Nat) : Ent := { ins := [(.sl (.int .i64)), (.int .i64), (.int .i64), (.int .i64), (.int .i64)], outs := [.val .bool], F := fun x => impl_areMany N x.1 x.2.1 x.2.2.1 x.2.2.2.1 x.2.2.2.2.1 }
def impl_areMany_T (N : Nat) : Nat → List EntX
  | 68 => [.pl (impl_areWithin_e N)]
  | _ => []
def impl_areMany_L : Nat → List (Nat × TK) := fun _ => []
theorem impl_areMany_eq (N : Nat) : runF N tt (impl_areMany_T N) impl_areMany_L [(.sl (.int .i64)), (.int .i64), (.int .i64), (.int .i64), (.int .i64)] [.val .bool] (bodyOf Try.f54) Try.f54.ntmps [10] = (impl_areMany_e N).F := by
  funext x
  kernel_rfl
theorem impl_areMany_sound (N : Nat) : SoundC Try.prog 54 (impl_areMany_e N) := by
  have h := runF_sound (f := 54) (code := bodyOf Try.f54) (N := N) (T := impl_areMany_T N) (L := impl_areMany_L) (ins := [(.sl (.int .i64)), (.int .i64), (.int .i64), (.int .i64), (.int .i64)]) (outs := [.val .bool]) (res := [10]) mixed tt_ok ?_ Try.func54 (by kernel_rfl) rfl (by kernel_rfl) (by kernel_rfl) (by decide +kernel)
  · rw [impl_areMany_eq] at h
    exact h
  · intro f e he
    unfold impl_areMany_T at he
    split at he
    · rw [List.mem_singleton.1 he]; exact impl_areWithin_sound N
    · cases he

/- impl.ProgressOf -/
def impl_ProgressOf (N : Nat) (x0 : List (Int × Int × (List Int) × List Int)) (x1 : List Int) (x2 : Int) : Option (Int × Int × Bool × Unit) :=
  Option.bind (impl_AreTasks N x0) fun r1 =>
  cond (!r1.1)
    (some (0, 0, false, ()))
    (Option.bind (impl_areMany N x1 (List.length x0 : Int) (List.length x0 : Int) 0 100000) fun r2 =>
    cond (!r2.1)
      (some (0, 0, false, ()))
      (Option.bind (impl_within N x2 0 100000) fun r3 =>
      cond (!r3.1)
        (some (0, 0, false, ()))
        (loopN (fun (s4 : Int × Int × Int × Unit) next5 =>
          cond (decide (s4.2.2.1 < (List.length x0 : Int)))
            (Option.bind (idx x0 s4.2.2.1) fun v6 =>
            Option.bind (idx x1 s4.2.2.1) fun v7 =>
            next5 ((w64 (s4.1 + (w64 (v6.2.1 * (imax 0 (imin v6.1 (w64 (x2 - v7)))))))), (w64 (s4.2.1 + (w64 (v6.2.1 * v6.1)))), (w64 (s4.2.2.1 + 1)), ()))
            (some (s4.1, s4.2.1, true, ()))) N (0, 0, 0, ()))))
def impl_ProgressOf_e (N : Nat) : Ent := { ins := [(.sl (.pair (.int .i64) (.pair (.int .i64) (.pair (.sl (.int .i64)) (.sl (.int .i64)))))), (.sl (.int .i64)), (.int .i64)], outs := [.val (.int .i64), .val (.int .i64), .val .bool], F := fun x => impl_ProgressOf N x.1 x.2.1 x.2.2.1 }
def impl_ProgressOf_T (N : Nat) : Nat → List EntX
  | 53 => [.pl (impl_AreTasks_e N)]
  | 54 => [.pl (impl_areMany_e N)]
  | 55 => [.pl (impl_within_e N)]
  | _ => []
def impl_ProgressOf_L : Nat → List (Nat × TK)
  | 5 => [(9, .v (.int .i64)), (10, .v (.int .i64)), (32, .v (.int .i64))]
  | _ => []
theorem impl_ProgressOf_eq (N : Nat) : runF N tt (impl_ProgressOf_T N) impl_ProgressOf_L [(.sl (.pair (.int .i64) (.pair (.int .i64) (.pair (.sl (.int .i64)) (.sl (.int .i64)))))), (.sl (.int .i64)), (.int .i64)] [.val (.int .i64), .val (.int .i64), .val .bool] (bodyOf Try.f19) Try.f19.ntmps [6, 7, 8] = (impl_ProgressOf_e N).F := by
  funext x
  kernel_rfl
theorem impl_ProgressOf_sound (N : Nat) : SoundC Try.prog 19 (impl_ProgressOf_e N) := by
  have h := runF_sound (f := 19) (code := bodyOf Try.f19) (N := N) (T := impl_ProgressOf_T N) (L := impl_ProgressOf_L) (ins := [(.sl (.pair (.int .i64) (.pair (.int .i64) (.pair (.sl (.int .i64)) (.sl (.int .i64)))))), (.sl (.int .i64)), (.int .i64)]) (outs := [.val (.int .i64), .val (.int .i64), .val .bool]) (res := [6, 7, 8]) mixed tt_ok ?_ Try.func19 (by kernel_rfl) rfl (by kernel_rfl) (by kernel_rfl) (by decide +kernel)
  · rw [impl_ProgressOf_eq] at h
    exact h
  · intro f e he
    unfold impl_ProgressOf_T at he
    split at he
    · rw [List.mem_singleton.1 he]; exact impl_AreTasks_sound N
    · rw [List.mem_singleton.1 he]; exact impl_areMany_sound N
    · rw [List.mem_singleton.1 he]; exact impl_within_sound N
    · cases he

/- laws.eqInt64S -/
def laws_eqInt64S (N : Nat) (x0 : List Int) (x1 : List Int) : Option (Bool × Unit) :=
  cond ((List.length x0 : Int) != (List.length x1 : Int))
    (some (false, ()))
    (loopN (fun (s1 : Int × Unit) next2 =>
      cond (decide (s1.1 < (List.length x0 : Int)))
        (Option.bind (idx x0 s1.1) fun v3 =>
        Option.bind (idx x1 s1.1) fun v4 =>
        cond (v3 != v4)
          (some (false, ()))
          (next2 ((w64 (s1.1 + 1)), ())))
        (some (true, ()))) N (0, ()))
def laws_eqInt64S_e (N : Nat) : Ent := { ins := [(.sl (.int .i64)), (.sl (.int .i64))], outs := [.val .bool], F := fun x => laws_eqInt64S N x.1 x.2.1 }
def laws_eqInt64S_T (_ : Nat) : Nat → List EntX := fun _ => []
def laws_eqInt64S_L : Nat → List (Nat × TK)
  | 4 => [(5, .v (.int .i64))]
  | _ => []
theorem laws_eqInt64S_eq (N : Nat) : runF N tt (laws_eqInt64S_T N) laws_eqInt64S_L [(.sl (.int .i64)), (.sl (.int .i64))] [.val .bool] (bodyOf Try.f21) Try.f21.ntmps [4] = (laws_eqInt64S_e N).F := by
  funext x
  kernel_rfl
theorem laws_eqInt64S_sound (N : Nat) : SoundC Try.prog 21 (laws_eqInt64S_e N) := by
  have h := runF_sound (f := 21) (code := bodyOf Try.f21) (N := N) (T := laws_eqInt64S_T N) (L := laws_eqInt64S_L) (ins := [(.sl (.int .i64)), (.sl (.int .i64))]) (outs := [.val .bool]) (res := [4]) mixed tt_ok ?_ Try.func21 (by kernel_rfl) rfl (by kernel_rfl) (by kernel_rfl) (by decide +kernel)
  · rw [laws_eqInt64S_eq] at h
    exact h
  · intro f e he
    cases he

/- laws.eqTask -/
def laws_eqTask (N : Nat) (x0 : Int × Int × (List Int) × List Int) (x1 : Int × Int × (List Int) × List Int) : Option (Bool × Unit) :=
  cond (x0.1 != x1.1)
    (some (false, ()))
    (cond (x0.2.1 != x1.2.1)
      (some (false, ()))
      (Option.bind (laws_eqInt64S N x0.2.2.1 x1.2.2.1) fun r1 =>
      cond (!r1.1)
        (some (false, ()))
        (Option.bind (laws_eqInt64S N x0.2.2.2 x1.2.2.2) fun r2 =>
        cond (!r2.1)
          (some (false, ()))
          (some (true, ())))))
def laws_eqTask_e (N : Nat) : Ent := { ins := [(.pair (.int .i64) (.pair (.int .i64) (.pair (.sl (.int .i64)) (.sl (.int .i64))))), (.pair (.int .i64) (.pair (.int .i64) (.pair (.sl (.int .i64)) (.sl (.int .i64)))))], outs := [.val .bool], F := fun x => laws_eqTask N x.1 x.2.1 }
def laws_eqTask_T (N : Nat) : Nat → List EntX
  | 21 => [.pl (laws_eqInt64S_e N)]
  | _ => []
def laws_eqTask_L : Nat → List (Nat × TK) := fun _ => []
theorem laws_eqTask_eq (N : Nat) : runF N tt (laws_eqTask_T N) laws_eqTask_L [(.pair (.int .i64) (.pair (.int .i64) (.pair (.sl (.int .i64)) (.sl (.int .i64))))), (.pair (.int .i64) (.pair (.int .i64) (.pair (.sl (.int .i64)) (.sl (.int .i64)))))] [.val .bool] (bodyOf Try.f56) Try.f56.ntmps [4] = (laws_eqTask_e N).F := by
  funext x
  kernel_rfl
theorem laws_eqTask_sound (N : Nat) : SoundC Try.prog 56 (laws_eqTask_e N) := by
  have h := runF_sound (f := 56) (code := bodyOf Try.f56) (N := N) (T := laws_eqTask_T N) (L := laws_eqTask_L) (ins := [(.pair (.int .i64) (.pair (.int .i64) (.pair (.sl (.int .i64)) (.sl (.int .i64))))), (.pair (.int .i64) (.pair (.int .i64) (.pair (.sl (.int .i64)) (.sl (.int .i64)))))]) (outs := [.val .bool]) (res := [4]) mixed tt_ok ?_ Try.func56 (by kernel_rfl) rfl (by kernel_rfl) (by kernel_rfl) (by decide +kernel)
  · rw [laws_eqTask_eq] at h
    exact h
  · intro f e he
    unfold laws_eqTask_T at he
    split at he
    · rw [List.mem_singleton.1 he]; exact laws_eqInt64S_sound N
    · cases he

/- laws.eqTaskS -/
def laws_eqTaskS (N : Nat) (x0 : List (Int × Int × (List Int) × List Int)) (x1 : List (Int × Int × (List Int) × List Int)) : Option (Bool × Unit) :=
  cond ((List.length x0 : Int) != (List.length x1 : Int))
    (some (false, ()))
    (loopN (fun (s1 : Int × Unit) next2 =>
      cond (decide (s1.1 < (List.length x0 : Int)))
        (Option.bind (idx x0 s1.1) fun v3 =>
        Option.bind (idx x1 s1.1) fun v4 =>
        Option.bind (laws_eqTask N v3 v4) fun r5 =>
        cond (!r5.1)
          (some (false, ()))
          (next2 ((w64 (s1.1 + 1)), ())))
        (some (true, ()))) N (0, ()))
def laws_eqTaskS_e (N : Nat) : Ent := { ins := [(.sl (.pair (.int .i64) (.pair (.int .i64) (.pair (.sl (.int .i64)) (.sl (.int .i64)))))), (.sl (.pair (.int .i64) (.pair (.int .i64) (.pair (.sl (.int .i64)) (.sl (.int .i64))))))], outs := [.val .bool], F := fun x => laws_eqTaskS N x.1 x.2.1 }
def laws_eqTaskS_T (N : Nat) : Nat → List EntX
  | 56 => [.pl (laws_eqTask_e N)]
  | _ => []
def laws_eqTaskS_L : Nat → List (Nat × TK)
  | 4 => [(5, .v (.int .i64))]
  | _ => []
theorem laws_eqTaskS_eq (N : Nat) : runF N tt (laws_eqTaskS_T N) laws_eqTaskS_L [(.sl (.pair (.int .i64) (.pair (.int .i64) (.pair (.sl (.int .i64)) (.sl (.int .i64)))))), (.sl (.pair (.int .i64) (.pair (.int .i64) (.pair (.sl (.int .i64)) (.sl (.int .i64))))))] [.val .bool] (bodyOf Try.f20) Try.f20.ntmps [4] = (laws_eqTaskS_e N).F := by
  funext x
  kernel_rfl
theorem laws_eqTaskS_sound (N : Nat) : SoundC Try.prog 20 (laws_eqTaskS_e N) := by
  have h := runF_sound (f := 20) (code := bodyOf Try.f20) (N := N) (T := laws_eqTaskS_T N) (L := laws_eqTaskS_L) (ins := [(.sl (.pair (.int .i64) (.pair (.int .i64) (.pair (.sl (.int .i64)) (.sl (.int .i64)))))), (.sl (.pair (.int .i64) (.pair (.int .i64) (.pair (.sl (.int .i64)) (.sl (.int .i64))))))]) (outs := [.val .bool]) (res := [4]) mixed tt_ok ?_ Try.func20 (by kernel_rfl) rfl (by kernel_rfl) (by kernel_rfl) (by decide +kernel)
  · rw [laws_eqTaskS_eq] at h
    exact h
  · intro f e he
    unfold laws_eqTaskS_T at he
    split at he
    · rw [List.mem_singleton.1 he]; exact laws_eqTask_sound N
    · cases he

/- laws.FnExactProgressOf -/
def laws_FnExactProgressOf (N : Nat) (x0 : List (Int × Int × (List Int) × List Int)) (x1 : List Int) (x2 : Int) : Option (Bool × Unit) :=
  cond (decide ((List.length x1 : Int) > 1048576))
    (some (true, ()))
    (Option.bind (laws_szTaskS N x0 1048576) fun r1 =>
    cond (decide (r1.1 < 0))
      (some (true, ()))
      (Option.bind (laws_toTaskS N x0) fun r2 =>
      Option.bind (laws_toInt64S N x1) fun r3 =>
      Option.bind (spec_ProgressOf N r2.1 r3.1 x2) fun r4 =>
      Option.bind (laws_toTaskS N x0) fun r5 =>
      Option.bind (laws_toInt64S N x1) fun r6 =>
      Option.bind (impl_ProgressOf N r5.1 r6.1 x2) fun r7 =>
      cond (r7.1 != r4.1)
        (some (false, ()))
        (cond (r7.2.1 != r4.2.1)
          (some (false, ()))
          (cond (!(r7.2.2.1 == r4.2.2.1))
            (some (false, ()))
            (Option.bind (laws_toTaskS N x0) fun r8 =>
            Option.bind (laws_eqTaskS N r5.1 r8.1) fun r9 =>
            cond (!r9.1)
              (some (false, ()))
              (Option.bind (laws_toInt64S N x1) fun r10 =>
              Option.bind (laws_eqInt64S N r6.1 r10.1) fun r11 =>
              cond (!r11.1)
                (some (false, ()))
                (some (true, ()))))))))
def laws_FnExactProgressOf_e (N : Nat) : Ent := { ins := [(.sl (.pair (.int .i64) (.pair (.int .i64) (.pair (.sl (.int .i64)) (.sl (.int .i64)))))), (.sl (.int .i64)), (.int .i64)], outs := [.val .bool], F := fun x => laws_FnExactProgressOf N x.1 x.2.1 x.2.2.1 }
def laws_FnExactProgressOf_T (N : Nat) : Nat → List EntX
  | 15 => [.pl (laws_szTaskS_e N)]
  | 16 => [.pl (spec_ProgressOf_e N)]
  | 17 => [.pl (laws_toTaskS_e N)]
  | 18 => [.pl (laws_toInt64S_e N)]
  | 19 => [.pl (impl_ProgressOf_e N)]
  | 20 => [.pl (laws_eqTaskS_e N)]
  | 21 => [.pl (laws_eqInt64S_e N)]
  | _ => []
def laws_FnExactProgressOf_L : Nat → List (Nat × TK) := fun _ => []
theorem laws_FnExactProgressOf_eq (N : Nat) : runF N tt (laws_FnExactProgressOf_T N) laws_FnExactProgressOf_L [(.sl (.pair (.int .i64) (.pair (.int .i64) (.pair (.sl (.int .i64)) (.sl (.int .i64)))))), (.sl (.int .i64)), (.int .i64)] [.val .bool] (bodyOf Try.f3) Try.f3.ntmps [6] = (laws_FnExactProgressOf_e N).F := by
  funext x
  kernel_rfl
theorem laws_FnExactProgressOf_sound (N : Nat) : SoundC Try.prog 3 (laws_FnExactProgressOf_e N) := by
  have h := runF_sound (f := 3) (code := bodyOf Try.f3) (N := N) (T := laws_FnExactProgressOf_T N) (L := laws_FnExactProgressOf_L) (ins := [(.sl (.pair (.int .i64) (.pair (.int .i64) (.pair (.sl (.int .i64)) (.sl (.int .i64)))))), (.sl (.int .i64)), (.int .i64)]) (outs := [.val .bool]) (res := [6]) mixed tt_ok ?_ Try.func3 (by kernel_rfl) rfl (by kernel_rfl) (by kernel_rfl) (by decide +kernel)
  · rw [laws_FnExactProgressOf_eq] at h
    exact h
  · intro f e he
    unfold laws_FnExactProgressOf_T at he
    split at he
    · rw [List.mem_singleton.1 he]; exact laws_szTaskS_sound N
    · rw [List.mem_singleton.1 he]; exact spec_ProgressOf_sound N
    · rw [List.mem_singleton.1 he]; exact laws_toTaskS_sound N
    · rw [List.mem_singleton.1 he]; exact laws_toInt64S_sound N
    · rw [List.mem_singleton.1 he]; exact impl_ProgressOf_sound N
    · rw [List.mem_singleton.1 he]; exact laws_eqTaskS_sound N
    · rw [List.mem_singleton.1 he]; exact laws_eqInt64S_sound N
    · cases he

/- spec.l03End -/
def spec_l03End (N : Nat) (x0 : List (Int × Int × (List Int) × List Int)) (x1 : List Int) : Option (Int × Unit) :=
  loopN (fun (s1 : Int × Int × Unit) next2 =>
    cond (decide (s1.2.1 < (List.length x0 : Int)))
      (Option.bind (idx x1 s1.2.1) fun v3 =>
      Option.bind (idx x0 s1.2.1) fun v4 =>
      Option.bind (spec_l00Max N s1.1 (w64 (v3 + v4.1))) fun r5 =>
      next2 (r5.1, (w64 (s1.2.1 + 1)), ()))
      (some (s1.1, ()))) N (0, 0, ())
def spec_l03End_e (N : Nat) : Ent := { ins := [(.sl (.pair (.int .i64) (.pair (.int .i64) (.pair (.sl (.int .i64)) (.sl (.int .i64)))))), (.sl (.int .i64))], outs := [.val (.int .i64)], F := fun x => spec_l03End N x.1 x.2.1 }
def spec_l03End_T (N : Nat) : Nat → List EntX
  | 50 => [.pl (spec_l00Max_e N)]
  | _ => []
def spec_l03End_L : Nat → List (Nat × TK)
  | 3 => [(5, .v (.int .i64)), (9, .v (.int .i64))]
  | _ => []
theorem spec_l03End_eq (N : Nat) : runF N tt (spec_l03End_T N) spec_l03End_L [(.sl (.pair (.int .i64) (.pair (.int .i64) (.pair (.sl (.int .i64)) (.sl (.int .i64)))))), (.sl (.int .i64))] [.val (.int .i64)] (bodyOf Try.f59) Try.f59.ntmps [4] = (spec_l03End_e N).F := by
  funext x
  kernel_rfl
theorem spec_l03End_sound (N : Nat) : SoundC Try.prog 59 (spec_l03End_e N) := by
  have h := runF_sound (f := 59) (code := bodyOf Try.f59) (N := N) (T := spec_l03End_T N) (L := spec_l03End_L) (ins := [(.sl (.pair (.int .i64) (.pair (.int .i64) (.pair (.sl (.int .i64)) (.sl (.int .i64)))))), (.sl (.int .i64))]) (outs := [.val (.int .i64)]) (res := [4]) mixed tt_ok ?_ Try.func59 (by kernel_rfl) rfl (by kernel_rfl) (by kernel_rfl) (by decide +kernel)
  · rw [spec_l03End_eq] at h
    exact h
  · intro f e he
    unfold spec_l03End_T at he
    split at he
    · rw [List.mem_singleton.1 he]; exact spec_l00Max_sound N
    · cases he

/- spec.l03Use -/
def spec_l03Use (N : Nat) (x0 : List (Int × Int × (List Int) × List Int)) (x1 : List Int) : Option (List (Int) × Unit) :=
  Option.bind (spec_l03End N x0 x1) fun r1 =>
  cond (mkOk r1.1 r1.1)
    (let xs2 := (List.replicate (Int.toNat r1.1) (0 : Int) : List (Int))
    loopN (fun (s3 : List (Int) × Int × Unit) next4 =>
      cond (decide (s3.2.1 < (List.length x0 : Int)))
        (Option.bind (idx x1 s3.2.1) fun v5 =>
        loopN (fun (s6 : List (Int) × Int × Unit) next7 =>
          Option.bind (idx x1 s3.2.1) fun v8 =>
          Option.bind (idx x0 s3.2.1) fun v9 =>
          cond (decide (s6.2.1 < (w64 (v8 + v9.1))))
            (cond (inB s6.2.1 (List.length s6.1))
              (Option.bind (s6.1[(Int.toNat s6.2.1)]?) fun v10 =>
              Option.bind (idx x0 s3.2.1) fun v11 =>
              cond (inB s6.2.1 (List.length s6.1))
                (let xs12 := (List.set s6.1 (Int.toNat s6.2.1) (w64 (v10 + v11.2.1)))
                next7 (xs12, (w64 (s6.2.1 + 1)), ())) none) none)
            (next4 (s6.1, (w64 (s3.2.1 + 1)), ()))) N (s3.1, v5, ()))
        (some (s3.1, ()))) N (xs2, 0, ())) none
def spec_l03Use_e (N : Nat) : Ent := { ins := [(.sl (.pair (.int .i64) (.pair (.int .i64) (.pair (.sl (.int .i64)) (.sl (.int .i64)))))), (.sl (.int .i64))], outs := [.own (.int .i64)], F := fun x => spec_l03Use N x.1 x.2.1 }
def spec_l03Use_T (N : Nat) : Nat → List EntX
  | 59 => [.pl (spec_l03End_e N)]
  | _ => []
def spec_l03Use_L : Nat → List (Nat × TK)
  | 3 => [(5, .own (.int .i64)), (14, .v (.int .i64))]
  | 6 => [(5, .own (.int .i64)), (7, .v (.int .i64))]
  | _ => []
theorem spec_l03Use_eq (N : Nat) : runF N tt (spec_l03Use_T N) spec_l03Use_L [(.sl (.pair (.int .i64) (.pair (.int .i64) (.pair (.sl (.int .i64)) (.sl (.int .i64)))))), (.sl (.int .i64))] [.own (.int .i64)] (bodyOf Try.f62) Try.f62.ntmps [4] = (spec_l03Use_e N).F := by
  funext x
  kernel_rfl
theorem spec_l03Use_sound (N : Nat) : SoundC Try.prog 62 (spec_l03Use_e N) := by
  have h := runF_sound (f := 62) (code := bodyOf Try.f62) (N := N) (T := spec_l03Use_T N) (L := spec_l03Use_L) (ins := [(.sl (.pair (.int .i64) (.pair (.int .i64) (.pair (.sl (.int .i64)) (.sl (.int .i64)))))), (.sl (.int .i64))]) (outs := [.own (.int .i64)]) (res := [4]) mixed tt_ok ?_ Try.func62 (by kernel_rfl) rfl (by kernel_rfl) (by kernel_rfl) (by decide +kernel)
  · rw [spec_l03Use_eq] at h
    exact h
  · intro f e he
    unfold spec_l03Use_T at he
    split at he
    · rw [List.mem_singleton.1 he]; exact spec_l03End_sound N
    · cases he

/- spec.CrewUse -/
def spec_CrewUse (N : Nat) (x0 : List (Int × Int × (List Int) × List Int)) (x1 : List Int) : Option (List (Int) × Bool × Unit) :=
  Option.bind (spec_l03Starts N x0 x1) fun r1 =>
  cond (!r1.1)
    (some ([], false, ()))
    (Option.bind (spec_l03End N x0 x1) fun r2 =>
    cond (decide (r2.1 > 400))
      (some ([], false, ()))
      (Option.bind (spec_l03Use N x0 x1) fun r3 =>
      some (r3.1, true, ())))
def spec_CrewUse_e (N : Nat) : Ent := { ins := [(.sl (.pair (.int .i64) (.pair (.int .i64) (.pair (.sl (.int .i64)) (.sl (.int .i64)))))), (.sl (.int .i64))], outs := [.own (.int .i64), .val .bool], F := fun x => spec_CrewUse N x.1 x.2.1 }
def spec_CrewUse_T (N : Nat) : Nat → List EntX
  | 48 => [.pl (spec_l03Starts_e N)]
  | 59 => [.pl (spec_l03End_e N)]
  | 62 => [.pl (spec_l03Use_e N)]
  | _ => []
def spec_CrewUse_L : Nat → List (Nat × TK) := fun _ => []
theorem spec_CrewUse_eq (N : Nat) : runF N tt (spec_CrewUse_T N) spec_CrewUse_L [(.sl (.pair (.int .i64) (.pair (.int .i64) (.pair (.sl (.int .i64)) (.sl (.int .i64)))))), (.sl (.int .i64))] [.own (.int .i64), .val .bool] (bodyOf Try.f29) Try.f29.ntmps [4, 5] = (spec_CrewUse_e N).F := by
  funext x
  kernel_rfl
theorem spec_CrewUse_sound (N : Nat) : SoundC Try.prog 29 (spec_CrewUse_e N) := by
  have h := runF_sound (f := 29) (code := bodyOf Try.f29) (N := N) (T := spec_CrewUse_T N) (L := spec_CrewUse_L) (ins := [(.sl (.pair (.int .i64) (.pair (.int .i64) (.pair (.sl (.int .i64)) (.sl (.int .i64)))))), (.sl (.int .i64))]) (outs := [.own (.int .i64), .val .bool]) (res := [4, 5]) mixed tt_ok ?_ Try.func29 (by kernel_rfl) rfl (by kernel_rfl) (by kernel_rfl) (by decide +kernel)
  · rw [spec_CrewUse_eq] at h
    exact h
  · intro f e he
    unfold spec_CrewUse_T at he
    split at he
    · rw [List.mem_singleton.1 he]; exact spec_l03Starts_sound N
    · rw [List.mem_singleton.1 he]; exact spec_l03End_sound N
    · rw [List.mem_singleton.1 he]; exact spec_l03Use_sound N
    · cases he

/- spec.l03Least -/
def spec_l03Least (N : Nat) (x0 : List (Int × Int × (List Int) × List Int)) (x1 : List Int) (x2 : Int) : Option (Int × Unit) :=
  Option.bind (idx x0 x2) fun v1 =>
  loopN (fun (s2 : Int × Int × Unit) next3 =>
    cond (decide (s2.2.1 < (List.length v1.2.2.1 : Int)))
      (Option.bind (idx x0 x2) fun v4 =>
      Option.bind (idx v4.2.2.1 s2.2.1) fun v5 =>
      Option.bind (idx x1 v5) fun v6 =>
      Option.bind (idx x0 v5) fun v7 =>
      Option.bind (idx x0 x2) fun v8 =>
      Option.bind (idx v8.2.2.2 s2.2.1) fun v9 =>
      Option.bind (spec_l00Max N s2.1 (w64 ((w64 (v6 + v7.1)) + v9))) fun r10 =>
      next3 (r10.1, (w64 (s2.2.1 + 1)), ()))
      (some (s2.1, ()))) N (0, 0, ())
def spec_l03Least_e (N : Nat) : Ent := { ins := [(.sl (.pair (.int .i64) (.pair (.int .i64) (.pair (.sl (.int .i64)) (.sl (.int .i64)))))), (.sl (.int .i64)), (.int .i64)], outs := [.val (.int .i64)], F := fun x => spec_l03Least N x.1 x.2.1 x.2.2.1 }
def spec_l03Least_T (N : Nat) : Nat → List EntX
  | 50 => [.pl (spec_l00Max_e N)]
  | _ => []
def spec_l03Least_L : Nat → List (Nat × TK)
  | 3 => [(7, .v (.int .i64)), (16, .v (.int .i64))]
  | _ => []
theorem spec_l03Least_eq (N : Nat) : runF N tt (spec_l03Least_T N) spec_l03Least_L [(.sl (.pair (.int .i64) (.pair (.int .i64) (.pair (.sl (.int .i64)) (.sl (.int .i64)))))), (.sl (.int .i64)), (.int .i64)] [.val (.int .i64)] (bodyOf Try.f65) Try.f65.ntmps [6] = (spec_l03Least_e N).F := by
  funext x
  kernel_rfl
theorem spec_l03Least_sound (N : Nat) : SoundC Try.prog 65 (spec_l03Least_e N) := by
  have h := runF_sound (f := 65) (code := bodyOf Try.f65) (N := N) (T := spec_l03Least_T N) (L := spec_l03Least_L) (ins := [(.sl (.pair (.int .i64) (.pair (.int .i64) (.pair (.sl (.int .i64)) (.sl (.int .i64)))))), (.sl (.int .i64)), (.int .i64)]) (outs := [.val (.int .i64)]) (res := [6]) mixed tt_ok ?_ Try.func65 (by kernel_rfl) rfl (by kernel_rfl) (by kernel_rfl) (by decide +kernel)
  · rw [spec_l03Least_eq] at h
    exact h
  · intro f e he
    unfold spec_l03Least_T at he
    split at he
    · rw [List.mem_singleton.1 he]; exact spec_l00Max_sound N
    · cases he

/- spec.IsCrewPlan -/
def spec_IsCrewPlan (N : Nat) (x0 : List (Int × Int × (List Int) × List Int)) (x1 : List Int) (x2 : Int) : Option (Bool × Unit) :=
  Option.bind (spec_CrewUse N x0 x1) fun r1 =>
  cond (!r1.2.1)
    (some (false, ()))
    (Option.bind (spec_l00In N x2 0 20) fun r2 =>
    cond (!r2.1)
      (some (false, ()))
      (loopN (fun (s3 : Int × Unit) next4 =>
        cond (decide (s3.1 < (List.length x0 : Int)))
          (Option.bind (idx x1 s3.1) fun v5 =>
          Option.bind (spec_l03Least N x0 x1 s3.1) fun r6 =>
          cond (decide (v5 < r6.1))
            (some (false, ()))
            (next4 ((w64 (s3.1 + 1)), ())))
          (loopN (fun (s7 : Int × Unit) next8 =>
            cond (decide (s7.1 < (List.length r1.1 : Int)))
              (cond (inB s7.1 (List.length r1.1))
                (Option.bind (r1.1[(Int.toNat s7.1)]?) fun v9 =>
                cond (decide (v9 > x2))
                  (some (false, ()))
                  (next8 ((w64 (s7.1 + 1)), ()))) none)
              (some (true, ()))) N (0, ()))) N (0, ())))
def spec_IsCrewPlan_e (N : Nat) : Ent := { ins := [(.sl (.pair (.int .i64) (.pair (.int .i64) (.pair (.sl (.int .i64)) (.sl (.int .i64)))))), (.sl (.int .i64)), (.int .i64)], outs := [.val .bool], F := fun x => spec_IsCrewPlan N x.1 x.2.1 x.2.2.1 }
def spec_IsCrewPlan_T (N : Nat) : Nat → List EntX
  | 29 => [.pl (spec_CrewUse_e N)]
  | 49 => [.pl (spec_l00In_e N)]
  | 65 => [.pl (spec_l03Least_e N)]
  | _ => []
def spec_IsCrewPlan_L : Nat → List (Nat × TK)
  | 5 => [(26, .v (.int .i64))]
  | 11 => [(41, .v (.int .i64))]
  | _ => []
theorem spec_IsCrewPlan_eq (N : Nat) : runF N tt (spec_IsCrewPlan_T N) spec_IsCrewPlan_L [(.sl (.pair (.int .i64) (.pair (.int .i64) (.pair (.sl (.int .i64)) (.sl (.int .i64)))))), (.sl (.int .i64)), (.int .i64)] [.val .bool] (bodyOf Try.f33) Try.f33.ntmps [6] = (spec_IsCrewPlan_e N).F := by
  funext x
  kernel_rfl
theorem spec_IsCrewPlan_sound (N : Nat) : SoundC Try.prog 33 (spec_IsCrewPlan_e N) := by
  have h := runF_sound (f := 33) (code := bodyOf Try.f33) (N := N) (T := spec_IsCrewPlan_T N) (L := spec_IsCrewPlan_L) (ins := [(.sl (.pair (.int .i64) (.pair (.int .i64) (.pair (.sl (.int .i64)) (.sl (.int .i64)))))), (.sl (.int .i64)), (.int .i64)]) (outs := [.val .bool]) (res := [6]) mixed tt_ok ?_ Try.func33 (by kernel_rfl) rfl (by kernel_rfl) (by kernel_rfl) (by decide +kernel)
  · rw [spec_IsCrewPlan_eq] at h
    exact h
  · intro f e he
    unfold spec_IsCrewPlan_T at he
    split at he
    · rw [List.mem_singleton.1 he]; exact spec_CrewUse_sound N
    · rw [List.mem_singleton.1 he]; exact spec_l00In_sound N
    · rw [List.mem_singleton.1 he]; exact spec_l03Least_sound N
    · cases he

/- impl.lastEnd -/
def impl_lastEnd (N : Nat) (x0 : List (Int × Int × (List Int) × List Int)) (x1 : List Int) : Option (Int × Unit) :=
  loopN (fun (s1 : Int × Int × Unit) next2 =>
    cond (decide (s1.2.1 < (List.length x0 : Int)))
      (Option.bind (idx x0 s1.2.1) fun v3 =>
      Option.bind (idx x1 s1.2.1) fun v4 =>
      next2 ((imax s1.1 (w64 (v4 + v3.1))), (w64 (s1.2.1 + 1)), ()))
      (some (s1.1, ()))) N (0, 0, ())
def impl_lastEnd_e (N : Nat) : Ent := { ins := [(.sl (.pair (.int .i64) (.pair (.int .i64) (.pair (.sl (.int .i64)) (.sl (.int .i64)))))), (.sl (.int .i64))], outs := [.val (.int .i64)], F := fun x => impl_lastEnd N x.1 x.2.1 }
def impl_lastEnd_T (_ : Nat) : Nat → List EntX := fun _ => []
def impl_lastEnd_L : Nat → List (Nat × TK)
  | 3 => [(5, .v (.int .i64)), (10, .v (.int .i64))]
  | _ => []
theorem impl_lastEnd_eq (N : Nat) : runF N tt (impl_lastEnd_T N) impl_lastEnd_L [(.sl (.pair (.int .i64) (.pair (.int .i64) (.pair (.sl (.int .i64)) (.sl (.int .i64)))))), (.sl (.int .i64))] [.val (.int .i64)] (bodyOf Try.f61) Try.f61.ntmps [4] = (impl_lastEnd_e N).F := by
  funext x
  kernel_rfl
theorem impl_lastEnd_sound (N : Nat) : SoundC Try.prog 61 (impl_lastEnd_e N) := by
  have h := runF_sound (f := 61) (code := bodyOf Try.f61) (N := N) (T := impl_lastEnd_T N) (L := impl_lastEnd_L) (ins := [(.sl (.pair (.int .i64) (.pair (.int .i64) (.pair (.sl (.int .i64)) (.sl (.int .i64)))))), (.sl (.int .i64))]) (outs := [.val (.int .i64)]) (res := [4]) mixed tt_ok ?_ Try.func61 (by kernel_rfl) rfl (by kernel_rfl) (by kernel_rfl) (by decide +kernel)
  · rw [impl_lastEnd_eq] at h
    exact h
  · intro f e he
    cases he

/- impl.crewUse -/
def impl_crewUse (N : Nat) (x0 : List (Int × Int × (List Int) × List Int)) (x1 : List Int) : Option (List (Int) × Unit) :=
  Option.bind (impl_lastEnd N x0 x1) fun r1 =>
  cond (mkOk r1.1 r1.1)
    (let xs2 := (List.replicate (Int.toNat r1.1) (0 : Int) : List (Int))
    loopN (fun (s3 : List (Int) × Int × Unit) next4 =>
      cond (decide (s3.2.1 < (List.length x0 : Int)))
        (Option.bind (idx x0 s3.2.1) fun v5 =>
        Option.bind (idx x1 s3.2.1) fun v6 =>
        loopN (fun (s7 : List (Int) × Int × Unit) next8 =>
          Option.bind (idx x1 s3.2.1) fun v9 =>
          cond (decide (s7.2.1 < (w64 (v9 + v5.1))))
            (cond (inB s7.2.1 (List.length s7.1))
              (Option.bind (s7.1[(Int.toNat s7.2.1)]?) fun v10 =>
              cond (inB s7.2.1 (List.length s7.1))
                (let xs11 := (List.set s7.1 (Int.toNat s7.2.1) (w64 (v10 + v5.2.1)))
                next8 (xs11, (w64 (s7.2.1 + 1)), ())) none) none)
            (next4 (s7.1, (w64 (s3.2.1 + 1)), ()))) N (s3.1, v6, ()))
        (some (s3.1, ()))) N (xs2, 0, ())) none
def impl_crewUse_e (N : Nat) : Ent := { ins := [(.sl (.pair (.int .i64) (.pair (.int .i64) (.pair (.sl (.int .i64)) (.sl (.int .i64)))))), (.sl (.int .i64))], outs := [.own (.int .i64)], F := fun x => impl_crewUse N x.1 x.2.1 }
def impl_crewUse_T (N : Nat) : Nat → List EntX
  | 61 => [.pl (impl_lastEnd_e N)]
  | _ => []
def impl_crewUse_L : Nat → List (Nat × TK)
  | 3 => [(5, .own (.int .i64)), (15, .v (.int .i64))]
  | 6 => [(5, .own (.int .i64)), (8, .v (.int .i64))]
  | _ => []
theorem impl_crewUse_eq (N : Nat) : runF N tt (impl_crewUse_T N) impl_crewUse_L [(.sl (.pair (.int .i64) (.pair (.int .i64) (.pair (.sl (.int .i64)) (.sl (.int .i64)))))), (.sl (.int .i64))] [.own (.int .i64)] (bodyOf Try.f63) Try.f63.ntmps [4] = (impl_crewUse_e N).F := by
  funext x
  kernel_rfl
theorem impl_crewUse_sound (N : Nat) : SoundC Try.prog 63 (impl_crewUse_e N) := by
  have h := runF_sound (f := 63) (code := bodyOf Try.f63) (N := N) (T := impl_crewUse_T N) (L := impl_crewUse_L) (ins := [(.sl (.pair (.int .i64) (.pair (.int .i64) (.pair (.sl (.int .i64)) (.sl (.int .i64)))))), (.sl (.int .i64))]) (outs := [.own (.int .i64)]) (res := [4]) mixed tt_ok ?_ Try.func63 (by kernel_rfl) rfl (by kernel_rfl) (by kernel_rfl) (by decide +kernel)
  · rw [impl_crewUse_eq] at h
    exact h
  · intro f e he
    unfold impl_crewUse_T at he
    split at he
    · rw [List.mem_singleton.1 he]; exact impl_lastEnd_sound N
    · cases he

/- impl.CrewUse -/
def impl_CrewUse (N : Nat) (x0 : List (Int × Int × (List Int) × List Int)) (x1 : List Int) : Option (List (Int) × Bool × Unit) :=
  Option.bind (impl_AreTasks N x0) fun r1 =>
  cond (!r1.1)
    (some ([], false, ()))
    (Option.bind (impl_areMany N x1 (List.length x0 : Int) (List.length x0 : Int) 0 100000) fun r2 =>
    cond (!r2.1)
      (some ([], false, ()))
      (Option.bind (impl_lastEnd N x0 x1) fun r3 =>
      cond (decide (r3.1 > 400))
        (some ([], false, ()))
        (Option.bind (impl_crewUse N x0 x1) fun r4 =>
        some (r4.1, true, ()))))
def impl_CrewUse_e (N : Nat) : Ent := { ins := [(.sl (.pair (.int .i64) (.pair (.int .i64) (.pair (.sl (.int .i64)) (.sl (.int .i64)))))), (.sl (.int .i64))], outs := [.own (.int .i64), .val .bool], F := fun x => impl_CrewUse N x.1 x.2.1 }
def impl_CrewUse_T (N : Nat) : Nat → List EntX
  | 53 => [.pl (impl_AreTasks_e N)]
  | 54 => [.pl (impl_areMany_e N)]
  | 61 => [.pl (impl_lastEnd_e N)]
  | 63 => [.pl (impl_crewUse_e N)]
  | _ => []
def impl_CrewUse_L : Nat → List (Nat × TK) := fun _ => []
theorem impl_CrewUse_eq (N : Nat) : runF N tt (impl_CrewUse_T N) impl_CrewUse_L [(.sl (.pair (.int .i64) (.pair (.int .i64) (.pair (.sl (.int .i64)) (.sl (.int .i64)))))), (.sl (.int .i64))] [.own (.int .i64), .val .bool] (bodyOf Try.f30) Try.f30.ntmps [4, 5] = (impl_CrewUse_e N).F := by
  funext x
  kernel_rfl
theorem impl_CrewUse_sound (N : Nat) : SoundC Try.prog 30 (impl_CrewUse_e N) := by
  have h := runF_sound (f := 30) (code := bodyOf Try.f30) (N := N) (T := impl_CrewUse_T N) (L := impl_CrewUse_L) (ins := [(.sl (.pair (.int .i64) (.pair (.int .i64) (.pair (.sl (.int .i64)) (.sl (.int .i64)))))), (.sl (.int .i64))]) (outs := [.own (.int .i64), .val .bool]) (res := [4, 5]) mixed tt_ok ?_ Try.func30 (by kernel_rfl) rfl (by kernel_rfl) (by kernel_rfl) (by decide +kernel)
  · rw [impl_CrewUse_eq] at h
    exact h
  · intro f e he
    unfold impl_CrewUse_T at he
    split at he
    · rw [List.mem_singleton.1 he]; exact impl_AreTasks_sound N
    · rw [List.mem_singleton.1 he]; exact impl_areMany_sound N
    · rw [List.mem_singleton.1 he]; exact impl_lastEnd_sound N
    · rw [List.mem_singleton.1 he]; exact impl_crewUse_sound N
    · cases he

/- impl.areCrew -/
def impl_areCrew (N : Nat) (x0 : Int) : Option (Bool × Unit) :=
  Option.bind (impl_within N x0 0 20) fun r1 =>
  some (r1.1, ())
def impl_areCrew_e (N : Nat) : Ent := { ins := [(.int .i64)], outs := [.val .bool], F := fun x => impl_areCrew N x.1 }
def impl_areCrew_T (N : Nat) : Nat → List EntX
  | 55 => [.pl (impl_within_e N)]
  | _ => []
def impl_areCrew_L : Nat → List (Nat × TK) := fun _ => []
theorem impl_areCrew_eq (N : Nat) : runF N tt (impl_areCrew_T N) impl_areCrew_L [(.int .i64)] [.val .bool] (bodyOf Try.f66) Try.f66.ntmps [2] = (impl_areCrew_e N).F := by
  funext x
  kernel_rfl
theorem impl_areCrew_sound (N : Nat) : SoundC Try.prog 66 (impl_areCrew_e N) := by
  have h := runF_sound (f := 66) (code := bodyOf Try.f66) (N := N) (T := impl_areCrew_T N) (L := impl_areCrew_L) (ins := [(.int .i64)]) (outs := [.val .bool]) (res := [2]) mixed tt_ok ?_ Try.func66 (by kernel_rfl) rfl (by kernel_rfl) (by kernel_rfl) (by decide +kernel)
  · rw [impl_areCrew_eq] at h
    exact h
  · intro f e he
    unfold impl_areCrew_T at he
    split at he
    · rw [List.mem_singleton.1 he]; exact impl_within_sound N
    · cases he

/- impl.earliest -/
def impl_earliest (N : Nat) (x0 : List (Int × Int × (List Int) × List Int)) (x1 : List Int) (x2 : Int) : Option (Int × Unit) :=
  Option.bind (idx x0 x2) fun v1 =>
  loopN (fun (s2 : Int × Int × Unit) next3 =>
    cond (decide (s2.2.1 < (List.length v1.2.2.1 : Int)))
      (Option.bind (idx v1.2.2.1 s2.2.1) fun v4 =>
      Option.bind (idx x1 v4) fun v5 =>
      Option.bind (idx x0 v4) fun v6 =>
      Option.bind (idx x0 x2) fun v7 =>
      Option.bind (idx v7.2.2.2 s2.2.1) fun v8 =>
      next3 ((imax s2.1 (w64 ((w64 (v5 + v6.1)) + v8))), (w64 (s2.2.1 + 1)), ()))
      (some (s2.1, ()))) N (0, 0, ())
def impl_earliest_e (N : Nat) : Ent := { ins := [(.sl (.pair (.int .i64) (.pair (.int .i64) (.pair (.sl (.int .i64)) (.sl (.int .i64)))))), (.sl (.int .i64)), (.int .i64)], outs := [.val (.int .i64)], F := fun x => impl_earliest N x.1 x.2.1 x.2.2.1 }
def impl_earliest_T (_ : Nat) : Nat → List EntX := fun _ => []
def impl_earliest_L : Nat → List (Nat × TK)
  | 3 => [(7, .v (.int .i64)), (16, .v (.int .i64))]
  | _ => []
theorem impl_earliest_eq (N : Nat) : runF N tt (impl_earliest_T N) impl_earliest_L [(.sl (.pair (.int .i64) (.pair (.int .i64) (.pair (.sl (.int .i64)) (.sl (.int .i64)))))), (.sl (.int .i64)), (.int .i64)] [.val (.int .i64)] (bodyOf Try.f67) Try.f67.ntmps [6] = (impl_earliest_e N).F := by
  funext x
  kernel_rfl
theorem impl_earliest_sound (N : Nat) : SoundC Try.prog 67 (impl_earliest_e N) := by
  have h := runF_sound (f := 67) (code := bodyOf Try.f67) (N := N) (T := impl_earliest_T N) (L := impl_earliest_L) (ins := [(.sl (.pair (.int .i64) (.pair (.int .i64) (.pair (.sl (.int .i64)) (.sl (.int .i64)))))), (.sl (.int .i64)), (.int .i64)]) (outs := [.val (.int .i64)]) (res := [6]) mixed tt_ok ?_ Try.func67 (by kernel_rfl) rfl (by kernel_rfl) (by kernel_rfl) (by decide +kernel)
  · rw [impl_earliest_eq] at h
    exact h
  · intro f e he
    cases he

/- impl.IsCrewPlan -/
def impl_IsCrewPlan (N : Nat) (x0 : List (Int × Int × (List Int) × List Int)) (x1 : List Int) (x2 : Int) : Option (Bool × Unit) :=
  Option.bind (impl_CrewUse N x0 x1) fun r1 =>
  cond (!r1.2.1)
    (some (false, ()))
    (Option.bind (impl_areCrew N x2) fun r2 =>
    cond (!r2.1)
      (some (false, ()))
      (loopN (fun (s3 : Int × Unit) next4 =>
        cond (decide (s3.1 < (List.length x1 : Int)))
          (Option.bind (idx x1 s3.1) fun v5 =>
          Option.bind (impl_earliest N x0 x1 s3.1) fun r6 =>
          cond (decide (v5 < r6.1))
            (some (false, ()))
            (next4 ((w64 (s3.1 + 1)), ())))
          (Option.bind (impl_areWithin N r1.1 0 x2) fun r7 =>
          some (r7.1, ()))) N (0, ())))
def impl_IsCrewPlan_e (N : Nat) : Ent := { ins := [(.sl (.pair (.int .i64) (.pair (.int .i64) (.pair (.sl (.int .i64)) (.sl (.int .i64)))))), (.sl (.int .i64)), (.int .i64)], outs := [.val .bool], F := fun x => impl_IsCrewPlan N x.1 x.2.1 x.2.2.1 }
def impl_IsCrewPlan_T (N : Nat) : Nat → List EntX
  | 30 => [.pl (impl_CrewUse_e N)]
  | 66 => [.pl (impl_areCrew_e N)]
  | 67 => [.pl (impl_earliest_e N)]
  | 68 => [.pl (impl_areWithin_e N)]
  | _ => []
def impl_IsCrewPlan_L : Nat → List (Nat × TK)
  | 5 => [(26, .v (.int .i64))]
  | _ => []
theorem impl_IsCrewPlan_eq (N : Nat) : runF N tt (impl_IsCrewPlan_T N) impl_IsCrewPlan_L [(.sl (.pair (.int .i64) (.pair (.int .i64) (.pair (.sl (.int .i64)) (.sl (.int .i64)))))), (.sl (.int .i64)), (.int .i64)] [.val .bool] (bodyOf Try.f34) Try.f34.ntmps [6] = (impl_IsCrewPlan_e N).F := by
  funext x
  kernel_rfl
theorem impl_IsCrewPlan_sound (N : Nat) : SoundC Try.prog 34 (impl_IsCrewPlan_e N) := by
  have h := runF_sound (f := 34) (code := bodyOf Try.f34) (N := N) (T := impl_IsCrewPlan_T N) (L := impl_IsCrewPlan_L) (ins := [(.sl (.pair (.int .i64) (.pair (.int .i64) (.pair (.sl (.int .i64)) (.sl (.int .i64)))))), (.sl (.int .i64)), (.int .i64)]) (outs := [.val .bool]) (res := [6]) mixed tt_ok ?_ Try.func34 (by kernel_rfl) rfl (by kernel_rfl) (by kernel_rfl) (by decide +kernel)
  · rw [impl_IsCrewPlan_eq] at h
    exact h
  · intro f e he
    unfold impl_IsCrewPlan_T at he
    split at he
    · rw [List.mem_singleton.1 he]; exact impl_CrewUse_sound N
    · rw [List.mem_singleton.1 he]; exact impl_areCrew_sound N
    · rw [List.mem_singleton.1 he]; exact impl_earliest_sound N
    · rw [List.mem_singleton.1 he]; exact impl_areWithin_sound N
    · cases he

/- laws.FnExactIsCrewPlan -/
def laws_FnExactIsCrewPlan (N : Nat) (x0 : List (Int × Int × (List Int) × List Int)) (x1 : List Int) (x2 : Int) : Option (Bool × Unit) :=
  cond (decide ((List.length x1 : Int) > 1048576))
    (some (true, ()))
    (Option.bind (laws_szTaskS N x0 1048576) fun r1 =>
    cond (decide (r1.1 < 0))
      (some (true, ()))
      (Option.bind (laws_toTaskS N x0) fun r2 =>
      Option.bind (laws_toInt64S N x1) fun r3 =>
      Option.bind (spec_IsCrewPlan N r2.1 r3.1 x2) fun r4 =>
      Option.bind (laws_toTaskS N x0) fun r5 =>
      Option.bind (laws_toInt64S N x1) fun r6 =>
      Option.bind (impl_IsCrewPlan N r5.1 r6.1 x2) fun r7 =>
      cond (!(r7.1 == r4.1))
        (some (false, ()))
        (Option.bind (laws_toTaskS N x0) fun r8 =>
        Option.bind (laws_eqTaskS N r5.1 r8.1) fun r9 =>
        cond (!r9.1)
          (some (false, ()))
          (Option.bind (laws_toInt64S N x1) fun r10 =>
          Option.bind (laws_eqInt64S N r6.1 r10.1) fun r11 =>
          cond (!r11.1)
            (some (false, ()))
            (some (true, ()))))))
def laws_FnExactIsCrewPlan_e (N : Nat) : Ent := { ins := [(.sl (.pair (.int .i64) (.pair (.int .i64) (.pair (.sl (.int .i64)) (.sl (.int .i64)))))), (.sl (.int .i64)), (.int .i64)], outs := [.val .bool], F := fun x => laws_FnExactIsCrewPlan N x.1 x.2.1 x.2.2.1 }
def laws_FnExactIsCrewPlan_T (N : Nat) : Nat → List EntX
  | 15 => [.pl (laws_szTaskS_e N)]
  | 17 => [.pl (laws_toTaskS_e N)]
  | 18 => [.pl (laws_toInt64S_e N)]
  | 20 => [.pl (laws_eqTaskS_e N)]
  | 21 => [.pl (laws_eqInt64S_e N)]
  | 33 => [.pl (spec_IsCrewPlan_e N)]
  | 34 => [.pl (impl_IsCrewPlan_e N)]
  | _ => []
def laws_FnExactIsCrewPlan_L : Nat → List (Nat × TK) := fun _ => []
theorem laws_FnExactIsCrewPlan_eq (N : Nat) : runF N tt (laws_FnExactIsCrewPlan_T N) laws_FnExactIsCrewPlan_L [(.sl (.pair (.int .i64) (.pair (.int .i64) (.pair (.sl (.int .i64)) (.sl (.int .i64)))))), (.sl (.int .i64)), (.int .i64)] [.val .bool] (bodyOf Try.f8) Try.f8.ntmps [6] = (laws_FnExactIsCrewPlan_e N).F := by
  funext x
  kernel_rfl
theorem laws_FnExactIsCrewPlan_sound (N : Nat) : SoundC Try.prog 8 (laws_FnExactIsCrewPlan_e N) := by
  have h := runF_sound (f := 8) (code := bodyOf Try.f8) (N := N) (T := laws_FnExactIsCrewPlan_T N) (L := laws_FnExactIsCrewPlan_L) (ins := [(.sl (.pair (.int .i64) (.pair (.int .i64) (.pair (.sl (.int .i64)) (.sl (.int .i64)))))), (.sl (.int .i64)), (.int .i64)]) (outs := [.val .bool]) (res := [6]) mixed tt_ok ?_ Try.func8 (by kernel_rfl) rfl (by kernel_rfl) (by kernel_rfl) (by decide +kernel)
  · rw [laws_FnExactIsCrewPlan_eq] at h
    exact h
  · intro f e he
    unfold laws_FnExactIsCrewPlan_T at he
    split at he
    · rw [List.mem_singleton.1 he]; exact laws_szTaskS_sound N
    · rw [List.mem_singleton.1 he]; exact laws_toTaskS_sound N
    · rw [List.mem_singleton.1 he]; exact laws_toInt64S_sound N
    · rw [List.mem_singleton.1 he]; exact laws_eqTaskS_sound N
    · rw [List.mem_singleton.1 he]; exact laws_eqInt64S_sound N
    · rw [List.mem_singleton.1 he]; exact spec_IsCrewPlan_sound N
    · rw [List.mem_singleton.1 he]; exact impl_IsCrewPlan_sound N
    · cases he

end Go.Proofs.Ytobgddikninjpaa
