/-
  The plain functions of this seat, printed by a program, each equal to the evaluator's run, with its contract. No condition.
-/
import Derived.Test.YtojjnifdkanpfaaFwV
import Derived.Test.YtojjnifdkanpfaaChecked
import Derived.Test.YtojjnifdkanpfaaMark1
import Derived.Test.YtojjnifdkanpfaaMark2
import Derived.Test.YtojjnifdkanpfaaClo
import Derived.Test.YtojjnifdkanpfaaHa7
namespace Go.Proofs.Ytojjnifdkanpfaa
open Go Go.Proofs.Ytojjnifdkanpfaa.Fw
set_option maxRecDepth 100000
set_option linter.unusedVariables false

theorem mixed : Try.prog.follows .mixedOrders = true := Try.checked.mixed
def tt : Nat → TD
  | 2 => tdInt .i64
  | 3 => tdInt .i64
  | 4 => tdBool
  | 22 => tdSl (.pair (.int .i64) (.pair (.int .i64) (.pair (.sl (.int .i64)) (.sl (.int .i64))))) 64
  | 23 => tdSl (.int .i64) 8
  | 27 => tdSl (.pair (.int .i64) (.pair (.int .i64) (.pair (.sl (.int .i64)) (.sl (.int .i64))))) 64
  | 37 => tdSt 4 [(0, 1, false), (1, 1, false), (2, 1, false), (3, 1, false)] [.g (.int .i64) (0 : Int), .g (.int .i64) (0 : Int), .nil, .nil]
  | 40 => tdSt 4 [(0, 1, false), (1, 1, false), (2, 1, false), (3, 1, false)] [.g (.int .i64) (0 : Int), .g (.int .i64) (0 : Int), .nil, .nil]
  | _ => tdNone
theorem tt_2 : TDok Try.prog 2 (tdInt .i64) := tdok_int (b := 8) (by kernel_rfl) (by kernel_rfl)
theorem tt_3 : TDok Try.prog 3 (tdInt .i64) := tdok_int (b := 8) (by kernel_rfl) (by kernel_rfl)
theorem tt_4 : TDok Try.prog 4 (tdBool) := tdok_bool (b := 1) (by kernel_rfl) (by kernel_rfl)
theorem tt_22 : TDok Try.prog 22 (tdSl (.pair (.int .i64) (.pair (.int .i64) (.pair (.sl (.int .i64)) (.sl (.int .i64))))) 64) := tdok_sl (b := 24) (e := 37) (z := (.agg #[(.int .i64 0), (.int .i64 0), (.slice none 0 0), (.slice none 0 0)])) (by kernel_rfl) (by kernel_rfl) (by kernel_rfl) (by decide) (fun _ => by kernel_rfl)
theorem tt_23 : TDok Try.prog 23 (tdSl (.int .i64) 8) := tdok_sl (b := 24) (e := 2) (z := (.int .i64 0)) (by kernel_rfl) (by kernel_rfl) (by kernel_rfl) (by decide) (fun _ => by kernel_rfl)
theorem tt_27 : TDok Try.prog 27 (tdSl (.pair (.int .i64) (.pair (.int .i64) (.pair (.sl (.int .i64)) (.sl (.int .i64))))) 64) := tdok_sl (b := 24) (e := 40) (z := (.agg #[(.int .i64 0), (.int .i64 0), (.slice none 0 0), (.slice none 0 0)])) (by kernel_rfl) (by kernel_rfl) (by kernel_rfl) (by decide) (fun _ => by kernel_rfl)
theorem tt_37 : TDok Try.prog 37 (tdSt 4 [(0, 1, false), (1, 1, false), (2, 1, false), (3, 1, false)] [.g (.int .i64) (0 : Int), .g (.int .i64) (0 : Int), .nil, .nil]) := tdok_st (b := 64) (z := (.agg #[(.int .i64 0), (.int .i64 0), (.slice none 0 0), (.slice none 0 0)])) (by kernel_rfl) (by kernel_rfl) (by kernel_rfl) (by kernel_rfl) (by kernel_rfl)
theorem tt_40 : TDok Try.prog 40 (tdSt 4 [(0, 1, false), (1, 1, false), (2, 1, false), (3, 1, false)] [.g (.int .i64) (0 : Int), .g (.int .i64) (0 : Int), .nil, .nil]) := tdok_st (b := 64) (z := (.agg #[(.int .i64 0), (.int .i64 0), (.slice none 0 0), (.slice none 0 0)])) (by kernel_rfl) (by kernel_rfl) (by kernel_rfl) (by kernel_rfl) (by kernel_rfl)
theorem tt_ok (t : Nat) : TDok Try.prog t (tt t) := by
  unfold tt
  split
  · exact tt_2
  · exact tt_3
  · exact tt_4
  · exact tt_22
  · exact tt_23
  · exact tt_27
  · exact tt_37
  · exact tt_40
  · exact tdok_none

/- laws.szInt64S -/
def laws_szInt64S (_N : Nat) (x0 : List Int) (x1 : Int) : Option (Int × Unit) :=
  cond (decide ((w64 (x1 - (List.length x0 : Int))) < 0))
    (some ((-1), ()))
    (some ((w64 (x1 - (List.length x0 : Int))), ()))
def laws_szInt64S_e (N : Nat) : Ent := { ins := [(.sl (.int .i64)), (.int .i64)], outs := [.val (.int .i64)], F := fun x => laws_szInt64S N x.1 x.2.1 }
def laws_szInt64S_T (_ : Nat) : Nat → List EntX := fun _ => []
def laws_szInt64S_L : Nat → List (Nat × TK) := fun _ => []
theorem laws_szInt64S_eq (N : Nat) : runF N tt (laws_szInt64S_T N) laws_szInt64S_L [(.sl (.int .i64)), (.int .i64)] [.val (.int .i64)] (bodyOf Try.f30) Try.f30.ntmps [4] = (laws_szInt64S_e N).F := by
  funext x
  kernel_rfl
theorem laws_szInt64S_sound (N : Nat) : SoundC Try.prog 30 (laws_szInt64S_e N) := by
  have h := runF_sound (f := 30) (code := bodyOf Try.f30) (N := N) (T := (laws_szInt64S_T N)) (L := laws_szInt64S_L) (ins := [(.sl (.int .i64)), (.int .i64)]) (outs := [.val (.int .i64)]) (res := [4]) mixed tt_ok ?_ Try.func30 (by kernel_rfl) rfl (by kernel_rfl) (by kernel_rfl) (by decide +kernel)
  · rw [laws_szInt64S_eq] at h
    exact h
  · intro f e he
    cases he

/- laws.szTask -/
def laws_szTask (N : Nat) (x0 : Int × Int × (List Int) × List Int) (x1 : Int) : Option (Int × Unit) :=
  Option.bind (laws_szInt64S N x0.2.2.1 x1) fun r1 =>
  cond (decide (r1.1 < 0))
    (some ((-1), ()))
    (Option.bind (laws_szInt64S N x0.2.2.2 r1.1) fun r2 =>
    cond (decide (r2.1 < 0))
      (some ((-1), ()))
      (some (r2.1, ())))
def laws_szTask_e (N : Nat) : Ent := { ins := [(.pair (.int .i64) (.pair (.int .i64) (.pair (.sl (.int .i64)) (.sl (.int .i64))))), (.int .i64)], outs := [.val (.int .i64)], F := fun x => laws_szTask N x.1 x.2.1 }
def laws_szTask_T (N : Nat) : Nat → List EntX
  | 30 => [.pl (laws_szInt64S_e N)]
  | _ => []
def laws_szTask_L : Nat → List (Nat × TK) := fun _ => []
theorem laws_szTask_eq (N : Nat) : runF N tt (laws_szTask_T N) laws_szTask_L [(.pair (.int .i64) (.pair (.int .i64) (.pair (.sl (.int .i64)) (.sl (.int .i64))))), (.int .i64)] [.val (.int .i64)] (bodyOf Try.f14) Try.f14.ntmps [4] = (laws_szTask_e N).F := by
  funext x
  kernel_rfl
theorem laws_szTask_sound (N : Nat) : SoundC Try.prog 14 (laws_szTask_e N) := by
  have h := runF_sound (f := 14) (code := bodyOf Try.f14) (N := N) (T := (laws_szTask_T N)) (L := laws_szTask_L) (ins := [(.pair (.int .i64) (.pair (.int .i64) (.pair (.sl (.int .i64)) (.sl (.int .i64))))), (.int .i64)]) (outs := [.val (.int .i64)]) (res := [4]) mixed tt_ok ?_ Try.func14 (by kernel_rfl) rfl (by kernel_rfl) (by kernel_rfl) (by decide +kernel)
  · rw [laws_szTask_eq] at h
    exact h
  · intro f e he
    unfold laws_szTask_T at he
    split at he
    · rw [List.mem_singleton.1 he]; exact laws_szInt64S_sound N
    · cases he

/- laws.szTaskS -/
def laws_szTaskS (N : Nat) (x0 : List (Int × Int × (List Int) × List Int)) (x1 : Int) : Option (Int × Unit) :=
  cond (decide ((w64 (x1 - (List.length x0 : Int))) < 0))
    (some ((-1), ()))
    (loopN (fun (s1 : Int × Int × Unit) next2 =>
      cond (decide (s1.2.1 < (List.length x0 : Int)))
        (Option.bind (idx x0 s1.2.1) fun v3 =>
        Option.bind (laws_szTask N v3 s1.1) fun r4 =>
        cond (decide (r4.1 < 0))
          (some ((-1), ()))
          (next2 (r4.1, (w64 (s1.2.1 + 1)), ())))
        (some (s1.1, ()))) N ((w64 (x1 - (List.length x0 : Int))), 0, ()))
def laws_szTaskS_e (N : Nat) : Ent := { ins := [(.sl (.pair (.int .i64) (.pair (.int .i64) (.pair (.sl (.int .i64)) (.sl (.int .i64)))))), (.int .i64)], outs := [.val (.int .i64)], F := fun x => laws_szTaskS N x.1 x.2.1 }
def laws_szTaskS_T (N : Nat) : Nat → List EntX
  | 14 => [.pl (laws_szTask_e N)]
  | _ => []
def laws_szTaskS_L : Nat → List (Nat × TK)
  | 5 => [(1, .v (.int .i64)), (5, .v (.int .i64))]
  | _ => []
theorem laws_szTaskS_eq (N : Nat) : runF N tt (laws_szTaskS_T N) laws_szTaskS_L [(.sl (.pair (.int .i64) (.pair (.int .i64) (.pair (.sl (.int .i64)) (.sl (.int .i64)))))), (.int .i64)] [.val (.int .i64)] (bodyOf Try.f4) Try.f4.ntmps [4] = (laws_szTaskS_e N).F := by
  funext x
  kernel_rfl
theorem laws_szTaskS_sound (N : Nat) : SoundC Try.prog 4 (laws_szTaskS_e N) := by
  have h := runF_sound (f := 4) (code := bodyOf Try.f4) (N := N) (T := (laws_szTaskS_T N)) (L := laws_szTaskS_L) (ins := [(.sl (.pair (.int .i64) (.pair (.int .i64) (.pair (.sl (.int .i64)) (.sl (.int .i64)))))), (.int .i64)]) (outs := [.val (.int .i64)]) (res := [4]) mixed tt_ok ?_ Try.func4 (by kernel_rfl) rfl (by kernel_rfl) (by kernel_rfl) (by decide +kernel)
  · rw [laws_szTaskS_eq] at h
    exact h
  · intro f e he
    unfold laws_szTaskS_T at he
    split at he
    · rw [List.mem_singleton.1 he]; exact laws_szTask_sound N
    · cases he

/- spec.l00In -/
def spec_l00In (_N : Nat) (x0 : Int) (x1 : Int) (x2 : Int) : Option (Bool × Unit) :=
  cond (decide (x0 ≥ x1))
    (some ((decide (x0 ≤ x2)), ()))
    (some (false, ()))
def spec_l00In_e (N : Nat) : Ent := { ins := [(.int .i64), (.int .i64), (.int .i64)], outs := [.val .bool], F := fun x => spec_l00In N x.1 x.2.1 x.2.2.1 }
def spec_l00In_T (_ : Nat) : Nat → List EntX := fun _ => []
def spec_l00In_L : Nat → List (Nat × TK) := fun _ => []
theorem spec_l00In_eq (N : Nat) : runF N tt (spec_l00In_T N) spec_l00In_L [(.int .i64), (.int .i64), (.int .i64)] [.val .bool] (bodyOf Try.f16) Try.f16.ntmps [6] = (spec_l00In_e N).F := by
  funext x
  kernel_rfl
theorem spec_l00In_sound (N : Nat) : SoundC Try.prog 16 (spec_l00In_e N) := by
  have h := runF_sound (f := 16) (code := bodyOf Try.f16) (N := N) (T := (spec_l00In_T N)) (L := spec_l00In_L) (ins := [(.int .i64), (.int .i64), (.int .i64)]) (outs := [.val .bool]) (res := [6]) mixed tt_ok ?_ Try.func16 (by kernel_rfl) rfl (by kernel_rfl) (by kernel_rfl) (by decide +kernel)
  · rw [spec_l00In_eq] at h
    exact h
  · intro f e he
    cases he

/- spec.l03Task -/
def spec_l03Task (N : Nat) (x0 : Int × Int × (List Int) × List Int) (x1 : Int) : Option (Bool × Unit) :=
  Option.bind (spec_l00In N x0.1 0 100) fun r1 =>
  cond (!r1.1)
    (some (false, ()))
    (Option.bind (spec_l00In N x0.2.1 0 20) fun r2 =>
    cond (!r2.1)
      (some (false, ()))
      (cond ((List.length x0.2.2.2 : Int) != (List.length x0.2.2.1 : Int))
        (some (false, ()))
        (loopN (fun (s3 : Int × Unit) next4 =>
          cond (decide (s3.1 < (List.length x0.2.2.1 : Int)))
            (Option.bind (idx x0.2.2.1 s3.1) fun v5 =>
            Option.bind (spec_l00In N v5 0 (w64 (x1 - 1))) fun r6 =>
            cond (!r6.1)
              (some (false, ()))
              (cond (decide (s3.1 > 0))
                (Option.bind (idx x0.2.2.1 s3.1) fun v7 =>
                Option.bind (idx x0.2.2.1 (w64 (s3.1 - 1))) fun v8 =>
                cond (decide (v7 ≤ v8))
                  (some (false, ()))
                  (Option.bind (idx x0.2.2.2 s3.1) fun v9 =>
                  Option.bind (spec_l00In N v9 (-100) 100) fun r10 =>
                  cond (!r10.1)
                    (some (false, ()))
                    (next4 ((w64 (s3.1 + 1)), ()))))
                (Option.bind (idx x0.2.2.2 s3.1) fun v11 =>
                Option.bind (spec_l00In N v11 (-100) 100) fun r12 =>
                cond (!r12.1)
                  (some (false, ()))
                  (next4 ((w64 (s3.1 + 1)), ())))))
            (some (true, ()))) N (0, ()))))
def spec_l03Task_e (N : Nat) : Ent := { ins := [(.bx (.pair (.int .i64) (.pair (.int .i64) (.pair (.sl (.int .i64)) (.sl (.int .i64)))))), (.int .i64)], outs := [.val .bool], F := fun x => spec_l03Task N x.1 x.2.1 }
def spec_l03Task_T (N : Nat) : Nat → List EntX
  | 16 => [.pl (spec_l00In_e N)]
  | _ => []
def spec_l03Task_L : Nat → List (Nat × TK)
  | 4 => [(38, .v (.int .i64))]
  | _ => []
theorem spec_l03Task_eq (N : Nat) : runF N tt (spec_l03Task_T N) spec_l03Task_L [(.bx (.pair (.int .i64) (.pair (.int .i64) (.pair (.sl (.int .i64)) (.sl (.int .i64)))))), (.int .i64)] [.val .bool] (bodyOf Try.f31) Try.f31.ntmps [4] = (spec_l03Task_e N).F := by
  funext x
  kernel_rfl
theorem spec_l03Task_sound (N : Nat) : SoundC Try.prog 31 (spec_l03Task_e N) := by
  have h := runF_sound (f := 31) (code := bodyOf Try.f31) (N := N) (T := (spec_l03Task_T N)) (L := spec_l03Task_L) (ins := [(.bx (.pair (.int .i64) (.pair (.int .i64) (.pair (.sl (.int .i64)) (.sl (.int .i64)))))), (.int .i64)]) (outs := [.val .bool]) (res := [4]) mixed tt_ok ?_ Try.func31 (by kernel_rfl) rfl (by kernel_rfl) (by kernel_rfl) (by decide +kernel)
  · rw [spec_l03Task_eq] at h
    exact h
  · intro f e he
    unfold spec_l03Task_T at he
    split at he
    · rw [List.mem_singleton.1 he]; exact spec_l00In_sound N
    · cases he

/- spec.l03Are -/
def spec_l03Are (N : Nat) (x0 : List (Int × Int × (List Int) × List Int)) : Option (Bool × Unit) :=
  loopN (fun (s1 : Int × Unit) next2 =>
    cond (decide (s1.1 < (List.length x0 : Int)))
      (Option.bind (idx x0 s1.1) fun v3 =>
      Option.bind (spec_l03Task N v3 s1.1) fun r4 =>
      cond (!r4.1)
        (some (false, ()))
        (next2 ((w64 (s1.1 + 1)), ())))
      (cond (decide ((List.length x0 : Int) ≥ 1))
        (some ((decide ((List.length x0 : Int) ≤ 16)), ()))
        (some (false, ())))) N (0, ())
def spec_l03Are_e (N : Nat) : Ent := { ins := [(.sl (.pair (.int .i64) (.pair (.int .i64) (.pair (.sl (.int .i64)) (.sl (.int .i64))))))], outs := [.val .bool], F := fun x => spec_l03Are N x.1 }
def spec_l03Are_T (N : Nat) : Nat → List EntX
  | 31 => [.pl (spec_l03Task_e N)]
  | _ => []
def spec_l03Are_L : Nat → List (Nat × TK)
  | 2 => [(6, .v (.int .i64))]
  | _ => []
theorem spec_l03Are_eq (N : Nat) : runF N tt (spec_l03Are_T N) spec_l03Are_L [(.sl (.pair (.int .i64) (.pair (.int .i64) (.pair (.sl (.int .i64)) (.sl (.int .i64))))))] [.val .bool] (bodyOf Try.f15) Try.f15.ntmps [2] = (spec_l03Are_e N).F := by
  funext x
  kernel_rfl
theorem spec_l03Are_sound (N : Nat) : SoundC Try.prog 15 (spec_l03Are_e N) := by
  have h := runF_sound (f := 15) (code := bodyOf Try.f15) (N := N) (T := (spec_l03Are_T N)) (L := spec_l03Are_L) (ins := [(.sl (.pair (.int .i64) (.pair (.int .i64) (.pair (.sl (.int .i64)) (.sl (.int .i64))))))]) (outs := [.val .bool]) (res := [2]) mixed tt_ok ?_ Try.func15 (by kernel_rfl) rfl (by kernel_rfl) (by kernel_rfl) (by decide +kernel)
  · rw [spec_l03Are_eq] at h
    exact h
  · intro f e he
    unfold spec_l03Are_T at he
    split at he
    · rw [List.mem_singleton.1 he]; exact spec_l03Task_sound N
    · cases he

/- spec.l00Max -/
def spec_l00Max (_N : Nat) (x0 : Int) (x1 : Int) : Option (Int × Unit) :=
  cond (decide (x0 > x1))
    (some (x0, ()))
    (some (x1, ()))
def spec_l00Max_e (N : Nat) : Ent := { ins := [(.int .i64), (.int .i64)], outs := [.val (.int .i64)], F := fun x => spec_l00Max N x.1 x.2.1 }
def spec_l00Max_T (_ : Nat) : Nat → List EntX := fun _ => []
def spec_l00Max_L : Nat → List (Nat × TK) := fun _ => []
theorem spec_l00Max_eq (N : Nat) : runF N tt (spec_l00Max_T N) spec_l00Max_L [(.int .i64), (.int .i64)] [.val (.int .i64)] (bodyOf Try.f32) Try.f32.ntmps [4] = (spec_l00Max_e N).F := by
  funext x
  kernel_rfl
theorem spec_l00Max_sound (N : Nat) : SoundC Try.prog 32 (spec_l00Max_e N) := by
  have h := runF_sound (f := 32) (code := bodyOf Try.f32) (N := N) (T := (spec_l00Max_T N)) (L := spec_l00Max_L) (ins := [(.int .i64), (.int .i64)]) (outs := [.val (.int .i64)]) (res := [4]) mixed tt_ok ?_ Try.func32 (by kernel_rfl) rfl (by kernel_rfl) (by kernel_rfl) (by decide +kernel)
  · rw [spec_l00Max_eq] at h
    exact h
  · intro f e he
    cases he

/- spec.l03End -/
def spec_l03End (N : Nat) (x0 : List (Int × Int × (List Int) × List Int)) (x1 : List Int) : Option (Int × Unit) :=
  loopN (fun (s1 : Int × Int × Unit) next2 =>
    cond (decide (s1.2.1 < (List.length x0 : Int)))
      (Option.bind (idx x1 s1.2.1) fun v3 =>
      Option.bind (idx x0 s1.2.1) fun v4 =>
      Option.bind (spec_l00Max N s1.1 (w64 (v3 + v4.1))) fun r5 =>
      next2 (r5.1, (w64 (s1.2.1 + 1)), ()))
      (some (s1.1, ()))) N (0, 0, ())
def spec_l03End_e (N : Nat) : Ent := { ins := [(.sl (.pair (.int .i64) (.pair (.int .i64) (.pair (.sl (.int .i64)) (.sl (.int .i64)))))), (.sl (.int .i64))], outs := [.val (.int .i64)], F := fun x => spec_l03End N x.1 x.2.1 }
def spec_l03End_T (N : Nat) : Nat → List EntX
  | 32 => [.pl (spec_l00Max_e N)]
  | _ => []
def spec_l03End_L : Nat → List (Nat × TK)
  | 3 => [(5, .v (.int .i64)), (9, .v (.int .i64))]
  | _ => []
theorem spec_l03End_eq (N : Nat) : runF N tt (spec_l03End_T N) spec_l03End_L [(.sl (.pair (.int .i64) (.pair (.int .i64) (.pair (.sl (.int .i64)) (.sl (.int .i64)))))), (.sl (.int .i64))] [.val (.int .i64)] (bodyOf Try.f17) Try.f17.ntmps [4] = (spec_l03End_e N).F := by
  funext x
  kernel_rfl
theorem spec_l03End_sound (N : Nat) : SoundC Try.prog 17 (spec_l03End_e N) := by
  have h := runF_sound (f := 17) (code := bodyOf Try.f17) (N := N) (T := (spec_l03End_T N)) (L := spec_l03End_L) (ins := [(.sl (.pair (.int .i64) (.pair (.int .i64) (.pair (.sl (.int .i64)) (.sl (.int .i64)))))), (.sl (.int .i64))]) (outs := [.val (.int .i64)]) (res := [4]) mixed tt_ok ?_ Try.func17 (by kernel_rfl) rfl (by kernel_rfl) (by kernel_rfl) (by decide +kernel)
  · rw [spec_l03End_eq] at h
    exact h
  · intro f e he
    unfold spec_l03End_T at he
    split at he
    · rw [List.mem_singleton.1 he]; exact spec_l00Max_sound N
    · cases he

/- spec.l03Least -/
def spec_l03Least (N : Nat) (x0 : List (Int × Int × (List Int) × List Int)) (x1 : List Int) (x2 : Int) : Option (Int × Unit) :=
  Option.bind (idx x0 x2) fun v1 =>
  loopN (fun (s2 : Int × Int × Unit) next3 =>
    cond (decide (s2.2.1 < (List.length v1.2.2.1 : Int)))
      (Option.bind (idx x0 x2) fun v4 =>
      Option.bind (idx v4.2.2.1 s2.2.1) fun v5 =>
      Option.bind (idx x1 v5) fun v6 =>
      Option.bind (idx x0 v5) fun v7 =>
      Option.bind (idx x0 x2) fun v8 =>
      Option.bind (idx v8.2.2.2 s2.2.1) fun v9 =>
      Option.bind (spec_l00Max N s2.1 (w64 ((w64 (v6 + v7.1)) + v9))) fun r10 =>
      next3 (r10.1, (w64 (s2.2.1 + 1)), ()))
      (some (s2.1, ()))) N (0, 0, ())
def spec_l03Least_e (N : Nat) : Ent := { ins := [(.sl (.pair (.int .i64) (.pair (.int .i64) (.pair (.sl (.int .i64)) (.sl (.int .i64)))))), (.sl (.int .i64)), (.int .i64)], outs := [.val (.int .i64)], F := fun x => spec_l03Least N x.1 x.2.1 x.2.2.1 }
def spec_l03Least_T (N : Nat) : Nat → List EntX
  | 32 => [.pl (spec_l00Max_e N)]
  | _ => []
def spec_l03Least_L : Nat → List (Nat × TK)
  | 3 => [(7, .v (.int .i64)), (16, .v (.int .i64))]
  | _ => []
theorem spec_l03Least_eq (N : Nat) : runF N tt (spec_l03Least_T N) spec_l03Least_L [(.sl (.pair (.int .i64) (.pair (.int .i64) (.pair (.sl (.int .i64)) (.sl (.int .i64)))))), (.sl (.int .i64)), (.int .i64)] [.val (.int .i64)] (bodyOf Try.f33) Try.f33.ntmps [6] = (spec_l03Least_e N).F := by
  funext x
  kernel_rfl
theorem spec_l03Least_sound (N : Nat) : SoundC Try.prog 33 (spec_l03Least_e N) := by
  have h := runF_sound (f := 33) (code := bodyOf Try.f33) (N := N) (T := (spec_l03Least_T N)) (L := spec_l03Least_L) (ins := [(.sl (.pair (.int .i64) (.pair (.int .i64) (.pair (.sl (.int .i64)) (.sl (.int .i64)))))), (.sl (.int .i64)), (.int .i64)]) (outs := [.val (.int .i64)]) (res := [6]) mixed tt_ok ?_ Try.func33 (by kernel_rfl) rfl (by kernel_rfl) (by kernel_rfl) (by decide +kernel)
  · rw [spec_l03Least_eq] at h
    exact h
  · intro f e he
    unfold spec_l03Least_T at he
    split at he
    · rw [List.mem_singleton.1 he]; exact spec_l00Max_sound N
    · cases he

/- spec.l03Early -/
def spec_l03Early (N : Nat) (x0 : List (Int × Int × (List Int) × List Int)) : Option (List (Int) × Unit) :=
  cond (mkOk (List.length x0 : Int) (List.length x0 : Int))
    (let xs1 := (List.replicate (Int.toNat (List.length x0 : Int)) (0 : Int) : List (Int))
    loopN (fun (s2 : List (Int) × Int × Unit) next3 =>
      cond (decide (s2.2.1 < (List.length x0 : Int)))
        (Option.bind (spec_l03Least N x0 s2.1 s2.2.1) fun r4 =>
        cond (inB s2.2.1 (List.length s2.1))
          (let xs5 := (List.set s2.1 (Int.toNat s2.2.1) r4.1)
          next3 (xs5, (w64 (s2.2.1 + 1)), ())) none)
        (some (s2.1, ()))) N (xs1, 0, ())) none
def spec_l03Early_e (N : Nat) : Ent := { ins := [(.sl (.pair (.int .i64) (.pair (.int .i64) (.pair (.sl (.int .i64)) (.sl (.int .i64))))))], outs := [.own (.int .i64)], F := fun x => spec_l03Early N x.1 }
def spec_l03Early_T (N : Nat) : Nat → List EntX
  | 33 => [.pl (spec_l03Least_e N)]
  | _ => []
def spec_l03Early_L : Nat → List (Nat × TK)
  | 3 => [(3, .own (.int .i64)), (10, .v (.int .i64))]
  | _ => []
theorem spec_l03Early_eq (N : Nat) : runF N tt (spec_l03Early_T N) spec_l03Early_L [(.sl (.pair (.int .i64) (.pair (.int .i64) (.pair (.sl (.int .i64)) (.sl (.int .i64))))))] [.own (.int .i64)] (bodyOf Try.f18) Try.f18.ntmps [2] = (spec_l03Early_e N).F := by
  funext x
  kernel_rfl
theorem spec_l03Early_sound (N : Nat) : SoundC Try.prog 18 (spec_l03Early_e N) := by
  have h := runF_sound (f := 18) (code := bodyOf Try.f18) (N := N) (T := (spec_l03Early_T N)) (L := spec_l03Early_L) (ins := [(.sl (.pair (.int .i64) (.pair (.int .i64) (.pair (.sl (.int .i64)) (.sl (.int .i64))))))]) (outs := [.own (.int .i64)]) (res := [2]) mixed tt_ok ?_ Try.func18 (by kernel_rfl) rfl (by kernel_rfl) (by kernel_rfl) (by decide +kernel)
  · rw [spec_l03Early_eq] at h
    exact h
  · intro f e he
    unfold spec_l03Early_T at he
    split at he
    · rw [List.mem_singleton.1 he]; exact spec_l03Least_sound N
    · cases he

/- spec.l00Min -/
def spec_l00Min (_N : Nat) (x0 : Int) (x1 : Int) : Option (Int × Unit) :=
  cond (decide (x0 < x1))
    (some (x0, ()))
    (some (x1, ()))
def spec_l00Min_e (N : Nat) : Ent := { ins := [(.int .i64), (.int .i64)], outs := [.val (.int .i64)], F := fun x => spec_l00Min N x.1 x.2.1 }
def spec_l00Min_T (_ : Nat) : Nat → List EntX := fun _ => []
def spec_l00Min_L : Nat → List (Nat × TK) := fun _ => []
theorem spec_l00Min_eq (N : Nat) : runF N tt (spec_l00Min_T N) spec_l00Min_L [(.int .i64), (.int .i64)] [.val (.int .i64)] (bodyOf Try.f19) Try.f19.ntmps [4] = (spec_l00Min_e N).F := by
  funext x
  kernel_rfl
theorem spec_l00Min_sound (N : Nat) : SoundC Try.prog 19 (spec_l00Min_e N) := by
  have h := runF_sound (f := 19) (code := bodyOf Try.f19) (N := N) (T := (spec_l00Min_T N)) (L := spec_l00Min_L) (ins := [(.int .i64), (.int .i64)]) (outs := [.val (.int .i64)]) (res := [4]) mixed tt_ok ?_ Try.func19 (by kernel_rfl) rfl (by kernel_rfl) (by kernel_rfl) (by decide +kernel)
  · rw [spec_l00Min_eq] at h
    exact h
  · intro f e he
    cases he

/- spec.HastePlan -/
def spec_HastePlan (N : Nat) (x0 : List Ha.Tk) (x1 : List Int) (x2 : List Int) (x3 : Int) : Option (List (Int) × Int × Bool × Unit) :=
  Ha.hgF (spec_l03Are N) (spec_l00In N) (spec_l00Min N) (spec_l03Early N) (spec_l03End N) x0 x1 x2 x3
def spec_HastePlan_e (N : Nat) : Ent := { ins := [Arr.tkS.sl, (.sl (.int .i64)), (.sl (.int .i64)), (.int .i64)], outs := [.own (.int .i64), .val (.int .i64), .val .bool], F := fun x => spec_HastePlan N x.1 x.2.1 x.2.2.1 x.2.2.2.1 }
theorem spec_HastePlan_sound (N : Nat) : SoundC Try.prog 5 (spec_HastePlan_e N) := Ha.hg_sound (spec_l03Are_sound N) (spec_l00In_sound N) (spec_l00Min_sound N) (spec_l03Early_sound N) (spec_l03End_sound N)

/- laws.toInt64S -/
def laws_toInt64S (N : Nat) (x0 : List Int) : Option (List (Int) × Unit) :=
  cond (mkOk (List.length x0 : Int) (List.length x0 : Int))
    (let xs1 := (List.replicate (Int.toNat (List.length x0 : Int)) (0 : Int) : List (Int))
    loopN (fun (s2 : List (Int) × Int × Unit) next3 =>
      cond (decide (s2.2.1 < (List.length x0 : Int)))
        (Option.bind (idx x0 s2.2.1) fun v4 =>
        cond (inB s2.2.1 (List.length s2.1))
          (let xs5 := (List.set s2.1 (Int.toNat s2.2.1) v4)
          next3 (xs5, (w64 (s2.2.1 + 1)), ())) none)
        (some (s2.1, ()))) N (xs1, 0, ())) none
def laws_toInt64S_e (N : Nat) : Ent := { ins := [(.sl (.int .i64))], outs := [.own (.int .i64)], F := fun x => laws_toInt64S N x.1 }
def laws_toInt64S_T (_ : Nat) : Nat → List EntX := fun _ => []
def laws_toInt64S_L : Nat → List (Nat × TK)
  | 3 => [(3, .own (.int .i64)), (4, .v (.int .i64))]
  | _ => []
theorem laws_toInt64S_eq (N : Nat) : runF N tt (laws_toInt64S_T N) laws_toInt64S_L [(.sl (.int .i64))] [.own (.int .i64)] (bodyOf Try.f7) Try.f7.ntmps [2] = (laws_toInt64S_e N).F := by
  funext x
  kernel_rfl
theorem laws_toInt64S_sound (N : Nat) : SoundC Try.prog 7 (laws_toInt64S_e N) := by
  have h := runF_sound (f := 7) (code := bodyOf Try.f7) (N := N) (T := (laws_toInt64S_T N)) (L := laws_toInt64S_L) (ins := [(.sl (.int .i64))]) (outs := [.own (.int .i64)]) (res := [2]) mixed tt_ok ?_ Try.func7 (by kernel_rfl) rfl (by kernel_rfl) (by kernel_rfl) (by decide +kernel)
  · rw [laws_toInt64S_eq] at h
    exact h
  · intro f e he
    cases he

/- laws.toTask -/
def laws_toTask (N : Nat) (x0 : Int × Int × (List Int) × List Int) : Option ((Int × Int × (List Int) × List Int) × Unit) :=
  Option.bind (laws_toInt64S N x0.2.2.1) fun r1 =>
  Option.bind (laws_toInt64S N x0.2.2.2) fun r2 =>
  some ((x0.1, (x0.2.1, (r1.1, r2.1))), ())
def laws_toTask_e (N : Nat) : Ent := { ins := [(.pair (.int .i64) (.pair (.int .i64) (.pair (.sl (.int .i64)) (.sl (.int .i64)))))], outs := [.val (.nw (.pair (.int .i64) (.pair (.int .i64) (.pair (.sl (.int .i64)) (.sl (.int .i64))))))], F := fun x => laws_toTask N x.1 }
def laws_toTask_T (N : Nat) : Nat → List EntX
  | 7 => [.pl (laws_toInt64S_e N)]
  | _ => []
def laws_toTask_L : Nat → List (Nat × TK) := fun _ => []
theorem laws_toTask_eq (N : Nat) : runC N tt (laws_toTask_T N) laws_toTask_L [(.pair (.int .i64) (.pair (.int .i64) (.pair (.sl (.int .i64)) (.sl (.int .i64)))))] [.val (.nw (.pair (.int .i64) (.pair (.int .i64) (.pair (.sl (.int .i64)) (.sl (.int .i64))))))] (bodyOf Try.f20) Try.f20.ntmps [2] [(2, 40)] = (laws_toTask_e N).F := by
  funext x
  kernel_rfl
theorem laws_toTask_sound (N : Nat) : SoundC Try.prog 20 (laws_toTask_e N) := by
  have h := runC_sound (f := 20) (code := bodyOf Try.f20) (N := N) (T := (laws_toTask_T N)) (L := laws_toTask_L) (ins := [(.pair (.int .i64) (.pair (.int .i64) (.pair (.sl (.int .i64)) (.sl (.int .i64)))))]) (outs := [.val (.nw (.pair (.int .i64) (.pair (.int .i64) (.pair (.sl (.int .i64)) (.sl (.int .i64))))))]) (res := [2]) (rs := [.cell 2 40]) (cells := [(2, 40)]) mixed tt_ok ?_ Try.func20 (by kernel_rfl) rfl (by kernel_rfl) (by kernel_rfl) rfl rfl (by decide) (by decide +kernel) (by decide +kernel)
  · rw [laws_toTask_eq] at h
    exact h
  · intro f e he
    unfold laws_toTask_T at he
    split at he
    · rw [List.mem_singleton.1 he]; exact laws_toInt64S_sound N
    · cases he

/- laws.toTaskS -/
def laws_toTaskS (N : Nat) (x0 : List (Int × Int × (List Int) × List Int)) : Option (List (Int × Int × (List Int) × List Int) × Unit) :=
  cond (mkOk (List.length x0 : Int) (List.length x0 : Int))
    (let xs1 := (List.replicate (Int.toNat (List.length x0 : Int)) ((0 : Int), ((0 : Int), ([], []))) : List (Int × Int × (List Int) × List Int))
    loopN (fun (s2 : List (Int × Int × (List Int) × List Int) × Int × Unit) next3 =>
      cond (decide (s2.2.1 < (List.length x0 : Int)))
        (Option.bind (idx x0 s2.2.1) fun v4 =>
        Option.bind (laws_toTask N v4) fun r5 =>
        cond (inB s2.2.1 (List.length s2.1))
          (let xs6 := (List.set s2.1 (Int.toNat s2.2.1) r5.1)
          next3 (xs6, (w64 (s2.2.1 + 1)), ())) none)
        (some (s2.1, ()))) N (xs1, 0, ())) none
def laws_toTaskS_e (N : Nat) : Ent := { ins := [(.sl (.pair (.int .i64) (.pair (.int .i64) (.pair (.sl (.int .i64)) (.sl (.int .i64))))))], outs := [.own (.nw (.pair (.int .i64) (.pair (.int .i64) (.pair (.sl (.int .i64)) (.sl (.int .i64))))))], F := fun x => laws_toTaskS N x.1 }
def laws_toTaskS_T (N : Nat) : Nat → List EntX
  | 20 => [.pl (laws_toTask_e N)]
  | _ => []
def laws_toTaskS_L : Nat → List (Nat × TK)
  | 3 => [(3, .own (.nw (.pair (.int .i64) (.pair (.int .i64) (.pair (.sl (.int .i64)) (.sl (.int .i64))))))), (4, .v (.int .i64))]
  | _ => []
theorem laws_toTaskS_eq (N : Nat) : runF N tt (laws_toTaskS_T N) laws_toTaskS_L [(.sl (.pair (.int .i64) (.pair (.int .i64) (.pair (.sl (.int .i64)) (.sl (.int .i64))))))] [.own (.nw (.pair (.int .i64) (.pair (.int .i64) (.pair (.sl (.int .i64)) (.sl (.int .i64))))))] (bodyOf Try.f6) Try.f6.ntmps [2] = (laws_toTaskS_e N).F := by
  funext x
  kernel_rfl
theorem laws_toTaskS_sound (N : Nat) : SoundC Try.prog 6 (laws_toTaskS_e N) := by
  have h := runF_sound (f := 6) (code := bodyOf Try.f6) (N := N) (T := (laws_toTaskS_T N)) (L := laws_toTaskS_L) (ins := [(.sl (.pair (.int .i64) (.pair (.int .i64) (.pair (.sl (.int .i64)) (.sl (.int .i64))))))]) (outs := [.own (.nw (.pair (.int .i64) (.pair (.int .i64) (.pair (.sl (.int .i64)) (.sl (.int .i64))))))]) (res := [2]) mixed tt_ok ?_ Try.func6 (by kernel_rfl) rfl (by kernel_rfl) (by kernel_rfl) (by decide +kernel)
  · rw [laws_toTaskS_eq] at h
    exact h
  · intro f e he
    unfold laws_toTaskS_T at he
    split at he
    · rw [List.mem_singleton.1 he]; exact laws_toTask_sound N
    · cases he

/- impl.within -/
def impl_within (_N : Nat) (x0 : Int) (x1 : Int) (x2 : Int) : Option (Bool × Unit) :=
  cond (decide (x0 ≥ x1))
    (some ((decide (x0 ≤ x2)), ()))
    (some (false, ()))
def impl_within_e (N : Nat) : Ent := { ins := [(.int .i64), (.int .i64), (.int .i64)], outs := [.val .bool], F := fun x => impl_within N x.1 x.2.1 x.2.2.1 }
def impl_within_T (_ : Nat) : Nat → List EntX := fun _ => []
def impl_within_L : Nat → List (Nat × TK) := fun _ => []
theorem impl_within_eq (N : Nat) : runF N tt (impl_within_T N) impl_within_L [(.int .i64), (.int .i64), (.int .i64)] [.val .bool] (bodyOf Try.f23) Try.f23.ntmps [6] = (impl_within_e N).F := by
  funext x
  kernel_rfl
theorem impl_within_sound (N : Nat) : SoundC Try.prog 23 (impl_within_e N) := by
  have h := runF_sound (f := 23) (code := bodyOf Try.f23) (N := N) (T := (impl_within_T N)) (L := impl_within_L) (ins := [(.int .i64), (.int .i64), (.int .i64)]) (outs := [.val .bool]) (res := [6]) mixed tt_ok ?_ Try.func23 (by kernel_rfl) rfl (by kernel_rfl) (by kernel_rfl) (by decide +kernel)
  · rw [impl_within_eq] at h
    exact h
  · intro f e he
    cases he

/- impl.areWithin -/
def impl_areWithin (N : Nat) (x0 : List Int) (x1 : Int) (x2 : Int) : Option (Bool × Unit) :=
  loopN (fun (s1 : Int × Unit) next2 =>
    cond (decide (s1.1 < (List.length x0 : Int)))
      (Option.bind (idx x0 s1.1) fun v3 =>
      Option.bind (impl_within N v3 x1 x2) fun r4 =>
      cond (!r4.1)
        (some (false, ()))
        (next2 ((w64 (s1.1 + 1)), ())))
      (some (true, ()))) N (0, ())
def impl_areWithin_e (N : Nat) : Ent := { ins := [(.sl (.int .i64)), (.int .i64), (.int .i64)], outs := [.val .bool], F := fun x => impl_areWithin N x.1 x.2.1 x.2.2.1 }
def impl_areWithin_T (N : Nat) : Nat → List EntX
  | 23 => [.pl (impl_within_e N)]
  | _ => []
def impl_areWithin_L : Nat → List (Nat × TK)
  | 2 => [(11, .v (.int .i64))]
  | _ => []
theorem impl_areWithin_eq (N : Nat) : runF N tt (impl_areWithin_T N) impl_areWithin_L [(.sl (.int .i64)), (.int .i64), (.int .i64)] [.val .bool] (bodyOf Try.f34) Try.f34.ntmps [6] = (impl_areWithin_e N).F := by
  funext x
  kernel_rfl
theorem impl_areWithin_sound (N : Nat) : SoundC Try.prog 34 (impl_areWithin_e N) := by
  have h := runF_sound (f := 34) (code := bodyOf Try.f34) (N := N) (T := (impl_areWithin_T N)) (L := impl_areWithin_L) (ins := [(.sl (.int .i64)), (.int .i64), (.int .i64)]) (outs := [.val .bool]) (res := [6]) mixed tt_ok ?_ Try.func34 (by kernel_rfl) rfl (by kernel_rfl) (by kernel_rfl) (by decide +kernel)
  · rw [impl_areWithin_eq] at h
    exact h
  · intro f e he
    unfold impl_areWithin_T at he
    split at he
    · rw [List.mem_singleton.1 he]; exact impl_within_sound N
    · cases he

/- impl.AreTasks -/
def impl_AreTasks (N : Nat) (x0 : List (Int × Int × (List Int) × List Int)) : Option (Bool × Unit) :=
  loopN (fun (s1 : Int × Unit) next2 =>
    cond (decide (s1.1 < (List.length x0 : Int)))
      (Option.bind (idx x0 s1.1) fun v3 =>
      Option.bind (impl_within N v3.1 0 100) fun r4 =>
      cond (!r4.1)
        (some (false, ()))
        (Option.bind (impl_within N v3.2.1 0 20) fun r5 =>
        cond (!r5.1)
          (some (false, ()))
          (cond ((List.length v3.2.2.1 : Int) != (List.length v3.2.2.2 : Int))
            (some (false, ()))
            (Option.bind (impl_areWithin N v3.2.2.2 (-100) 100) fun r6 =>
            cond (!r6.1)
              (some (false, ()))
              (loopN (fun (s7 : Int × Unit) next8 =>
                cond (decide (s7.1 < (List.length v3.2.2.1 : Int)))
                  (Option.bind (idx v3.2.2.1 s7.1) fun v9 =>
                  Option.bind (impl_within N v9 0 (w64 (s1.1 - 1))) fun r10 =>
                  cond (!r10.1)
                    (some (false, ()))
                    (cond (decide (s7.1 > 0))
                      (Option.bind (idx v3.2.2.1 (w64 (s7.1 - 1))) fun v11 =>
                      cond (decide (v9 ≤ v11))
                        (some (false, ()))
                        (next8 ((w64 (s7.1 + 1)), ())))
                      (next8 ((w64 (s7.1 + 1)), ()))))
                  (next2 ((w64 (s1.1 + 1)), ()))) N (0, ()))))))
      (cond (decide ((List.length x0 : Int) ≥ 1))
        (some ((decide ((List.length x0 : Int) ≤ 16)), ()))
        (some (false, ())))) N (0, ())
def impl_AreTasks_e (N : Nat) : Ent := { ins := [(.sl (.pair (.int .i64) (.pair (.int .i64) (.pair (.sl (.int .i64)) (.sl (.int .i64))))))], outs := [.val .bool], F := fun x => impl_AreTasks N x.1 }
def impl_AreTasks_T (N : Nat) : Nat → List EntX
  | 23 => [.pl (impl_within_e N)]
  | 34 => [.pl (impl_areWithin_e N)]
  | _ => []
def impl_AreTasks_L : Nat → List (Nat × TK)
  | 2 => [(9, .v (.int .i64))]
  | 7 => [(42, .v (.int .i64))]
  | _ => []
theorem impl_AreTasks_eq (N : Nat) : runF N tt (impl_AreTasks_T N) impl_AreTasks_L [(.sl (.pair (.int .i64) (.pair (.int .i64) (.pair (.sl (.int .i64)) (.sl (.int .i64))))))] [.val .bool] (bodyOf Try.f21) Try.f21.ntmps [2] = (impl_AreTasks_e N).F := by
  funext x
  kernel_rfl
theorem impl_AreTasks_sound (N : Nat) : SoundC Try.prog 21 (impl_AreTasks_e N) := by
  have h := runF_sound (f := 21) (code := bodyOf Try.f21) (N := N) (T := (impl_AreTasks_T N)) (L := impl_AreTasks_L) (ins := [(.sl (.pair (.int .i64) (.pair (.int .i64) (.pair (.sl (.int .i64)) (.sl (.int .i64))))))]) (outs := [.val .bool]) (res := [2]) mixed tt_ok ?_ Try.func21 (by kernel_rfl) rfl (by kernel_rfl) (by kernel_rfl) (by decide +kernel)
  · rw [impl_AreTasks_eq] at h
    exact h
  · intro f e he
    unfold impl_AreTasks_T at he
    split at he
    · rw [List.mem_singleton.1 he]; exact impl_within_sound N
    · rw [List.mem_singleton.1 he]; exact impl_areWithin_sound N
    · cases he

/- impl.areMany -/
def impl_areMany (N : Nat) (x0 : List Int) (x1 : Int) (x2 : Int) (x3 : Int) (x4 : Int) : Option (Bool × Unit) :=
  cond (decide ((List.length x0 : Int) ≥ x1))
    (cond (decide ((List.length x0 : Int) ≤ x2))
      (Option.bind (impl_areWithin N x0 x3 x4) fun r1 =>
      some (r1.1, ()))
      (some (false, ())))
    (some (false, ()))
def impl_areMany_e (N : Nat) : Ent := { ins := [(.sl (.int .i64)), (.int .i64), (.int .i64), (.int .i64), (.int .i64)], outs := [.val .bool], F := fun x => impl_areMany N x.1 x.2.1 x.2.2.1 x.2.2.2.1 x.2.2.2.2.1 }
def impl_areMany_T (N : Nat) : Nat → List EntX
  | 34 => [.pl (impl_areWithin_e N)]
  | _ => []
def impl_areMany_L : Nat → List (Nat × TK) := fun _ => []
theorem impl_areMany_eq (N : Nat) : runF N tt (impl_areMany_T N) impl_areMany_L [(.sl (.int .i64)), (.int .i64), (.int .i64), (.int .i64), (.int .i64)] [.val .bool] (bodyOf Try.f22) Try.f22.ntmps [10] = (impl_areMany_e N).F := by
  funext x
  kernel_rfl
theorem impl_areMany_sound (N : Nat) : SoundC Try.prog 22 (impl_areMany_e N) := by
  have h := runF_sound (f := 22) (code := bodyOf Try.f22) (N := N) (T := (impl_areMany_T N)) (L := impl_areMany_L) (ins := [(.sl (.int .i64)), (.int .i64), (.int .i64), (.int .i64), (.int .i64)]) (outs := [.val .bool]) (res := [10]) mixed tt_ok ?_ Try.func22 (by kernel_rfl) rfl (by kernel_rfl) (by kernel_rfl) (by decide +kernel)
  · rw [impl_areMany_eq] at h
    exact h
  · intro f e he
    unfold impl_areMany_T at he
    split at he
    · rw [List.mem_singleton.1 he]; exact impl_areWithin_sound N
    · cases he

/- impl.earliest -/
def impl_earliest (N : Nat) (x0 : List (Int × Int × (List Int) × List Int)) (x1 : List Int) (x2 : Int) : Option (Int × Unit) :=
  Option.bind (idx x0 x2) fun v1 =>
  loopN (fun (s2 : Int × Int × Unit) next3 =>
    cond (decide (s2.2.1 < (List.length v1.2.2.1 : Int)))
      (Option.bind (idx v1.2.2.1 s2.2.1) fun v4 =>
      Option.bind (idx x1 v4) fun v5 =>
      Option.bind (idx x0 v4) fun v6 =>
      Option.bind (idx x0 x2) fun v7 =>
      Option.bind (idx v7.2.2.2 s2.2.1) fun v8 =>
      next3 ((imax s2.1 (w64 ((w64 (v5 + v6.1)) + v8))), (w64 (s2.2.1 + 1)), ()))
      (some (s2.1, ()))) N (0, 0, ())
def impl_earliest_e (N : Nat) : Ent := { ins := [(.sl (.pair (.int .i64) (.pair (.int .i64) (.pair (.sl (.int .i64)) (.sl (.int .i64)))))), (.sl (.int .i64)), (.int .i64)], outs := [.val (.int .i64)], F := fun x => impl_earliest N x.1 x.2.1 x.2.2.1 }
def impl_earliest_T (_ : Nat) : Nat → List EntX := fun _ => []
def impl_earliest_L : Nat → List (Nat × TK)
  | 3 => [(7, .v (.int .i64)), (16, .v (.int .i64))]
  | _ => []
theorem impl_earliest_eq (N : Nat) : runF N tt (impl_earliest_T N) impl_earliest_L [(.sl (.pair (.int .i64) (.pair (.int .i64) (.pair (.sl (.int .i64)) (.sl (.int .i64)))))), (.sl (.int .i64)), (.int .i64)] [.val (.int .i64)] (bodyOf Try.f35) Try.f35.ntmps [6] = (impl_earliest_e N).F := by
  funext x
  kernel_rfl
theorem impl_earliest_sound (N : Nat) : SoundC Try.prog 35 (impl_earliest_e N) := by
  have h := runF_sound (f := 35) (code := bodyOf Try.f35) (N := N) (T := (impl_earliest_T N)) (L := impl_earliest_L) (ins := [(.sl (.pair (.int .i64) (.pair (.int .i64) (.pair (.sl (.int .i64)) (.sl (.int .i64)))))), (.sl (.int .i64)), (.int .i64)]) (outs := [.val (.int .i64)]) (res := [6]) mixed tt_ok ?_ Try.func35 (by kernel_rfl) rfl (by kernel_rfl) (by kernel_rfl) (by decide +kernel)
  · rw [impl_earliest_eq] at h
    exact h
  · intro f e he
    cases he

/- impl.earlyStarts -/
def impl_earlyStarts (N : Nat) (x0 : List (Int × Int × (List Int) × List Int)) : Option (List (Int) × Unit) :=
  cond (mkOk (List.length x0 : Int) (List.length x0 : Int))
    (let xs1 := (List.replicate (Int.toNat (List.length x0 : Int)) (0 : Int) : List (Int))
    loopN (fun (s2 : List (Int) × Int × Unit) next3 =>
      cond (decide (s2.2.1 < (List.length x0 : Int)))
        (Option.bind (impl_earliest N x0 s2.1 s2.2.1) fun r4 =>
        cond (inB s2.2.1 (List.length s2.1))
          (let xs5 := (List.set s2.1 (Int.toNat s2.2.1) r4.1)
          next3 (xs5, (w64 (s2.2.1 + 1)), ())) none)
        (some (s2.1, ()))) N (xs1, 0, ())) none
def impl_earlyStarts_e (N : Nat) : Ent := { ins := [(.sl (.pair (.int .i64) (.pair (.int .i64) (.pair (.sl (.int .i64)) (.sl (.int .i64))))))], outs := [.own (.int .i64)], F := fun x => impl_earlyStarts N x.1 }
def impl_earlyStarts_T (N : Nat) : Nat → List EntX
  | 35 => [.pl (impl_earliest_e N)]
  | _ => []
def impl_earlyStarts_L : Nat → List (Nat × TK)
  | 3 => [(3, .own (.int .i64)), (10, .v (.int .i64))]
  | _ => []
theorem impl_earlyStarts_eq (N : Nat) : runF N tt (impl_earlyStarts_T N) impl_earlyStarts_L [(.sl (.pair (.int .i64) (.pair (.int .i64) (.pair (.sl (.int .i64)) (.sl (.int .i64))))))] [.own (.int .i64)] (bodyOf Try.f27) Try.f27.ntmps [2] = (impl_earlyStarts_e N).F := by
  funext x
  kernel_rfl
theorem impl_earlyStarts_sound (N : Nat) : SoundC Try.prog 27 (impl_earlyStarts_e N) := by
  have h := runF_sound (f := 27) (code := bodyOf Try.f27) (N := N) (T := (impl_earlyStarts_T N)) (L := impl_earlyStarts_L) (ins := [(.sl (.pair (.int .i64) (.pair (.int .i64) (.pair (.sl (.int .i64)) (.sl (.int .i64))))))]) (outs := [.own (.int .i64)]) (res := [2]) mixed tt_ok ?_ Try.func27 (by kernel_rfl) rfl (by kernel_rfl) (by kernel_rfl) (by decide +kernel)
  · rw [impl_earlyStarts_eq] at h
    exact h
  · intro f e he
    unfold impl_earlyStarts_T at he
    split at he
    · rw [List.mem_singleton.1 he]; exact impl_earliest_sound N
    · cases he

/- impl.lastEnd -/
def impl_lastEnd (N : Nat) (x0 : List (Int × Int × (List Int) × List Int)) (x1 : List Int) : Option (Int × Unit) :=
  loopN (fun (s1 : Int × Int × Unit) next2 =>
    cond (decide (s1.2.1 < (List.length x0 : Int)))
      (Option.bind (idx x0 s1.2.1) fun v3 =>
      Option.bind (idx x1 s1.2.1) fun v4 =>
      next2 ((imax s1.1 (w64 (v4 + v3.1))), (w64 (s1.2.1 + 1)), ()))
      (some (s1.1, ()))) N (0, 0, ())
def impl_lastEnd_e (N : Nat) : Ent := { ins := [(.sl (.pair (.int .i64) (.pair (.int .i64) (.pair (.sl (.int .i64)) (.sl (.int .i64)))))), (.sl (.int .i64))], outs := [.val (.int .i64)], F := fun x => impl_lastEnd N x.1 x.2.1 }
def impl_lastEnd_T (_ : Nat) : Nat → List EntX := fun _ => []
def impl_lastEnd_L : Nat → List (Nat × TK)
  | 3 => [(5, .v (.int .i64)), (10, .v (.int .i64))]
  | _ => []
theorem impl_lastEnd_eq (N : Nat) : runF N tt (impl_lastEnd_T N) impl_lastEnd_L [(.sl (.pair (.int .i64) (.pair (.int .i64) (.pair (.sl (.int .i64)) (.sl (.int .i64)))))), (.sl (.int .i64))] [.val (.int .i64)] (bodyOf Try.f26) Try.f26.ntmps [4] = (impl_lastEnd_e N).F := by
  funext x
  kernel_rfl
theorem impl_lastEnd_sound (N : Nat) : SoundC Try.prog 26 (impl_lastEnd_e N) := by
  have h := runF_sound (f := 26) (code := bodyOf Try.f26) (N := N) (T := (impl_lastEnd_T N)) (L := impl_lastEnd_L) (ins := [(.sl (.pair (.int .i64) (.pair (.int .i64) (.pair (.sl (.int .i64)) (.sl (.int .i64)))))), (.sl (.int .i64))]) (outs := [.val (.int .i64)]) (res := [4]) mixed tt_ok ?_ Try.func26 (by kernel_rfl) rfl (by kernel_rfl) (by kernel_rfl) (by decide +kernel)
  · rw [impl_lastEnd_eq] at h
    exact h
  · intro f e he
    cases he

/- slices.Clone[[]int64,int64] -/
def slices_Clone_int64_int64_ne (_N : Nat) (x0 : List Int) : Option (List (Int) × Unit) :=
  cond (List.isEmpty x0) none
    (cond (appOk (List.length ([] : List Int)) (List.length x0))
      (let xs1 := (([] : List Int) ++ x0)
      some (xs1, ())) none)
def slices_Clone_int64_int64_ne_e (N : Nat) : Ent := { ins := [(.sl (.int .i64))], outs := [.own (.int .i64)], F := fun x => slices_Clone_int64_int64_ne N x.1 }
def slices_Clone_int64_int64_ne_T (_ : Nat) : Nat → List EntX := fun _ => []
def slices_Clone_int64_int64_ne_L : Nat → List (Nat × TK) := fun _ => []
theorem slices_Clone_int64_int64_ne_eq (N : Nat) : runF N tt (slices_Clone_int64_int64_ne_T N) slices_Clone_int64_int64_ne_L [(.sl (.int .i64))] [.own (.int .i64)] (bodyOf Try.f28) Try.f28.ntmps [2] = (slices_Clone_int64_int64_ne_e N).F := by
  funext x
  kernel_rfl
theorem slices_Clone_int64_int64_ne_sound (N : Nat) : SoundC Try.prog 28 (slices_Clone_int64_int64_ne_e N) := by
  have h := runF_sound (f := 28) (code := bodyOf Try.f28) (N := N) (T := (slices_Clone_int64_int64_ne_T N)) (L := slices_Clone_int64_int64_ne_L) (ins := [(.sl (.int .i64))]) (outs := [.own (.int .i64)]) (res := [2]) mixed tt_ok ?_ Try.func28 (by kernel_rfl) rfl (by kernel_rfl) (by kernel_rfl) (by decide +kernel)
  · rw [slices_Clone_int64_int64_ne_eq] at h
    exact h
  · intro f e he
    cases he

/- slices.Clone[[]int64,int64] -/
def slices_Clone_int64_int64 (_N : Nat) (x0 : List Int) : Option (List Int × Unit) := cond (appOk 0 (List.length x0)) (some (x0, ())) none
def slices_Clone_int64_int64_e (N : Nat) : Ent := { ins := [(.sl (.int .i64))], outs := [.own (.int .i64)], F := fun x => slices_Clone_int64_int64 N x.1 }
theorem slices_Clone_int64_int64_sound (N : Nat) : SoundC Try.prog 28 (slices_Clone_int64_int64_e N) := clone_sound (slices_Clone_int64_int64_ne_sound N) fun x h1 h2 => by
  show slices_Clone_int64_int64_ne N x.1 = _
  unfold slices_Clone_int64_int64_ne
  simp only [isEmpty_no h1, cond_false]
  exact congrArg (fun b => cond b _ _) h2

/- impl.HastePlan -/
def impl_HastePlan (N : Nat) (x0 : List Ha.Tk) (x1 : List Int) (x2 : List Int) (x3 : Int) : Option (List (Int) × Int × Bool × Unit) :=
  Ha.haF (impl_AreTasks N) (impl_areMany N) (impl_within N) (impl_earlyStarts N) (impl_lastEnd N) (slices_Clone_int64_int64 N) x0 x1 x2 x3
def impl_HastePlan_e (N : Nat) : Ent := { ins := [Arr.tkS.sl, (.sl (.int .i64)), (.sl (.int .i64)), (.int .i64)], outs := [.own (.int .i64), .val (.int .i64), .val .bool], F := fun x => impl_HastePlan N x.1 x.2.1 x.2.2.1 x.2.2.2.1 }
theorem impl_HastePlan_sound (N : Nat) : SoundC Try.prog 8 (impl_HastePlan_e N) := Ha.ha_sound (impl_AreTasks_sound N) (impl_areMany_sound N) (impl_within_sound N) (impl_earlyStarts_sound N) (impl_lastEnd_sound N) (slices_Clone_int64_int64_sound N)

/- laws.eqInt64S -/
def laws_eqInt64S (N : Nat) (x0 : List Int) (x1 : List Int) : Option (Bool × Unit) :=
  cond ((List.length x0 : Int) != (List.length x1 : Int))
    (some (false, ()))
    (loopN (fun (s1 : Int × Unit) next2 =>
      cond (decide (s1.1 < (List.length x0 : Int)))
        (Option.bind (idx x0 s1.1) fun v3 =>
        Option.bind (idx x1 s1.1) fun v4 =>
        cond (v3 != v4)
          (some (false, ()))
          (next2 ((w64 (s1.1 + 1)), ())))
        (some (true, ()))) N (0, ()))
def laws_eqInt64S_e (N : Nat) : Ent := { ins := [(.sl (.int .i64)), (.sl (.int .i64))], outs := [.val .bool], F := fun x => laws_eqInt64S N x.1 x.2.1 }
def laws_eqInt64S_T (_ : Nat) : Nat → List EntX := fun _ => []
def laws_eqInt64S_L : Nat → List (Nat × TK)
  | 4 => [(5, .v (.int .i64))]
  | _ => []
theorem laws_eqInt64S_eq (N : Nat) : runF N tt (laws_eqInt64S_T N) laws_eqInt64S_L [(.sl (.int .i64)), (.sl (.int .i64))] [.val .bool] (bodyOf Try.f9) Try.f9.ntmps [4] = (laws_eqInt64S_e N).F := by
  funext x
  kernel_rfl
theorem laws_eqInt64S_sound (N : Nat) : SoundC Try.prog 9 (laws_eqInt64S_e N) := by
  have h := runF_sound (f := 9) (code := bodyOf Try.f9) (N := N) (T := (laws_eqInt64S_T N)) (L := laws_eqInt64S_L) (ins := [(.sl (.int .i64)), (.sl (.int .i64))]) (outs := [.val .bool]) (res := [4]) mixed tt_ok ?_ Try.func9 (by kernel_rfl) rfl (by kernel_rfl) (by kernel_rfl) (by decide +kernel)
  · rw [laws_eqInt64S_eq] at h
    exact h
  · intro f e he
    cases he

/- laws.eqTask -/
def laws_eqTask (N : Nat) (x0 : Int × Int × (List Int) × List Int) (x1 : Int × Int × (List Int) × List Int) : Option (Bool × Unit) :=
  cond (x0.1 != x1.1)
    (some (false, ()))
    (cond (x0.2.1 != x1.2.1)
      (some (false, ()))
      (Option.bind (laws_eqInt64S N x0.2.2.1 x1.2.2.1) fun r1 =>
      cond (!r1.1)
        (some (false, ()))
        (Option.bind (laws_eqInt64S N x0.2.2.2 x1.2.2.2) fun r2 =>
        cond (!r2.1)
          (some (false, ()))
          (some (true, ())))))
def laws_eqTask_e (N : Nat) : Ent := { ins := [(.pair (.int .i64) (.pair (.int .i64) (.pair (.sl (.int .i64)) (.sl (.int .i64))))), (.pair (.int .i64) (.pair (.int .i64) (.pair (.sl (.int .i64)) (.sl (.int .i64)))))], outs := [.val .bool], F := fun x => laws_eqTask N x.1 x.2.1 }
def laws_eqTask_T (N : Nat) : Nat → List EntX
  | 9 => [.pl (laws_eqInt64S_e N)]
  | _ => []
def laws_eqTask_L : Nat → List (Nat × TK) := fun _ => []
theorem laws_eqTask_eq (N : Nat) : runF N tt (laws_eqTask_T N) laws_eqTask_L [(.pair (.int .i64) (.pair (.int .i64) (.pair (.sl (.int .i64)) (.sl (.int .i64))))), (.pair (.int .i64) (.pair (.int .i64) (.pair (.sl (.int .i64)) (.sl (.int .i64)))))] [.val .bool] (bodyOf Try.f29) Try.f29.ntmps [4] = (laws_eqTask_e N).F := by
  funext x
  kernel_rfl
theorem laws_eqTask_sound (N : Nat) : SoundC Try.prog 29 (laws_eqTask_e N) := by
  have h := runF_sound (f := 29) (code := bodyOf Try.f29) (N := N) (T := (laws_eqTask_T N)) (L := laws_eqTask_L) (ins := [(.pair (.int .i64) (.pair (.int .i64) (.pair (.sl (.int .i64)) (.sl (.int .i64))))), (.pair (.int .i64) (.pair (.int .i64) (.pair (.sl (.int .i64)) (.sl (.int .i64)))))]) (outs := [.val .bool]) (res := [4]) mixed tt_ok ?_ Try.func29 (by kernel_rfl) rfl (by kernel_rfl) (by kernel_rfl) (by decide +kernel)
  · rw [laws_eqTask_eq] at h
    exact h
  · intro f e he
    unfold laws_eqTask_T at he
    split at he
    · rw [List.mem_singleton.1 he]; exact laws_eqInt64S_sound N
    · cases he

/- laws.eqTaskS -/
def laws_eqTaskS (N : Nat) (x0 : List (Int × Int × (List Int) × List Int)) (x1 : List (Int × Int × (List Int) × List Int)) : Option (Bool × Unit) :=
  cond ((List.length x0 : Int) != (List.length x1 : Int))
    (some (false, ()))
    (loopN (fun (s1 : Int × Unit) next2 =>
      cond (decide (s1.1 < (List.length x0 : Int)))
        (Option.bind (idx x0 s1.1) fun v3 =>
        Option.bind (idx x1 s1.1) fun v4 =>
        Option.bind (laws_eqTask N v3 v4) fun r5 =>
        cond (!r5.1)
          (some (false, ()))
          (next2 ((w64 (s1.1 + 1)), ())))
        (some (true, ()))) N (0, ()))
def laws_eqTaskS_e (N : Nat) : Ent := { ins := [(.sl (.pair (.int .i64) (.pair (.int .i64) (.pair (.sl (.int .i64)) (.sl (.int .i64)))))), (.sl (.pair (.int .i64) (.pair (.int .i64) (.pair (.sl (.int .i64)) (.sl (.int .i64))))))], outs := [.val .bool], F := fun x => laws_eqTaskS N x.1 x.2.1 }
def laws_eqTaskS_T (N : Nat) : Nat → List EntX
  | 29 => [.pl (laws_eqTask_e N)]
  | _ => []
def laws_eqTaskS_L : Nat → List (Nat × TK)
  | 4 => [(5, .v (.int .i64))]
  | _ => []
theorem laws_eqTaskS_eq (N : Nat) : runF N tt (laws_eqTaskS_T N) laws_eqTaskS_L [(.sl (.pair (.int .i64) (.pair (.int .i64) (.pair (.sl (.int .i64)) (.sl (.int .i64)))))), (.sl (.pair (.int .i64) (.pair (.int .i64) (.pair (.sl (.int .i64)) (.sl (.int .i64))))))] [.val .bool] (bodyOf Try.f10) Try.f10.ntmps [4] = (laws_eqTaskS_e N).F := by
  funext x
  kernel_rfl
theorem laws_eqTaskS_sound (N : Nat) : SoundC Try.prog 10 (laws_eqTaskS_e N) := by
  have h := runF_sound (f := 10) (code := bodyOf Try.f10) (N := N) (T := (laws_eqTaskS_T N)) (L := laws_eqTaskS_L) (ins := [(.sl (.pair (.int .i64) (.pair (.int .i64) (.pair (.sl (.int .i64)) (.sl (.int .i64)))))), (.sl (.pair (.int .i64) (.pair (.int .i64) (.pair (.sl (.int .i64)) (.sl (.int .i64))))))]) (outs := [.val .bool]) (res := [4]) mixed tt_ok ?_ Try.func10 (by kernel_rfl) rfl (by kernel_rfl) (by kernel_rfl) (by decide +kernel)
  · rw [laws_eqTaskS_eq] at h
    exact h
  · intro f e he
    unfold laws_eqTaskS_T at he
    split at he
    · rw [List.mem_singleton.1 he]; exact laws_eqTask_sound N
    · cases he

/- laws.markInt64S -/
def laws_markInt64S (N : Nat) (x0 : List Int) (x1 : Int) : Option (List (Int) × (Int × Unit)) :=
  loopN (fun (s1 : List (Int) × Int × Int × Unit) next2 =>
    cond (decide (s1.2.2.1 < (List.length s1.1 : Int)))
      (cond (inB s1.2.2.1 (List.length s1.1))
        (let xs3 := (List.set s1.1 (Int.toNat s1.2.2.1) s1.2.1)
        next2 (xs3, (w64 (s1.2.1 + 1)), (w64 (s1.2.2.1 + 1)), ())) none)
      (some (s1.1, (s1.2.1, ())))) N (x0, x1, 0, ())
def laws_markInt64S_e (N : Nat) : EntM := { io := (.int .i64), ins := [(.int .i64)], outs := [.val (.int .i64)], F := fun xs x => laws_markInt64S N xs x.1 }
def laws_markInt64S_T (_ : Nat) : Nat → List EntX := fun _ => []
def laws_markInt64S_L : Nat → List (Nat × TK)
  | 2 => [(0, .own (.int .i64)), (1, .v (.int .i64)), (5, .v (.int .i64))]
  | _ => []
theorem laws_markInt64S_eq (N : Nat) : runM N tt (laws_markInt64S_T N) laws_markInt64S_L (.int .i64) [(.int .i64)] [.val (.int .i64)] (bodyOf Try.f12) Try.f12.ntmps [4] = (laws_markInt64S_e N).F := by
  funext xs x
  kernel_rfl
theorem laws_markInt64S_sound (N : Nat) : SoundM Try.prog 12 (laws_markInt64S_e N) := by
  have h := runM_sound (f := 12) (code := bodyOf Try.f12) (N := N) (T := (laws_markInt64S_T N)) (L := laws_markInt64S_L) (io := (.int .i64)) (ins := [(.int .i64)]) (outs := [.val (.int .i64)]) (res := [4]) mixed tt_ok ?_ Try.func12 (by kernel_rfl) rfl (by kernel_rfl) (by kernel_rfl) (by decide +kernel)
  · rw [laws_markInt64S_eq] at h
    exact h
  · intro f e he
    cases he

/- laws.heldInt64S -/
def laws_heldInt64S (N : Nat) (x0 : List Int) (x1 : Int) : Option (Int × Unit) :=
  loopN (fun (s1 : Int × Int × Unit) next2 =>
    cond (decide (s1.2.1 < (List.length x0 : Int)))
      (Option.bind (idx x0 s1.2.1) fun v3 =>
      cond (v3 != s1.1)
        (some ((-1), ()))
        (next2 ((w64 (s1.1 + 1)), (w64 (s1.2.1 + 1)), ())))
      (some (s1.1, ()))) N (x1, 0, ())
def laws_heldInt64S_e (N : Nat) : Ent := { ins := [(.sl (.int .i64)), (.int .i64)], outs := [.val (.int .i64)], F := fun x => laws_heldInt64S N x.1 x.2.1 }
def laws_heldInt64S_T (_ : Nat) : Nat → List EntX := fun _ => []
def laws_heldInt64S_L : Nat → List (Nat × TK)
  | 2 => [(1, .v (.int .i64)), (5, .v (.int .i64))]
  | _ => []
theorem laws_heldInt64S_eq (N : Nat) : runF N tt (laws_heldInt64S_T N) laws_heldInt64S_L [(.sl (.int .i64)), (.int .i64)] [.val (.int .i64)] (bodyOf Try.f13) Try.f13.ntmps [4] = (laws_heldInt64S_e N).F := by
  funext x
  kernel_rfl
theorem laws_heldInt64S_sound (N : Nat) : SoundC Try.prog 13 (laws_heldInt64S_e N) := by
  have h := runF_sound (f := 13) (code := bodyOf Try.f13) (N := N) (T := (laws_heldInt64S_T N)) (L := laws_heldInt64S_L) (ins := [(.sl (.int .i64)), (.int .i64)]) (outs := [.val (.int .i64)]) (res := [4]) mixed tt_ok ?_ Try.func13 (by kernel_rfl) rfl (by kernel_rfl) (by kernel_rfl) (by decide +kernel)
  · rw [laws_heldInt64S_eq] at h
    exact h
  · intro f e he
    cases he

/- laws.FnExactHastePlan -/
def laws_FnExactHastePlan (N : Nat) (x0 : List (Int × Int × (List Int) × List Int)) (x1 : List Int) (x2 : List Int) (x3 : Int) : Option (Bool × Unit) :=
  cond (decide ((List.length x1 : Int) > 1048576))
    (some (true, ()))
    (cond (decide ((List.length x2 : Int) > 1048576))
      (some (true, ()))
      (Option.bind (laws_szTaskS N x0 1048576) fun r1 =>
      cond (decide (r1.1 < 0))
        (some (true, ()))
        (Option.bind (laws_toTaskS N x0) fun r2 =>
        Option.bind (laws_toInt64S N x1) fun r3 =>
        Option.bind (laws_toInt64S N x2) fun r4 =>
        Option.bind (spec_HastePlan N r2.1 r3.1 r4.1 x3) fun r5 =>
        Option.bind (laws_toTaskS N x0) fun r6 =>
        Option.bind (laws_toInt64S N x1) fun r7 =>
        Option.bind (laws_toInt64S N x2) fun r8 =>
        Option.bind (impl_HastePlan N r6.1 r7.1 r8.1 x3) fun r9 =>
        Option.bind (laws_eqInt64S N r9.1 r5.1) fun r10 =>
        cond (!r10.1)
          (some (false, ()))
          (cond (r9.2.1 != r5.2.1)
            (some (false, ()))
            (cond (!(r9.2.2.1 == r5.2.2.1))
              (some (false, ()))
              (Option.bind (laws_toTaskS N x0) fun r11 =>
              Option.bind (laws_eqTaskS N r6.1 r11.1) fun r12 =>
              cond (!r12.1)
                (some (false, ()))
                (Option.bind (laws_toInt64S N x1) fun r13 =>
                Option.bind (laws_eqInt64S N r7.1 r13.1) fun r14 =>
                cond (!r14.1)
                  (some (false, ()))
                  (Option.bind (laws_toInt64S N x2) fun r15 =>
                  Option.bind (laws_eqInt64S N r8.1 r15.1) fun r16 =>
                  cond (!r16.1)
                    (some (false, ()))
                    (Option.bind (laws_markTaskS_d r6.1 1) fun r17 =>
                    Option.bind (laws_markInt64S N r7.1 r17) fun r18 =>
                    cond (Nat.beq (List.length r18.1) (List.length r7.1))
                      (Option.bind (laws_markInt64S N r8.1 r18.2.1) fun r19 =>
                      cond (Nat.beq (List.length r19.1) (List.length r8.1))
                        (cond (decide (r19.2.1 < 0))
                          (some (false, ()))
                          (Option.bind (laws_eqInt64S N r9.1 r5.1) fun r20 =>
                          cond (!r20.1)
                            (some (false, ()))
                            (cond (r9.2.1 != r5.2.1)
                              (some (false, ()))
                              (cond (!(r9.2.2.1 == r5.2.2.1))
                                (some (false, ()))
                                (Option.bind (laws_markInt64S N r9.1 1) fun r21 =>
                                cond (Nat.beq (List.length r21.1) (List.length r9.1))
                                  (Option.bind (laws_heldInt64S N r21.1 1) fun r22 =>
                                  cond (decide (r22.1 < 0))
                                    (some (false, ()))
                                    (cond (r22.1 != r21.2.1)
                                      (some (false, ()))
                                      (Option.bind (laws_toTaskS N x0) fun r23 =>
                                      Option.bind (laws_toInt64S N x1) fun r24 =>
                                      Option.bind (laws_toInt64S N x2) fun r25 =>
                                      Option.bind (impl_HastePlan N r23.1 r24.1 r25.1 x3) fun r26 =>
                                      Option.bind (laws_eqInt64S N r26.1 r5.1) fun r27 =>
                                      cond (!r27.1)
                                        (some (false, ()))
                                        (cond (r26.2.1 != r5.2.1)
                                          (some (false, ()))
                                          (cond (!(r26.2.2.1 == r5.2.2.1))
                                            (some (false, ()))
                                            (Option.bind (laws_heldInt64S N r21.1 1) fun r28 =>
                                            cond (decide (r28.1 < 0))
                                              (some (false, ()))
                                              (cond (r28.1 != r21.2.1)
                                                (some (false, ()))
                                                (some (true, ()))))))))) none))))) none) none)))))))))
def laws_FnExactHastePlan_e (N : Nat) : Ent := { ins := [(.sl (.pair (.int .i64) (.pair (.int .i64) (.pair (.sl (.int .i64)) (.sl (.int .i64)))))), (.sl (.int .i64)), (.sl (.int .i64)), (.int .i64)], outs := [.val .bool], F := fun x => laws_FnExactHastePlan N x.1 x.2.1 x.2.2.1 x.2.2.2.1 }
def laws_FnExactHastePlan_T (N : Nat) : Nat → List EntX
  | 4 => [.pl (laws_szTaskS_e N)]
  | 5 => [.pl (spec_HastePlan_e N)]
  | 6 => [.pl (laws_toTaskS_e N)]
  | 7 => [.pl (laws_toInt64S_e N)]
  | 8 => [.pl (impl_HastePlan_e N)]
  | 9 => [.pl (laws_eqInt64S_e N)]
  | 10 => [.pl (laws_eqTaskS_e N)]
  | 11 => [.dp (laws_markTaskS_d_e N)]
  | 12 => [.mu (laws_markInt64S_e N)]
  | 13 => [.pl (laws_heldInt64S_e N)]
  | _ => []
def laws_FnExactHastePlan_L : Nat → List (Nat × TK) := fun _ => []
theorem laws_FnExactHastePlan_eq (N : Nat) : runL N tt (laws_FnExactHastePlan_T N) laws_FnExactHastePlan_L [(.sl (.pair (.int .i64) (.pair (.int .i64) (.pair (.sl (.int .i64)) (.sl (.int .i64)))))), (.sl (.int .i64)), (.sl (.int .i64)), (.int .i64)] [.val .bool] (bodyOf Try.f3) Try.f3.ntmps [8] = (laws_FnExactHastePlan_e N).F := by
  funext x
  kernel_rfl
theorem laws_FnExactHastePlan_sound (N : Nat) : SoundC Try.prog 3 (laws_FnExactHastePlan_e N) := by
  have h := runL_sound (f := 3) (code := bodyOf Try.f3) (N := N) (T := (laws_FnExactHastePlan_T N)) (L := laws_FnExactHastePlan_L) (ins := [(.sl (.pair (.int .i64) (.pair (.int .i64) (.pair (.sl (.int .i64)) (.sl (.int .i64)))))), (.sl (.int .i64)), (.sl (.int .i64)), (.int .i64)]) (outs := [.val .bool]) (res := [8]) mixed tt_ok ?_ Try.func3 (by kernel_rfl) rfl (by kernel_rfl) (by kernel_rfl) (by decide +kernel)
  · rw [laws_FnExactHastePlan_eq] at h
    exact h
  · intro f e he
    unfold laws_FnExactHastePlan_T at he
    split at he
    · rw [List.mem_singleton.1 he]; exact laws_szTaskS_sound N
    · rw [List.mem_singleton.1 he]; exact spec_HastePlan_sound N
    · rw [List.mem_singleton.1 he]; exact laws_toTaskS_sound N
    · rw [List.mem_singleton.1 he]; exact laws_toInt64S_sound N
    · rw [List.mem_singleton.1 he]; exact impl_HastePlan_sound N
    · rw [List.mem_singleton.1 he]; exact laws_eqInt64S_sound N
    · rw [List.mem_singleton.1 he]; exact laws_eqTaskS_sound N
    · rw [List.mem_singleton.1 he]; exact laws_markTaskS_d_sound N
    · rw [List.mem_singleton.1 he]; exact laws_markInt64S_sound N
    · rw [List.mem_singleton.1 he]; exact laws_heldInt64S_sound N
    · cases he

end Go.Proofs.Ytojjnifdkanpfaa
