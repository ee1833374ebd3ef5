/-
  The plain functions of this seat, printed by a program, each equal to the evaluator's run, with its contract. No condition.
-/
import Derived.Test.YtmdicmdodbndgaaFwV
import Derived.Test.YtmdicmdodbndgaaChecked
import Derived.Test.YtmdicmdodbndgaaMark1
import Derived.Test.YtmdicmdodbndgaaMark2
import Derived.Test.YtmdicmdodbndgaaSqrt
import Derived.Test.YtmdicmdodbndgaaEd4
namespace Go.Proofs.Ytmdicmdodbndgaa
open Go Go.Proofs.Ytmdicmdodbndgaa.Fw
set_option maxRecDepth 100000
set_option linter.unusedVariables false

theorem mixed : Try.prog.follows .mixedOrders = true := Try.checked.mixed
def tt : Nat → TD
  | 2 => tdInt .i64
  | 3 => tdInt .i64
  | 4 => tdBool
  | 22 => tdSl (.pair (.int .i64) (.pair (.int .i64) (.pair (.sl (.int .i64)) (.sl (.int .i64))))) 64
  | 23 => tdFlt .f32
  | 25 => tdSl (.int .i64) 8
  | 26 => tdSl (.flt .f32) 4
  | 29 => tdSl (.pair (.int .i64) (.pair (.int .i64) (.pair (.sl (.int .i64)) (.sl (.int .i64))))) 64
  | 40 => tdSt 4 [(0, 1, false), (1, 1, false), (2, 1, false), (3, 1, false)] [.g (.int .i64) (0 : Int), .g (.int .i64) (0 : Int), .nil, .nil]
  | 46 => tdSt 4 [(0, 1, false), (1, 1, false), (2, 1, false), (3, 1, false)] [.g (.int .i64) (0 : Int), .g (.int .i64) (0 : Int), .nil, .nil]
  | 52 => tdFlt .f64
  | _ => tdNone
theorem tt_2 : TDok Try.prog 2 (tdInt .i64) := tdok_int (b := 8) (by kernel_rfl) (by kernel_rfl)
theorem tt_3 : TDok Try.prog 3 (tdInt .i64) := tdok_int (b := 8) (by kernel_rfl) (by kernel_rfl)
theorem tt_4 : TDok Try.prog 4 (tdBool) := tdok_bool (b := 1) (by kernel_rfl) (by kernel_rfl)
theorem tt_22 : TDok Try.prog 22 (tdSl (.pair (.int .i64) (.pair (.int .i64) (.pair (.sl (.int .i64)) (.sl (.int .i64))))) 64) := tdok_sl (b := 24) (e := 40) (z := (.agg #[(.int .i64 0), (.int .i64 0), (.slice none 0 0), (.slice none 0 0)])) (by kernel_rfl) (by kernel_rfl) (by kernel_rfl) (by decide) (fun _ => by kernel_rfl)
theorem tt_23 : TDok Try.prog 23 (tdFlt .f32) := tdok_flt (b := 4) (by kernel_rfl) (by kernel_rfl)
theorem tt_25 : TDok Try.prog 25 (tdSl (.int .i64) 8) := tdok_sl (b := 24) (e := 2) (z := (.int .i64 0)) (by kernel_rfl) (by kernel_rfl) (by kernel_rfl) (by decide) (fun _ => by kernel_rfl)
theorem tt_26 : TDok Try.prog 26 (tdSl (.flt .f32) 4) := tdok_sl (b := 24) (e := 23) (z := (.float .f32 0)) (by kernel_rfl) (by kernel_rfl) (by kernel_rfl) (by decide) (fun _ => by kernel_rfl)
theorem tt_29 : TDok Try.prog 29 (tdSl (.pair (.int .i64) (.pair (.int .i64) (.pair (.sl (.int .i64)) (.sl (.int .i64))))) 64) := tdok_sl (b := 24) (e := 46) (z := (.agg #[(.int .i64 0), (.int .i64 0), (.slice none 0 0), (.slice none 0 0)])) (by kernel_rfl) (by kernel_rfl) (by kernel_rfl) (by decide) (fun _ => by kernel_rfl)
theorem tt_40 : TDok Try.prog 40 (tdSt 4 [(0, 1, false), (1, 1, false), (2, 1, false), (3, 1, false)] [.g (.int .i64) (0 : Int), .g (.int .i64) (0 : Int), .nil, .nil]) := tdok_st (b := 64) (z := (.agg #[(.int .i64 0), (.int .i64 0), (.slice none 0 0), (.slice none 0 0)])) (by kernel_rfl) (by kernel_rfl) (by kernel_rfl) (by kernel_rfl) (by kernel_rfl)
theorem tt_46 : TDok Try.prog 46 (tdSt 4 [(0, 1, false), (1, 1, false), (2, 1, false), (3, 1, false)] [.g (.int .i64) (0 : Int), .g (.int .i64) (0 : Int), .nil, .nil]) := tdok_st (b := 64) (z := (.agg #[(.int .i64 0), (.int .i64 0), (.slice none 0 0), (.slice none 0 0)])) (by kernel_rfl) (by kernel_rfl) (by kernel_rfl) (by kernel_rfl) (by kernel_rfl)
theorem tt_52 : TDok Try.prog 52 (tdFlt .f64) := tdok_flt (b := 8) (by kernel_rfl) (by kernel_rfl)
theorem tt_ok (t : Nat) : TDok Try.prog t (tt t) := by
  unfold tt
  split
  · exact tt_2
  · exact tt_3
  · exact tt_4
  · exact tt_22
  · exact tt_23
  · exact tt_25
  · exact tt_26
  · exact tt_29
  · exact tt_40
  · exact tt_46
  · exact tt_52
  · exact tdok_none

/- laws.szInt64S -/
def laws_szInt64S (_N : Nat) (x0 : List Int) (x1 : Int) : Option (Int × Unit) :=
  cond (decide ((w64 (x1 - (List.length x0 : Int))) < 0))
    (some ((-1), ()))
    (some ((w64 (x1 - (List.length x0 : Int))), ()))
def laws_szInt64S_e (N : Nat) : Ent := { ins := [(.sl (.int .i64)), (.int .i64)], outs := [.val (.int .i64)], F := fun x => laws_szInt64S N x.1 x.2.1 }
def laws_szInt64S_T (_ : Nat) : Nat → List EntX := fun _ => []
def laws_szInt64S_L : Nat → List (Nat × TK) := fun _ => []
theorem laws_szInt64S_eq (N : Nat) : runF N tt (laws_szInt64S_T N) laws_szInt64S_L [(.sl (.int .i64)), (.int .i64)] [.val (.int .i64)] (bodyOf Try.f35) Try.f35.ntmps [4] = (laws_szInt64S_e N).F := by
  funext x
  kernel_rfl
theorem laws_szInt64S_sound (N : Nat) : SoundC Try.prog 35 (laws_szInt64S_e N) := by
  have h := runF_sound (f := 35) (code := bodyOf Try.f35) (N := N) (T := (laws_szInt64S_T N)) (L := laws_szInt64S_L) (ins := [(.sl (.int .i64)), (.int .i64)]) (outs := [.val (.int .i64)]) (res := [4]) mixed tt_ok ?_ Try.func35 (by kernel_rfl) rfl (by kernel_rfl) (by kernel_rfl) (by decide +kernel)
  · rw [laws_szInt64S_eq] at h
    exact h
  · intro f e he
    cases he

/- laws.szTask -/
def laws_szTask (N : Nat) (x0 : Int × Int × (List Int) × List Int) (x1 : Int) : Option (Int × Unit) :=
  Option.bind (laws_szInt64S N x0.2.2.1 x1) fun r1 =>
  cond (decide (r1.1 < 0))
    (some ((-1), ()))
    (Option.bind (laws_szInt64S N x0.2.2.2 r1.1) fun r2 =>
    cond (decide (r2.1 < 0))
      (some ((-1), ()))
      (some (r2.1, ())))
def laws_szTask_e (N : Nat) : Ent := { ins := [(.pair (.int .i64) (.pair (.int .i64) (.pair (.sl (.int .i64)) (.sl (.int .i64))))), (.int .i64)], outs := [.val (.int .i64)], F := fun x => laws_szTask N x.1 x.2.1 }
def laws_szTask_T (N : Nat) : Nat → List EntX
  | 35 => [.pl (laws_szInt64S_e N)]
  | _ => []
def laws_szTask_L : Nat → List (Nat × TK) := fun _ => []
theorem laws_szTask_eq (N : Nat) : runF N tt (laws_szTask_T N) laws_szTask_L [(.pair (.int .i64) (.pair (.int .i64) (.pair (.sl (.int .i64)) (.sl (.int .i64))))), (.int .i64)] [.val (.int .i64)] (bodyOf Try.f16) Try.f16.ntmps [4] = (laws_szTask_e N).F := by
  funext x
  kernel_rfl
theorem laws_szTask_sound (N : Nat) : SoundC Try.prog 16 (laws_szTask_e N) := by
  have h := runF_sound (f := 16) (code := bodyOf Try.f16) (N := N) (T := (laws_szTask_T N)) (L := laws_szTask_L) (ins := [(.pair (.int .i64) (.pair (.int .i64) (.pair (.sl (.int .i64)) (.sl (.int .i64))))), (.int .i64)]) (outs := [.val (.int .i64)]) (res := [4]) mixed tt_ok ?_ Try.func16 (by kernel_rfl) rfl (by kernel_rfl) (by kernel_rfl) (by decide +kernel)
  · rw [laws_szTask_eq] at h
    exact h
  · intro f e he
    unfold laws_szTask_T at he
    split at he
    · rw [List.mem_singleton.1 he]; exact laws_szInt64S_sound N
    · cases he

/- laws.szTaskS -/
def laws_szTaskS (N : Nat) (x0 : List (Int × Int × (List Int) × List Int)) (x1 : Int) : Option (Int × Unit) :=
  cond (decide ((w64 (x1 - (List.length x0 : Int))) < 0))
    (some ((-1), ()))
    (loopN (fun (s1 : Int × Int × Unit) next2 =>
      cond (decide (s1.2.1 < (List.length x0 : Int)))
        (Option.bind (idx x0 s1.2.1) fun v3 =>
        Option.bind (laws_szTask N v3 s1.1) fun r4 =>
        cond (decide (r4.1 < 0))
          (some ((-1), ()))
          (next2 (r4.1, (w64 (s1.2.1 + 1)), ())))
        (some (s1.1, ()))) N ((w64 (x1 - (List.length x0 : Int))), 0, ()))
def laws_szTaskS_e (N : Nat) : Ent := { ins := [(.sl (.pair (.int .i64) (.pair (.int .i64) (.pair (.sl (.int .i64)) (.sl (.int .i64)))))), (.int .i64)], outs := [.val (.int .i64)], F := fun x => laws_szTaskS N x.1 x.2.1 }
def laws_szTaskS_T (N : Nat) : Nat → List EntX
  | 16 => [.pl (laws_szTask_e N)]
  | _ => []
def laws_szTaskS_L : Nat → List (Nat × TK)
  | 5 => [(1, .v (.int .i64)), (5, .v (.int .i64))]
  | _ => []
theorem laws_szTaskS_eq (N : Nat) : runF N tt (laws_szTaskS_T N) laws_szTaskS_L [(.sl (.pair (.int .i64) (.pair (.int .i64) (.pair (.sl (.int .i64)) (.sl (.int .i64)))))), (.int .i64)] [.val (.int .i64)] (bodyOf Try.f4) Try.f4.ntmps [4] = (laws_szTaskS_e N).F := by
  funext x
  kernel_rfl
theorem laws_szTaskS_sound (N : Nat) : SoundC Try.prog 4 (laws_szTaskS_e N) := by
  have h := runF_sound (f := 4) (code := bodyOf Try.f4) (N := N) (T := (laws_szTaskS_T N)) (L := laws_szTaskS_L) (ins := [(.sl (.pair (.int .i64) (.pair (.int .i64) (.pair (.sl (.int .i64)) (.sl (.int .i64)))))), (.int .i64)]) (outs := [.val (.int .i64)]) (res := [4]) mixed tt_ok ?_ Try.func4 (by kernel_rfl) rfl (by kernel_rfl) (by kernel_rfl) (by decide +kernel)
  · rw [laws_szTaskS_eq] at h
    exact h
  · intro f e he
    unfold laws_szTaskS_T at he
    split at he
    · rw [List.mem_singleton.1 he]; exact laws_szTask_sound N
    · cases he

/- spec.l00In -/
def spec_l00In (_N : Nat) (x0 : Int) (x1 : Int) (x2 : Int) : Option (Bool × Unit) :=
  cond (decide (x0 ≥ x1))
    (some ((decide (x0 ≤ x2)), ()))
    (some (false, ()))
def spec_l00In_e (N : Nat) : Ent := { ins := [(.int .i64), (.int .i64), (.int .i64)], outs := [.val .bool], F := fun x => spec_l00In N x.1 x.2.1 x.2.2.1 }
def spec_l00In_T (_ : Nat) : Nat → List EntX := fun _ => []
def spec_l00In_L : Nat → List (Nat × TK) := fun _ => []
theorem spec_l00In_eq (N : Nat) : runF N tt (spec_l00In_T N) spec_l00In_L [(.int .i64), (.int .i64), (.int .i64)] [.val .bool] (bodyOf Try.f19) Try.f19.ntmps [6] = (spec_l00In_e N).F := by
  funext x
  kernel_rfl
theorem spec_l00In_sound (N : Nat) : SoundC Try.prog 19 (spec_l00In_e N) := by
  have h := runF_sound (f := 19) (code := bodyOf Try.f19) (N := N) (T := (spec_l00In_T N)) (L := spec_l00In_L) (ins := [(.int .i64), (.int .i64), (.int .i64)]) (outs := [.val .bool]) (res := [6]) mixed tt_ok ?_ Try.func19 (by kernel_rfl) rfl (by kernel_rfl) (by kernel_rfl) (by decide +kernel)
  · rw [spec_l00In_eq] at h
    exact h
  · intro f e he
    cases he

/- spec.l03Task -/
def spec_l03Task (N : Nat) (x0 : Int × Int × (List Int) × List Int) (x1 : Int) : Option (Bool × Unit) :=
  Option.bind (spec_l00In N x0.1 0 100) fun r1 =>
  cond (!r1.1)
    (some (false, ()))
    (Option.bind (spec_l00In N x0.2.1 0 20) fun r2 =>
    cond (!r2.1)
      (some (false, ()))
      (cond ((List.length x0.2.2.2 : Int) != (List.length x0.2.2.1 : Int))
        (some (false, ()))
        (loopN (fun (s3 : Int × Unit) next4 =>
          cond (decide (s3.1 < (List.length x0.2.2.1 : Int)))
            (Option.bind (idx x0.2.2.1 s3.1) fun v5 =>
            Option.bind (spec_l00In N v5 0 (w64 (x1 - 1))) fun r6 =>
            cond (!r6.1)
              (some (false, ()))
              (cond (decide (s3.1 > 0))
                (Option.bind (idx x0.2.2.1 s3.1) fun v7 =>
                Option.bind (idx x0.2.2.1 (w64 (s3.1 - 1))) fun v8 =>
                cond (decide (v7 ≤ v8))
                  (some (false, ()))
                  (Option.bind (idx x0.2.2.2 s3.1) fun v9 =>
                  Option.bind (spec_l00In N v9 (-100) 100) fun r10 =>
                  cond (!r10.1)
                    (some (false, ()))
                    (next4 ((w64 (s3.1 + 1)), ()))))
                (Option.bind (idx x0.2.2.2 s3.1) fun v11 =>
                Option.bind (spec_l00In N v11 (-100) 100) fun r12 =>
                cond (!r12.1)
                  (some (false, ()))
                  (next4 ((w64 (s3.1 + 1)), ())))))
            (some (true, ()))) N (0, ()))))
def spec_l03Task_e (N : Nat) : Ent := { ins := [(.bx (.pair (.int .i64) (.pair (.int .i64) (.pair (.sl (.int .i64)) (.sl (.int .i64)))))), (.int .i64)], outs := [.val .bool], F := fun x => spec_l03Task N x.1 x.2.1 }
def spec_l03Task_T (N : Nat) : Nat → List EntX
  | 19 => [.pl (spec_l00In_e N)]
  | _ => []
def spec_l03Task_L : Nat → List (Nat × TK)
  | 4 => [(38, .v (.int .i64))]
  | _ => []
theorem spec_l03Task_eq (N : Nat) : runF N tt (spec_l03Task_T N) spec_l03Task_L [(.bx (.pair (.int .i64) (.pair (.int .i64) (.pair (.sl (.int .i64)) (.sl (.int .i64)))))), (.int .i64)] [.val .bool] (bodyOf Try.f36) Try.f36.ntmps [4] = (spec_l03Task_e N).F := by
  funext x
  kernel_rfl
theorem spec_l03Task_sound (N : Nat) : SoundC Try.prog 36 (spec_l03Task_e N) := by
  have h := runF_sound (f := 36) (code := bodyOf Try.f36) (N := N) (T := (spec_l03Task_T N)) (L := spec_l03Task_L) (ins := [(.bx (.pair (.int .i64) (.pair (.int .i64) (.pair (.sl (.int .i64)) (.sl (.int .i64)))))), (.int .i64)]) (outs := [.val .bool]) (res := [4]) mixed tt_ok ?_ Try.func36 (by kernel_rfl) rfl (by kernel_rfl) (by kernel_rfl) (by decide +kernel)
  · rw [spec_l03Task_eq] at h
    exact h
  · intro f e he
    unfold spec_l03Task_T at he
    split at he
    · rw [List.mem_singleton.1 he]; exact spec_l00In_sound N
    · cases he

/- spec.l03Are -/
def spec_l03Are (N : Nat) (x0 : List (Int × Int × (List Int) × List Int)) : Option (Bool × Unit) :=
  loopN (fun (s1 : Int × Unit) next2 =>
    cond (decide (s1.1 < (List.length x0 : Int)))
      (Option.bind (idx x0 s1.1) fun v3 =>
      Option.bind (spec_l03Task N v3 s1.1) fun r4 =>
      cond (!r4.1)
        (some (false, ()))
        (next2 ((w64 (s1.1 + 1)), ())))
      (cond (decide ((List.length x0 : Int) ≥ 1))
        (some ((decide ((List.length x0 : Int) ≤ 16)), ()))
        (some (false, ())))) N (0, ())
def spec_l03Are_e (N : Nat) : Ent := { ins := [(.sl (.pair (.int .i64) (.pair (.int .i64) (.pair (.sl (.int .i64)) (.sl (.int .i64))))))], outs := [.val .bool], F := fun x => spec_l03Are N x.1 }
def spec_l03Are_T (N : Nat) : Nat → List EntX
  | 36 => [.pl (spec_l03Task_e N)]
  | _ => []
def spec_l03Are_L : Nat → List (Nat × TK)
  | 2 => [(6, .v (.int .i64))]
  | _ => []
theorem spec_l03Are_eq (N : Nat) : runF N tt (spec_l03Are_T N) spec_l03Are_L [(.sl (.pair (.int .i64) (.pair (.int .i64) (.pair (.sl (.int .i64)) (.sl (.int .i64))))))] [.val .bool] (bodyOf Try.f17) Try.f17.ntmps [2] = (spec_l03Are_e N).F := by
  funext x
  kernel_rfl
theorem spec_l03Are_sound (N : Nat) : SoundC Try.prog 17 (spec_l03Are_e N) := by
  have h := runF_sound (f := 17) (code := bodyOf Try.f17) (N := N) (T := (spec_l03Are_T N)) (L := spec_l03Are_L) (ins := [(.sl (.pair (.int .i64) (.pair (.int .i64) (.pair (.sl (.int .i64)) (.sl (.int .i64))))))]) (outs := [.val .bool]) (res := [2]) mixed tt_ok ?_ Try.func17 (by kernel_rfl) rfl (by kernel_rfl) (by kernel_rfl) (by decide +kernel)
  · rw [spec_l03Are_eq] at h
    exact h
  · intro f e he
    unfold spec_l03Are_T at he
    split at he
    · rw [List.mem_singleton.1 he]; exact spec_l03Task_sound N
    · cases he

/- spec.l03Seed -/
def spec_l03Seed (N : Nat) (x0 : Int) : Option (Bool × Unit) :=
  Option.bind (spec_l00In N x0 0 4294967295) fun r1 =>
  some (r1.1, ())
def spec_l03Seed_e (N : Nat) : Ent := { ins := [(.int .i64)], outs := [.val .bool], F := fun x => spec_l03Seed N x.1 }
def spec_l03Seed_T (N : Nat) : Nat → List EntX
  | 19 => [.pl (spec_l00In_e N)]
  | _ => []
def spec_l03Seed_L : Nat → List (Nat × TK) := fun _ => []
theorem spec_l03Seed_eq (N : Nat) : runF N tt (spec_l03Seed_T N) spec_l03Seed_L [(.int .i64)] [.val .bool] (bodyOf Try.f18) Try.f18.ntmps [2] = (spec_l03Seed_e N).F := by
  funext x
  kernel_rfl
theorem spec_l03Seed_sound (N : Nat) : SoundC Try.prog 18 (spec_l03Seed_e N) := by
  have h := runF_sound (f := 18) (code := bodyOf Try.f18) (N := N) (T := (spec_l03Seed_T N)) (L := spec_l03Seed_L) (ins := [(.int .i64)]) (outs := [.val .bool]) (res := [2]) mixed tt_ok ?_ Try.func18 (by kernel_rfl) rfl (by kernel_rfl) (by kernel_rfl) (by decide +kernel)
  · rw [spec_l03Seed_eq] at h
    exact h
  · intro f e he
    unfold spec_l03Seed_T at he
    split at he
    · rw [List.mem_singleton.1 he]; exact spec_l00In_sound N
    · cases he

/- spec.l01Narrow -/
def spec_l01Narrow (_N : Nat) (x0 : Option Nat) : Option (Option Nat × Unit) :=
  fconvB .f64 x0 .f32 fun v1 =>
  some (v1, ())
def spec_l01Narrow_e (N : Nat) : Ent := { ins := [(.flt .f64)], outs := [.val (.flt .f32)], F := fun x => spec_l01Narrow N x.1 }
def spec_l01Narrow_T (_ : Nat) : Nat → List EntX := fun _ => []
def spec_l01Narrow_L : Nat → List (Nat × TK) := fun _ => []
theorem spec_l01Narrow_eq (N : Nat) : runF N tt (spec_l01Narrow_T N) spec_l01Narrow_L [(.flt .f64)] [.val (.flt .f32)] (bodyOf Try.f47) Try.f47.ntmps [2] = (spec_l01Narrow_e N).F := by
  funext x
  kernel_rfl
theorem spec_l01Narrow_sound (N : Nat) : SoundC Try.prog 47 (spec_l01Narrow_e N) := by
  have h := runF_sound (f := 47) (code := bodyOf Try.f47) (N := N) (T := (spec_l01Narrow_T N)) (L := spec_l01Narrow_L) (ins := [(.flt .f64)]) (outs := [.val (.flt .f32)]) (res := [2]) mixed tt_ok ?_ Try.func47 (by kernel_rfl) rfl (by kernel_rfl) (by kernel_rfl) (by decide +kernel)
  · rw [spec_l01Narrow_eq] at h
    exact h
  · intro f e he
    cases he

/- math.Sqrt -/
def math_Sqrt (_N : Nat) (x0 : Option Nat) : Option (Option Nat × Unit) :=
  some (fsqrtT x0, ())
def math_Sqrt_e (N : Nat) : Ent := { ins := [(.flt .f64)], outs := [.val (.flt .f64)], F := fun x => math_Sqrt N x.1 }
theorem math_Sqrt_sound (N : Nat) : SoundC Try.prog 48 (math_Sqrt_e N) := sqrt_sound

/- spec.l01Sqrt -/
def spec_l01Sqrt (N : Nat) (x0 : Option Nat) : Option (Option Nat × Unit) :=
  fconvB .f32 x0 .f64 fun v1 =>
  Option.bind (math_Sqrt N v1) fun r2 =>
  Option.bind (spec_l01Narrow N r2.1) fun r3 =>
  some (r3.1, ())
def spec_l01Sqrt_e (N : Nat) : Ent := { ins := [(.flt .f32)], outs := [.val (.flt .f32)], F := fun x => spec_l01Sqrt N x.1 }
def spec_l01Sqrt_T (N : Nat) : Nat → List EntX
  | 47 => [.pl (spec_l01Narrow_e N)]
  | 48 => [.pl (math_Sqrt_e N)]
  | _ => []
def spec_l01Sqrt_L : Nat → List (Nat × TK) := fun _ => []
theorem spec_l01Sqrt_eq (N : Nat) : runF N tt (spec_l01Sqrt_T N) spec_l01Sqrt_L [(.flt .f32)] [.val (.flt .f32)] (bodyOf Try.f37) Try.f37.ntmps [2] = (spec_l01Sqrt_e N).F := by
  funext x
  kernel_rfl
theorem spec_l01Sqrt_sound (N : Nat) : SoundC Try.prog 37 (spec_l01Sqrt_e N) := by
  have h := runF_sound (f := 37) (code := bodyOf Try.f37) (N := N) (T := (spec_l01Sqrt_T N)) (L := spec_l01Sqrt_L) (ins := [(.flt .f32)]) (outs := [.val (.flt .f32)]) (res := [2]) mixed tt_ok ?_ Try.func37 (by kernel_rfl) rfl (by kernel_rfl) (by kernel_rfl) (by decide +kernel)
  · rw [spec_l01Sqrt_eq] at h
    exact h
  · intro f e he
    unfold spec_l01Sqrt_T at he
    split at he
    · rw [List.mem_singleton.1 he]; exact spec_l01Narrow_sound N
    · rw [List.mem_singleton.1 he]; exact math_Sqrt_sound N
    · cases he

/- spec.l03Draw -/
def spec_l03Draw (N : Nat) (x0 : Option Nat) (x1 : Option Nat) (x2 : Option Nat) (x3 : Int) : Option (Option Nat × Int × Unit) :=
  cond (fcmp .lss .f32 (farith .quo .f32 (toF .f32 (FloatKind.nearest .f32 (w64 (Int.tdiv (Int.tmod (w64 ((w64 (1664525 * x3)) + 1013904223)) 4294967296) 256)))) (toF .f32 1266679808)) (farith .quo .f32 (farith .sub .f32 x1 x0) (farith .sub .f32 x2 x0)))
    (Option.bind (spec_l01Sqrt N (farith .mul .f32 (farith .mul .f32 (farith .quo .f32 (toF .f32 (FloatKind.nearest .f32 (w64 (Int.tdiv (Int.tmod (w64 ((w64 (1664525 * x3)) + 1013904223)) 4294967296) 256)))) (toF .f32 1266679808)) (farith .sub .f32 x2 x0)) (farith .sub .f32 x1 x0))) fun r1 =>
    some ((farith .add .f32 x0 r1.1), (Int.tmod (w64 ((w64 (1664525 * x3)) + 1013904223)) 4294967296), ()))
    (Option.bind (spec_l01Sqrt N (farith .mul .f32 (farith .mul .f32 (farith .sub .f32 (toF .f32 1065353216) (farith .quo .f32 (toF .f32 (FloatKind.nearest .f32 (w64 (Int.tdiv (Int.tmod (w64 ((w64 (1664525 * x3)) + 1013904223)) 4294967296) 256)))) (toF .f32 1266679808))) (farith .sub .f32 x2 x0)) (farith .sub .f32 x2 x1))) fun r2 =>
    some ((farith .sub .f32 x2 r2.1), (Int.tmod (w64 ((w64 (1664525 * x3)) + 1013904223)) 4294967296), ()))
def spec_l03Draw_e (N : Nat) : Ent := { ins := [(.flt .f32), (.flt .f32), (.flt .f32), (.int .i64)], outs := [.val (.flt .f32), .val (.int .i64)], F := fun x => spec_l03Draw N x.1 x.2.1 x.2.2.1 x.2.2.2.1 }
def spec_l03Draw_T (N : Nat) : Nat → List EntX
  | 37 => [.pl (spec_l01Sqrt_e N)]
  | _ => []
def spec_l03Draw_L : Nat → List (Nat × TK) := fun _ => []
theorem spec_l03Draw_eq (N : Nat) : runF N tt (spec_l03Draw_T N) spec_l03Draw_L [(.flt .f32), (.flt .f32), (.flt .f32), (.int .i64)] [.val (.flt .f32), .val (.int .i64)] (bodyOf Try.f20) Try.f20.ntmps [8, 9] = (spec_l03Draw_e N).F := by
  funext x
  kernel_rfl
theorem spec_l03Draw_sound (N : Nat) : SoundC Try.prog 20 (spec_l03Draw_e N) := by
  have h := runF_sound (f := 20) (code := bodyOf Try.f20) (N := N) (T := (spec_l03Draw_T N)) (L := spec_l03Draw_L) (ins := [(.flt .f32), (.flt .f32), (.flt .f32), (.int .i64)]) (outs := [.val (.flt .f32), .val (.int .i64)]) (res := [8, 9]) mixed tt_ok ?_ Try.func20 (by kernel_rfl) rfl (by kernel_rfl) (by kernel_rfl) (by decide +kernel)
  · rw [spec_l03Draw_eq] at h
    exact h
  · intro f e he
    unfold spec_l03Draw_T at he
    split at he
    · rw [List.mem_singleton.1 he]; exact spec_l01Sqrt_sound N
    · cases he

/- spec.l00Max -/
def spec_l00Max (_N : Nat) (x0 : Int) (x1 : Int) : Option (Int × Unit) :=
  cond (decide (x0 > x1))
    (some (x0, ()))
    (some (x1, ()))
def spec_l00Max_e (N : Nat) : Ent := { ins := [(.int .i64), (.int .i64)], outs := [.val (.int .i64)], F := fun x => spec_l00Max N x.1 x.2.1 }
def spec_l00Max_T (_ : Nat) : Nat → List EntX := fun _ => []
def spec_l00Max_L : Nat → List (Nat × TK) := fun _ => []
theorem spec_l00Max_eq (N : Nat) : runF N tt (spec_l00Max_T N) spec_l00Max_L [(.int .i64), (.int .i64)] [.val (.int .i64)] (bodyOf Try.f38) Try.f38.ntmps [4] = (spec_l00Max_e N).F := by
  funext x
  kernel_rfl
theorem spec_l00Max_sound (N : Nat) : SoundC Try.prog 38 (spec_l00Max_e N) := by
  have h := runF_sound (f := 38) (code := bodyOf Try.f38) (N := N) (T := (spec_l00Max_T N)) (L := spec_l00Max_L) (ins := [(.int .i64), (.int .i64)]) (outs := [.val (.int .i64)]) (res := [4]) mixed tt_ok ?_ Try.func38 (by kernel_rfl) rfl (by kernel_rfl) (by kernel_rfl) (by decide +kernel)
  · rw [spec_l00Max_eq] at h
    exact h
  · intro f e he
    cases he

/- spec.l03End -/
def spec_l03End (N : Nat) (x0 : List (Int × Int × (List Int) × List Int)) (x1 : List Int) : Option (Int × Unit) :=
  loopN (fun (s1 : Int × Int × Unit) next2 =>
    cond (decide (s1.2.1 < (List.length x0 : Int)))
      (Option.bind (idx x1 s1.2.1) fun v3 =>
      Option.bind (idx x0 s1.2.1) fun v4 =>
      Option.bind (spec_l00Max N s1.1 (w64 (v3 + v4.1))) fun r5 =>
      next2 (r5.1, (w64 (s1.2.1 + 1)), ()))
      (some (s1.1, ()))) N (0, 0, ())
def spec_l03End_e (N : Nat) : Ent := { ins := [(.sl (.pair (.int .i64) (.pair (.int .i64) (.pair (.sl (.int .i64)) (.sl (.int .i64)))))), (.sl (.int .i64))], outs := [.val (.int .i64)], F := fun x => spec_l03End N x.1 x.2.1 }
def spec_l03End_T (N : Nat) : Nat → List EntX
  | 38 => [.pl (spec_l00Max_e N)]
  | _ => []
def spec_l03End_L : Nat → List (Nat × TK)
  | 3 => [(5, .v (.int .i64)), (9, .v (.int .i64))]
  | _ => []
theorem spec_l03End_eq (N : Nat) : runF N tt (spec_l03End_T N) spec_l03End_L [(.sl (.pair (.int .i64) (.pair (.int .i64) (.pair (.sl (.int .i64)) (.sl (.int .i64)))))), (.sl (.int .i64))] [.val (.int .i64)] (bodyOf Try.f21) Try.f21.ntmps [4] = (spec_l03End_e N).F := by
  funext x
  kernel_rfl
theorem spec_l03End_sound (N : Nat) : SoundC Try.prog 21 (spec_l03End_e N) := by
  have h := runF_sound (f := 21) (code := bodyOf Try.f21) (N := N) (T := (spec_l03End_T N)) (L := spec_l03End_L) (ins := [(.sl (.pair (.int .i64) (.pair (.int .i64) (.pair (.sl (.int .i64)) (.sl (.int .i64)))))), (.sl (.int .i64))]) (outs := [.val (.int .i64)]) (res := [4]) mixed tt_ok ?_ Try.func21 (by kernel_rfl) rfl (by kernel_rfl) (by kernel_rfl) (by decide +kernel)
  · rw [spec_l03End_eq] at h
    exact h
  · intro f e he
    unfold spec_l03End_T at he
    split at he
    · rw [List.mem_singleton.1 he]; exact spec_l00Max_sound N
    · cases he

/- spec.l03Least -/
def spec_l03Least (N : Nat) (x0 : List (Int × Int × (List Int) × List Int)) (x1 : List Int) (x2 : Int) : Option (Int × Unit) :=
  Option.bind (idx x0 x2) fun v1 =>
  loopN (fun (s2 : Int × Int × Unit) next3 =>
    cond (decide (s2.2.1 < (List.length v1.2.2.1 : Int)))
      (Option.bind (idx x0 x2) fun v4 =>
      Option.bind (idx v4.2.2.1 s2.2.1) fun v5 =>
      Option.bind (idx x1 v5) fun v6 =>
      Option.bind (idx x0 v5) fun v7 =>
      Option.bind (idx x0 x2) fun v8 =>
      Option.bind (idx v8.2.2.2 s2.2.1) fun v9 =>
      Option.bind (spec_l00Max N s2.1 (w64 ((w64 (v6 + v7.1)) + v9))) fun r10 =>
      next3 (r10.1, (w64 (s2.2.1 + 1)), ()))
      (some (s2.1, ()))) N (0, 0, ())
def spec_l03Least_e (N : Nat) : Ent := { ins := [(.sl (.pair (.int .i64) (.pair (.int .i64) (.pair (.sl (.int .i64)) (.sl (.int .i64)))))), (.sl (.int .i64)), (.int .i64)], outs := [.val (.int .i64)], F := fun x => spec_l03Least N x.1 x.2.1 x.2.2.1 }
def spec_l03Least_T (N : Nat) : Nat → List EntX
  | 38 => [.pl (spec_l00Max_e N)]
  | _ => []
def spec_l03Least_L : Nat → List (Nat × TK)
  | 3 => [(7, .v (.int .i64)), (16, .v (.int .i64))]
  | _ => []
theorem spec_l03Least_eq (N : Nat) : runF N tt (spec_l03Least_T N) spec_l03Least_L [(.sl (.pair (.int .i64) (.pair (.int .i64) (.pair (.sl (.int .i64)) (.sl (.int .i64)))))), (.sl (.int .i64)), (.int .i64)] [.val (.int .i64)] (bodyOf Try.f39) Try.f39.ntmps [6] = (spec_l03Least_e N).F := by
  funext x
  kernel_rfl
theorem spec_l03Least_sound (N : Nat) : SoundC Try.prog 39 (spec_l03Least_e N) := by
  have h := runF_sound (f := 39) (code := bodyOf Try.f39) (N := N) (T := (spec_l03Least_T N)) (L := spec_l03Least_L) (ins := [(.sl (.pair (.int .i64) (.pair (.int .i64) (.pair (.sl (.int .i64)) (.sl (.int .i64)))))), (.sl (.int .i64)), (.int .i64)]) (outs := [.val (.int .i64)]) (res := [6]) mixed tt_ok ?_ Try.func39 (by kernel_rfl) rfl (by kernel_rfl) (by kernel_rfl) (by decide +kernel)
  · rw [spec_l03Least_eq] at h
    exact h
  · intro f e he
    unfold spec_l03Least_T at he
    split at he
    · rw [List.mem_singleton.1 he]; exact spec_l00Max_sound N
    · cases he

/- spec.l03Early -/
def spec_l03Early (N : Nat) (x0 : List (Int × Int × (List Int) × List Int)) : Option (List (Int) × Unit) :=
  cond (mkOk (List.length x0 : Int) (List.length x0 : Int))
    (let xs1 := (List.replicate (Int.toNat (List.length x0 : Int)) (0 : Int) : List (Int))
    loopN (fun (s2 : List (Int) × Int × Unit) next3 =>
      cond (decide (s2.2.1 < (List.length x0 : Int)))
        (Option.bind (spec_l03Least N x0 s2.1 s2.2.1) fun r4 =>
        cond (inB s2.2.1 (List.length s2.1))
          (let xs5 := (List.set s2.1 (Int.toNat s2.2.1) r4.1)
          next3 (xs5, (w64 (s2.2.1 + 1)), ())) none)
        (some (s2.1, ()))) N (xs1, 0, ())) none
def spec_l03Early_e (N : Nat) : Ent := { ins := [(.sl (.pair (.int .i64) (.pair (.int .i64) (.pair (.sl (.int .i64)) (.sl (.int .i64))))))], outs := [.own (.int .i64)], F := fun x => spec_l03Early N x.1 }
def spec_l03Early_T (N : Nat) : Nat → List EntX
  | 39 => [.pl (spec_l03Least_e N)]
  | _ => []
def spec_l03Early_L : Nat → List (Nat × TK)
  | 3 => [(3, .own (.int .i64)), (10, .v (.int .i64))]
  | _ => []
theorem spec_l03Early_eq (N : Nat) : runF N tt (spec_l03Early_T N) spec_l03Early_L [(.sl (.pair (.int .i64) (.pair (.int .i64) (.pair (.sl (.int .i64)) (.sl (.int .i64))))))] [.own (.int .i64)] (bodyOf Try.f22) Try.f22.ntmps [2] = (spec_l03Early_e N).F := by
  funext x
  kernel_rfl
theorem spec_l03Early_sound (N : Nat) : SoundC Try.prog 22 (spec_l03Early_e N) := by
  have h := runF_sound (f := 22) (code := bodyOf Try.f22) (N := N) (T := (spec_l03Early_T N)) (L := spec_l03Early_L) (ins := [(.sl (.pair (.int .i64) (.pair (.int .i64) (.pair (.sl (.int .i64)) (.sl (.int .i64))))))]) (outs := [.own (.int .i64)]) (res := [2]) mixed tt_ok ?_ Try.func22 (by kernel_rfl) rfl (by kernel_rfl) (by kernel_rfl) (by decide +kernel)
  · rw [spec_l03Early_eq] at h
    exact h
  · intro f e he
    unfold spec_l03Early_T at he
    split at he
    · rw [List.mem_singleton.1 he]; exact spec_l03Least_sound N
    · cases he

/- spec.l00Min -/
def spec_l00Min (_N : Nat) (x0 : Int) (x1 : Int) : Option (Int × Unit) :=
  cond (decide (x0 < x1))
    (some (x0, ()))
    (some (x1, ()))
def spec_l00Min_e (N : Nat) : Ent := { ins := [(.int .i64), (.int .i64)], outs := [.val (.int .i64)], F := fun x => spec_l00Min N x.1 x.2.1 }
def spec_l00Min_T (_ : Nat) : Nat → List EntX := fun _ => []
def spec_l00Min_L : Nat → List (Nat × TK) := fun _ => []
theorem spec_l00Min_eq (N : Nat) : runF N tt (spec_l00Min_T N) spec_l00Min_L [(.int .i64), (.int .i64)] [.val (.int .i64)] (bodyOf Try.f52) Try.f52.ntmps [4] = (spec_l00Min_e N).F := by
  funext x
  kernel_rfl
theorem spec_l00Min_sound (N : Nat) : SoundC Try.prog 52 (spec_l00Min_e N) := by
  have h := runF_sound (f := 52) (code := bodyOf Try.f52) (N := N) (T := (spec_l00Min_T N)) (L := spec_l00Min_L) (ins := [(.int .i64), (.int .i64)]) (outs := [.val (.int .i64)]) (res := [4]) mixed tt_ok ?_ Try.func52 (by kernel_rfl) rfl (by kernel_rfl) (by kernel_rfl) (by decide +kernel)
  · rw [spec_l00Min_eq] at h
    exact h
  · intro f e he
    cases he

/- spec.l03Greatest -/
def spec_l03Greatest (N : Nat) (x0 : List (Int × Int × (List Int) × List Int)) (x1 : List Int) (x2 : Int) (x3 : Int) : Option (Int × Unit) :=
  Option.bind (idx x0 x2) fun v1 =>
  loopN (fun (s2 : Int × Int × Unit) next3 =>
    cond (decide (s2.2.1 < (List.length x0 : Int)))
      (Option.bind (idx x0 s2.2.1) fun v4 =>
      loopN (fun (s5 : Int × Int × Unit) next6 =>
        cond (decide (s5.2.1 < (List.length v4.2.2.1 : Int)))
          (Option.bind (idx x0 s2.2.1) fun v7 =>
          Option.bind (idx v7.2.2.1 s5.2.1) fun v8 =>
          cond (v8 == x2)
            (Option.bind (idx x1 s2.2.1) fun v9 =>
            Option.bind (idx x0 s2.2.1) fun v10 =>
            Option.bind (idx v10.2.2.2 s5.2.1) fun v11 =>
            Option.bind (idx x0 x2) fun v12 =>
            Option.bind (spec_l00Min N s5.1 (w64 ((w64 (v9 - v11)) - v12.1))) fun r13 =>
            next6 (r13.1, (w64 (s5.2.1 + 1)), ()))
            (next6 (s5.1, (w64 (s5.2.1 + 1)), ())))
          (next3 (s5.1, (w64 (s2.2.1 + 1)), ()))) N (s2.1, 0, ()))
      (some (s2.1, ()))) N ((w64 (x3 - v1.1)), (w64 (x2 + 1)), ())
def spec_l03Greatest_e (N : Nat) : Ent := { ins := [(.sl (.pair (.int .i64) (.pair (.int .i64) (.pair (.sl (.int .i64)) (.sl (.int .i64)))))), (.sl (.int .i64)), (.int .i64), (.int .i64)], outs := [.val (.int .i64)], F := fun x => spec_l03Greatest N x.1 x.2.1 x.2.2.1 x.2.2.2.1 }
def spec_l03Greatest_T (N : Nat) : Nat → List EntX
  | 52 => [.pl (spec_l00Min_e N)]
  | _ => []
def spec_l03Greatest_L : Nat → List (Nat × TK)
  | 3 => [(9, .v (.int .i64)), (10, .v (.int .i64))]
  | 6 => [(9, .v (.int .i64)), (33, .v (.int .i64))]
  | _ => []
theorem spec_l03Greatest_eq (N : Nat) : runF N tt (spec_l03Greatest_T N) spec_l03Greatest_L [(.sl (.pair (.int .i64) (.pair (.int .i64) (.pair (.sl (.int .i64)) (.sl (.int .i64)))))), (.sl (.int .i64)), (.int .i64), (.int .i64)] [.val (.int .i64)] (bodyOf Try.f49) Try.f49.ntmps [8] = (spec_l03Greatest_e N).F := by
  funext x
  kernel_rfl
theorem spec_l03Greatest_sound (N : Nat) : SoundC Try.prog 49 (spec_l03Greatest_e N) := by
  have h := runF_sound (f := 49) (code := bodyOf Try.f49) (N := N) (T := (spec_l03Greatest_T N)) (L := spec_l03Greatest_L) (ins := [(.sl (.pair (.int .i64) (.pair (.int .i64) (.pair (.sl (.int .i64)) (.sl (.int .i64)))))), (.sl (.int .i64)), (.int .i64), (.int .i64)]) (outs := [.val (.int .i64)]) (res := [8]) mixed tt_ok ?_ Try.func49 (by kernel_rfl) rfl (by kernel_rfl) (by kernel_rfl) (by decide +kernel)
  · rw [spec_l03Greatest_eq] at h
    exact h
  · intro f e he
    unfold spec_l03Greatest_T at he
    split at he
    · rw [List.mem_singleton.1 he]; exact spec_l00Min_sound N
    · cases he

/- spec.l03Late -/
def spec_l03Late (N : Nat) (x0 : List (Int × Int × (List Int) × List Int)) (x1 : Int) : Option (List (Int) × Unit) :=
  cond (mkOk (List.length x0 : Int) (List.length x0 : Int))
    (let xs1 := (List.replicate (Int.toNat (List.length x0 : Int)) (0 : Int) : List (Int))
    loopN (fun (s2 : List (Int) × Int × Unit) next3 =>
      cond (decide (s2.2.1 ≥ 0))
        (Option.bind (spec_l03Greatest N x0 s2.1 s2.2.1 x1) fun r4 =>
        cond (inB s2.2.1 (List.length s2.1))
          (let xs5 := (List.set s2.1 (Int.toNat s2.2.1) r4.1)
          next3 (xs5, (w64 (s2.2.1 - 1)), ())) none)
        (some (s2.1, ()))) N (xs1, (w64 ((List.length x0 : Int) - 1)), ())) none
def spec_l03Late_e (N : Nat) : Ent := { ins := [(.sl (.pair (.int .i64) (.pair (.int .i64) (.pair (.sl (.int .i64)) (.sl (.int .i64)))))), (.int .i64)], outs := [.own (.int .i64)], F := fun x => spec_l03Late N x.1 x.2.1 }
def spec_l03Late_T (N : Nat) : Nat → List EntX
  | 49 => [.pl (spec_l03Greatest_e N)]
  | _ => []
def spec_l03Late_L : Nat → List (Nat × TK)
  | 3 => [(5, .own (.int .i64)), (6, .v (.int .i64))]
  | _ => []
theorem spec_l03Late_eq (N : Nat) : runF N tt (spec_l03Late_T N) spec_l03Late_L [(.sl (.pair (.int .i64) (.pair (.int .i64) (.pair (.sl (.int .i64)) (.sl (.int .i64)))))), (.int .i64)] [.own (.int .i64)] (bodyOf Try.f40) Try.f40.ntmps [4] = (spec_l03Late_e N).F := by
  funext x
  kernel_rfl
theorem spec_l03Late_sound (N : Nat) : SoundC Try.prog 40 (spec_l03Late_e N) := by
  have h := runF_sound (f := 40) (code := bodyOf Try.f40) (N := N) (T := (spec_l03Late_T N)) (L := spec_l03Late_L) (ins := [(.sl (.pair (.int .i64) (.pair (.int .i64) (.pair (.sl (.int .i64)) (.sl (.int .i64)))))), (.int .i64)]) (outs := [.own (.int .i64)]) (res := [4]) mixed tt_ok ?_ Try.func40 (by kernel_rfl) rfl (by kernel_rfl) (by kernel_rfl) (by decide +kernel)
  · rw [spec_l03Late_eq] at h
    exact h
  · intro f e he
    unfold spec_l03Late_T at he
    split at he
    · rw [List.mem_singleton.1 he]; exact spec_l03Greatest_sound N
    · cases he

/- spec.l03Slack -/
def spec_l03Slack (N : Nat) (x0 : List (Int × Int × (List Int) × List Int)) : Option (List (Int) × Unit) :=
  Option.bind (spec_l03Early N x0) fun r1 =>
  Option.bind (spec_l03End N x0 r1.1) fun r2 =>
  Option.bind (spec_l03Late N x0 r2.1) fun r3 =>
  loopN (fun (s4 : List (Int) × Int × Unit) next5 =>
    cond (decide (s4.2.1 < (List.length r3.1 : Int)))
      (cond (inB s4.2.1 (List.length r3.1))
        (Option.bind (r3.1[(Int.toNat s4.2.1)]?) fun v6 =>
        cond (inB s4.2.1 (List.length r1.1))
          (Option.bind (r1.1[(Int.toNat s4.2.1)]?) fun v7 =>
          cond (appOk (List.length s4.1) (List.length ([(w64 (v6 - v7))] : List Int)))
            (let xs8 := (s4.1 ++ ([(w64 (v6 - v7))] : List Int))
            next5 (xs8, (w64 (s4.2.1 + 1)), ())) none) none) none)
      (some (s4.1, ()))) N (([] : List Int), 0, ())
def spec_l03Slack_e (N : Nat) : Ent := { ins := [(.sl (.pair (.int .i64) (.pair (.int .i64) (.pair (.sl (.int .i64)) (.sl (.int .i64))))))], outs := [.own (.int .i64)], F := fun x => spec_l03Slack N x.1 }
def spec_l03Slack_T (N : Nat) : Nat → List EntX
  | 21 => [.pl (spec_l03End_e N)]
  | 22 => [.pl (spec_l03Early_e N)]
  | 40 => [.pl (spec_l03Late_e N)]
  | _ => []
def spec_l03Slack_L : Nat → List (Nat × TK)
  | 5 => [(5, .own (.int .i64)), (17, .v (.int .i64))]
  | _ => []
theorem spec_l03Slack_eq (N : Nat) : runF N tt (spec_l03Slack_T N) spec_l03Slack_L [(.sl (.pair (.int .i64) (.pair (.int .i64) (.pair (.sl (.int .i64)) (.sl (.int .i64))))))] [.own (.int .i64)] (bodyOf Try.f23) Try.f23.ntmps [2] = (spec_l03Slack_e N).F := by
  funext x
  kernel_rfl
theorem spec_l03Slack_sound (N : Nat) : SoundC Try.prog 23 (spec_l03Slack_e N) := by
  have h := runF_sound (f := 23) (code := bodyOf Try.f23) (N := N) (T := (spec_l03Slack_T N)) (L := spec_l03Slack_L) (ins := [(.sl (.pair (.int .i64) (.pair (.int .i64) (.pair (.sl (.int .i64)) (.sl (.int .i64))))))]) (outs := [.own (.int .i64)]) (res := [2]) mixed tt_ok ?_ Try.func23 (by kernel_rfl) rfl (by kernel_rfl) (by kernel_rfl) (by decide +kernel)
  · rw [spec_l03Slack_eq] at h
    exact h
  · intro f e he
    unfold spec_l03Slack_T at he
    split at he
    · rw [List.mem_singleton.1 he]; exact spec_l03End_sound N
    · rw [List.mem_singleton.1 he]; exact spec_l03Early_sound N
    · rw [List.mem_singleton.1 he]; exact spec_l03Late_sound N
    · cases he

/- spec.EndsDrawn -/
def spec_EndsDrawn (N : Nat) (x0 : List Ed.Tk) (x1 : Option Nat) (x2 : Option Nat) (x3 : Int) (x4 : Int) : Option (List (Int) × List (Option Nat) × Int × Bool × Unit) :=
  Ed.edF (spec_l03Are N) (spec_l03Seed N) (spec_l00In N) (spec_l03Draw N) (spec_l03Early N) (spec_l03End N) (spec_l03Slack N) x0 x1 x2 x3 x4
def spec_EndsDrawn_e (N : Nat) : Ent := { ins := [Arr.tkS.sl, (.flt .f32), (.flt .f32), (.int .i64), (.int .i64)], outs := [.own (.int .i64), .own (.flt .f32), .val (.int .i64), .val .bool], F := fun x => spec_EndsDrawn N x.1 x.2.1 x.2.2.1 x.2.2.2.1 x.2.2.2.2.1 }
theorem spec_EndsDrawn_sound (N : Nat) : SoundC Try.prog 5 (spec_EndsDrawn_e N) := Ed.es_sound (spec_l03Are_sound N) (spec_l03Seed_sound N) (spec_l00In_sound N) (spec_l03Draw_sound N) (spec_l03Early_sound N) (spec_l03End_sound N) (spec_l03Slack_sound N)

/- laws.toInt64S -/
def laws_toInt64S (N : Nat) (x0 : List Int) : Option (List (Int) × Unit) :=
  cond (mkOk (List.length x0 : Int) (List.length x0 : Int))
    (let xs1 := (List.replicate (Int.toNat (List.length x0 : Int)) (0 : Int) : List (Int))
    loopN (fun (s2 : List (Int) × Int × Unit) next3 =>
      cond (decide (s2.2.1 < (List.length x0 : Int)))
        (Option.bind (idx x0 s2.2.1) fun v4 =>
        cond (inB s2.2.1 (List.length s2.1))
          (let xs5 := (List.set s2.1 (Int.toNat s2.2.1) v4)
          next3 (xs5, (w64 (s2.2.1 + 1)), ())) none)
        (some (s2.1, ()))) N (xs1, 0, ())) none
def laws_toInt64S_e (N : Nat) : Ent := { ins := [(.sl (.int .i64))], outs := [.own (.int .i64)], F := fun x => laws_toInt64S N x.1 }
def laws_toInt64S_T (_ : Nat) : Nat → List EntX := fun _ => []
def laws_toInt64S_L : Nat → List (Nat × TK)
  | 3 => [(3, .own (.int .i64)), (4, .v (.int .i64))]
  | _ => []
theorem laws_toInt64S_eq (N : Nat) : runF N tt (laws_toInt64S_T N) laws_toInt64S_L [(.sl (.int .i64))] [.own (.int .i64)] (bodyOf Try.f41) Try.f41.ntmps [2] = (laws_toInt64S_e N).F := by
  funext x
  kernel_rfl
theorem laws_toInt64S_sound (N : Nat) : SoundC Try.prog 41 (laws_toInt64S_e N) := by
  have h := runF_sound (f := 41) (code := bodyOf Try.f41) (N := N) (T := (laws_toInt64S_T N)) (L := laws_toInt64S_L) (ins := [(.sl (.int .i64))]) (outs := [.own (.int .i64)]) (res := [2]) mixed tt_ok ?_ Try.func41 (by kernel_rfl) rfl (by kernel_rfl) (by kernel_rfl) (by decide +kernel)
  · rw [laws_toInt64S_eq] at h
    exact h
  · intro f e he
    cases he

/- laws.toTask -/
def laws_toTask (N : Nat) (x0 : Int × Int × (List Int) × List Int) : Option ((Int × Int × (List Int) × List Int) × Unit) :=
  Option.bind (laws_toInt64S N x0.2.2.1) fun r1 =>
  Option.bind (laws_toInt64S N x0.2.2.2) fun r2 =>
  some ((x0.1, (x0.2.1, (r1.1, r2.1))), ())
def laws_toTask_e (N : Nat) : Ent := { ins := [(.pair (.int .i64) (.pair (.int .i64) (.pair (.sl (.int .i64)) (.sl (.int .i64)))))], outs := [.val (.nw (.pair (.int .i64) (.pair (.int .i64) (.pair (.sl (.int .i64)) (.sl (.int .i64))))))], F := fun x => laws_toTask N x.1 }
def laws_toTask_T (N : Nat) : Nat → List EntX
  | 41 => [.pl (laws_toInt64S_e N)]
  | _ => []
def laws_toTask_L : Nat → List (Nat × TK) := fun _ => []
theorem laws_toTask_eq (N : Nat) : runC N tt (laws_toTask_T N) laws_toTask_L [(.pair (.int .i64) (.pair (.int .i64) (.pair (.sl (.int .i64)) (.sl (.int .i64)))))] [.val (.nw (.pair (.int .i64) (.pair (.int .i64) (.pair (.sl (.int .i64)) (.sl (.int .i64))))))] (bodyOf Try.f24) Try.f24.ntmps [2] [(2, 46)] = (laws_toTask_e N).F := by
  funext x
  kernel_rfl
theorem laws_toTask_sound (N : Nat) : SoundC Try.prog 24 (laws_toTask_e N) := by
  have h := runC_sound (f := 24) (code := bodyOf Try.f24) (N := N) (T := (laws_toTask_T N)) (L := laws_toTask_L) (ins := [(.pair (.int .i64) (.pair (.int .i64) (.pair (.sl (.int .i64)) (.sl (.int .i64)))))]) (outs := [.val (.nw (.pair (.int .i64) (.pair (.int .i64) (.pair (.sl (.int .i64)) (.sl (.int .i64))))))]) (res := [2]) (rs := [.cell 2 46]) (cells := [(2, 46)]) mixed tt_ok ?_ Try.func24 (by kernel_rfl) rfl (by kernel_rfl) (by kernel_rfl) rfl rfl (by decide) (by decide +kernel) (by decide +kernel)
  · rw [laws_toTask_eq] at h
    exact h
  · intro f e he
    unfold laws_toTask_T at he
    split at he
    · rw [List.mem_singleton.1 he]; exact laws_toInt64S_sound N
    · cases he

/- laws.toTaskS -/
def laws_toTaskS (N : Nat) (x0 : List (Int × Int × (List Int) × List Int)) : Option (List (Int × Int × (List Int) × List Int) × Unit) :=
  cond (mkOk (List.length x0 : Int) (List.length x0 : Int))
    (let xs1 := (List.replicate (Int.toNat (List.length x0 : Int)) ((0 : Int), ((0 : Int), ([], []))) : List (Int × Int × (List Int) × List Int))
    loopN (fun (s2 : List (Int × Int × (List Int) × List Int) × Int × Unit) next3 =>
      cond (decide (s2.2.1 < (List.length x0 : Int)))
        (Option.bind (idx x0 s2.2.1) fun v4 =>
        Option.bind (laws_toTask N v4) fun r5 =>
        cond (inB s2.2.1 (List.length s2.1))
          (let xs6 := (List.set s2.1 (Int.toNat s2.2.1) r5.1)
          next3 (xs6, (w64 (s2.2.1 + 1)), ())) none)
        (some (s2.1, ()))) N (xs1, 0, ())) none
def laws_toTaskS_e (N : Nat) : Ent := { ins := [(.sl (.pair (.int .i64) (.pair (.int .i64) (.pair (.sl (.int .i64)) (.sl (.int .i64))))))], outs := [.own (.nw (.pair (.int .i64) (.pair (.int .i64) (.pair (.sl (.int .i64)) (.sl (.int .i64))))))], F := fun x => laws_toTaskS N x.1 }
def laws_toTaskS_T (N : Nat) : Nat → List EntX
  | 24 => [.pl (laws_toTask_e N)]
  | _ => []
def laws_toTaskS_L : Nat → List (Nat × TK)
  | 3 => [(3, .own (.nw (.pair (.int .i64) (.pair (.int .i64) (.pair (.sl (.int .i64)) (.sl (.int .i64))))))), (4, .v (.int .i64))]
  | _ => []
theorem laws_toTaskS_eq (N : Nat) : runF N tt (laws_toTaskS_T N) laws_toTaskS_L [(.sl (.pair (.int .i64) (.pair (.int .i64) (.pair (.sl (.int .i64)) (.sl (.int .i64))))))] [.own (.nw (.pair (.int .i64) (.pair (.int .i64) (.pair (.sl (.int .i64)) (.sl (.int .i64))))))] (bodyOf Try.f6) Try.f6.ntmps [2] = (laws_toTaskS_e N).F := by
  funext x
  kernel_rfl
theorem laws_toTaskS_sound (N : Nat) : SoundC Try.prog 6 (laws_toTaskS_e N) := by
  have h := runF_sound (f := 6) (code := bodyOf Try.f6) (N := N) (T := (laws_toTaskS_T N)) (L := laws_toTaskS_L) (ins := [(.sl (.pair (.int .i64) (.pair (.int .i64) (.pair (.sl (.int .i64)) (.sl (.int .i64))))))]) (outs := [.own (.nw (.pair (.int .i64) (.pair (.int .i64) (.pair (.sl (.int .i64)) (.sl (.int .i64))))))]) (res := [2]) mixed tt_ok ?_ Try.func6 (by kernel_rfl) rfl (by kernel_rfl) (by kernel_rfl) (by decide +kernel)
  · rw [laws_toTaskS_eq] at h
    exact h
  · intro f e he
    unfold laws_toTaskS_T at he
    split at he
    · rw [List.mem_singleton.1 he]; exact laws_toTask_sound N
    · cases he

/- impl.within -/
def impl_within (_N : Nat) (x0 : Int) (x1 : Int) (x2 : Int) : Option (Bool × Unit) :=
  cond (decide (x0 ≥ x1))
    (some ((decide (x0 ≤ x2)), ()))
    (some (false, ()))
def impl_within_e (N : Nat) : Ent := { ins := [(.int .i64), (.int .i64), (.int .i64)], outs := [.val .bool], F := fun x => impl_within N x.1 x.2.1 x.2.2.1 }
def impl_within_T (_ : Nat) : Nat → List EntX := fun _ => []
def impl_within_L : Nat → List (Nat × TK) := fun _ => []
theorem impl_within_eq (N : Nat) : runF N tt (impl_within_T N) impl_within_L [(.int .i64), (.int .i64), (.int .i64)] [.val .bool] (bodyOf Try.f27) Try.f27.ntmps [6] = (impl_within_e N).F := by
  funext x
  kernel_rfl
theorem impl_within_sound (N : Nat) : SoundC Try.prog 27 (impl_within_e N) := by
  have h := runF_sound (f := 27) (code := bodyOf Try.f27) (N := N) (T := (impl_within_T N)) (L := impl_within_L) (ins := [(.int .i64), (.int .i64), (.int .i64)]) (outs := [.val .bool]) (res := [6]) mixed tt_ok ?_ Try.func27 (by kernel_rfl) rfl (by kernel_rfl) (by kernel_rfl) (by decide +kernel)
  · rw [impl_within_eq] at h
    exact h
  · intro f e he
    cases he

/- impl.areWithin -/
def impl_areWithin (N : Nat) (x0 : List Int) (x1 : Int) (x2 : Int) : Option (Bool × Unit) :=
  loopN (fun (s1 : Int × Unit) next2 =>
    cond (decide (s1.1 < (List.length x0 : Int)))
      (Option.bind (idx x0 s1.1) fun v3 =>
      Option.bind (impl_within N v3 x1 x2) fun r4 =>
      cond (!r4.1)
        (some (false, ()))
        (next2 ((w64 (s1.1 + 1)), ())))
      (some (true, ()))) N (0, ())
def impl_areWithin_e (N : Nat) : Ent := { ins := [(.sl (.int .i64)), (.int .i64), (.int .i64)], outs := [.val .bool], F := fun x => impl_areWithin N x.1 x.2.1 x.2.2.1 }
def impl_areWithin_T (N : Nat) : Nat → List EntX
  | 27 => [.pl (impl_within_e N)]
  | _ => []
def impl_areWithin_L : Nat → List (Nat × TK)
  | 2 => [(11, .v (.int .i64))]
  | _ => []
theorem impl_areWithin_eq (N : Nat) : runF N tt (impl_areWithin_T N) impl_areWithin_L [(.sl (.int .i64)), (.int .i64), (.int .i64)] [.val .bool] (bodyOf Try.f42) Try.f42.ntmps [6] = (impl_areWithin_e N).F := by
  funext x
  kernel_rfl
theorem impl_areWithin_sound (N : Nat) : SoundC Try.prog 42 (impl_areWithin_e N) := by
  have h := runF_sound (f := 42) (code := bodyOf Try.f42) (N := N) (T := (impl_areWithin_T N)) (L := impl_areWithin_L) (ins := [(.sl (.int .i64)), (.int .i64), (.int .i64)]) (outs := [.val .bool]) (res := [6]) mixed tt_ok ?_ Try.func42 (by kernel_rfl) rfl (by kernel_rfl) (by kernel_rfl) (by decide +kernel)
  · rw [impl_areWithin_eq] at h
    exact h
  · intro f e he
    unfold impl_areWithin_T at he
    split at he
    · rw [List.mem_singleton.1 he]; exact impl_within_sound N
    · cases he

/- impl.AreTasks -/
def impl_AreTasks (N : Nat) (x0 : List (Int × Int × (List Int) × List Int)) : Option (Bool × Unit) :=
  loopN (fun (s1 : Int × Unit) next2 =>
    cond (decide (s1.1 < (List.length x0 : Int)))
      (Option.bind (idx x0 s1.1) fun v3 =>
      Option.bind (impl_within N v3.1 0 100) fun r4 =>
      cond (!r4.1)
        (some (false, ()))
        (Option.bind (impl_within N v3.2.1 0 20) fun r5 =>
        cond (!r5.1)
          (some (false, ()))
          (cond ((List.length v3.2.2.1 : Int) != (List.length v3.2.2.2 : Int))
            (some (false, ()))
            (Option.bind (impl_areWithin N v3.2.2.2 (-100) 100) fun r6 =>
            cond (!r6.1)
              (some (false, ()))
              (loopN (fun (s7 : Int × Unit) next8 =>
                cond (decide (s7.1 < (List.length v3.2.2.1 : Int)))
                  (Option.bind (idx v3.2.2.1 s7.1) fun v9 =>
                  Option.bind (impl_within N v9 0 (w64 (s1.1 - 1))) fun r10 =>
                  cond (!r10.1)
                    (some (false, ()))
                    (cond (decide (s7.1 > 0))
                      (Option.bind (idx v3.2.2.1 (w64 (s7.1 - 1))) fun v11 =>
                      cond (decide (v9 ≤ v11))
                        (some (false, ()))
                        (next8 ((w64 (s7.1 + 1)), ())))
                      (next8 ((w64 (s7.1 + 1)), ()))))
                  (next2 ((w64 (s1.1 + 1)), ()))) N (0, ()))))))
      (cond (decide ((List.length x0 : Int) ≥ 1))
        (some ((decide ((List.length x0 : Int) ≤ 16)), ()))
        (some (false, ())))) N (0, ())
def impl_AreTasks_e (N : Nat) : Ent := { ins := [(.sl (.pair (.int .i64) (.pair (.int .i64) (.pair (.sl (.int .i64)) (.sl (.int .i64))))))], outs := [.val .bool], F := fun x => impl_AreTasks N x.1 }
def impl_AreTasks_T (N : Nat) : Nat → List EntX
  | 27 => [.pl (impl_within_e N)]
  | 42 => [.pl (impl_areWithin_e N)]
  | _ => []
def impl_AreTasks_L : Nat → List (Nat × TK)
  | 2 => [(9, .v (.int .i64))]
  | 7 => [(42, .v (.int .i64))]
  | _ => []
theorem impl_AreTasks_eq (N : Nat) : runF N tt (impl_AreTasks_T N) impl_AreTasks_L [(.sl (.pair (.int .i64) (.pair (.int .i64) (.pair (.sl (.int .i64)) (.sl (.int .i64))))))] [.val .bool] (bodyOf Try.f25) Try.f25.ntmps [2] = (impl_AreTasks_e N).F := by
  funext x
  kernel_rfl
theorem impl_AreTasks_sound (N : Nat) : SoundC Try.prog 25 (impl_AreTasks_e N) := by
  have h := runF_sound (f := 25) (code := bodyOf Try.f25) (N := N) (T := (impl_AreTasks_T N)) (L := impl_AreTasks_L) (ins := [(.sl (.pair (.int .i64) (.pair (.int .i64) (.pair (.sl (.int .i64)) (.sl (.int .i64))))))]) (outs := [.val .bool]) (res := [2]) mixed tt_ok ?_ Try.func25 (by kernel_rfl) rfl (by kernel_rfl) (by kernel_rfl) (by decide +kernel)
  · rw [impl_AreTasks_eq] at h
    exact h
  · intro f e he
    unfold impl_AreTasks_T at he
    split at he
    · rw [List.mem_singleton.1 he]; exact impl_within_sound N
    · rw [List.mem_singleton.1 he]; exact impl_areWithin_sound N
    · cases he

/- impl.isSeed -/
def impl_isSeed (N : Nat) (x0 : Int) : Option (Bool × Unit) :=
  Option.bind (impl_within N x0 0 4294967295) fun r1 =>
  some (r1.1, ())
def impl_isSeed_e (N : Nat) : Ent := { ins := [(.int .i64)], outs := [.val .bool], F := fun x => impl_isSeed N x.1 }
def impl_isSeed_T (N : Nat) : Nat → List EntX
  | 27 => [.pl (impl_within_e N)]
  | _ => []
def impl_isSeed_L : Nat → List (Nat × TK) := fun _ => []
theorem impl_isSeed_eq (N : Nat) : runF N tt (impl_isSeed_T N) impl_isSeed_L [(.int .i64)] [.val .bool] (bodyOf Try.f26) Try.f26.ntmps [2] = (impl_isSeed_e N).F := by
  funext x
  kernel_rfl
theorem impl_isSeed_sound (N : Nat) : SoundC Try.prog 26 (impl_isSeed_e N) := by
  have h := runF_sound (f := 26) (code := bodyOf Try.f26) (N := N) (T := (impl_isSeed_T N)) (L := impl_isSeed_L) (ins := [(.int .i64)]) (outs := [.val .bool]) (res := [2]) mixed tt_ok ?_ Try.func26 (by kernel_rfl) rfl (by kernel_rfl) (by kernel_rfl) (by decide +kernel)
  · rw [impl_isSeed_eq] at h
    exact h
  · intro f e he
    unfold impl_isSeed_T at he
    split at he
    · rw [List.mem_singleton.1 he]; exact impl_within_sound N
    · cases he

/- impl.nextSeed -/
def impl_nextSeed (_N : Nat) (x0 : Int) : Option (Int × Option Nat × Unit) :=
  some ((Int.tmod (w64 ((w64 (1664525 * x0)) + 1013904223)) 4294967296), (farith .mul .f32 (toF .f32 (FloatKind.nearest .f32 (w64 (Int.tdiv (Int.tmod (w64 ((w64 (1664525 * x0)) + 1013904223)) 4294967296) 256)))) (toF .f32 864026624)), ())
def impl_nextSeed_e (N : Nat) : Ent := { ins := [(.int .i64)], outs := [.val (.int .i64), .val (.flt .f32)], F := fun x => impl_nextSeed N x.1 }
def impl_nextSeed_T (_ : Nat) : Nat → List EntX := fun _ => []
def impl_nextSeed_L : Nat → List (Nat × TK) := fun _ => []
theorem impl_nextSeed_eq (N : Nat) : runF N tt (impl_nextSeed_T N) impl_nextSeed_L [(.int .i64)] [.val (.int .i64), .val (.flt .f32)] (bodyOf Try.f43) Try.f43.ntmps [2, 3] = (impl_nextSeed_e N).F := by
  funext x
  kernel_rfl
theorem impl_nextSeed_sound (N : Nat) : SoundC Try.prog 43 (impl_nextSeed_e N) := by
  have h := runF_sound (f := 43) (code := bodyOf Try.f43) (N := N) (T := (impl_nextSeed_T N)) (L := impl_nextSeed_L) (ins := [(.int .i64)]) (outs := [.val (.int .i64), .val (.flt .f32)]) (res := [2, 3]) mixed tt_ok ?_ Try.func43 (by kernel_rfl) rfl (by kernel_rfl) (by kernel_rfl) (by decide +kernel)
  · rw [impl_nextSeed_eq] at h
    exact h
  · intro f e he
    cases he

/- impl.RootNumber -/
def impl_RootNumber (N : Nat) (x0 : Option Nat) : Option (Option Nat × Unit) :=
  fconvB .f32 x0 .f64 fun v1 =>
  Option.bind (math_Sqrt N v1) fun r2 =>
  fconvB .f64 r2.1 .f32 fun v3 =>
  some (v3, ())
def impl_RootNumber_e (N : Nat) : Ent := { ins := [(.flt .f32)], outs := [.val (.flt .f32)], F := fun x => impl_RootNumber N x.1 }
def impl_RootNumber_T (N : Nat) : Nat → List EntX
  | 48 => [.pl (math_Sqrt_e N)]
  | _ => []
def impl_RootNumber_L : Nat → List (Nat × TK) := fun _ => []
theorem impl_RootNumber_eq (N : Nat) : runF N tt (impl_RootNumber_T N) impl_RootNumber_L [(.flt .f32)] [.val (.flt .f32)] (bodyOf Try.f44) Try.f44.ntmps [2] = (impl_RootNumber_e N).F := by
  funext x
  kernel_rfl
theorem impl_RootNumber_sound (N : Nat) : SoundC Try.prog 44 (impl_RootNumber_e N) := by
  have h := runF_sound (f := 44) (code := bodyOf Try.f44) (N := N) (T := (impl_RootNumber_T N)) (L := impl_RootNumber_L) (ins := [(.flt .f32)]) (outs := [.val (.flt .f32)]) (res := [2]) mixed tt_ok ?_ Try.func44 (by kernel_rfl) rfl (by kernel_rfl) (by kernel_rfl) (by decide +kernel)
  · rw [impl_RootNumber_eq] at h
    exact h
  · intro f e he
    unfold impl_RootNumber_T at he
    split at he
    · rw [List.mem_singleton.1 he]; exact math_Sqrt_sound N
    · cases he

/- impl.timeDrawn -/
def impl_timeDrawn (N : Nat) (x0 : Option Nat) (x1 : Option Nat) (x2 : Option Nat) (x3 : Int) : Option (Option Nat × Int × Unit) :=
  Option.bind (impl_nextSeed N x3) fun r1 =>
  cond (fcmp .lss .f32 r1.2.1 (farith .quo .f32 (farith .sub .f32 x1 x0) (farith .sub .f32 x2 x0)))
    (Option.bind (impl_RootNumber N (farith .mul .f32 (farith .mul .f32 r1.2.1 (farith .sub .f32 x2 x0)) (farith .sub .f32 x1 x0))) fun r2 =>
    some ((farith .add .f32 x0 r2.1), r1.1, ()))
    (Option.bind (impl_RootNumber N (farith .mul .f32 (farith .mul .f32 (farith .sub .f32 (toF .f32 1065353216) r1.2.1) (farith .sub .f32 x2 x0)) (farith .sub .f32 x2 x1))) fun r3 =>
    some ((farith .sub .f32 x2 r3.1), r1.1, ()))
def impl_timeDrawn_e (N : Nat) : Ent := { ins := [(.flt .f32), (.flt .f32), (.flt .f32), (.int .i64)], outs := [.val (.flt .f32), .val (.int .i64)], F := fun x => impl_timeDrawn N x.1 x.2.1 x.2.2.1 x.2.2.2.1 }
def impl_timeDrawn_T (N : Nat) : Nat → List EntX
  | 43 => [.pl (impl_nextSeed_e N)]
  | 44 => [.pl (impl_RootNumber_e N)]
  | _ => []
def impl_timeDrawn_L : Nat → List (Nat × TK) := fun _ => []
theorem impl_timeDrawn_eq (N : Nat) : runF N tt (impl_timeDrawn_T N) impl_timeDrawn_L [(.flt .f32), (.flt .f32), (.flt .f32), (.int .i64)] [.val (.flt .f32), .val (.int .i64)] (bodyOf Try.f29) Try.f29.ntmps [8, 9] = (impl_timeDrawn_e N).F := by
  funext x
  kernel_rfl
theorem impl_timeDrawn_sound (N : Nat) : SoundC Try.prog 29 (impl_timeDrawn_e N) := by
  have h := runF_sound (f := 29) (code := bodyOf Try.f29) (N := N) (T := (impl_timeDrawn_T N)) (L := impl_timeDrawn_L) (ins := [(.flt .f32), (.flt .f32), (.flt .f32), (.int .i64)]) (outs := [.val (.flt .f32), .val (.int .i64)]) (res := [8, 9]) mixed tt_ok ?_ Try.func29 (by kernel_rfl) rfl (by kernel_rfl) (by kernel_rfl) (by decide +kernel)
  · rw [impl_timeDrawn_eq] at h
    exact h
  · intro f e he
    unfold impl_timeDrawn_T at he
    split at he
    · rw [List.mem_singleton.1 he]; exact impl_nextSeed_sound N
    · rw [List.mem_singleton.1 he]; exact impl_RootNumber_sound N
    · cases he

/- impl.lastEnd -/
def impl_lastEnd (N : Nat) (x0 : List (Int × Int × (List Int) × List Int)) (x1 : List Int) : Option (Int × Unit) :=
  loopN (fun (s1 : Int × Int × Unit) next2 =>
    cond (decide (s1.2.1 < (List.length x0 : Int)))
      (Option.bind (idx x0 s1.2.1) fun v3 =>
      Option.bind (idx x1 s1.2.1) fun v4 =>
      next2 ((imax s1.1 (w64 (v4 + v3.1))), (w64 (s1.2.1 + 1)), ()))
      (some (s1.1, ()))) N (0, 0, ())
def impl_lastEnd_e (N : Nat) : Ent := { ins := [(.sl (.pair (.int .i64) (.pair (.int .i64) (.pair (.sl (.int .i64)) (.sl (.int .i64)))))), (.sl (.int .i64))], outs := [.val (.int .i64)], F := fun x => impl_lastEnd N x.1 x.2.1 }
def impl_lastEnd_T (_ : Nat) : Nat → List EntX := fun _ => []
def impl_lastEnd_L : Nat → List (Nat × TK)
  | 3 => [(5, .v (.int .i64)), (10, .v (.int .i64))]
  | _ => []
theorem impl_lastEnd_eq (N : Nat) : runF N tt (impl_lastEnd_T N) impl_lastEnd_L [(.sl (.pair (.int .i64) (.pair (.int .i64) (.pair (.sl (.int .i64)) (.sl (.int .i64)))))), (.sl (.int .i64))] [.val (.int .i64)] (bodyOf Try.f30) Try.f30.ntmps [4] = (impl_lastEnd_e N).F := by
  funext x
  kernel_rfl
theorem impl_lastEnd_sound (N : Nat) : SoundC Try.prog 30 (impl_lastEnd_e N) := by
  have h := runF_sound (f := 30) (code := bodyOf Try.f30) (N := N) (T := (impl_lastEnd_T N)) (L := impl_lastEnd_L) (ins := [(.sl (.pair (.int .i64) (.pair (.int .i64) (.pair (.sl (.int .i64)) (.sl (.int .i64)))))), (.sl (.int .i64))]) (outs := [.val (.int .i64)]) (res := [4]) mixed tt_ok ?_ Try.func30 (by kernel_rfl) rfl (by kernel_rfl) (by kernel_rfl) (by decide +kernel)
  · rw [impl_lastEnd_eq] at h
    exact h
  · intro f e he
    cases he

/- impl.earliest -/
def impl_earliest (N : Nat) (x0 : List (Int × Int × (List Int) × List Int)) (x1 : List Int) (x2 : Int) : Option (Int × Unit) :=
  Option.bind (idx x0 x2) fun v1 =>
  loopN (fun (s2 : Int × Int × Unit) next3 =>
    cond (decide (s2.2.1 < (List.length v1.2.2.1 : Int)))
      (Option.bind (idx v1.2.2.1 s2.2.1) fun v4 =>
      Option.bind (idx x1 v4) fun v5 =>
      Option.bind (idx x0 v4) fun v6 =>
      Option.bind (idx x0 x2) fun v7 =>
      Option.bind (idx v7.2.2.2 s2.2.1) fun v8 =>
      next3 ((imax s2.1 (w64 ((w64 (v5 + v6.1)) + v8))), (w64 (s2.2.1 + 1)), ()))
      (some (s2.1, ()))) N (0, 0, ())
def impl_earliest_e (N : Nat) : Ent := { ins := [(.sl (.pair (.int .i64) (.pair (.int .i64) (.pair (.sl (.int .i64)) (.sl (.int .i64)))))), (.sl (.int .i64)), (.int .i64)], outs := [.val (.int .i64)], F := fun x => impl_earliest N x.1 x.2.1 x.2.2.1 }
def impl_earliest_T (_ : Nat) : Nat → List EntX := fun _ => []
def impl_earliest_L : Nat → List (Nat × TK)
  | 3 => [(7, .v (.int .i64)), (16, .v (.int .i64))]
  | _ => []
theorem impl_earliest_eq (N : Nat) : runF N tt (impl_earliest_T N) impl_earliest_L [(.sl (.pair (.int .i64) (.pair (.int .i64) (.pair (.sl (.int .i64)) (.sl (.int .i64)))))), (.sl (.int .i64)), (.int .i64)] [.val (.int .i64)] (bodyOf Try.f45) Try.f45.ntmps [6] = (impl_earliest_e N).F := by
  funext x
  kernel_rfl
theorem impl_earliest_sound (N : Nat) : SoundC Try.prog 45 (impl_earliest_e N) := by
  have h := runF_sound (f := 45) (code := bodyOf Try.f45) (N := N) (T := (impl_earliest_T N)) (L := impl_earliest_L) (ins := [(.sl (.pair (.int .i64) (.pair (.int .i64) (.pair (.sl (.int .i64)) (.sl (.int .i64)))))), (.sl (.int .i64)), (.int .i64)]) (outs := [.val (.int .i64)]) (res := [6]) mixed tt_ok ?_ Try.func45 (by kernel_rfl) rfl (by kernel_rfl) (by kernel_rfl) (by decide +kernel)
  · rw [impl_earliest_eq] at h
    exact h
  · intro f e he
    cases he

/- impl.earlyStarts -/
def impl_earlyStarts (N : Nat) (x0 : List (Int × Int × (List Int) × List Int)) : Option (List (Int) × Unit) :=
  cond (mkOk (List.length x0 : Int) (List.length x0 : Int))
    (let xs1 := (List.replicate (Int.toNat (List.length x0 : Int)) (0 : Int) : List (Int))
    loopN (fun (s2 : List (Int) × Int × Unit) next3 =>
      cond (decide (s2.2.1 < (List.length x0 : Int)))
        (Option.bind (impl_earliest N x0 s2.1 s2.2.1) fun r4 =>
        cond (inB s2.2.1 (List.length s2.1))
          (let xs5 := (List.set s2.1 (Int.toNat s2.2.1) r4.1)
          next3 (xs5, (w64 (s2.2.1 + 1)), ())) none)
        (some (s2.1, ()))) N (xs1, 0, ())) none
def impl_earlyStarts_e (N : Nat) : Ent := { ins := [(.sl (.pair (.int .i64) (.pair (.int .i64) (.pair (.sl (.int .i64)) (.sl (.int .i64))))))], outs := [.own (.int .i64)], F := fun x => impl_earlyStarts N x.1 }
def impl_earlyStarts_T (N : Nat) : Nat → List EntX
  | 45 => [.pl (impl_earliest_e N)]
  | _ => []
def impl_earlyStarts_L : Nat → List (Nat × TK)
  | 3 => [(3, .own (.int .i64)), (10, .v (.int .i64))]
  | _ => []
theorem impl_earlyStarts_eq (N : Nat) : runF N tt (impl_earlyStarts_T N) impl_earlyStarts_L [(.sl (.pair (.int .i64) (.pair (.int .i64) (.pair (.sl (.int .i64)) (.sl (.int .i64))))))] [.own (.int .i64)] (bodyOf Try.f31) Try.f31.ntmps [2] = (impl_earlyStarts_e N).F := by
  funext x
  kernel_rfl
theorem impl_earlyStarts_sound (N : Nat) : SoundC Try.prog 31 (impl_earlyStarts_e N) := by
  have h := runF_sound (f := 31) (code := bodyOf Try.f31) (N := N) (T := (impl_earlyStarts_T N)) (L := impl_earlyStarts_L) (ins := [(.sl (.pair (.int .i64) (.pair (.int .i64) (.pair (.sl (.int .i64)) (.sl (.int .i64))))))]) (outs := [.own (.int .i64)]) (res := [2]) mixed tt_ok ?_ Try.func31 (by kernel_rfl) rfl (by kernel_rfl) (by kernel_rfl) (by decide +kernel)
  · rw [impl_earlyStarts_eq] at h
    exact h
  · intro f e he
    unfold impl_earlyStarts_T at he
    split at he
    · rw [List.mem_singleton.1 he]; exact impl_earliest_sound N
    · cases he

/- slices.Index[[]int64,int64] -/
def slices_Index_int64_int64 (N : Nat) (x0 : List Int) (x1 : Int) : Option (Int × Unit) :=
  loopN (fun (s1 : Int × Unit) next2 =>
    cond (decide (s1.1 < (List.length x0 : Int)))
      (Option.bind (idx x0 s1.1) fun v3 =>
      cond (x1 == v3)
        (some (s1.1, ()))
        (next2 ((w64 (s1.1 + 1)), ())))
      (some ((-1), ()))) N (0, ())
def slices_Index_int64_int64_e (N : Nat) : Ent := { ins := [(.sl (.int .i64)), (.int .i64)], outs := [.val (.int .i64)], F := fun x => slices_Index_int64_int64 N x.1 x.2.1 }
def slices_Index_int64_int64_T (_ : Nat) : Nat → List EntX := fun _ => []
def slices_Index_int64_int64_L : Nat → List (Nat × TK)
  | 2 => [(8, .v (.int .i64))]
  | _ => []
theorem slices_Index_int64_int64_eq (N : Nat) : runF N tt (slices_Index_int64_int64_T N) slices_Index_int64_int64_L [(.sl (.int .i64)), (.int .i64)] [.val (.int .i64)] (bodyOf Try.f53) Try.f53.ntmps [4] = (slices_Index_int64_int64_e N).F := by
  funext x
  kernel_rfl
theorem slices_Index_int64_int64_sound (N : Nat) : SoundC Try.prog 53 (slices_Index_int64_int64_e N) := by
  have h := runF_sound (f := 53) (code := bodyOf Try.f53) (N := N) (T := (slices_Index_int64_int64_T N)) (L := slices_Index_int64_int64_L) (ins := [(.sl (.int .i64)), (.int .i64)]) (outs := [.val (.int .i64)]) (res := [4]) mixed tt_ok ?_ Try.func53 (by kernel_rfl) rfl (by kernel_rfl) (by kernel_rfl) (by decide +kernel)
  · rw [slices_Index_int64_int64_eq] at h
    exact h
  · intro f e he
    cases he

/- impl.latest -/
def impl_latest (N : Nat) (x0 : List (Int × Int × (List Int) × List Int)) (x1 : List Int) (x2 : Int) (x3 : Int) : Option (Int × Unit) :=
  Option.bind (idx x0 x2) fun v1 =>
  loopN (fun (s2 : Int × Int × Unit) next3 =>
    cond (decide (s2.2.1 < (List.length x0 : Int)))
      (Option.bind (idx x0 s2.2.1) fun v4 =>
      Option.bind (slices_Index_int64_int64 N v4.2.2.1 x2) fun r5 =>
      cond (decide (r5.1 ≥ 0))
        (Option.bind (idx x1 s2.2.1) fun v6 =>
        Option.bind (idx x0 s2.2.1) fun v7 =>
        Option.bind (idx v7.2.2.2 r5.1) fun v8 =>
        Option.bind (idx x0 x2) fun v9 =>
        next3 ((imin s2.1 (w64 ((w64 (v6 - v8)) - v9.1))), (w64 (s2.2.1 + 1)), ()))
        (next3 (s2.1, (w64 (s2.2.1 + 1)), ())))
      (some (s2.1, ()))) N ((w64 (x3 - v1.1)), (w64 (x2 + 1)), ())
def impl_latest_e (N : Nat) : Ent := { ins := [(.sl (.pair (.int .i64) (.pair (.int .i64) (.pair (.sl (.int .i64)) (.sl (.int .i64)))))), (.sl (.int .i64)), (.int .i64), (.int .i64)], outs := [.val (.int .i64)], F := fun x => impl_latest N x.1 x.2.1 x.2.2.1 x.2.2.2.1 }
def impl_latest_T (N : Nat) : Nat → List EntX
  | 53 => [.pl (slices_Index_int64_int64_e N)]
  | _ => []
def impl_latest_L : Nat → List (Nat × TK)
  | 3 => [(9, .v (.int .i64)), (10, .v (.int .i64))]
  | _ => []
theorem impl_latest_eq (N : Nat) : runF N tt (impl_latest_T N) impl_latest_L [(.sl (.pair (.int .i64) (.pair (.int .i64) (.pair (.sl (.int .i64)) (.sl (.int .i64)))))), (.sl (.int .i64)), (.int .i64), (.int .i64)] [.val (.int .i64)] (bodyOf Try.f50) Try.f50.ntmps [8] = (impl_latest_e N).F := by
  funext x
  kernel_rfl
theorem impl_latest_sound (N : Nat) : SoundC Try.prog 50 (impl_latest_e N) := by
  have h := runF_sound (f := 50) (code := bodyOf Try.f50) (N := N) (T := (impl_latest_T N)) (L := impl_latest_L) (ins := [(.sl (.pair (.int .i64) (.pair (.int .i64) (.pair (.sl (.int .i64)) (.sl (.int .i64)))))), (.sl (.int .i64)), (.int .i64), (.int .i64)]) (outs := [.val (.int .i64)]) (res := [8]) mixed tt_ok ?_ Try.func50 (by kernel_rfl) rfl (by kernel_rfl) (by kernel_rfl) (by decide +kernel)
  · rw [impl_latest_eq] at h
    exact h
  · intro f e he
    unfold impl_latest_T at he
    split at he
    · rw [List.mem_singleton.1 he]; exact slices_Index_int64_int64_sound N
    · cases he

/- impl.lateStarts -/
def impl_lateStarts (N : Nat) (x0 : List (Int × Int × (List Int) × List Int)) (x1 : Int) : Option (List (Int) × Unit) :=
  cond (mkOk (List.length x0 : Int) (List.length x0 : Int))
    (let xs1 := (List.replicate (Int.toNat (List.length x0 : Int)) (0 : Int) : List (Int))
    loopN (fun (s2 : List (Int) × Int × Unit) next3 =>
      cond (decide (s2.2.1 ≥ 0))
        (Option.bind (impl_latest N x0 s2.1 s2.2.1 x1) fun r4 =>
        cond (inB s2.2.1 (List.length s2.1))
          (let xs5 := (List.set s2.1 (Int.toNat s2.2.1) r4.1)
          next3 (xs5, (w64 (s2.2.1 - 1)), ())) none)
        (some (s2.1, ()))) N (xs1, (w64 ((List.length x0 : Int) - 1)), ())) none
def impl_lateStarts_e (N : Nat) : Ent := { ins := [(.sl (.pair (.int .i64) (.pair (.int .i64) (.pair (.sl (.int .i64)) (.sl (.int .i64)))))), (.int .i64)], outs := [.own (.int .i64)], F := fun x => impl_lateStarts N x.1 x.2.1 }
def impl_lateStarts_T (N : Nat) : Nat → List EntX
  | 50 => [.pl (impl_latest_e N)]
  | _ => []
def impl_lateStarts_L : Nat → List (Nat × TK)
  | 3 => [(5, .own (.int .i64)), (6, .v (.int .i64))]
  | _ => []
theorem impl_lateStarts_eq (N : Nat) : runF N tt (impl_lateStarts_T N) impl_lateStarts_L [(.sl (.pair (.int .i64) (.pair (.int .i64) (.pair (.sl (.int .i64)) (.sl (.int .i64)))))), (.int .i64)] [.own (.int .i64)] (bodyOf Try.f46) Try.f46.ntmps [4] = (impl_lateStarts_e N).F := by
  funext x
  kernel_rfl
theorem impl_lateStarts_sound (N : Nat) : SoundC Try.prog 46 (impl_lateStarts_e N) := by
  have h := runF_sound (f := 46) (code := bodyOf Try.f46) (N := N) (T := (impl_lateStarts_T N)) (L := impl_lateStarts_L) (ins := [(.sl (.pair (.int .i64) (.pair (.int .i64) (.pair (.sl (.int .i64)) (.sl (.int .i64)))))), (.int .i64)]) (outs := [.own (.int .i64)]) (res := [4]) mixed tt_ok ?_ Try.func46 (by kernel_rfl) rfl (by kernel_rfl) (by kernel_rfl) (by decide +kernel)
  · rw [impl_lateStarts_eq] at h
    exact h
  · intro f e he
    unfold impl_lateStarts_T at he
    split at he
    · rw [List.mem_singleton.1 he]; exact impl_latest_sound N
    · cases he

/- impl.slack -/
def impl_slack (N : Nat) (x0 : List (Int × Int × (List Int) × List Int)) : Option (List (Int) × Unit) :=
  Option.bind (impl_earlyStarts N x0) fun r1 =>
  Option.bind (impl_lastEnd N x0 r1.1) fun r2 =>
  Option.bind (impl_lateStarts N x0 r2.1) fun r3 =>
  loopN (fun (s4 : List (Int) × Int × Unit) next5 =>
    cond (decide (s4.2.1 < (List.length r3.1 : Int)))
      (cond (inB s4.2.1 (List.length s4.1))
        (Option.bind (s4.1[(Int.toNat s4.2.1)]?) fun v6 =>
        cond (inB s4.2.1 (List.length r1.1))
          (Option.bind (r1.1[(Int.toNat s4.2.1)]?) fun v7 =>
          cond (inB s4.2.1 (List.length s4.1))
            (let xs8 := (List.set s4.1 (Int.toNat s4.2.1) (w64 (v6 - v7)))
            next5 (xs8, (w64 (s4.2.1 + 1)), ())) none) none) none)
      (some (s4.1, ()))) N (r3.1, 0, ())
def impl_slack_e (N : Nat) : Ent := { ins := [(.sl (.pair (.int .i64) (.pair (.int .i64) (.pair (.sl (.int .i64)) (.sl (.int .i64))))))], outs := [.own (.int .i64)], F := fun x => impl_slack N x.1 }
def impl_slack_T (N : Nat) : Nat → List EntX
  | 30 => [.pl (impl_lastEnd_e N)]
  | 31 => [.pl (impl_earlyStarts_e N)]
  | 46 => [.pl (impl_lateStarts_e N)]
  | _ => []
def impl_slack_L : Nat → List (Nat × TK)
  | 4 => [(4, .own (.int .i64)), (15, .v (.int .i64))]
  | _ => []
theorem impl_slack_eq (N : Nat) : runF N tt (impl_slack_T N) impl_slack_L [(.sl (.pair (.int .i64) (.pair (.int .i64) (.pair (.sl (.int .i64)) (.sl (.int .i64))))))] [.own (.int .i64)] (bodyOf Try.f32) Try.f32.ntmps [2] = (impl_slack_e N).F := by
  funext x
  kernel_rfl
theorem impl_slack_sound (N : Nat) : SoundC Try.prog 32 (impl_slack_e N) := by
  have h := runF_sound (f := 32) (code := bodyOf Try.f32) (N := N) (T := (impl_slack_T N)) (L := impl_slack_L) (ins := [(.sl (.pair (.int .i64) (.pair (.int .i64) (.pair (.sl (.int .i64)) (.sl (.int .i64))))))]) (outs := [.own (.int .i64)]) (res := [2]) mixed tt_ok ?_ Try.func32 (by kernel_rfl) rfl (by kernel_rfl) (by kernel_rfl) (by decide +kernel)
  · rw [impl_slack_eq] at h
    exact h
  · intro f e he
    unfold impl_slack_T at he
    split at he
    · rw [List.mem_singleton.1 he]; exact impl_lastEnd_sound N
    · rw [List.mem_singleton.1 he]; exact impl_earlyStarts_sound N
    · rw [List.mem_singleton.1 he]; exact impl_lateStarts_sound N
    · cases he

/- impl.EndsDrawn -/
def impl_EndsDrawn (N : Nat) (x0 : List Ed.Tk) (x1 : Option Nat) (x2 : Option Nat) (x3 : Int) (x4 : Int) : Option (List (Int) × List (Option Nat) × Int × Bool × Unit) :=
  Ed.edF (impl_AreTasks N) (impl_isSeed N) (impl_within N) (impl_timeDrawn N) (impl_earlyStarts N) (impl_lastEnd N) (impl_slack N) x0 x1 x2 x3 x4
def impl_EndsDrawn_e (N : Nat) : Ent := { ins := [Arr.tkS.sl, (.flt .f32), (.flt .f32), (.int .i64), (.int .i64)], outs := [.own (.int .i64), .own (.flt .f32), .val (.int .i64), .val .bool], F := fun x => impl_EndsDrawn N x.1 x.2.1 x.2.2.1 x.2.2.2.1 x.2.2.2.2.1 }
theorem impl_EndsDrawn_sound (N : Nat) : SoundC Try.prog 7 (impl_EndsDrawn_e N) := Ed.ed_sound (impl_AreTasks_sound N) (impl_isSeed_sound N) (impl_within_sound N) (impl_timeDrawn_sound N) (impl_earlyStarts_sound N) (impl_lastEnd_sound N) (impl_slack_sound N)

/- laws.eqInt64S -/
def laws_eqInt64S (N : Nat) (x0 : List Int) (x1 : List Int) : Option (Bool × Unit) :=
  cond ((List.length x0 : Int) != (List.length x1 : Int))
    (some (false, ()))
    (loopN (fun (s1 : Int × Unit) next2 =>
      cond (decide (s1.1 < (List.length x0 : Int)))
        (Option.bind (idx x0 s1.1) fun v3 =>
        Option.bind (idx x1 s1.1) fun v4 =>
        cond (v3 != v4)
          (some (false, ()))
          (next2 ((w64 (s1.1 + 1)), ())))
        (some (true, ()))) N (0, ()))
def laws_eqInt64S_e (N : Nat) : Ent := { ins := [(.sl (.int .i64)), (.sl (.int .i64))], outs := [.val .bool], F := fun x => laws_eqInt64S N x.1 x.2.1 }
def laws_eqInt64S_T (_ : Nat) : Nat → List EntX := fun _ => []
def laws_eqInt64S_L : Nat → List (Nat × TK)
  | 4 => [(5, .v (.int .i64))]
  | _ => []
theorem laws_eqInt64S_eq (N : Nat) : runF N tt (laws_eqInt64S_T N) laws_eqInt64S_L [(.sl (.int .i64)), (.sl (.int .i64))] [.val .bool] (bodyOf Try.f8) Try.f8.ntmps [4] = (laws_eqInt64S_e N).F := by
  funext x
  kernel_rfl
theorem laws_eqInt64S_sound (N : Nat) : SoundC Try.prog 8 (laws_eqInt64S_e N) := by
  have h := runF_sound (f := 8) (code := bodyOf Try.f8) (N := N) (T := (laws_eqInt64S_T N)) (L := laws_eqInt64S_L) (ins := [(.sl (.int .i64)), (.sl (.int .i64))]) (outs := [.val .bool]) (res := [4]) mixed tt_ok ?_ Try.func8 (by kernel_rfl) rfl (by kernel_rfl) (by kernel_rfl) (by decide +kernel)
  · rw [laws_eqInt64S_eq] at h
    exact h
  · intro f e he
    cases he

/- laws.sameFloat -/
def laws_sameFloat (_N : Nat) (x0 : Option Nat) (x1 : Option Nat) : Option (Bool × Unit) :=
  cond (fcmp .neq .f64 x0 x0)
    (cond (fcmp .neq .f64 x0 x0)
      (some ((fcmp .neq .f64 x1 x1), ()))
      (some (false, ())))
    (cond (fcmp .neq .f64 x1 x1)
      (cond (fcmp .neq .f64 x0 x0)
        (some ((fcmp .neq .f64 x1 x1), ()))
        (some (false, ())))
      (cond (fcmp .eql .f64 x0 (toF .f64 0))
        (cond (fcmp .eql .f64 x1 (toF .f64 0))
          (some (((fcmp .gtr .f64 (farith .quo .f64 (toF .f64 4607182418800017408) x0) (toF .f64 0)) == (fcmp .gtr .f64 (farith .quo .f64 (toF .f64 4607182418800017408) x1) (toF .f64 0))), ()))
          (some ((fcmp .eql .f64 x0 x1), ())))
        (some ((fcmp .eql .f64 x0 x1), ()))))
def laws_sameFloat_e (N : Nat) : Ent := { ins := [(.flt .f64), (.flt .f64)], outs := [.val .bool], F := fun x => laws_sameFloat N x.1 x.2.1 }
def laws_sameFloat_T (_ : Nat) : Nat → List EntX := fun _ => []
def laws_sameFloat_L : Nat → List (Nat × TK) := fun _ => []
theorem laws_sameFloat_eq (N : Nat) : runF N tt (laws_sameFloat_T N) laws_sameFloat_L [(.flt .f64), (.flt .f64)] [.val .bool] (bodyOf Try.f33) Try.f33.ntmps [4] = (laws_sameFloat_e N).F := by
  funext x
  kernel_rfl
theorem laws_sameFloat_sound (N : Nat) : SoundC Try.prog 33 (laws_sameFloat_e N) := by
  have h := runF_sound (f := 33) (code := bodyOf Try.f33) (N := N) (T := (laws_sameFloat_T N)) (L := laws_sameFloat_L) (ins := [(.flt .f64), (.flt .f64)]) (outs := [.val .bool]) (res := [4]) mixed tt_ok ?_ Try.func33 (by kernel_rfl) rfl (by kernel_rfl) (by kernel_rfl) (by decide +kernel)
  · rw [laws_sameFloat_eq] at h
    exact h
  · intro f e he
    cases he

/- laws.eqFloat32S -/
def laws_eqFloat32S (N : Nat) (x0 : List (Option Nat)) (x1 : List (Option Nat)) : Option (Bool × Unit) :=
  cond ((List.length x0 : Int) != (List.length x1 : Int))
    (some (false, ()))
    (loopN (fun (s1 : Int × Unit) next2 =>
      cond (decide (s1.1 < (List.length x0 : Int)))
        (Option.bind (idx x0 s1.1) fun v3 =>
        fconvB .f32 v3 .f64 fun v4 =>
        Option.bind (idx x1 s1.1) fun v5 =>
        fconvB .f32 v5 .f64 fun v6 =>
        Option.bind (laws_sameFloat N v4 v6) fun r7 =>
        cond (!r7.1)
          (some (false, ()))
          (next2 ((w64 (s1.1 + 1)), ())))
        (some (true, ()))) N (0, ()))
def laws_eqFloat32S_e (N : Nat) : Ent := { ins := [(.sl (.flt .f32)), (.sl (.flt .f32))], outs := [.val .bool], F := fun x => laws_eqFloat32S N x.1 x.2.1 }
def laws_eqFloat32S_T (N : Nat) : Nat → List EntX
  | 33 => [.pl (laws_sameFloat_e N)]
  | _ => []
def laws_eqFloat32S_L : Nat → List (Nat × TK)
  | 4 => [(5, .v (.int .i64))]
  | _ => []
theorem laws_eqFloat32S_eq (N : Nat) : runF N tt (laws_eqFloat32S_T N) laws_eqFloat32S_L [(.sl (.flt .f32)), (.sl (.flt .f32))] [.val .bool] (bodyOf Try.f9) Try.f9.ntmps [4] = (laws_eqFloat32S_e N).F := by
  funext x
  kernel_rfl
theorem laws_eqFloat32S_sound (N : Nat) : SoundC Try.prog 9 (laws_eqFloat32S_e N) := by
  have h := runF_sound (f := 9) (code := bodyOf Try.f9) (N := N) (T := (laws_eqFloat32S_T N)) (L := laws_eqFloat32S_L) (ins := [(.sl (.flt .f32)), (.sl (.flt .f32))]) (outs := [.val .bool]) (res := [4]) mixed tt_ok ?_ Try.func9 (by kernel_rfl) rfl (by kernel_rfl) (by kernel_rfl) (by decide +kernel)
  · rw [laws_eqFloat32S_eq] at h
    exact h
  · intro f e he
    unfold laws_eqFloat32S_T at he
    split at he
    · rw [List.mem_singleton.1 he]; exact laws_sameFloat_sound N
    · cases he

/- laws.eqTask -/
def laws_eqTask (N : Nat) (x0 : Int × Int × (List Int) × List Int) (x1 : Int × Int × (List Int) × List Int) : Option (Bool × Unit) :=
  cond (x0.1 != x1.1)
    (some (false, ()))
    (cond (x0.2.1 != x1.2.1)
      (some (false, ()))
      (Option.bind (laws_eqInt64S N x0.2.2.1 x1.2.2.1) fun r1 =>
      cond (!r1.1)
        (some (false, ()))
        (Option.bind (laws_eqInt64S N x0.2.2.2 x1.2.2.2) fun r2 =>
        cond (!r2.1)
          (some (false, ()))
          (some (true, ())))))
def laws_eqTask_e (N : Nat) : Ent := { ins := [(.pair (.int .i64) (.pair (.int .i64) (.pair (.sl (.int .i64)) (.sl (.int .i64))))), (.pair (.int .i64) (.pair (.int .i64) (.pair (.sl (.int .i64)) (.sl (.int .i64)))))], outs := [.val .bool], F := fun x => laws_eqTask N x.1 x.2.1 }
def laws_eqTask_T (N : Nat) : Nat → List EntX
  | 8 => [.pl (laws_eqInt64S_e N)]
  | _ => []
def laws_eqTask_L : Nat → List (Nat × TK) := fun _ => []
theorem laws_eqTask_eq (N : Nat) : runF N tt (laws_eqTask_T N) laws_eqTask_L [(.pair (.int .i64) (.pair (.int .i64) (.pair (.sl (.int .i64)) (.sl (.int .i64))))), (.pair (.int .i64) (.pair (.int .i64) (.pair (.sl (.int .i64)) (.sl (.int .i64)))))] [.val .bool] (bodyOf Try.f34) Try.f34.ntmps [4] = (laws_eqTask_e N).F := by
  funext x
  kernel_rfl
theorem laws_eqTask_sound (N : Nat) : SoundC Try.prog 34 (laws_eqTask_e N) := by
  have h := runF_sound (f := 34) (code := bodyOf Try.f34) (N := N) (T := (laws_eqTask_T N)) (L := laws_eqTask_L) (ins := [(.pair (.int .i64) (.pair (.int .i64) (.pair (.sl (.int .i64)) (.sl (.int .i64))))), (.pair (.int .i64) (.pair (.int .i64) (.pair (.sl (.int .i64)) (.sl (.int .i64)))))]) (outs := [.val .bool]) (res := [4]) mixed tt_ok ?_ Try.func34 (by kernel_rfl) rfl (by kernel_rfl) (by kernel_rfl) (by decide +kernel)
  · rw [laws_eqTask_eq] at h
    exact h
  · intro f e he
    unfold laws_eqTask_T at he
    split at he
    · rw [List.mem_singleton.1 he]; exact laws_eqInt64S_sound N
    · cases he

/- laws.eqTaskS -/
def laws_eqTaskS (N : Nat) (x0 : List (Int × Int × (List Int) × List Int)) (x1 : List (Int × Int × (List Int) × List Int)) : Option (Bool × Unit) :=
  cond ((List.length x0 : Int) != (List.length x1 : Int))
    (some (false, ()))
    (loopN (fun (s1 : Int × Unit) next2 =>
      cond (decide (s1.1 < (List.length x0 : Int)))
        (Option.bind (idx x0 s1.1) fun v3 =>
        Option.bind (idx x1 s1.1) fun v4 =>
        Option.bind (laws_eqTask N v3 v4) fun r5 =>
        cond (!r5.1)
          (some (false, ()))
          (next2 ((w64 (s1.1 + 1)), ())))
        (some (true, ()))) N (0, ()))
def laws_eqTaskS_e (N : Nat) : Ent := { ins := [(.sl (.pair (.int .i64) (.pair (.int .i64) (.pair (.sl (.int .i64)) (.sl (.int .i64)))))), (.sl (.pair (.int .i64) (.pair (.int .i64) (.pair (.sl (.int .i64)) (.sl (.int .i64))))))], outs := [.val .bool], F := fun x => laws_eqTaskS N x.1 x.2.1 }
def laws_eqTaskS_T (N : Nat) : Nat → List EntX
  | 34 => [.pl (laws_eqTask_e N)]
  | _ => []
def laws_eqTaskS_L : Nat → List (Nat × TK)
  | 4 => [(5, .v (.int .i64))]
  | _ => []
theorem laws_eqTaskS_eq (N : Nat) : runF N tt (laws_eqTaskS_T N) laws_eqTaskS_L [(.sl (.pair (.int .i64) (.pair (.int .i64) (.pair (.sl (.int .i64)) (.sl (.int .i64)))))), (.sl (.pair (.int .i64) (.pair (.int .i64) (.pair (.sl (.int .i64)) (.sl (.int .i64))))))] [.val .bool] (bodyOf Try.f10) Try.f10.ntmps [4] = (laws_eqTaskS_e N).F := by
  funext x
  kernel_rfl
theorem laws_eqTaskS_sound (N : Nat) : SoundC Try.prog 10 (laws_eqTaskS_e N) := by
  have h := runF_sound (f := 10) (code := bodyOf Try.f10) (N := N) (T := (laws_eqTaskS_T N)) (L := laws_eqTaskS_L) (ins := [(.sl (.pair (.int .i64) (.pair (.int .i64) (.pair (.sl (.int .i64)) (.sl (.int .i64)))))), (.sl (.pair (.int .i64) (.pair (.int .i64) (.pair (.sl (.int .i64)) (.sl (.int .i64))))))]) (outs := [.val .bool]) (res := [4]) mixed tt_ok ?_ Try.func10 (by kernel_rfl) rfl (by kernel_rfl) (by kernel_rfl) (by decide +kernel)
  · rw [laws_eqTaskS_eq] at h
    exact h
  · intro f e he
    unfold laws_eqTaskS_T at he
    split at he
    · rw [List.mem_singleton.1 he]; exact laws_eqTask_sound N
    · cases he

/- laws.markInt64S -/
def laws_markInt64S (N : Nat) (x0 : List Int) (x1 : Int) : Option (List (Int) × (Int × Unit)) :=
  loopN (fun (s1 : List (Int) × Int × Int × Unit) next2 =>
    cond (decide (s1.2.2.1 < (List.length s1.1 : Int)))
      (cond (inB s1.2.2.1 (List.length s1.1))
        (let xs3 := (List.set s1.1 (Int.toNat s1.2.2.1) s1.2.1)
        next2 (xs3, (w64 (s1.2.1 + 1)), (w64 (s1.2.2.1 + 1)), ())) none)
      (some (s1.1, (s1.2.1, ())))) N (x0, x1, 0, ())
def laws_markInt64S_e (N : Nat) : EntM := { io := (.int .i64), ins := [(.int .i64)], outs := [.val (.int .i64)], F := fun xs x => laws_markInt64S N xs x.1 }
def laws_markInt64S_T (_ : Nat) : Nat → List EntX := fun _ => []
def laws_markInt64S_L : Nat → List (Nat × TK)
  | 2 => [(0, .own (.int .i64)), (1, .v (.int .i64)), (5, .v (.int .i64))]
  | _ => []
theorem laws_markInt64S_eq (N : Nat) : runM N tt (laws_markInt64S_T N) laws_markInt64S_L (.int .i64) [(.int .i64)] [.val (.int .i64)] (bodyOf Try.f12) Try.f12.ntmps [4] = (laws_markInt64S_e N).F := by
  funext xs x
  kernel_rfl
theorem laws_markInt64S_sound (N : Nat) : SoundM Try.prog 12 (laws_markInt64S_e N) := by
  have h := runM_sound (f := 12) (code := bodyOf Try.f12) (N := N) (T := (laws_markInt64S_T N)) (L := laws_markInt64S_L) (io := (.int .i64)) (ins := [(.int .i64)]) (outs := [.val (.int .i64)]) (res := [4]) mixed tt_ok ?_ Try.func12 (by kernel_rfl) rfl (by kernel_rfl) (by kernel_rfl) (by decide +kernel)
  · rw [laws_markInt64S_eq] at h
    exact h
  · intro f e he
    cases he

/- laws.markFloat32S -/
def laws_markFloat32S (N : Nat) (x0 : List (Option Nat)) (x1 : Int) : Option (List (Option Nat) × (Int × Unit)) :=
  loopN (fun (s1 : List (Option Nat) × Int × Int × Unit) next2 =>
    cond (decide (s1.2.2.1 < (List.length s1.1 : Int)))
      (cond (inB s1.2.2.1 (List.length s1.1))
        (let xs3 := (List.set s1.1 (Int.toNat s1.2.2.1) (toF .f32 (FloatKind.nearest .f32 s1.2.1)))
        next2 (xs3, (w64 (s1.2.1 + 1)), (w64 (s1.2.2.1 + 1)), ())) none)
      (some (s1.1, (s1.2.1, ())))) N (x0, x1, 0, ())
def laws_markFloat32S_e (N : Nat) : EntM := { io := (.flt .f32), ins := [(.int .i64)], outs := [.val (.int .i64)], F := fun xs x => laws_markFloat32S N xs x.1 }
def laws_markFloat32S_T (_ : Nat) : Nat → List EntX := fun _ => []
def laws_markFloat32S_L : Nat → List (Nat × TK)
  | 2 => [(0, .own (.flt .f32)), (1, .v (.int .i64)), (5, .v (.int .i64))]
  | _ => []
theorem laws_markFloat32S_eq (N : Nat) : runM N tt (laws_markFloat32S_T N) laws_markFloat32S_L (.flt .f32) [(.int .i64)] [.val (.int .i64)] (bodyOf Try.f13) Try.f13.ntmps [4] = (laws_markFloat32S_e N).F := by
  funext xs x
  kernel_rfl
theorem laws_markFloat32S_sound (N : Nat) : SoundM Try.prog 13 (laws_markFloat32S_e N) := by
  have h := runM_sound (f := 13) (code := bodyOf Try.f13) (N := N) (T := (laws_markFloat32S_T N)) (L := laws_markFloat32S_L) (io := (.flt .f32)) (ins := [(.int .i64)]) (outs := [.val (.int .i64)]) (res := [4]) mixed tt_ok ?_ Try.func13 (by kernel_rfl) rfl (by kernel_rfl) (by kernel_rfl) (by decide +kernel)
  · rw [laws_markFloat32S_eq] at h
    exact h
  · intro f e he
    cases he

/- laws.heldInt64S -/
def laws_heldInt64S (N : Nat) (x0 : List Int) (x1 : Int) : Option (Int × Unit) :=
  loopN (fun (s1 : Int × Int × Unit) next2 =>
    cond (decide (s1.2.1 < (List.length x0 : Int)))
      (Option.bind (idx x0 s1.2.1) fun v3 =>
      cond (v3 != s1.1)
        (some ((-1), ()))
        (next2 ((w64 (s1.1 + 1)), (w64 (s1.2.1 + 1)), ())))
      (some (s1.1, ()))) N (x1, 0, ())
def laws_heldInt64S_e (N : Nat) : Ent := { ins := [(.sl (.int .i64)), (.int .i64)], outs := [.val (.int .i64)], F := fun x => laws_heldInt64S N x.1 x.2.1 }
def laws_heldInt64S_T (_ : Nat) : Nat → List EntX := fun _ => []
def laws_heldInt64S_L : Nat → List (Nat × TK)
  | 2 => [(1, .v (.int .i64)), (5, .v (.int .i64))]
  | _ => []
theorem laws_heldInt64S_eq (N : Nat) : runF N tt (laws_heldInt64S_T N) laws_heldInt64S_L [(.sl (.int .i64)), (.int .i64)] [.val (.int .i64)] (bodyOf Try.f14) Try.f14.ntmps [4] = (laws_heldInt64S_e N).F := by
  funext x
  kernel_rfl
theorem laws_heldInt64S_sound (N : Nat) : SoundC Try.prog 14 (laws_heldInt64S_e N) := by
  have h := runF_sound (f := 14) (code := bodyOf Try.f14) (N := N) (T := (laws_heldInt64S_T N)) (L := laws_heldInt64S_L) (ins := [(.sl (.int .i64)), (.int .i64)]) (outs := [.val (.int .i64)]) (res := [4]) mixed tt_ok ?_ Try.func14 (by kernel_rfl) rfl (by kernel_rfl) (by kernel_rfl) (by decide +kernel)
  · rw [laws_heldInt64S_eq] at h
    exact h
  · intro f e he
    cases he

/- laws.heldFloat32S -/
def laws_heldFloat32S (N : Nat) (x0 : List (Option Nat)) (x1 : Int) : Option (Int × Unit) :=
  loopN (fun (s1 : Int × Int × Unit) next2 =>
    cond (decide (s1.2.1 < (List.length x0 : Int)))
      (Option.bind (idx x0 s1.2.1) fun v3 =>
      cond (fcmp .neq .f32 v3 (toF .f32 (FloatKind.nearest .f32 s1.1)))
        (some ((-1), ()))
        (next2 ((w64 (s1.1 + 1)), (w64 (s1.2.1 + 1)), ())))
      (some (s1.1, ()))) N (x1, 0, ())
def laws_heldFloat32S_e (N : Nat) : Ent := { ins := [(.sl (.flt .f32)), (.int .i64)], outs := [.val (.int .i64)], F := fun x => laws_heldFloat32S N x.1 x.2.1 }
def laws_heldFloat32S_T (_ : Nat) : Nat → List EntX := fun _ => []
def laws_heldFloat32S_L : Nat → List (Nat × TK)
  | 2 => [(1, .v (.int .i64)), (5, .v (.int .i64))]
  | _ => []
theorem laws_heldFloat32S_eq (N : Nat) : runF N tt (laws_heldFloat32S_T N) laws_heldFloat32S_L [(.sl (.flt .f32)), (.int .i64)] [.val (.int .i64)] (bodyOf Try.f15) Try.f15.ntmps [4] = (laws_heldFloat32S_e N).F := by
  funext x
  kernel_rfl
theorem laws_heldFloat32S_sound (N : Nat) : SoundC Try.prog 15 (laws_heldFloat32S_e N) := by
  have h := runF_sound (f := 15) (code := bodyOf Try.f15) (N := N) (T := (laws_heldFloat32S_T N)) (L := laws_heldFloat32S_L) (ins := [(.sl (.flt .f32)), (.int .i64)]) (outs := [.val (.int .i64)]) (res := [4]) mixed tt_ok ?_ Try.func15 (by kernel_rfl) rfl (by kernel_rfl) (by kernel_rfl) (by decide +kernel)
  · rw [laws_heldFloat32S_eq] at h
    exact h
  · intro f e he
    cases he

/- laws.FnExactEndsDrawn -/
def laws_FnExactEndsDrawn (N : Nat) (x0 : List (Int × Int × (List Int) × List Int)) (x1 : Option Nat) (x2 : Option Nat) (x3 : Int) (x4 : Int) : Option (Bool × Unit) :=
  Option.bind (laws_szTaskS N x0 1048576) fun r1 =>
  cond (decide (r1.1 < 0))
    (some (true, ()))
    (Option.bind (laws_toTaskS N x0) fun r2 =>
    Option.bind (spec_EndsDrawn N r2.1 x1 x2 x3 x4) fun r3 =>
    Option.bind (laws_toTaskS N x0) fun r4 =>
    Option.bind (impl_EndsDrawn N r4.1 x1 x2 x3 x4) fun r5 =>
    Option.bind (laws_eqInt64S N r5.1 r3.1) fun r6 =>
    cond (!r6.1)
      (some (false, ()))
      (Option.bind (laws_eqFloat32S N r5.2.1 r3.2.1) fun r7 =>
      cond (!r7.1)
        (some (false, ()))
        (cond (r5.2.2.1 != r3.2.2.1)
          (some (false, ()))
          (cond (!(r5.2.2.2.1 == r3.2.2.2.1))
            (some (false, ()))
            (Option.bind (laws_toTaskS N x0) fun r8 =>
            Option.bind (laws_eqTaskS N r4.1 r8.1) fun r9 =>
            cond (!r9.1)
              (some (false, ()))
              (Option.bind (laws_markTaskS_d r4.1 1) fun r10 =>
              cond (decide (r10 < 0))
                (some (false, ()))
                (Option.bind (laws_eqInt64S N r5.1 r3.1) fun r11 =>
                cond (!r11.1)
                  (some (false, ()))
                  (Option.bind (laws_eqFloat32S N r5.2.1 r3.2.1) fun r12 =>
                  cond (!r12.1)
                    (some (false, ()))
                    (cond (r5.2.2.1 != r3.2.2.1)
                      (some (false, ()))
                      (cond (!(r5.2.2.2.1 == r3.2.2.2.1))
                        (some (false, ()))
                        (Option.bind (laws_markInt64S N r5.1 1) fun r13 =>
                        cond (Nat.beq (List.length r13.1) (List.length r5.1))
                          (Option.bind (laws_markFloat32S N r5.2.1 r13.2.1) fun r14 =>
                          cond (Nat.beq (List.length r14.1) (List.length r5.2.1))
                            (Option.bind (laws_heldInt64S N r13.1 1) fun r15 =>
                            cond (decide (r15.1 < 0))
                              (some (false, ()))
                              (Option.bind (laws_heldFloat32S N r14.1 r15.1) fun r16 =>
                              cond (decide (r16.1 < 0))
                                (some (false, ()))
                                (cond (r16.1 != r14.2.1)
                                  (some (false, ()))
                                  (Option.bind (laws_toTaskS N x0) fun r17 =>
                                  Option.bind (impl_EndsDrawn N r17.1 x1 x2 x3 x4) fun r18 =>
                                  Option.bind (laws_eqInt64S N r18.1 r3.1) fun r19 =>
                                  cond (!r19.1)
                                    (some (false, ()))
                                    (Option.bind (laws_eqFloat32S N r18.2.1 r3.2.1) fun r20 =>
                                    cond (!r20.1)
                                      (some (false, ()))
                                      (cond (r18.2.2.1 != r3.2.2.1)
                                        (some (false, ()))
                                        (cond (!(r18.2.2.2.1 == r3.2.2.2.1))
                                          (some (false, ()))
                                          (Option.bind (laws_heldInt64S N r13.1 1) fun r21 =>
                                          cond (decide (r21.1 < 0))
                                            (some (false, ()))
                                            (Option.bind (laws_heldFloat32S N r14.1 r21.1) fun r22 =>
                                            cond (decide (r22.1 < 0))
                                              (some (false, ()))
                                              (cond (r22.1 != r14.2.1)
                                                (some (false, ()))
                                                (some (true, ())))))))))))) none) none)))))))))))
def laws_FnExactEndsDrawn_e (N : Nat) : Ent := { ins := [(.sl (.pair (.int .i64) (.pair (.int .i64) (.pair (.sl (.int .i64)) (.sl (.int .i64)))))), (.flt .f32), (.flt .f32), (.int .i64), (.int .i64)], outs := [.val .bool], F := fun x => laws_FnExactEndsDrawn N x.1 x.2.1 x.2.2.1 x.2.2.2.1 x.2.2.2.2.1 }
def laws_FnExactEndsDrawn_T (N : Nat) : Nat → List EntX
  | 4 => [.pl (laws_szTaskS_e N)]
  | 5 => [.pl (spec_EndsDrawn_e N)]
  | 6 => [.pl (laws_toTaskS_e N)]
  | 7 => [.pl (impl_EndsDrawn_e N)]
  | 8 => [.pl (laws_eqInt64S_e N)]
  | 9 => [.pl (laws_eqFloat32S_e N)]
  | 10 => [.pl (laws_eqTaskS_e N)]
  | 11 => [.dp (laws_markTaskS_d_e N)]
  | 12 => [.mu (laws_markInt64S_e N)]
  | 13 => [.mu (laws_markFloat32S_e N)]
  | 14 => [.pl (laws_heldInt64S_e N)]
  | 15 => [.pl (laws_heldFloat32S_e N)]
  | _ => []
def laws_FnExactEndsDrawn_L : Nat → List (Nat × TK) := fun _ => []
theorem laws_FnExactEndsDrawn_eq (N : Nat) : runL N tt (laws_FnExactEndsDrawn_T N) laws_FnExactEndsDrawn_L [(.sl (.pair (.int .i64) (.pair (.int .i64) (.pair (.sl (.int .i64)) (.sl (.int .i64)))))), (.flt .f32), (.flt .f32), (.int .i64), (.int .i64)] [.val .bool] (bodyOf Try.f3) Try.f3.ntmps [10] = (laws_FnExactEndsDrawn_e N).F := by
  funext x
  kernel_rfl
theorem laws_FnExactEndsDrawn_sound (N : Nat) : SoundC Try.prog 3 (laws_FnExactEndsDrawn_e N) := by
  have h := runL_sound (f := 3) (code := bodyOf Try.f3) (N := N) (T := (laws_FnExactEndsDrawn_T N)) (L := laws_FnExactEndsDrawn_L) (ins := [(.sl (.pair (.int .i64) (.pair (.int .i64) (.pair (.sl (.int .i64)) (.sl (.int .i64)))))), (.flt .f32), (.flt .f32), (.int .i64), (.int .i64)]) (outs := [.val .bool]) (res := [10]) mixed tt_ok ?_ Try.func3 (by kernel_rfl) rfl (by kernel_rfl) (by kernel_rfl) (by decide +kernel)
  · rw [laws_FnExactEndsDrawn_eq] at h
    exact h
  · intro f e he
    unfold laws_FnExactEndsDrawn_T at he
    split at he
    · rw [List.mem_singleton.1 he]; exact laws_szTaskS_sound N
    · rw [List.mem_singleton.1 he]; exact spec_EndsDrawn_sound N
    · rw [List.mem_singleton.1 he]; exact laws_toTaskS_sound N
    · rw [List.mem_singleton.1 he]; exact impl_EndsDrawn_sound N
    · rw [List.mem_singleton.1 he]; exact laws_eqInt64S_sound N
    · rw [List.mem_singleton.1 he]; exact laws_eqFloat32S_sound N
    · rw [List.mem_singleton.1 he]; exact laws_eqTaskS_sound N
    · rw [List.mem_singleton.1 he]; exact laws_markTaskS_d_sound N
    · rw [List.mem_singleton.1 he]; exact laws_markInt64S_sound N
    · rw [List.mem_singleton.1 he]; exact laws_markFloat32S_sound N
    · rw [List.mem_singleton.1 he]; exact laws_heldInt64S_sound N
    · rw [List.mem_singleton.1 he]; exact laws_heldFloat32S_sound N
    · cases he

end Go.Proofs.Ytmdicmdodbndgaa
