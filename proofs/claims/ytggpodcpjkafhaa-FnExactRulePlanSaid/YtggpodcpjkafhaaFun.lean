/-
  The plain functions of this seat, printed by a program, each equal to the evaluator's run, with its contract. No condition.
-/
import Derived.Test.YtggpodcpjkafhaaFwV
import Derived.Test.YtggpodcpjkafhaaChecked
import Derived.Test.YtggpodcpjkafhaaMark1
import Derived.Test.YtggpodcpjkafhaaMark2
namespace Go.Proofs.Ytggpodcpjkafhaa
open Go Go.Proofs.Ytggpodcpjkafhaa.Fw
set_option maxRecDepth 100000
set_option linter.unusedVariables false

theorem mixed : Try.prog.follows .mixedOrders = true := Try.checked.mixed
def tt : Nat → TD
  | 2 => tdInt .i64
  | 3 => tdInt .i64
  | 4 => tdBool
  | 22 => tdSl (.pair (.int .i64) (.pair (.int .i64) (.pair (.sl (.int .i64)) (.sl (.int .i64))))) 64
  | 23 => tdSl (.int .i64) 8
  | 27 => tdSl (.pair (.int .i64) (.pair (.int .i64) (.pair (.sl (.int .i64)) (.sl (.int .i64))))) 64
  | 42 => tdSt 4 [(0, 1, false), (1, 1, false), (2, 1, false), (3, 1, false)] [.g (.int .i64) (0 : Int), .g (.int .i64) (0 : Int), .nil, .nil]
  | 47 => tdSt 4 [(0, 1, false), (1, 1, false), (2, 1, false), (3, 1, false)] [.g (.int .i64) (0 : Int), .g (.int .i64) (0 : Int), .nil, .nil]
  | 55 => tdSl .bool 1
  | 63 => tdSt 2 [(0, 1, false), (1, 1, false)] [.nil, .g (.int .i64) (0 : Int)]
  | 77 => tdInt .u64
  | 80 => tdInt .u32
  | 83 => tdInt .u64
  | _ => tdNone
theorem tt_2 : TDok Try.prog 2 (tdInt .i64) := tdok_int (b := 8) (by kernel_rfl) (by kernel_rfl)
theorem tt_3 : TDok Try.prog 3 (tdInt .i64) := tdok_int (b := 8) (by kernel_rfl) (by kernel_rfl)
theorem tt_4 : TDok Try.prog 4 (tdBool) := tdok_bool (b := 1) (by kernel_rfl) (by kernel_rfl)
theorem tt_22 : TDok Try.prog 22 (tdSl (.pair (.int .i64) (.pair (.int .i64) (.pair (.sl (.int .i64)) (.sl (.int .i64))))) 64) := tdok_sl (b := 24) (e := 42) (z := (.agg #[(.int .i64 0), (.int .i64 0), (.slice none 0 0), (.slice none 0 0)])) (by kernel_rfl) (by kernel_rfl) (by kernel_rfl) (by decide) (fun _ => by kernel_rfl)
theorem tt_23 : TDok Try.prog 23 (tdSl (.int .i64) 8) := tdok_sl (b := 24) (e := 2) (z := (.int .i64 0)) (by kernel_rfl) (by kernel_rfl) (by kernel_rfl) (by decide) (fun _ => by kernel_rfl)
theorem tt_27 : TDok Try.prog 27 (tdSl (.pair (.int .i64) (.pair (.int .i64) (.pair (.sl (.int .i64)) (.sl (.int .i64))))) 64) := tdok_sl (b := 24) (e := 47) (z := (.agg #[(.int .i64 0), (.int .i64 0), (.slice none 0 0), (.slice none 0 0)])) (by kernel_rfl) (by kernel_rfl) (by kernel_rfl) (by decide) (fun _ => by kernel_rfl)
theorem tt_42 : TDok Try.prog 42 (tdSt 4 [(0, 1, false), (1, 1, false), (2, 1, false), (3, 1, false)] [.g (.int .i64) (0 : Int), .g (.int .i64) (0 : Int), .nil, .nil]) := tdok_st (b := 64) (z := (.agg #[(.int .i64 0), (.int .i64 0), (.slice none 0 0), (.slice none 0 0)])) (by kernel_rfl) (by kernel_rfl) (by kernel_rfl) (by kernel_rfl) (by kernel_rfl)
theorem tt_47 : TDok Try.prog 47 (tdSt 4 [(0, 1, false), (1, 1, false), (2, 1, false), (3, 1, false)] [.g (.int .i64) (0 : Int), .g (.int .i64) (0 : Int), .nil, .nil]) := tdok_st (b := 64) (z := (.agg #[(.int .i64 0), (.int .i64 0), (.slice none 0 0), (.slice none 0 0)])) (by kernel_rfl) (by kernel_rfl) (by kernel_rfl) (by kernel_rfl) (by kernel_rfl)
theorem tt_55 : TDok Try.prog 55 (tdSl .bool 1) := tdok_sl (b := 24) (e := 4) (z := (.bool false)) (by kernel_rfl) (by kernel_rfl) (by kernel_rfl) (by decide) (fun _ => by kernel_rfl)
theorem tt_63 : TDok Try.prog 63 (tdSt 2 [(0, 1, false), (1, 1, false)] [.nil, .g (.int .i64) (0 : Int)]) := tdok_st (b := 32) (z := (.agg #[(.slice none 0 0), (.int .i64 0)])) (by kernel_rfl) (by kernel_rfl) (by kernel_rfl) (by kernel_rfl) (by kernel_rfl)
theorem tt_77 : TDok Try.prog 77 (tdInt .u64) := tdok_int (b := 8) (by kernel_rfl) (by kernel_rfl)
theorem tt_80 : TDok Try.prog 80 (tdInt .u32) := tdok_int (b := 4) (by kernel_rfl) (by kernel_rfl)
theorem tt_83 : TDok Try.prog 83 (tdInt .u64) := tdok_int (b := 8) (by kernel_rfl) (by kernel_rfl)
theorem tt_ok (t : Nat) : TDok Try.prog t (tt t) := by
  unfold tt
  split
  · exact tt_2
  · exact tt_3
  · exact tt_4
  · exact tt_22
  · exact tt_23
  · exact tt_27
  · exact tt_42
  · exact tt_47
  · exact tt_55
  · exact tt_63
  · exact tt_77
  · exact tt_80
  · exact tt_83
  · exact tdok_none

/- laws.szInt64S -/
def laws_szInt64S (_N : Nat) (x0 : List Int) (x1 : Int) : Option (Int × Unit) :=
  cond (decide ((w64 (x1 - (List.length x0 : Int))) < 0))
    (some ((-1), ()))
    (some ((w64 (x1 - (List.length x0 : Int))), ()))
def laws_szInt64S_e (N : Nat) : Ent := { ins := [(.sl (.int .i64)), (.int .i64)], outs := [.val (.int .i64)], F := fun x => laws_szInt64S N x.1 x.2.1 }
def laws_szInt64S_T (_ : Nat) : Nat → List EntX := fun _ => []
def laws_szInt64S_L : Nat → List (Nat × TK) := fun _ => []
theorem laws_szInt64S_eq (N : Nat) : runF N tt (laws_szInt64S_T N) laws_szInt64S_L [(.sl (.int .i64)), (.int .i64)] [.val (.int .i64)] (bodyOf Try.f39) Try.f39.ntmps [4] = (laws_szInt64S_e N).F := by
  funext x
  kernel_rfl
theorem laws_szInt64S_sound (N : Nat) : SoundC Try.prog 39 (laws_szInt64S_e N) := by
  have h := runF_sound (f := 39) (code := bodyOf Try.f39) (N := N) (T := (laws_szInt64S_T N)) (L := laws_szInt64S_L) (ins := [(.sl (.int .i64)), (.int .i64)]) (outs := [.val (.int .i64)]) (res := [4]) mixed tt_ok ?_ Try.func39 (by kernel_rfl) rfl (by kernel_rfl) (by kernel_rfl) (by decide +kernel)
  · rw [laws_szInt64S_eq] at h
    exact h
  · intro f e he
    cases he

/- laws.szTask -/
def laws_szTask (N : Nat) (x0 : Int × Int × (List Int) × List Int) (x1 : Int) : Option (Int × Unit) :=
  Option.bind (laws_szInt64S N x0.2.2.1 x1) fun r1 =>
  cond (decide (r1.1 < 0))
    (some ((-1), ()))
    (Option.bind (laws_szInt64S N x0.2.2.2 r1.1) fun r2 =>
    cond (decide (r2.1 < 0))
      (some ((-1), ()))
      (some (r2.1, ())))
def laws_szTask_e (N : Nat) : Ent := { ins := [(.pair (.int .i64) (.pair (.int .i64) (.pair (.sl (.int .i64)) (.sl (.int .i64))))), (.int .i64)], outs := [.val (.int .i64)], F := fun x => laws_szTask N x.1 x.2.1 }
def laws_szTask_T (N : Nat) : Nat → List EntX
  | 39 => [.pl (laws_szInt64S_e N)]
  | _ => []
def laws_szTask_L : Nat → List (Nat × TK) := fun _ => []
theorem laws_szTask_eq (N : Nat) : runF N tt (laws_szTask_T N) laws_szTask_L [(.pair (.int .i64) (.pair (.int .i64) (.pair (.sl (.int .i64)) (.sl (.int .i64))))), (.int .i64)] [.val (.int .i64)] (bodyOf Try.f22) Try.f22.ntmps [4] = (laws_szTask_e N).F := by
  funext x
  kernel_rfl
theorem laws_szTask_sound (N : Nat) : SoundC Try.prog 22 (laws_szTask_e N) := by
  have h := runF_sound (f := 22) (code := bodyOf Try.f22) (N := N) (T := (laws_szTask_T N)) (L := laws_szTask_L) (ins := [(.pair (.int .i64) (.pair (.int .i64) (.pair (.sl (.int .i64)) (.sl (.int .i64))))), (.int .i64)]) (outs := [.val (.int .i64)]) (res := [4]) mixed tt_ok ?_ Try.func22 (by kernel_rfl) rfl (by kernel_rfl) (by kernel_rfl) (by decide +kernel)
  · rw [laws_szTask_eq] at h
    exact h
  · intro f e he
    unfold laws_szTask_T at he
    split at he
    · rw [List.mem_singleton.1 he]; exact laws_szInt64S_sound N
    · cases he

/- laws.szTaskS -/
def laws_szTaskS (N : Nat) (x0 : List (Int × Int × (List Int) × List Int)) (x1 : Int) : Option (Int × Unit) :=
  cond (decide ((w64 (x1 - (List.length x0 : Int))) < 0))
    (some ((-1), ()))
    (loopN (fun (s1 : Int × Int × Unit) next2 =>
      cond (decide (s1.2.1 < (List.length x0 : Int)))
        (Option.bind (idx x0 s1.2.1) fun v3 =>
        Option.bind (laws_szTask N v3 s1.1) fun r4 =>
        cond (decide (r4.1 < 0))
          (some ((-1), ()))
          (next2 (r4.1, (w64 (s1.2.1 + 1)), ())))
        (some (s1.1, ()))) N ((w64 (x1 - (List.length x0 : Int))), 0, ()))
def laws_szTaskS_e (N : Nat) : Ent := { ins := [(.sl (.pair (.int .i64) (.pair (.int .i64) (.pair (.sl (.int .i64)) (.sl (.int .i64)))))), (.int .i64)], outs := [.val (.int .i64)], F := fun x => laws_szTaskS N x.1 x.2.1 }
def laws_szTaskS_T (N : Nat) : Nat → List EntX
  | 22 => [.pl (laws_szTask_e N)]
  | _ => []
def laws_szTaskS_L : Nat → List (Nat × TK)
  | 5 => [(1, .v (.int .i64)), (5, .v (.int .i64))]
  | _ => []
theorem laws_szTaskS_eq (N : Nat) : runF N tt (laws_szTaskS_T N) laws_szTaskS_L [(.sl (.pair (.int .i64) (.pair (.int .i64) (.pair (.sl (.int .i64)) (.sl (.int .i64)))))), (.int .i64)] [.val (.int .i64)] (bodyOf Try.f7) Try.f7.ntmps [4] = (laws_szTaskS_e N).F := by
  funext x
  kernel_rfl
theorem laws_szTaskS_sound (N : Nat) : SoundC Try.prog 7 (laws_szTaskS_e N) := by
  have h := runF_sound (f := 7) (code := bodyOf Try.f7) (N := N) (T := (laws_szTaskS_T N)) (L := laws_szTaskS_L) (ins := [(.sl (.pair (.int .i64) (.pair (.int .i64) (.pair (.sl (.int .i64)) (.sl (.int .i64)))))), (.int .i64)]) (outs := [.val (.int .i64)]) (res := [4]) mixed tt_ok ?_ Try.func7 (by kernel_rfl) rfl (by kernel_rfl) (by kernel_rfl) (by decide +kernel)
  · rw [laws_szTaskS_eq] at h
    exact h
  · intro f e he
    unfold laws_szTaskS_T at he
    split at he
    · rw [List.mem_singleton.1 he]; exact laws_szTask_sound N
    · cases he

/- spec.l00In -/
def spec_l00In (_N : Nat) (x0 : Int) (x1 : Int) (x2 : Int) : Option (Bool × Unit) :=
  cond (decide (x0 ≥ x1))
    (some ((decide (x0 ≤ x2)), ()))
    (some (false, ()))
def spec_l00In_e (N : Nat) : Ent := { ins := [(.int .i64), (.int .i64), (.int .i64)], outs := [.val .bool], F := fun x => spec_l00In N x.1 x.2.1 x.2.2.1 }
def spec_l00In_T (_ : Nat) : Nat → List EntX := fun _ => []
def spec_l00In_L : Nat → List (Nat × TK) := fun _ => []
theorem spec_l00In_eq (N : Nat) : runF N tt (spec_l00In_T N) spec_l00In_L [(.int .i64), (.int .i64), (.int .i64)] [.val .bool] (bodyOf Try.f32) Try.f32.ntmps [6] = (spec_l00In_e N).F := by
  funext x
  kernel_rfl
theorem spec_l00In_sound (N : Nat) : SoundC Try.prog 32 (spec_l00In_e N) := by
  have h := runF_sound (f := 32) (code := bodyOf Try.f32) (N := N) (T := (spec_l00In_T N)) (L := spec_l00In_L) (ins := [(.int .i64), (.int .i64), (.int .i64)]) (outs := [.val .bool]) (res := [6]) mixed tt_ok ?_ Try.func32 (by kernel_rfl) rfl (by kernel_rfl) (by kernel_rfl) (by decide +kernel)
  · rw [spec_l00In_eq] at h
    exact h
  · intro f e he
    cases he

/- spec.l03Task -/
def spec_l03Task (N : Nat) (x0 : Int × Int × (List Int) × List Int) (x1 : Int) : Option (Bool × Unit) :=
  Option.bind (spec_l00In N x0.1 0 100) fun r1 =>
  cond (!r1.1)
    (some (false, ()))
    (Option.bind (spec_l00In N x0.2.1 0 20) fun r2 =>
    cond (!r2.1)
      (some (false, ()))
      (cond ((List.length x0.2.2.2 : Int) != (List.length x0.2.2.1 : Int))
        (some (false, ()))
        (loopN (fun (s3 : Int × Unit) next4 =>
          cond (decide (s3.1 < (List.length x0.2.2.1 : Int)))
            (Option.bind (idx x0.2.2.1 s3.1) fun v5 =>
            Option.bind (spec_l00In N v5 0 (w64 (x1 - 1))) fun r6 =>
            cond (!r6.1)
              (some (false, ()))
              (cond (decide (s3.1 > 0))
                (Option.bind (idx x0.2.2.1 s3.1) fun v7 =>
                Option.bind (idx x0.2.2.1 (w64 (s3.1 - 1))) fun v8 =>
                cond (decide (v7 ≤ v8))
                  (some (false, ()))
                  (Option.bind (idx x0.2.2.2 s3.1) fun v9 =>
                  Option.bind (spec_l00In N v9 (-100) 100) fun r10 =>
                  cond (!r10.1)
                    (some (false, ()))
                    (next4 ((w64 (s3.1 + 1)), ()))))
                (Option.bind (idx x0.2.2.2 s3.1) fun v11 =>
                Option.bind (spec_l00In N v11 (-100) 100) fun r12 =>
                cond (!r12.1)
                  (some (false, ()))
                  (next4 ((w64 (s3.1 + 1)), ())))))
            (some (true, ()))) N (0, ()))))
def spec_l03Task_e (N : Nat) : Ent := { ins := [(.bx (.pair (.int .i64) (.pair (.int .i64) (.pair (.sl (.int .i64)) (.sl (.int .i64)))))), (.int .i64)], outs := [.val .bool], F := fun x => spec_l03Task N x.1 x.2.1 }
def spec_l03Task_T (N : Nat) : Nat → List EntX
  | 32 => [.pl (spec_l00In_e N)]
  | _ => []
def spec_l03Task_L : Nat → List (Nat × TK)
  | 4 => [(38, .v (.int .i64))]
  | _ => []
theorem spec_l03Task_eq (N : Nat) : runF N tt (spec_l03Task_T N) spec_l03Task_L [(.bx (.pair (.int .i64) (.pair (.int .i64) (.pair (.sl (.int .i64)) (.sl (.int .i64)))))), (.int .i64)] [.val .bool] (bodyOf Try.f59) Try.f59.ntmps [4] = (spec_l03Task_e N).F := by
  funext x
  kernel_rfl
theorem spec_l03Task_sound (N : Nat) : SoundC Try.prog 59 (spec_l03Task_e N) := by
  have h := runF_sound (f := 59) (code := bodyOf Try.f59) (N := N) (T := (spec_l03Task_T N)) (L := spec_l03Task_L) (ins := [(.bx (.pair (.int .i64) (.pair (.int .i64) (.pair (.sl (.int .i64)) (.sl (.int .i64)))))), (.int .i64)]) (outs := [.val .bool]) (res := [4]) mixed tt_ok ?_ Try.func59 (by kernel_rfl) rfl (by kernel_rfl) (by kernel_rfl) (by decide +kernel)
  · rw [spec_l03Task_eq] at h
    exact h
  · intro f e he
    unfold spec_l03Task_T at he
    split at he
    · rw [List.mem_singleton.1 he]; exact spec_l00In_sound N
    · cases he

/- spec.l03Are -/
def spec_l03Are (N : Nat) (x0 : List (Int × Int × (List Int) × List Int)) : Option (Bool × Unit) :=
  loopN (fun (s1 : Int × Unit) next2 =>
    cond (decide (s1.1 < (List.length x0 : Int)))
      (Option.bind (idx x0 s1.1) fun v3 =>
      Option.bind (spec_l03Task N v3 s1.1) fun r4 =>
      cond (!r4.1)
        (some (false, ()))
        (next2 ((w64 (s1.1 + 1)), ())))
      (cond (decide ((List.length x0 : Int) ≥ 1))
        (some ((decide ((List.length x0 : Int) ≤ 16)), ()))
        (some (false, ())))) N (0, ())
def spec_l03Are_e (N : Nat) : Ent := { ins := [(.sl (.pair (.int .i64) (.pair (.int .i64) (.pair (.sl (.int .i64)) (.sl (.int .i64))))))], outs := [.val .bool], F := fun x => spec_l03Are N x.1 }
def spec_l03Are_T (N : Nat) : Nat → List EntX
  | 59 => [.pl (spec_l03Task_e N)]
  | _ => []
def spec_l03Are_L : Nat → List (Nat × TK)
  | 2 => [(6, .v (.int .i64))]
  | _ => []
theorem spec_l03Are_eq (N : Nat) : runF N tt (spec_l03Are_T N) spec_l03Are_L [(.sl (.pair (.int .i64) (.pair (.int .i64) (.pair (.sl (.int .i64)) (.sl (.int .i64))))))] [.val .bool] (bodyOf Try.f36) Try.f36.ntmps [2] = (spec_l03Are_e N).F := by
  funext x
  kernel_rfl
theorem spec_l03Are_sound (N : Nat) : SoundC Try.prog 36 (spec_l03Are_e N) := by
  have h := runF_sound (f := 36) (code := bodyOf Try.f36) (N := N) (T := (spec_l03Are_T N)) (L := spec_l03Are_L) (ins := [(.sl (.pair (.int .i64) (.pair (.int .i64) (.pair (.sl (.int .i64)) (.sl (.int .i64))))))]) (outs := [.val .bool]) (res := [2]) mixed tt_ok ?_ Try.func36 (by kernel_rfl) rfl (by kernel_rfl) (by kernel_rfl) (by decide +kernel)
  · rw [spec_l03Are_eq] at h
    exact h
  · intro f e he
    unfold spec_l03Are_T at he
    split at he
    · rw [List.mem_singleton.1 he]; exact spec_l03Task_sound N
    · cases he

/- spec.l03Crew -/
def spec_l03Crew (N : Nat) (x0 : List (Int × Int × (List Int) × List Int)) (x1 : Int) : Option (Bool × Unit) :=
  Option.bind (spec_l03Are N x0) fun r1 =>
  cond (!r1.1)
    (some (false, ()))
    (Option.bind (spec_l00In N x1 0 20) fun r2 =>
    cond (!r2.1)
      (some (false, ()))
      (loopN (fun (s3 : Int × Unit) next4 =>
        cond (decide (s3.1 < (List.length x0 : Int)))
          (Option.bind (idx x0 s3.1) fun v5 =>
          cond (decide (v5.2.1 > x1))
            (some (false, ()))
            (next4 ((w64 (s3.1 + 1)), ())))
          (some (true, ()))) N (0, ())))
def spec_l03Crew_e (N : Nat) : Ent := { ins := [(.sl (.pair (.int .i64) (.pair (.int .i64) (.pair (.sl (.int .i64)) (.sl (.int .i64)))))), (.int .i64)], outs := [.val .bool], F := fun x => spec_l03Crew N x.1 x.2.1 }
def spec_l03Crew_T (N : Nat) : Nat → List EntX
  | 32 => [.pl (spec_l00In_e N)]
  | 36 => [.pl (spec_l03Are_e N)]
  | _ => []
def spec_l03Crew_L : Nat → List (Nat × TK)
  | 4 => [(16, .v (.int .i64))]
  | _ => []
theorem spec_l03Crew_eq (N : Nat) : runF N tt (spec_l03Crew_T N) spec_l03Crew_L [(.sl (.pair (.int .i64) (.pair (.int .i64) (.pair (.sl (.int .i64)) (.sl (.int .i64)))))), (.int .i64)] [.val .bool] (bodyOf Try.f23) Try.f23.ntmps [4] = (spec_l03Crew_e N).F := by
  funext x
  kernel_rfl
theorem spec_l03Crew_sound (N : Nat) : SoundC Try.prog 23 (spec_l03Crew_e N) := by
  have h := runF_sound (f := 23) (code := bodyOf Try.f23) (N := N) (T := (spec_l03Crew_T N)) (L := spec_l03Crew_L) (ins := [(.sl (.pair (.int .i64) (.pair (.int .i64) (.pair (.sl (.int .i64)) (.sl (.int .i64)))))), (.int .i64)]) (outs := [.val .bool]) (res := [4]) mixed tt_ok ?_ Try.func23 (by kernel_rfl) rfl (by kernel_rfl) (by kernel_rfl) (by decide +kernel)
  · rw [spec_l03Crew_eq] at h
    exact h
  · intro f e he
    unfold spec_l03Crew_T at he
    split at he
    · rw [List.mem_singleton.1 he]; exact spec_l00In_sound N
    · rw [List.mem_singleton.1 he]; exact spec_l03Are_sound N
    · cases he

/- spec.l03Order -/
def spec_l03Order (N : Nat) (x0 : List (Int × Int × (List Int) × List Int)) (x1 : List Int) : Option (Bool × Unit) :=
  cond ((List.length x1 : Int) != (List.length x0 : Int))
    (some (false, ()))
    (cond (mkOk (List.length x0 : Int) (List.length x0 : Int))
      (let xs1 := (List.replicate (Int.toNat (List.length x0 : Int)) false : List (Bool))
      loopN (fun (s2 : List (Bool) × Int × Unit) next3 =>
        cond (decide (s2.2.1 < (List.length x1 : Int)))
          (Option.bind (idx x1 s2.2.1) fun v4 =>
          Option.bind (spec_l00In N v4 0 (w64 ((List.length x0 : Int) - 1))) fun r5 =>
          cond (!r5.1)
            (some (false, ()))
            (cond (inB v4 (List.length s2.1))
              (Option.bind (s2.1[(Int.toNat v4)]?) fun v6 =>
              cond v6
                (some (false, ()))
                (Option.bind (idx x0 v4) fun v7 =>
                loopN (fun (s8 : Int × Unit) next9 =>
                  cond (decide (s8.1 < (List.length v7.2.2.1 : Int)))
                    (Option.bind (idx x0 v4) fun v10 =>
                    Option.bind (idx v10.2.2.1 s8.1) fun v11 =>
                    cond (inB v11 (List.length s2.1))
                      (Option.bind (s2.1[(Int.toNat v11)]?) fun v12 =>
                      cond (!v12)
                        (some (false, ()))
                        (next9 ((w64 (s8.1 + 1)), ()))) none)
                    (cond (inB v4 (List.length s2.1))
                      (let xs13 := (List.set s2.1 (Int.toNat v4) true)
                      next3 (xs13, (w64 (s2.2.1 + 1)), ())) none)) N (0, ()))) none))
          (some (true, ()))) N (xs1, 0, ())) none)
def spec_l03Order_e (N : Nat) : Ent := { ins := [(.sl (.pair (.int .i64) (.pair (.int .i64) (.pair (.sl (.int .i64)) (.sl (.int .i64)))))), (.sl (.int .i64))], outs := [.val .bool], F := fun x => spec_l03Order N x.1 x.2.1 }
def spec_l03Order_T (N : Nat) : Nat → List EntX
  | 32 => [.pl (spec_l00In_e N)]
  | _ => []
def spec_l03Order_L : Nat → List (Nat × TK)
  | 5 => [(5, .own .bool), (19, .v (.int .i64))]
  | 11 => [(44, .v (.int .i64))]
  | _ => []
theorem spec_l03Order_eq (N : Nat) : runF N tt (spec_l03Order_T N) spec_l03Order_L [(.sl (.pair (.int .i64) (.pair (.int .i64) (.pair (.sl (.int .i64)) (.sl (.int .i64)))))), (.sl (.int .i64))] [.val .bool] (bodyOf Try.f24) Try.f24.ntmps [4] = (spec_l03Order_e N).F := by
  funext x
  kernel_rfl
theorem spec_l03Order_sound (N : Nat) : SoundC Try.prog 24 (spec_l03Order_e N) := by
  have h := runF_sound (f := 24) (code := bodyOf Try.f24) (N := N) (T := (spec_l03Order_T N)) (L := spec_l03Order_L) (ins := [(.sl (.pair (.int .i64) (.pair (.int .i64) (.pair (.sl (.int .i64)) (.sl (.int .i64)))))), (.sl (.int .i64))]) (outs := [.val .bool]) (res := [4]) mixed tt_ok ?_ Try.func24 (by kernel_rfl) rfl (by kernel_rfl) (by kernel_rfl) (by decide +kernel)
  · rw [spec_l03Order_eq] at h
    exact h
  · intro f e he
    unfold spec_l03Order_T at he
    split at he
    · rw [List.mem_singleton.1 he]; exact spec_l00In_sound N
    · cases he

/- spec.l00Max -/
def spec_l00Max (_N : Nat) (x0 : Int) (x1 : Int) : Option (Int × Unit) :=
  cond (decide (x0 > x1))
    (some (x0, ()))
    (some (x1, ()))
def spec_l00Max_e (N : Nat) : Ent := { ins := [(.int .i64), (.int .i64)], outs := [.val (.int .i64)], F := fun x => spec_l00Max N x.1 x.2.1 }
def spec_l00Max_T (_ : Nat) : Nat → List EntX := fun _ => []
def spec_l00Max_L : Nat → List (Nat × TK) := fun _ => []
theorem spec_l00Max_eq (N : Nat) : runF N tt (spec_l00Max_T N) spec_l00Max_L [(.int .i64), (.int .i64)] [.val (.int .i64)] (bodyOf Try.f41) Try.f41.ntmps [4] = (spec_l00Max_e N).F := by
  funext x
  kernel_rfl
theorem spec_l00Max_sound (N : Nat) : SoundC Try.prog 41 (spec_l00Max_e N) := by
  have h := runF_sound (f := 41) (code := bodyOf Try.f41) (N := N) (T := (spec_l00Max_T N)) (L := spec_l00Max_L) (ins := [(.int .i64), (.int .i64)]) (outs := [.val (.int .i64)]) (res := [4]) mixed tt_ok ?_ Try.func41 (by kernel_rfl) rfl (by kernel_rfl) (by kernel_rfl) (by decide +kernel)
  · rw [spec_l00Max_eq] at h
    exact h
  · intro f e he
    cases he

/- spec.l03Least -/
def spec_l03Least (N : Nat) (x0 : List (Int × Int × (List Int) × List Int)) (x1 : List Int) (x2 : Int) : Option (Int × Unit) :=
  Option.bind (idx x0 x2) fun v1 =>
  loopN (fun (s2 : Int × Int × Unit) next3 =>
    cond (decide (s2.2.1 < (List.length v1.2.2.1 : Int)))
      (Option.bind (idx x0 x2) fun v4 =>
      Option.bind (idx v4.2.2.1 s2.2.1) fun v5 =>
      Option.bind (idx x1 v5) fun v6 =>
      Option.bind (idx x0 v5) fun v7 =>
      Option.bind (idx x0 x2) fun v8 =>
      Option.bind (idx v8.2.2.2 s2.2.1) fun v9 =>
      Option.bind (spec_l00Max N s2.1 (w64 ((w64 (v6 + v7.1)) + v9))) fun r10 =>
      next3 (r10.1, (w64 (s2.2.1 + 1)), ()))
      (some (s2.1, ()))) N (0, 0, ())
def spec_l03Least_e (N : Nat) : Ent := { ins := [(.sl (.pair (.int .i64) (.pair (.int .i64) (.pair (.sl (.int .i64)) (.sl (.int .i64)))))), (.sl (.int .i64)), (.int .i64)], outs := [.val (.int .i64)], F := fun x => spec_l03Least N x.1 x.2.1 x.2.2.1 }
def spec_l03Least_T (N : Nat) : Nat → List EntX
  | 41 => [.pl (spec_l00Max_e N)]
  | _ => []
def spec_l03Least_L : Nat → List (Nat × TK)
  | 3 => [(7, .v (.int .i64)), (16, .v (.int .i64))]
  | _ => []
theorem spec_l03Least_eq (N : Nat) : runF N tt (spec_l03Least_T N) spec_l03Least_L [(.sl (.pair (.int .i64) (.pair (.int .i64) (.pair (.sl (.int .i64)) (.sl (.int .i64)))))), (.sl (.int .i64)), (.int .i64)] [.val (.int .i64)] (bodyOf Try.f40) Try.f40.ntmps [6] = (spec_l03Least_e N).F := by
  funext x
  kernel_rfl
theorem spec_l03Least_sound (N : Nat) : SoundC Try.prog 40 (spec_l03Least_e N) := by
  have h := runF_sound (f := 40) (code := bodyOf Try.f40) (N := N) (T := (spec_l03Least_T N)) (L := spec_l03Least_L) (ins := [(.sl (.pair (.int .i64) (.pair (.int .i64) (.pair (.sl (.int .i64)) (.sl (.int .i64)))))), (.sl (.int .i64)), (.int .i64)]) (outs := [.val (.int .i64)]) (res := [6]) mixed tt_ok ?_ Try.func40 (by kernel_rfl) rfl (by kernel_rfl) (by kernel_rfl) (by decide +kernel)
  · rw [spec_l03Least_eq] at h
    exact h
  · intro f e he
    unfold spec_l03Least_T at he
    split at he
    · rw [List.mem_singleton.1 he]; exact spec_l00Max_sound N
    · cases he

/- spec.l03Take -/
def spec_l03Take (N : Nat) (x0 : List (Int × Int × (List Int) × List Int)) (x1 : List Int) (x2 : Int) : Option (List (Int) × Unit) :=
  cond (mkOk (List.length x0 : Int) (List.length x0 : Int))
    (let xs1 := (List.replicate (Int.toNat (List.length x0 : Int)) (0 : Int) : List (Int))
    cond (mkOk (List.length x0 : Int) (List.length x0 : Int))
      (let xs2 := (List.replicate (Int.toNat (List.length x0 : Int)) false : List (Bool))
      loopN (fun (s3 : List (Int) × List (Bool) × Int × Unit) next4 =>
        cond (decide (s3.2.2.1 < (List.length x1 : Int)))
          (Option.bind (idx x1 s3.2.2.1) fun v5 =>
          Option.bind (spec_l03Least N x0 s3.1 v5) fun r6 =>
          loopN (fun (s7 : Int × Unit) next8 =>
            loopN (fun (s9 : Int × Int × Unit) next10 =>
              Option.bind (idx x0 v5) fun v11 =>
              cond (decide (s9.2.1 < (w64 (s7.1 + v11.1))))
                (cond (decide (s9.1 < 0))
                  (Option.bind (idx x0 v5) fun v12 =>
                  loopN (fun (s13 : Int × Int × Unit) next14 =>
                    cond (decide (s13.2.1 < (List.length x0 : Int)))
                      (cond (inB s13.2.1 (List.length s3.2.1))
                        (Option.bind (s3.2.1[(Int.toNat s13.2.1)]?) fun v15 =>
                        cond v15
                          (cond (inB s13.2.1 (List.length s3.1))
                            (Option.bind (s3.1[(Int.toNat s13.2.1)]?) fun v16 =>
                            cond (decide (v16 ≤ s9.2.1))
                              (cond (inB s13.2.1 (List.length s3.1))
                                (Option.bind (s3.1[(Int.toNat s13.2.1)]?) fun v17 =>
                                Option.bind (idx x0 s13.2.1) fun v18 =>
                                cond (decide (s9.2.1 < (w64 (v17 + v18.1))))
                                  (Option.bind (idx x0 s13.2.1) fun v19 =>
                                  next14 ((w64 (s13.1 + v19.2.1)), (w64 (s13.2.1 + 1)), ()))
                                  (next14 (s13.1, (w64 (s13.2.1 + 1)), ()))) none)
                              (next14 (s13.1, (w64 (s13.2.1 + 1)), ()))) none)
                          (next14 (s13.1, (w64 (s13.2.1 + 1)), ()))) none)
                      (cond (decide (s13.1 > x2))
                        (next10 (s9.2.1, (w64 (s9.2.1 + 1)), ()))
                        (next10 (s9.1, (w64 (s9.2.1 + 1)), ())))) N (v12.2.1, 0, ()))
                  (cond (decide (s9.1 < 0))
                    (cond (inB v5 (List.length s3.1))
                      (let xs20 := (List.set s3.1 (Int.toNat v5) s7.1)
                      cond (inB v5 (List.length s3.2.1))
                        (let xs21 := (List.set s3.2.1 (Int.toNat v5) true)
                        next4 (xs20, xs21, (w64 (s3.2.2.1 + 1)), ())) none) none)
                    (next8 ((w64 (s9.1 + 1)), ()))))
                (cond (decide (s9.1 < 0))
                  (cond (inB v5 (List.length s3.1))
                    (let xs22 := (List.set s3.1 (Int.toNat v5) s7.1)
                    cond (inB v5 (List.length s3.2.1))
                      (let xs23 := (List.set s3.2.1 (Int.toNat v5) true)
                      next4 (xs22, xs23, (w64 (s3.2.2.1 + 1)), ())) none) none)
                  (next8 ((w64 (s9.1 + 1)), ())))) N ((-1), s7.1, ())) N (r6.1, ()))
          (some (s3.1, ()))) N (xs1, xs2, 0, ())) none) none
def spec_l03Take_e (N : Nat) : Ent := { ins := [(.sl (.pair (.int .i64) (.pair (.int .i64) (.pair (.sl (.int .i64)) (.sl (.int .i64)))))), (.sl (.int .i64)), (.int .i64)], outs := [.own (.int .i64)], F := fun x => spec_l03Take N x.1 x.2.1 x.2.2.1 }
def spec_l03Take_T (N : Nat) : Nat → List EntX
  | 40 => [.pl (spec_l03Least_e N)]
  | _ => []
def spec_l03Take_L : Nat → List (Nat × TK)
  | 4 => [(7, .own (.int .i64)), (8, .own .bool), (24, .v (.int .i64))]
  | 8 => [(11, .v (.int .i64))]
  | 10 => [(12, .v (.int .i64)), (13, .v (.int .i64))]
  | 14 => [(14, .v (.int .i64)), (58, .v (.int .i64))]
  | _ => []
theorem spec_l03Take_eq (N : Nat) : runF N tt (spec_l03Take_T N) spec_l03Take_L [(.sl (.pair (.int .i64) (.pair (.int .i64) (.pair (.sl (.int .i64)) (.sl (.int .i64)))))), (.sl (.int .i64)), (.int .i64)] [.own (.int .i64)] (bodyOf Try.f25) Try.f25.ntmps [6] = (spec_l03Take_e N).F := by
  funext x
  kernel_rfl
theorem spec_l03Take_sound (N : Nat) : SoundC Try.prog 25 (spec_l03Take_e N) := by
  have h := runF_sound (f := 25) (code := bodyOf Try.f25) (N := N) (T := (spec_l03Take_T N)) (L := spec_l03Take_L) (ins := [(.sl (.pair (.int .i64) (.pair (.int .i64) (.pair (.sl (.int .i64)) (.sl (.int .i64)))))), (.sl (.int .i64)), (.int .i64)]) (outs := [.own (.int .i64)]) (res := [6]) mixed tt_ok ?_ Try.func25 (by kernel_rfl) rfl (by kernel_rfl) (by kernel_rfl) (by decide +kernel)
  · rw [spec_l03Take_eq] at h
    exact h
  · intro f e he
    unfold spec_l03Take_T at he
    split at he
    · rw [List.mem_singleton.1 he]; exact spec_l03Least_sound N
    · cases he

/- spec.l03End -/
def spec_l03End (N : Nat) (x0 : List (Int × Int × (List Int) × List Int)) (x1 : List Int) : Option (Int × Unit) :=
  loopN (fun (s1 : Int × Int × Unit) next2 =>
    cond (decide (s1.2.1 < (List.length x0 : Int)))
      (Option.bind (idx x1 s1.2.1) fun v3 =>
      Option.bind (idx x0 s1.2.1) fun v4 =>
      Option.bind (spec_l00Max N s1.1 (w64 (v3 + v4.1))) fun r5 =>
      next2 (r5.1, (w64 (s1.2.1 + 1)), ()))
      (some (s1.1, ()))) N (0, 0, ())
def spec_l03End_e (N : Nat) : Ent := { ins := [(.sl (.pair (.int .i64) (.pair (.int .i64) (.pair (.sl (.int .i64)) (.sl (.int .i64)))))), (.sl (.int .i64))], outs := [.val (.int .i64)], F := fun x => spec_l03End N x.1 x.2.1 }
def spec_l03End_T (N : Nat) : Nat → List EntX
  | 41 => [.pl (spec_l00Max_e N)]
  | _ => []
def spec_l03End_L : Nat → List (Nat × TK)
  | 3 => [(5, .v (.int .i64)), (9, .v (.int .i64))]
  | _ => []
theorem spec_l03End_eq (N : Nat) : runF N tt (spec_l03End_T N) spec_l03End_L [(.sl (.pair (.int .i64) (.pair (.int .i64) (.pair (.sl (.int .i64)) (.sl (.int .i64)))))), (.sl (.int .i64))] [.val (.int .i64)] (bodyOf Try.f26) Try.f26.ntmps [4] = (spec_l03End_e N).F := by
  funext x
  kernel_rfl
theorem spec_l03End_sound (N : Nat) : SoundC Try.prog 26 (spec_l03End_e N) := by
  have h := runF_sound (f := 26) (code := bodyOf Try.f26) (N := N) (T := (spec_l03End_T N)) (L := spec_l03End_L) (ins := [(.sl (.pair (.int .i64) (.pair (.int .i64) (.pair (.sl (.int .i64)) (.sl (.int .i64)))))), (.sl (.int .i64))]) (outs := [.val (.int .i64)]) (res := [4]) mixed tt_ok ?_ Try.func26 (by kernel_rfl) rfl (by kernel_rfl) (by kernel_rfl) (by decide +kernel)
  · rw [spec_l03End_eq] at h
    exact h
  · intro f e he
    unfold spec_l03End_T at he
    split at he
    · rw [List.mem_singleton.1 he]; exact spec_l00Max_sound N
    · cases he

/- spec.OrderPlan -/
def spec_OrderPlan (N : Nat) (x0 : List (Int × Int × (List Int) × List Int)) (x1 : List Int) (x2 : Int) : Option (List (Int) × Int × Bool × Unit) :=
  Option.bind (spec_l03Crew N x0 x2) fun r1 =>
  cond (!r1.1)
    (some ([], 0, false, ()))
    (Option.bind (spec_l03Order N x0 x1) fun r2 =>
    cond (!r2.1)
      (some ([], 0, false, ()))
      (Option.bind (spec_l03Take N x0 x1 x2) fun r3 =>
      Option.bind (spec_l03End N x0 r3.1) fun r4 =>
      some (r3.1, r4.1, true, ())))
def spec_OrderPlan_e (N : Nat) : Ent := { ins := [(.sl (.pair (.int .i64) (.pair (.int .i64) (.pair (.sl (.int .i64)) (.sl (.int .i64)))))), (.sl (.int .i64)), (.int .i64)], outs := [.own (.int .i64), .val (.int .i64), .val .bool], F := fun x => spec_OrderPlan N x.1 x.2.1 x.2.2.1 }
def spec_OrderPlan_T (N : Nat) : Nat → List EntX
  | 23 => [.pl (spec_l03Crew_e N)]
  | 24 => [.pl (spec_l03Order_e N)]
  | 25 => [.pl (spec_l03Take_e N)]
  | 26 => [.pl (spec_l03End_e N)]
  | _ => []
def spec_OrderPlan_L : Nat → List (Nat × TK) := fun _ => []
theorem spec_OrderPlan_eq (N : Nat) : runF N tt (spec_OrderPlan_T N) spec_OrderPlan_L [(.sl (.pair (.int .i64) (.pair (.int .i64) (.pair (.sl (.int .i64)) (.sl (.int .i64)))))), (.sl (.int .i64)), (.int .i64)] [.own (.int .i64), .val (.int .i64), .val .bool] (bodyOf Try.f8) Try.f8.ntmps [6, 7, 8] = (spec_OrderPlan_e N).F := by
  funext x
  kernel_rfl
theorem spec_OrderPlan_sound (N : Nat) : SoundC Try.prog 8 (spec_OrderPlan_e N) := by
  have h := runF_sound (f := 8) (code := bodyOf Try.f8) (N := N) (T := (spec_OrderPlan_T N)) (L := spec_OrderPlan_L) (ins := [(.sl (.pair (.int .i64) (.pair (.int .i64) (.pair (.sl (.int .i64)) (.sl (.int .i64)))))), (.sl (.int .i64)), (.int .i64)]) (outs := [.own (.int .i64), .val (.int .i64), .val .bool]) (res := [6, 7, 8]) mixed tt_ok ?_ Try.func8 (by kernel_rfl) rfl (by kernel_rfl) (by kernel_rfl) (by decide +kernel)
  · rw [spec_OrderPlan_eq] at h
    exact h
  · intro f e he
    unfold spec_OrderPlan_T at he
    split at he
    · rw [List.mem_singleton.1 he]; exact spec_l03Crew_sound N
    · rw [List.mem_singleton.1 he]; exact spec_l03Order_sound N
    · rw [List.mem_singleton.1 he]; exact spec_l03Take_sound N
    · rw [List.mem_singleton.1 he]; exact spec_l03End_sound N
    · cases he

/- laws.toInt64S -/
def laws_toInt64S (N : Nat) (x0 : List Int) : Option (List (Int) × Unit) :=
  cond (mkOk (List.length x0 : Int) (List.length x0 : Int))
    (let xs1 := (List.replicate (Int.toNat (List.length x0 : Int)) (0 : Int) : List (Int))
    loopN (fun (s2 : List (Int) × Int × Unit) next3 =>
      cond (decide (s2.2.1 < (List.length x0 : Int)))
        (Option.bind (idx x0 s2.2.1) fun v4 =>
        cond (inB s2.2.1 (List.length s2.1))
          (let xs5 := (List.set s2.1 (Int.toNat s2.2.1) v4)
          next3 (xs5, (w64 (s2.2.1 + 1)), ())) none)
        (some (s2.1, ()))) N (xs1, 0, ())) none
def laws_toInt64S_e (N : Nat) : Ent := { ins := [(.sl (.int .i64))], outs := [.own (.int .i64)], F := fun x => laws_toInt64S N x.1 }
def laws_toInt64S_T (_ : Nat) : Nat → List EntX := fun _ => []
def laws_toInt64S_L : Nat → List (Nat × TK)
  | 3 => [(3, .own (.int .i64)), (4, .v (.int .i64))]
  | _ => []
theorem laws_toInt64S_eq (N : Nat) : runF N tt (laws_toInt64S_T N) laws_toInt64S_L [(.sl (.int .i64))] [.own (.int .i64)] (bodyOf Try.f10) Try.f10.ntmps [2] = (laws_toInt64S_e N).F := by
  funext x
  kernel_rfl
theorem laws_toInt64S_sound (N : Nat) : SoundC Try.prog 10 (laws_toInt64S_e N) := by
  have h := runF_sound (f := 10) (code := bodyOf Try.f10) (N := N) (T := (laws_toInt64S_T N)) (L := laws_toInt64S_L) (ins := [(.sl (.int .i64))]) (outs := [.own (.int .i64)]) (res := [2]) mixed tt_ok ?_ Try.func10 (by kernel_rfl) rfl (by kernel_rfl) (by kernel_rfl) (by decide +kernel)
  · rw [laws_toInt64S_eq] at h
    exact h
  · intro f e he
    cases he

/- laws.toTask -/
def laws_toTask (N : Nat) (x0 : Int × Int × (List Int) × List Int) : Option ((Int × Int × (List Int) × List Int) × Unit) :=
  Option.bind (laws_toInt64S N x0.2.2.1) fun r1 =>
  Option.bind (laws_toInt64S N x0.2.2.2) fun r2 =>
  some ((x0.1, (x0.2.1, (r1.1, r2.1))), ())
def laws_toTask_e (N : Nat) : Ent := { ins := [(.pair (.int .i64) (.pair (.int .i64) (.pair (.sl (.int .i64)) (.sl (.int .i64)))))], outs := [.val (.nw (.pair (.int .i64) (.pair (.int .i64) (.pair (.sl (.int .i64)) (.sl (.int .i64))))))], F := fun x => laws_toTask N x.1 }
def laws_toTask_T (N : Nat) : Nat → List EntX
  | 10 => [.pl (laws_toInt64S_e N)]
  | _ => []
def laws_toTask_L : Nat → List (Nat × TK) := fun _ => []
theorem laws_toTask_eq (N : Nat) : runC N tt (laws_toTask_T N) laws_toTask_L [(.pair (.int .i64) (.pair (.int .i64) (.pair (.sl (.int .i64)) (.sl (.int .i64)))))] [.val (.nw (.pair (.int .i64) (.pair (.int .i64) (.pair (.sl (.int .i64)) (.sl (.int .i64))))))] (bodyOf Try.f27) Try.f27.ntmps [2] [(2, 47)] = (laws_toTask_e N).F := by
  funext x
  kernel_rfl
theorem laws_toTask_sound (N : Nat) : SoundC Try.prog 27 (laws_toTask_e N) := by
  have h := runC_sound (f := 27) (code := bodyOf Try.f27) (N := N) (T := (laws_toTask_T N)) (L := laws_toTask_L) (ins := [(.pair (.int .i64) (.pair (.int .i64) (.pair (.sl (.int .i64)) (.sl (.int .i64)))))]) (outs := [.val (.nw (.pair (.int .i64) (.pair (.int .i64) (.pair (.sl (.int .i64)) (.sl (.int .i64))))))]) (res := [2]) (rs := [.cell 2 47]) (cells := [(2, 47)]) mixed tt_ok ?_ Try.func27 (by kernel_rfl) rfl (by kernel_rfl) (by kernel_rfl) rfl rfl (by decide) (by decide +kernel) (by decide +kernel)
  · rw [laws_toTask_eq] at h
    exact h
  · intro f e he
    unfold laws_toTask_T at he
    split at he
    · rw [List.mem_singleton.1 he]; exact laws_toInt64S_sound N
    · cases he

/- laws.toTaskS -/
def laws_toTaskS (N : Nat) (x0 : List (Int × Int × (List Int) × List Int)) : Option (List (Int × Int × (List Int) × List Int) × Unit) :=
  cond (mkOk (List.length x0 : Int) (List.length x0 : Int))
    (let xs1 := (List.replicate (Int.toNat (List.length x0 : Int)) ((0 : Int), ((0 : Int), ([], []))) : List (Int × Int × (List Int) × List Int))
    loopN (fun (s2 : List (Int × Int × (List Int) × List Int) × Int × Unit) next3 =>
      cond (decide (s2.2.1 < (List.length x0 : Int)))
        (Option.bind (idx x0 s2.2.1) fun v4 =>
        Option.bind (laws_toTask N v4) fun r5 =>
        cond (inB s2.2.1 (List.length s2.1))
          (let xs6 := (List.set s2.1 (Int.toNat s2.2.1) r5.1)
          next3 (xs6, (w64 (s2.2.1 + 1)), ())) none)
        (some (s2.1, ()))) N (xs1, 0, ())) none
def laws_toTaskS_e (N : Nat) : Ent := { ins := [(.sl (.pair (.int .i64) (.pair (.int .i64) (.pair (.sl (.int .i64)) (.sl (.int .i64))))))], outs := [.own (.nw (.pair (.int .i64) (.pair (.int .i64) (.pair (.sl (.int .i64)) (.sl (.int .i64))))))], F := fun x => laws_toTaskS N x.1 }
def laws_toTaskS_T (N : Nat) : Nat → List EntX
  | 27 => [.pl (laws_toTask_e N)]
  | _ => []
def laws_toTaskS_L : Nat → List (Nat × TK)
  | 3 => [(3, .own (.nw (.pair (.int .i64) (.pair (.int .i64) (.pair (.sl (.int .i64)) (.sl (.int .i64))))))), (4, .v (.int .i64))]
  | _ => []
theorem laws_toTaskS_eq (N : Nat) : runF N tt (laws_toTaskS_T N) laws_toTaskS_L [(.sl (.pair (.int .i64) (.pair (.int .i64) (.pair (.sl (.int .i64)) (.sl (.int .i64))))))] [.own (.nw (.pair (.int .i64) (.pair (.int .i64) (.pair (.sl (.int .i64)) (.sl (.int .i64))))))] (bodyOf Try.f9) Try.f9.ntmps [2] = (laws_toTaskS_e N).F := by
  funext x
  kernel_rfl
theorem laws_toTaskS_sound (N : Nat) : SoundC Try.prog 9 (laws_toTaskS_e N) := by
  have h := runF_sound (f := 9) (code := bodyOf Try.f9) (N := N) (T := (laws_toTaskS_T N)) (L := laws_toTaskS_L) (ins := [(.sl (.pair (.int .i64) (.pair (.int .i64) (.pair (.sl (.int .i64)) (.sl (.int .i64))))))]) (outs := [.own (.nw (.pair (.int .i64) (.pair (.int .i64) (.pair (.sl (.int .i64)) (.sl (.int .i64))))))]) (res := [2]) mixed tt_ok ?_ Try.func9 (by kernel_rfl) rfl (by kernel_rfl) (by kernel_rfl) (by decide +kernel)
  · rw [laws_toTaskS_eq] at h
    exact h
  · intro f e he
    unfold laws_toTaskS_T at he
    split at he
    · rw [List.mem_singleton.1 he]; exact laws_toTask_sound N
    · cases he

/- impl.within -/
def impl_within (_N : Nat) (x0 : Int) (x1 : Int) (x2 : Int) : Option (Bool × Unit) :=
  cond (decide (x0 ≥ x1))
    (some ((decide (x0 ≤ x2)), ()))
    (some (false, ()))
def impl_within_e (N : Nat) : Ent := { ins := [(.int .i64), (.int .i64), (.int .i64)], outs := [.val .bool], F := fun x => impl_within N x.1 x.2.1 x.2.2.1 }
def impl_within_T (_ : Nat) : Nat → List EntX := fun _ => []
def impl_within_L : Nat → List (Nat × TK) := fun _ => []
theorem impl_within_eq (N : Nat) : runF N tt (impl_within_T N) impl_within_L [(.int .i64), (.int .i64), (.int .i64)] [.val .bool] (bodyOf Try.f34) Try.f34.ntmps [6] = (impl_within_e N).F := by
  funext x
  kernel_rfl
theorem impl_within_sound (N : Nat) : SoundC Try.prog 34 (impl_within_e N) := by
  have h := runF_sound (f := 34) (code := bodyOf Try.f34) (N := N) (T := (impl_within_T N)) (L := impl_within_L) (ins := [(.int .i64), (.int .i64), (.int .i64)]) (outs := [.val .bool]) (res := [6]) mixed tt_ok ?_ Try.func34 (by kernel_rfl) rfl (by kernel_rfl) (by kernel_rfl) (by decide +kernel)
  · rw [impl_within_eq] at h
    exact h
  · intro f e he
    cases he

/- impl.areWithin -/
def impl_areWithin (N : Nat) (x0 : List Int) (x1 : Int) (x2 : Int) : Option (Bool × Unit) :=
  loopN (fun (s1 : Int × Unit) next2 =>
    cond (decide (s1.1 < (List.length x0 : Int)))
      (Option.bind (idx x0 s1.1) fun v3 =>
      Option.bind (impl_within N v3 x1 x2) fun r4 =>
      cond (!r4.1)
        (some (false, ()))
        (next2 ((w64 (s1.1 + 1)), ())))
      (some (true, ()))) N (0, ())
def impl_areWithin_e (N : Nat) : Ent := { ins := [(.sl (.int .i64)), (.int .i64), (.int .i64)], outs := [.val .bool], F := fun x => impl_areWithin N x.1 x.2.1 x.2.2.1 }
def impl_areWithin_T (N : Nat) : Nat → List EntX
  | 34 => [.pl (impl_within_e N)]
  | _ => []
def impl_areWithin_L : Nat → List (Nat × TK)
  | 2 => [(11, .v (.int .i64))]
  | _ => []
theorem impl_areWithin_eq (N : Nat) : runF N tt (impl_areWithin_T N) impl_areWithin_L [(.sl (.int .i64)), (.int .i64), (.int .i64)] [.val .bool] (bodyOf Try.f60) Try.f60.ntmps [6] = (impl_areWithin_e N).F := by
  funext x
  kernel_rfl
theorem impl_areWithin_sound (N : Nat) : SoundC Try.prog 60 (impl_areWithin_e N) := by
  have h := runF_sound (f := 60) (code := bodyOf Try.f60) (N := N) (T := (impl_areWithin_T N)) (L := impl_areWithin_L) (ins := [(.sl (.int .i64)), (.int .i64), (.int .i64)]) (outs := [.val .bool]) (res := [6]) mixed tt_ok ?_ Try.func60 (by kernel_rfl) rfl (by kernel_rfl) (by kernel_rfl) (by decide +kernel)
  · rw [impl_areWithin_eq] at h
    exact h
  · intro f e he
    unfold impl_areWithin_T at he
    split at he
    · rw [List.mem_singleton.1 he]; exact impl_within_sound N
    · cases he

/- impl.AreTasks -/
def impl_AreTasks (N : Nat) (x0 : List (Int × Int × (List Int) × List Int)) : Option (Bool × Unit) :=
  loopN (fun (s1 : Int × Unit) next2 =>
    cond (decide (s1.1 < (List.length x0 : Int)))
      (Option.bind (idx x0 s1.1) fun v3 =>
      Option.bind (impl_within N v3.1 0 100) fun r4 =>
      cond (!r4.1)
        (some (false, ()))
        (Option.bind (impl_within N v3.2.1 0 20) fun r5 =>
        cond (!r5.1)
          (some (false, ()))
          (cond ((List.length v3.2.2.1 : Int) != (List.length v3.2.2.2 : Int))
            (some (false, ()))
            (Option.bind (impl_areWithin N v3.2.2.2 (-100) 100) fun r6 =>
            cond (!r6.1)
              (some (false, ()))
              (loopN (fun (s7 : Int × Unit) next8 =>
                cond (decide (s7.1 < (List.length v3.2.2.1 : Int)))
                  (Option.bind (idx v3.2.2.1 s7.1) fun v9 =>
                  Option.bind (impl_within N v9 0 (w64 (s1.1 - 1))) fun r10 =>
                  cond (!r10.1)
                    (some (false, ()))
                    (cond (decide (s7.1 > 0))
                      (Option.bind (idx v3.2.2.1 (w64 (s7.1 - 1))) fun v11 =>
                      cond (decide (v9 ≤ v11))
                        (some (false, ()))
                        (next8 ((w64 (s7.1 + 1)), ())))
                      (next8 ((w64 (s7.1 + 1)), ()))))
                  (next2 ((w64 (s1.1 + 1)), ()))) N (0, ()))))))
      (cond (decide ((List.length x0 : Int) ≥ 1))
        (some ((decide ((List.length x0 : Int) ≤ 16)), ()))
        (some (false, ())))) N (0, ())
def impl_AreTasks_e (N : Nat) : Ent := { ins := [(.sl (.pair (.int .i64) (.pair (.int .i64) (.pair (.sl (.int .i64)) (.sl (.int .i64))))))], outs := [.val .bool], F := fun x => impl_AreTasks N x.1 }
def impl_AreTasks_T (N : Nat) : Nat → List EntX
  | 34 => [.pl (impl_within_e N)]
  | 60 => [.pl (impl_areWithin_e N)]
  | _ => []
def impl_AreTasks_L : Nat → List (Nat × TK)
  | 2 => [(9, .v (.int .i64))]
  | 7 => [(42, .v (.int .i64))]
  | _ => []
theorem impl_AreTasks_eq (N : Nat) : runF N tt (impl_AreTasks_T N) impl_AreTasks_L [(.sl (.pair (.int .i64) (.pair (.int .i64) (.pair (.sl (.int .i64)) (.sl (.int .i64))))))] [.val .bool] (bodyOf Try.f37) Try.f37.ntmps [2] = (impl_AreTasks_e N).F := by
  funext x
  kernel_rfl
theorem impl_AreTasks_sound (N : Nat) : SoundC Try.prog 37 (impl_AreTasks_e N) := by
  have h := runF_sound (f := 37) (code := bodyOf Try.f37) (N := N) (T := (impl_AreTasks_T N)) (L := impl_AreTasks_L) (ins := [(.sl (.pair (.int .i64) (.pair (.int .i64) (.pair (.sl (.int .i64)) (.sl (.int .i64))))))]) (outs := [.val .bool]) (res := [2]) mixed tt_ok ?_ Try.func37 (by kernel_rfl) rfl (by kernel_rfl) (by kernel_rfl) (by decide +kernel)
  · rw [impl_AreTasks_eq] at h
    exact h
  · intro f e he
    unfold impl_AreTasks_T at he
    split at he
    · rw [List.mem_singleton.1 he]; exact impl_within_sound N
    · rw [List.mem_singleton.1 he]; exact impl_areWithin_sound N
    · cases he

/- impl.areCrew -/
def impl_areCrew (N : Nat) (x0 : Int) : Option (Bool × Unit) :=
  Option.bind (impl_within N x0 0 20) fun r1 =>
  some (r1.1, ())
def impl_areCrew_e (N : Nat) : Ent := { ins := [(.int .i64)], outs := [.val .bool], F := fun x => impl_areCrew N x.1 }
def impl_areCrew_T (N : Nat) : Nat → List EntX
  | 34 => [.pl (impl_within_e N)]
  | _ => []
def impl_areCrew_L : Nat → List (Nat × TK) := fun _ => []
theorem impl_areCrew_eq (N : Nat) : runF N tt (impl_areCrew_T N) impl_areCrew_L [(.int .i64)] [.val .bool] (bodyOf Try.f42) Try.f42.ntmps [2] = (impl_areCrew_e N).F := by
  funext x
  kernel_rfl
theorem impl_areCrew_sound (N : Nat) : SoundC Try.prog 42 (impl_areCrew_e N) := by
  have h := runF_sound (f := 42) (code := bodyOf Try.f42) (N := N) (T := (impl_areCrew_T N)) (L := impl_areCrew_L) (ins := [(.int .i64)]) (outs := [.val .bool]) (res := [2]) mixed tt_ok ?_ Try.func42 (by kernel_rfl) rfl (by kernel_rfl) (by kernel_rfl) (by decide +kernel)
  · rw [impl_areCrew_eq] at h
    exact h
  · intro f e he
    unfold impl_areCrew_T at he
    split at he
    · rw [List.mem_singleton.1 he]; exact impl_within_sound N
    · cases he

/- impl.fitsCrew$1 -/
def impl_fitsCrew_1_c0 (_N : Nat) (x0 : Int × Int × (List Int) × List Int) (x1 : Int) : Option (Bool × Unit) :=
  some ((decide (x0.2.1 > x1)), ())
def impl_fitsCrew_1_c0_e (N : Nat) : Ent := { ins := [(.pair (.int .i64) (.pair (.int .i64) (.pair (.sl (.int .i64)) (.sl (.int .i64))))), (.bx (.int .i64))], outs := [.val .bool], F := fun x => impl_fitsCrew_1_c0 N x.1 x.2.1 }
def impl_fitsCrew_1_c0_T (_ : Nat) : Nat → List EntX := fun _ => []
def impl_fitsCrew_1_c0_L : Nat → List (Nat × TK) := fun _ => []
theorem impl_fitsCrew_1_c0_eq (N : Nat) : runF N tt (impl_fitsCrew_1_c0_T N) impl_fitsCrew_1_c0_L [(.pair (.int .i64) (.pair (.int .i64) (.pair (.sl (.int .i64)) (.sl (.int .i64))))), (.bx (.int .i64))] [.val .bool] (bodyOf Try.f44) Try.f44.ntmps [3] = (impl_fitsCrew_1_c0_e N).F := by
  funext x
  kernel_rfl
theorem impl_fitsCrew_1_c0_sound (N : Nat) : SoundC Try.prog 44 (impl_fitsCrew_1_c0_e N) := by
  have h := runF_sound (f := 44) (code := bodyOf Try.f44) (N := N) (T := (impl_fitsCrew_1_c0_T N)) (L := impl_fitsCrew_1_c0_L) (ins := [(.pair (.int .i64) (.pair (.int .i64) (.pair (.sl (.int .i64)) (.sl (.int .i64))))), (.bx (.int .i64))]) (outs := [.val .bool]) (res := [3]) mixed tt_ok ?_ Try.func44 (by kernel_rfl) rfl (by kernel_rfl) (by kernel_rfl) (by decide +kernel)
  · rw [impl_fitsCrew_1_c0_eq] at h
    exact h
  · intro f e he
    cases he

/- slices.IndexFunc[[]impl.Task,impl.Task] -/
def slices_IndexFunc_impl_Task_impl_Task_impl_fitsCrew_1 (N : Nat) (x0 : List (Int × Int × (List Int) × List Int)) (x1 : Int) : Option (Int × Unit) :=
  loopN (fun (s1 : Int × Unit) next2 =>
    cond (decide (s1.1 < (List.length x0 : Int)))
      (Option.bind (idx x0 s1.1) fun v3 =>
      Option.bind (impl_fitsCrew_1_c0 N v3 x1) fun r4 =>
      cond r4.1
        (some (s1.1, ()))
        (next2 ((w64 (s1.1 + 1)), ())))
      (some ((-1), ()))) N (0, ())
def slices_IndexFunc_impl_Task_impl_Task_impl_fitsCrew_1_e (N : Nat) : Ent := { ins := [(.sl (.pair (.int .i64) (.pair (.int .i64) (.pair (.sl (.int .i64)) (.sl (.int .i64)))))), (.clo 44 (.bx (.int .i64)))], outs := [.val (.int .i64)], F := fun x => slices_IndexFunc_impl_Task_impl_Task_impl_fitsCrew_1 N x.1 x.2.1 }
def slices_IndexFunc_impl_Task_impl_Task_impl_fitsCrew_1_T (N : Nat) : Nat → List EntX
  | 44 => [.pl (impl_fitsCrew_1_c0_e N)]
  | _ => []
def slices_IndexFunc_impl_Task_impl_Task_impl_fitsCrew_1_L : Nat → List (Nat × TK)
  | 2 => [(8, .v (.int .i64))]
  | _ => []
theorem slices_IndexFunc_impl_Task_impl_Task_impl_fitsCrew_1_eq (N : Nat) : runF N tt (slices_IndexFunc_impl_Task_impl_Task_impl_fitsCrew_1_T N) slices_IndexFunc_impl_Task_impl_Task_impl_fitsCrew_1_L [(.sl (.pair (.int .i64) (.pair (.int .i64) (.pair (.sl (.int .i64)) (.sl (.int .i64)))))), (.clo 44 (.bx (.int .i64)))] [.val (.int .i64)] (bodyOf Try.f61) Try.f61.ntmps [4] = (slices_IndexFunc_impl_Task_impl_Task_impl_fitsCrew_1_e N).F := by
  funext x
  kernel_rfl
theorem slices_IndexFunc_impl_Task_impl_Task_impl_fitsCrew_1_sound (N : Nat) : SoundC Try.prog 61 (slices_IndexFunc_impl_Task_impl_Task_impl_fitsCrew_1_e N) := by
  have h := runF_sound (f := 61) (code := bodyOf Try.f61) (N := N) (T := (slices_IndexFunc_impl_Task_impl_Task_impl_fitsCrew_1_T N)) (L := slices_IndexFunc_impl_Task_impl_Task_impl_fitsCrew_1_L) (ins := [(.sl (.pair (.int .i64) (.pair (.int .i64) (.pair (.sl (.int .i64)) (.sl (.int .i64)))))), (.clo 44 (.bx (.int .i64)))]) (outs := [.val (.int .i64)]) (res := [4]) mixed tt_ok ?_ Try.func61 (by kernel_rfl) rfl (by kernel_rfl) (by kernel_rfl) (by decide +kernel)
  · rw [slices_IndexFunc_impl_Task_impl_Task_impl_fitsCrew_1_eq] at h
    exact h
  · intro f e he
    unfold slices_IndexFunc_impl_Task_impl_Task_impl_fitsCrew_1_T at he
    split at he
    · rw [List.mem_singleton.1 he]; exact impl_fitsCrew_1_c0_sound N
    · cases he

/- slices.ContainsFunc[[]impl.Task,impl.Task] -/
def slices_ContainsFunc_impl_Task_impl_Task_impl_fitsCrew_1 (N : Nat) (x0 : List (Int × Int × (List Int) × List Int)) (x1 : Int) : Option (Bool × Unit) :=
  Option.bind (slices_IndexFunc_impl_Task_impl_Task_impl_fitsCrew_1 N x0 x1) fun r1 =>
  some ((decide (r1.1 ≥ 0)), ())
def slices_ContainsFunc_impl_Task_impl_Task_impl_fitsCrew_1_e (N : Nat) : Ent := { ins := [(.sl (.pair (.int .i64) (.pair (.int .i64) (.pair (.sl (.int .i64)) (.sl (.int .i64)))))), (.clo 44 (.bx (.int .i64)))], outs := [.val .bool], F := fun x => slices_ContainsFunc_impl_Task_impl_Task_impl_fitsCrew_1 N x.1 x.2.1 }
def slices_ContainsFunc_impl_Task_impl_Task_impl_fitsCrew_1_T (N : Nat) : Nat → List EntX
  | 61 => [.pl (slices_IndexFunc_impl_Task_impl_Task_impl_fitsCrew_1_e N)]
  | _ => []
def slices_ContainsFunc_impl_Task_impl_Task_impl_fitsCrew_1_L : Nat → List (Nat × TK) := fun _ => []
theorem slices_ContainsFunc_impl_Task_impl_Task_impl_fitsCrew_1_eq (N : Nat) : runF N tt (slices_ContainsFunc_impl_Task_impl_Task_impl_fitsCrew_1_T N) slices_ContainsFunc_impl_Task_impl_Task_impl_fitsCrew_1_L [(.sl (.pair (.int .i64) (.pair (.int .i64) (.pair (.sl (.int .i64)) (.sl (.int .i64)))))), (.clo 44 (.bx (.int .i64)))] [.val .bool] (bodyOf Try.f43) Try.f43.ntmps [4] = (slices_ContainsFunc_impl_Task_impl_Task_impl_fitsCrew_1_e N).F := by
  funext x
  kernel_rfl
theorem slices_ContainsFunc_impl_Task_impl_Task_impl_fitsCrew_1_sound (N : Nat) : SoundC Try.prog 43 (slices_ContainsFunc_impl_Task_impl_Task_impl_fitsCrew_1_e N) := by
  have h := runF_sound (f := 43) (code := bodyOf Try.f43) (N := N) (T := (slices_ContainsFunc_impl_Task_impl_Task_impl_fitsCrew_1_T N)) (L := slices_ContainsFunc_impl_Task_impl_Task_impl_fitsCrew_1_L) (ins := [(.sl (.pair (.int .i64) (.pair (.int .i64) (.pair (.sl (.int .i64)) (.sl (.int .i64)))))), (.clo 44 (.bx (.int .i64)))]) (outs := [.val .bool]) (res := [4]) mixed tt_ok ?_ Try.func43 (by kernel_rfl) rfl (by kernel_rfl) (by kernel_rfl) (by decide +kernel)
  · rw [slices_ContainsFunc_impl_Task_impl_Task_impl_fitsCrew_1_eq] at h
    exact h
  · intro f e he
    unfold slices_ContainsFunc_impl_Task_impl_Task_impl_fitsCrew_1_T at he
    split at he
    · rw [List.mem_singleton.1 he]; exact slices_IndexFunc_impl_Task_impl_Task_impl_fitsCrew_1_sound N
    · cases he

/- impl.fitsCrew -/
def impl_fitsCrew (N : Nat) (x0 : List (Int × Int × (List Int) × List Int)) (x1 : Int) : Option (Bool × Unit) :=
  Option.bind (impl_AreTasks N x0) fun r1 =>
  cond r1.1
    (Option.bind (impl_areCrew N x1) fun r2 =>
    cond r2.1
      (Option.bind (slices_ContainsFunc_impl_Task_impl_Task_impl_fitsCrew_1 N x0 x1) fun r3 =>
      some ((!r3.1), ()))
      (some (false, ())))
    (some (false, ()))
def impl_fitsCrew_e (N : Nat) : Ent := { ins := [(.sl (.pair (.int .i64) (.pair (.int .i64) (.pair (.sl (.int .i64)) (.sl (.int .i64)))))), (.int .i64)], outs := [.val .bool], F := fun x => impl_fitsCrew N x.1 x.2.1 }
def impl_fitsCrew_T (N : Nat) : Nat → List EntX
  | 37 => [.pl (impl_AreTasks_e N)]
  | 42 => [.pl (impl_areCrew_e N)]
  | 43 => [.pl (slices_ContainsFunc_impl_Task_impl_Task_impl_fitsCrew_1_e N)]
  | _ => []
def impl_fitsCrew_L : Nat → List (Nat × TK) := fun _ => []
theorem impl_fitsCrew_eq (N : Nat) : runF N tt (impl_fitsCrew_T N) impl_fitsCrew_L [(.sl (.pair (.int .i64) (.pair (.int .i64) (.pair (.sl (.int .i64)) (.sl (.int .i64)))))), (.int .i64)] [.val .bool] (bodyOf Try.f28) Try.f28.ntmps [4] = (impl_fitsCrew_e N).F := by
  funext x
  kernel_rfl
theorem impl_fitsCrew_sound (N : Nat) : SoundC Try.prog 28 (impl_fitsCrew_e N) := by
  have h := runF_sound (f := 28) (code := bodyOf Try.f28) (N := N) (T := (impl_fitsCrew_T N)) (L := impl_fitsCrew_L) (ins := [(.sl (.pair (.int .i64) (.pair (.int .i64) (.pair (.sl (.int .i64)) (.sl (.int .i64)))))), (.int .i64)]) (outs := [.val .bool]) (res := [4]) mixed tt_ok ?_ Try.func28 (by kernel_rfl) rfl (by kernel_rfl) (by kernel_rfl) (by decide +kernel)
  · rw [impl_fitsCrew_eq] at h
    exact h
  · intro f e he
    unfold impl_fitsCrew_T at he
    split at he
    · rw [List.mem_singleton.1 he]; exact impl_AreTasks_sound N
    · rw [List.mem_singleton.1 he]; exact impl_areCrew_sound N
    · rw [List.mem_singleton.1 he]; exact slices_ContainsFunc_impl_Task_impl_Task_impl_fitsCrew_1_sound N
    · cases he

/- impl.isAll -/
def impl_isAll (N : Nat) (x0 : List Int) : Option (Bool × Unit) :=
  cond (mkOk (List.length x0 : Int) (List.length x0 : Int))
    (let xs1 := (List.replicate (Int.toNat (List.length x0 : Int)) false : List (Bool))
    loopN (fun (s2 : List (Bool) × Int × Unit) next3 =>
      cond (decide (s2.2.1 < (List.length x0 : Int)))
        (Option.bind (idx x0 s2.2.1) fun v4 =>
        Option.bind (impl_within N v4 0 (w64 ((List.length x0 : Int) - 1))) fun r5 =>
        cond (!r5.1)
          (some (false, ()))
          (cond (inB v4 (List.length s2.1))
            (Option.bind (s2.1[(Int.toNat v4)]?) fun v6 =>
            cond v6
              (some (false, ()))
              (cond (inB v4 (List.length s2.1))
                (let xs7 := (List.set s2.1 (Int.toNat v4) true)
                next3 (xs7, (w64 (s2.2.1 + 1)), ())) none)) none))
        (some (true, ()))) N (xs1, 0, ())) none
def impl_isAll_e (N : Nat) : Ent := { ins := [(.sl (.int .i64))], outs := [.val .bool], F := fun x => impl_isAll N x.1 }
def impl_isAll_T (N : Nat) : Nat → List EntX
  | 34 => [.pl (impl_within_e N)]
  | _ => []
def impl_isAll_L : Nat → List (Nat × TK)
  | 3 => [(3, .own .bool), (11, .v (.int .i64))]
  | _ => []
theorem impl_isAll_eq (N : Nat) : runF N tt (impl_isAll_T N) impl_isAll_L [(.sl (.int .i64))] [.val .bool] (bodyOf Try.f45) Try.f45.ntmps [2] = (impl_isAll_e N).F := by
  funext x
  kernel_rfl
theorem impl_isAll_sound (N : Nat) : SoundC Try.prog 45 (impl_isAll_e N) := by
  have h := runF_sound (f := 45) (code := bodyOf Try.f45) (N := N) (T := (impl_isAll_T N)) (L := impl_isAll_L) (ins := [(.sl (.int .i64))]) (outs := [.val .bool]) (res := [2]) mixed tt_ok ?_ Try.func45 (by kernel_rfl) rfl (by kernel_rfl) (by kernel_rfl) (by decide +kernel)
  · rw [impl_isAll_eq] at h
    exact h
  · intro f e he
    unfold impl_isAll_T at he
    split at he
    · rw [List.mem_singleton.1 he]; exact impl_within_sound N
    · cases he

/- impl.IsOrder -/
def impl_IsOrder (N : Nat) (x0 : List Int) (x1 : Int) : Option (Bool × Unit) :=
  Option.bind (impl_within N x1 1 24) fun r1 =>
  cond (!r1.1)
    (some (false, ()))
    (cond ((List.length x0 : Int) != x1)
      (some (false, ()))
      (Option.bind (impl_isAll N x0) fun r2 =>
      some (r2.1, ())))
def impl_IsOrder_e (N : Nat) : Ent := { ins := [(.sl (.int .i64)), (.int .i64)], outs := [.val .bool], F := fun x => impl_IsOrder N x.1 x.2.1 }
def impl_IsOrder_T (N : Nat) : Nat → List EntX
  | 34 => [.pl (impl_within_e N)]
  | 45 => [.pl (impl_isAll_e N)]
  | _ => []
def impl_IsOrder_L : Nat → List (Nat × TK) := fun _ => []
theorem impl_IsOrder_eq (N : Nat) : runF N tt (impl_IsOrder_T N) impl_IsOrder_L [(.sl (.int .i64)), (.int .i64)] [.val .bool] (bodyOf Try.f29) Try.f29.ntmps [4] = (impl_IsOrder_e N).F := by
  funext x
  kernel_rfl
theorem impl_IsOrder_sound (N : Nat) : SoundC Try.prog 29 (impl_IsOrder_e N) := by
  have h := runF_sound (f := 29) (code := bodyOf Try.f29) (N := N) (T := (impl_IsOrder_T N)) (L := impl_IsOrder_L) (ins := [(.sl (.int .i64)), (.int .i64)]) (outs := [.val .bool]) (res := [4]) mixed tt_ok ?_ Try.func29 (by kernel_rfl) rfl (by kernel_rfl) (by kernel_rfl) (by decide +kernel)
  · rw [impl_IsOrder_eq] at h
    exact h
  · intro f e he
    unfold impl_IsOrder_T at he
    split at he
    · rw [List.mem_singleton.1 he]; exact impl_within_sound N
    · rw [List.mem_singleton.1 he]; exact impl_isAll_sound N
    · cases he

/- math/bits.Mul32 -/
def math_bits_Mul32 (_N : Nat) (x0 : Int) (x1 : Int) : Option (Int × Int × Unit) :=
  some ((IntKind.wrap .u32 (ishr .u64 (IntKind.wrap .u64 ((IntKind.wrap .u64 x0) * (IntKind.wrap .u64 x1))) 32)), (IntKind.wrap .u32 (IntKind.wrap .u64 ((IntKind.wrap .u64 x0) * (IntKind.wrap .u64 x1)))), ())
def math_bits_Mul32_e (N : Nat) : Ent := { ins := [(.int .u32), (.int .u32)], outs := [.val (.int .u32), .val (.int .u32)], F := fun x => math_bits_Mul32 N x.1 x.2.1 }
def math_bits_Mul32_T (_ : Nat) : Nat → List EntX := fun _ => []
def math_bits_Mul32_L : Nat → List (Nat × TK) := fun _ => []
theorem math_bits_Mul32_eq (N : Nat) : runF N tt (math_bits_Mul32_T N) math_bits_Mul32_L [(.int .u32), (.int .u32)] [.val (.int .u32), .val (.int .u32)] (bodyOf Try.f70) Try.f70.ntmps [4, 5] = (math_bits_Mul32_e N).F := by
  funext x
  kernel_rfl
theorem math_bits_Mul32_sound (N : Nat) : SoundC Try.prog 70 (math_bits_Mul32_e N) := by
  have h := runF_sound (f := 70) (code := bodyOf Try.f70) (N := N) (T := (math_bits_Mul32_T N)) (L := math_bits_Mul32_L) (ins := [(.int .u32), (.int .u32)]) (outs := [.val (.int .u32), .val (.int .u32)]) (res := [4, 5]) mixed tt_ok ?_ Try.func70 (by kernel_rfl) rfl (by kernel_rfl) (by kernel_rfl) (by decide +kernel)
  · rw [math_bits_Mul32_eq] at h
    exact h
  · intro f e he
    cases he

/- math/bits.Mul64 -/
def math_bits_Mul64 (_N : Nat) (x0 : Int) (x1 : Int) : Option (Int × Int × Unit) :=
  some ((IntKind.wrap .u64 ((IntKind.wrap .u64 ((IntKind.wrap .u64 ((ishr .u64 x0 32) * (ishr .u64 x1 32))) + (ishr .u64 (IntKind.wrap .u64 ((IntKind.wrap .u64 ((ishr .u64 x0 32) * (ibits .and .u64 x1 4294967295))) + (ishr .u64 (IntKind.wrap .u64 ((ibits .and .u64 x0 4294967295) * (ibits .and .u64 x1 4294967295))) 32))) 32))) + (ishr .u64 (IntKind.wrap .u64 ((ibits .and .u64 (IntKind.wrap .u64 ((IntKind.wrap .u64 ((ishr .u64 x0 32) * (ibits .and .u64 x1 4294967295))) + (ishr .u64 (IntKind.wrap .u64 ((ibits .and .u64 x0 4294967295) * (ibits .and .u64 x1 4294967295))) 32))) 4294967295) + (IntKind.wrap .u64 ((ibits .and .u64 x0 4294967295) * (ishr .u64 x1 32))))) 32))), (IntKind.wrap .u64 (x0 * x1)), ())
def math_bits_Mul64_e (N : Nat) : Ent := { ins := [(.int .u64), (.int .u64)], outs := [.val (.int .u64), .val (.int .u64)], F := fun x => math_bits_Mul64 N x.1 x.2.1 }
def math_bits_Mul64_T (_ : Nat) : Nat → List EntX := fun _ => []
def math_bits_Mul64_L : Nat → List (Nat × TK) := fun _ => []
theorem math_bits_Mul64_eq (N : Nat) : runF N tt (math_bits_Mul64_T N) math_bits_Mul64_L [(.int .u64), (.int .u64)] [.val (.int .u64), .val (.int .u64)] (bodyOf Try.f71) Try.f71.ntmps [4, 5] = (math_bits_Mul64_e N).F := by
  funext x
  kernel_rfl
theorem math_bits_Mul64_sound (N : Nat) : SoundC Try.prog 71 (math_bits_Mul64_e N) := by
  have h := runF_sound (f := 71) (code := bodyOf Try.f71) (N := N) (T := (math_bits_Mul64_T N)) (L := math_bits_Mul64_L) (ins := [(.int .u64), (.int .u64)]) (outs := [.val (.int .u64), .val (.int .u64)]) (res := [4, 5]) mixed tt_ok ?_ Try.func71 (by kernel_rfl) rfl (by kernel_rfl) (by kernel_rfl) (by decide +kernel)
  · rw [math_bits_Mul64_eq] at h
    exact h
  · intro f e he
    cases he

/- math/bits.Mul -/
def math_bits_Mul (N : Nat) (x0 : Int) (x1 : Int) : Option (Int × Int × Unit) :=
  Option.bind (math_bits_Mul64 N x0 x1) fun r1 =>
  some (r1.1, r1.2.1, ())
def math_bits_Mul_e (N : Nat) : Ent := { ins := [(.int .u64), (.int .u64)], outs := [.val (.int .u64), .val (.int .u64)], F := fun x => math_bits_Mul N x.1 x.2.1 }
def math_bits_Mul_T (N : Nat) : Nat → List EntX
  | 71 => [.pl (math_bits_Mul64_e N)]
  | _ => []
def math_bits_Mul_L : Nat → List (Nat × TK) := fun _ => []
theorem math_bits_Mul_eq (N : Nat) : runF N tt (math_bits_Mul_T N) math_bits_Mul_L [(.int .u64), (.int .u64)] [.val (.int .u64), .val (.int .u64)] (bodyOf Try.f68) Try.f68.ntmps [4, 5] = (math_bits_Mul_e N).F := by
  funext x
  kernel_rfl
theorem math_bits_Mul_sound (N : Nat) : SoundC Try.prog 68 (math_bits_Mul_e N) := by
  have h := runF_sound (f := 68) (code := bodyOf Try.f68) (N := N) (T := (math_bits_Mul_T N)) (L := math_bits_Mul_L) (ins := [(.int .u64), (.int .u64)]) (outs := [.val (.int .u64), .val (.int .u64)]) (res := [4, 5]) mixed tt_ok ?_ Try.func68 (by kernel_rfl) rfl (by kernel_rfl) (by kernel_rfl) (by decide +kernel)
  · rw [math_bits_Mul_eq] at h
    exact h
  · intro f e he
    unfold math_bits_Mul_T at he
    split at he
    · rw [List.mem_singleton.1 he]; exact math_bits_Mul64_sound N
    · cases he

/- slices.Repeat[[]int64,int64] -/
def slices_Repeat_int64_int64 (N : Nat) (x0 : List Int) (x1 : Int) : Option (List (Int) × Unit) :=
  cond (decide (x1 < 0))
    (none)
    (Option.bind (math_bits_Mul N (IntKind.wrap .u64 (List.length x0 : Int)) (IntKind.wrap .u64 x1)) fun r1 =>
    cond (decide (r1.1 > 0))
      (none)
      (cond (decide (r1.2.1 > 9223372036854775807))
        (none)
        (cond (mkOk (IntKind.wrap .i64 r1.2.1) (IntKind.wrap .i64 r1.2.1))
          (let xs2 := (List.replicate (Int.toNat (IntKind.wrap .i64 r1.2.1)) (0 : Int) : List (Int))
          let xs3 := (copyL xs2 0 (copyN (List.length xs2) x0) x0)
          loopN (fun (s4 : List (Int) × Int × Unit) next5 =>
            cond (decide (s4.2.1 < (List.length s4.1 : Int)))
              (cond (decide (0 ≤ s4.2.1) && decide (s4.2.1 ≤ (List.length s4.1 : Int)) && decide ((List.length s4.1 : Int) ≤ (List.length s4.1 : Int)))
                (cond (decide (0 ≤ (0 : Int)) && decide ((0 : Int) ≤ s4.2.1) && decide (s4.2.1 ≤ (List.length s4.1 : Int)))
                  (let xs6 := (copyL s4.1 (Int.toNat s4.2.1) (copyN (Int.toNat (List.length s4.1 : Int) - Int.toNat s4.2.1) ((s4.1.drop (Int.toNat (0 : Int))).take (Int.toNat s4.2.1 - Int.toNat (0 : Int)))) ((s4.1.drop (Int.toNat (0 : Int))).take (Int.toNat s4.2.1 - Int.toNat (0 : Int))))
                  next5 (xs6, (w64 (s4.2.1 + ((copyN (Int.toNat (List.length s4.1 : Int) - Int.toNat s4.2.1) ((s4.1.drop (Int.toNat (0 : Int))).take (Int.toNat s4.2.1 - Int.toNat (0 : Int)))) : Int))), ())) none) none)
              (some (s4.1, ()))) N (xs3, ((copyN (List.length xs2) x0) : Int), ())) none)))
def slices_Repeat_int64_int64_e (N : Nat) : Ent := { ins := [(.sl (.int .i64)), (.int .i64)], outs := [.own (.int .i64)], F := fun x => slices_Repeat_int64_int64 N x.1 x.2.1 }
def slices_Repeat_int64_int64_T (N : Nat) : Nat → List EntX
  | 68 => [.pl (math_bits_Mul_e N)]
  | _ => []
def slices_Repeat_int64_int64_L : Nat → List (Nat × TK)
  | 8 => [(7, .own (.int .i64)), (8, .v (.int .i64))]
  | _ => []
theorem slices_Repeat_int64_int64_eq (N : Nat) : runF N tt (slices_Repeat_int64_int64_T N) slices_Repeat_int64_int64_L [(.sl (.int .i64)), (.int .i64)] [.own (.int .i64)] (bodyOf Try.f62) Try.f62.ntmps [4] = (slices_Repeat_int64_int64_e N).F := by
  funext x
  kernel_rfl
theorem slices_Repeat_int64_int64_sound (N : Nat) : SoundC Try.prog 62 (slices_Repeat_int64_int64_e N) := by
  have h := runF_sound (f := 62) (code := bodyOf Try.f62) (N := N) (T := (slices_Repeat_int64_int64_T N)) (L := slices_Repeat_int64_int64_L) (ins := [(.sl (.int .i64)), (.int .i64)]) (outs := [.own (.int .i64)]) (res := [4]) mixed tt_ok ?_ Try.func62 (by kernel_rfl) rfl (by kernel_rfl) (by kernel_rfl) (by decide +kernel)
  · rw [slices_Repeat_int64_int64_eq] at h
    exact h
  · intro f e he
    unfold slices_Repeat_int64_int64_T at he
    split at he
    · rw [List.mem_singleton.1 he]; exact math_bits_Mul_sound N
    · cases he

/- impl.none -/
def impl_none (N : Nat) (x0 : Int) : Option (List (Int) × Unit) :=
  Option.bind (slices_Repeat_int64_int64 N ([(-1)] : List Int) x0) fun r1 =>
  some (r1.1, ())
def impl_none_e (N : Nat) : Ent := { ins := [(.int .i64)], outs := [.own (.int .i64)], F := fun x => impl_none N x.1 }
def impl_none_T (N : Nat) : Nat → List EntX
  | 62 => [.pl (slices_Repeat_int64_int64_e N)]
  | _ => []
def impl_none_L : Nat → List (Nat × TK) := fun _ => []
theorem impl_none_eq (N : Nat) : runF N tt (impl_none_T N) impl_none_L [(.int .i64)] [.own (.int .i64)] (bodyOf Try.f46) Try.f46.ntmps [2] = (impl_none_e N).F := by
  funext x
  kernel_rfl
theorem impl_none_sound (N : Nat) : SoundC Try.prog 46 (impl_none_e N) := by
  have h := runF_sound (f := 46) (code := bodyOf Try.f46) (N := N) (T := (impl_none_T N)) (L := impl_none_L) (ins := [(.int .i64)]) (outs := [.own (.int .i64)]) (res := [2]) mixed tt_ok ?_ Try.func46 (by kernel_rfl) rfl (by kernel_rfl) (by kernel_rfl) (by decide +kernel)
  · rw [impl_none_eq] at h
    exact h
  · intro f e he
    unfold impl_none_T at he
    split at he
    · rw [List.mem_singleton.1 he]; exact slices_Repeat_int64_int64_sound N
    · cases he

/- (*impl.crewTimes).fit -/
def impl_crewTimes_fit (N : Nat) (x0 : List Int) (c0 : Int) (x1 : Int × Int × (List Int) × List Int) (x2 : Int) : Option ((List Int × Int) × (Int × Unit)) :=
  loopN (fun (s1 : (List Int × Int) × Int × Unit) next2 =>
    loopN (fun (s3 : (List Int × Int) × Unit) next4 =>
      cond (decide ((List.length s3.1.1 : Int) < (w64 (s1.2.1 + x1.1))))
        (cond (appOk (List.length s3.1.1) (List.length ([0] : List Int)))
          (let xs5 := (s3.1.1 ++ ([0] : List Int))
          next4 ((xs5, s3.1.2), ())) none)
        (loopN (fun (s6 : Int × Int × Unit) next7 =>
          cond (decide (s6.2.1 < (w64 (s1.2.1 + x1.1))))
            (cond (inB s6.2.1 (List.length s3.1.1))
              (Option.bind (s3.1.1[(Int.toNat s6.2.1)]?) fun v8 =>
              cond (decide ((w64 (v8 + x1.2.1)) > s3.1.2))
                (next7 (s6.2.1, (w64 (s6.2.1 + 1)), ()))
                (next7 (s6.1, (w64 (s6.2.1 + 1)), ()))) none)
            (cond (decide (s6.1 < 0))
              (loopN (fun (s9 : (List Int × Int) × Int × Unit) next10 =>
                cond (decide (s9.2.1 < (w64 (s1.2.1 + x1.1))))
                  (cond (inB s9.2.1 (List.length s9.1.1))
                    (Option.bind (s9.1.1[(Int.toNat s9.2.1)]?) fun v11 =>
                    cond (inB s9.2.1 (List.length s9.1.1))
                      (let xs12 := (List.set s9.1.1 (Int.toNat s9.2.1) (w64 (v11 + x1.2.1)))
                      next10 ((xs12, s9.1.2), (w64 (s9.2.1 + 1)), ())) none) none)
                  (some ((s9.1.1, s9.1.2), (s1.2.1, ())))) N ((s3.1.1, s3.1.2), s1.2.1, ()))
              (next2 ((s3.1.1, s3.1.2), (w64 (s6.1 + 1)), ())))) N ((-1), s1.2.1, ()))) N ((s1.1.1, s1.1.2), ())) N ((x0, c0), x2, ())
def impl_crewTimes_fit_e (N : Nat) : EntB := { ins := [(.pair (.int .i64) (.pair (.int .i64) (.pair (.sl (.int .i64)) (.sl (.int .i64))))), (.int .i64)], outs := [.val (.int .i64)], F := fun xs c x => impl_crewTimes_fit N xs c x.1 x.2.1 }
def impl_crewTimes_fit_T (_ : Nat) : Nat → List EntX := fun _ => []
def impl_crewTimes_fit_L : Nat → List (Nat × TK)
  | 1 => [(0, .bx)]
  | 5 => [(7, .v (.int .i64)), (8, .v (.int .i64))]
  | 12 => [(0, .bx), (9, .v (.int .i64))]
  | 100001 => [(0, .bx), (2, .v (.int .i64))]
  | _ => []
theorem impl_crewTimes_fit_eq (N : Nat) : runB N tt (impl_crewTimes_fit_T N) impl_crewTimes_fit_L [(.pair (.int .i64) (.pair (.int .i64) (.pair (.sl (.int .i64)) (.sl (.int .i64))))), (.int .i64)] [.val (.int .i64)] (bodyOf Try.f47) Try.f47.ntmps [6] = (impl_crewTimes_fit_e N).F := by
  funext xs c x
  kernel_rfl
theorem impl_crewTimes_fit_sound (N : Nat) : SoundB Try.prog 47 (impl_crewTimes_fit_e N) := by
  have h := runB_sound (f := 47) (code := bodyOf Try.f47) (N := N) (T := (impl_crewTimes_fit_T N)) (L := impl_crewTimes_fit_L) (ins := [(.pair (.int .i64) (.pair (.int .i64) (.pair (.sl (.int .i64)) (.sl (.int .i64))))), (.int .i64)]) (outs := [.val (.int .i64)]) (res := [6]) mixed tt_ok ?_ Try.func47 (by kernel_rfl) rfl (by kernel_rfl) (by kernel_rfl) (by decide +kernel)
  · rw [impl_crewTimes_fit_eq] at h
    exact h
  · intro f e he
    cases he

/- impl.earliest -/
def impl_earliest (N : Nat) (x0 : List (Int × Int × (List Int) × List Int)) (x1 : List Int) (x2 : Int) : Option (Int × Unit) :=
  Option.bind (idx x0 x2) fun v1 =>
  loopN (fun (s2 : Int × Int × Unit) next3 =>
    cond (decide (s2.2.1 < (List.length v1.2.2.1 : Int)))
      (Option.bind (idx v1.2.2.1 s2.2.1) fun v4 =>
      Option.bind (idx x1 v4) fun v5 =>
      Option.bind (idx x0 v4) fun v6 =>
      Option.bind (idx x0 x2) fun v7 =>
      Option.bind (idx v7.2.2.2 s2.2.1) fun v8 =>
      next3 ((imax s2.1 (w64 ((w64 (v5 + v6.1)) + v8))), (w64 (s2.2.1 + 1)), ()))
      (some (s2.1, ()))) N (0, 0, ())
def impl_earliest_e (N : Nat) : Ent := { ins := [(.sl (.pair (.int .i64) (.pair (.int .i64) (.pair (.sl (.int .i64)) (.sl (.int .i64)))))), (.sl (.int .i64)), (.int .i64)], outs := [.val (.int .i64)], F := fun x => impl_earliest N x.1 x.2.1 x.2.2.1 }
def impl_earliest_T (_ : Nat) : Nat → List EntX := fun _ => []
def impl_earliest_L : Nat → List (Nat × TK)
  | 3 => [(7, .v (.int .i64)), (16, .v (.int .i64))]
  | _ => []
theorem impl_earliest_eq (N : Nat) : runF N tt (impl_earliest_T N) impl_earliest_L [(.sl (.pair (.int .i64) (.pair (.int .i64) (.pair (.sl (.int .i64)) (.sl (.int .i64)))))), (.sl (.int .i64)), (.int .i64)] [.val (.int .i64)] (bodyOf Try.f48) Try.f48.ntmps [6] = (impl_earliest_e N).F := by
  funext x
  kernel_rfl
theorem impl_earliest_sound (N : Nat) : SoundC Try.prog 48 (impl_earliest_e N) := by
  have h := runF_sound (f := 48) (code := bodyOf Try.f48) (N := N) (T := (impl_earliest_T N)) (L := impl_earliest_L) (ins := [(.sl (.pair (.int .i64) (.pair (.int .i64) (.pair (.sl (.int .i64)) (.sl (.int .i64)))))), (.sl (.int .i64)), (.int .i64)]) (outs := [.val (.int .i64)]) (res := [6]) mixed tt_ok ?_ Try.func48 (by kernel_rfl) rfl (by kernel_rfl) (by kernel_rfl) (by decide +kernel)
  · rw [impl_earliest_eq] at h
    exact h
  · intro f e he
    cases he

/- impl.lastEnd -/
def impl_lastEnd (N : Nat) (x0 : List (Int × Int × (List Int) × List Int)) (x1 : List Int) : Option (Int × Unit) :=
  loopN (fun (s1 : Int × Int × Unit) next2 =>
    cond (decide (s1.2.1 < (List.length x0 : Int)))
      (Option.bind (idx x0 s1.2.1) fun v3 =>
      Option.bind (idx x1 s1.2.1) fun v4 =>
      next2 ((imax s1.1 (w64 (v4 + v3.1))), (w64 (s1.2.1 + 1)), ()))
      (some (s1.1, ()))) N (0, 0, ())
def impl_lastEnd_e (N : Nat) : Ent := { ins := [(.sl (.pair (.int .i64) (.pair (.int .i64) (.pair (.sl (.int .i64)) (.sl (.int .i64)))))), (.sl (.int .i64))], outs := [.val (.int .i64)], F := fun x => impl_lastEnd N x.1 x.2.1 }
def impl_lastEnd_T (_ : Nat) : Nat → List EntX := fun _ => []
def impl_lastEnd_L : Nat → List (Nat × TK)
  | 3 => [(5, .v (.int .i64)), (10, .v (.int .i64))]
  | _ => []
theorem impl_lastEnd_eq (N : Nat) : runF N tt (impl_lastEnd_T N) impl_lastEnd_L [(.sl (.pair (.int .i64) (.pair (.int .i64) (.pair (.sl (.int .i64)) (.sl (.int .i64)))))), (.sl (.int .i64))] [.val (.int .i64)] (bodyOf Try.f49) Try.f49.ntmps [4] = (impl_lastEnd_e N).F := by
  funext x
  kernel_rfl
theorem impl_lastEnd_sound (N : Nat) : SoundC Try.prog 49 (impl_lastEnd_e N) := by
  have h := runF_sound (f := 49) (code := bodyOf Try.f49) (N := N) (T := (impl_lastEnd_T N)) (L := impl_lastEnd_L) (ins := [(.sl (.pair (.int .i64) (.pair (.int .i64) (.pair (.sl (.int .i64)) (.sl (.int .i64)))))), (.sl (.int .i64))]) (outs := [.val (.int .i64)]) (res := [4]) mixed tt_ok ?_ Try.func49 (by kernel_rfl) rfl (by kernel_rfl) (by kernel_rfl) (by decide +kernel)
  · rw [impl_lastEnd_eq] at h
    exact h
  · intro f e he
    cases he

/- impl.orderPlan -/
def impl_orderPlan (N : Nat) (x0 : List (Int × Int × (List Int) × List Int)) (x1 : List Int) (x2 : Int) : Option (List (Int) × Int × Bool × Unit) :=
  Option.bind (impl_none N (List.length x0 : Int)) fun r1 =>
  loopN (fun (s2 : List (Int) × (List Int × Int) × Int × Unit) next3 =>
    cond (decide (s2.2.2.1 < (List.length x1 : Int)))
      (Option.bind (idx x1 s2.2.2.1) fun v4 =>
      Option.bind (idx x0 v4) fun v5 =>
      loopN (fun (s6 : Int × Unit) next7 =>
        cond (decide (s6.1 < (List.length v5.2.2.1 : Int)))
          (Option.bind (idx v5.2.2.1 s6.1) fun v8 =>
          cond (inB v8 (List.length s2.1))
            (Option.bind (s2.1[(Int.toNat v8)]?) fun v9 =>
            cond (decide (v9 < 0))
              (some ([], 0, false, ()))
              (next7 ((w64 (s6.1 + 1)), ()))) none)
          (Option.bind (idx x0 v4) fun v10 =>
          Option.bind (impl_earliest N x0 s2.1 v4) fun r11 =>
          Option.bind (impl_crewTimes_fit N s2.2.1.1 s2.2.1.2 v10 r11.1) fun r12 =>
          cond (inB v4 (List.length s2.1))
            (let xs13 := (List.set s2.1 (Int.toNat v4) r12.2.1)
            next3 (xs13, (r12.1.1, r12.1.2), (w64 (s2.2.2.1 + 1)), ())) none)) N (0, ()))
      (Option.bind (impl_lastEnd N x0 s2.1) fun r14 =>
      some (s2.1, r14.1, true, ()))) N (r1.1, ([], x2), 0, ())
def impl_orderPlan_e (N : Nat) : Ent := { ins := [(.sl (.pair (.int .i64) (.pair (.int .i64) (.pair (.sl (.int .i64)) (.sl (.int .i64)))))), (.sl (.int .i64)), (.int .i64)], outs := [.own (.int .i64), .val (.int .i64), .val .bool], F := fun x => impl_orderPlan N x.1 x.2.1 x.2.2.1 }
def impl_orderPlan_T (N : Nat) : Nat → List EntX
  | 46 => [.pl (impl_none_e N)]
  | 47 => [.bm (impl_crewTimes_fit_e N)]
  | 48 => [.pl (impl_earliest_e N)]
  | 49 => [.pl (impl_lastEnd_e N)]
  | _ => []
def impl_orderPlan_L : Nat → List (Nat × TK)
  | 4 => [(9, .own (.int .i64)), (10, .bx), (22, .v (.int .i64))]
  | 7 => [(32, .v (.int .i64))]
  | _ => []
theorem impl_orderPlan_eq (N : Nat) : runF N tt (impl_orderPlan_T N) impl_orderPlan_L [(.sl (.pair (.int .i64) (.pair (.int .i64) (.pair (.sl (.int .i64)) (.sl (.int .i64)))))), (.sl (.int .i64)), (.int .i64)] [.own (.int .i64), .val (.int .i64), .val .bool] (bodyOf Try.f30) Try.f30.ntmps [6, 7, 8] = (impl_orderPlan_e N).F := by
  funext x
  kernel_rfl
theorem impl_orderPlan_sound (N : Nat) : SoundC Try.prog 30 (impl_orderPlan_e N) := by
  have h := runF_sound (f := 30) (code := bodyOf Try.f30) (N := N) (T := (impl_orderPlan_T N)) (L := impl_orderPlan_L) (ins := [(.sl (.pair (.int .i64) (.pair (.int .i64) (.pair (.sl (.int .i64)) (.sl (.int .i64)))))), (.sl (.int .i64)), (.int .i64)]) (outs := [.own (.int .i64), .val (.int .i64), .val .bool]) (res := [6, 7, 8]) mixed tt_ok ?_ Try.func30 (by kernel_rfl) rfl (by kernel_rfl) (by kernel_rfl) (by decide +kernel)
  · rw [impl_orderPlan_eq] at h
    exact h
  · intro f e he
    unfold impl_orderPlan_T at he
    split at he
    · rw [List.mem_singleton.1 he]; exact impl_none_sound N
    · rw [List.mem_singleton.1 he]; exact impl_crewTimes_fit_sound N
    · rw [List.mem_singleton.1 he]; exact impl_earliest_sound N
    · rw [List.mem_singleton.1 he]; exact impl_lastEnd_sound N
    · cases he

/- impl.OrderPlan -/
def impl_OrderPlan (N : Nat) (x0 : List (Int × Int × (List Int) × List Int)) (x1 : List Int) (x2 : Int) : Option (List (Int) × Int × Bool × Unit) :=
  Option.bind (impl_fitsCrew N x0 x2) fun r1 =>
  cond (!r1.1)
    (some ([], 0, false, ()))
    (Option.bind (impl_IsOrder N x1 (List.length x0 : Int)) fun r2 =>
    cond (!r2.1)
      (some ([], 0, false, ()))
      (Option.bind (impl_orderPlan N x0 x1 x2) fun r3 =>
      some (r3.1, r3.2.1, r3.2.2.1, ())))
def impl_OrderPlan_e (N : Nat) : Ent := { ins := [(.sl (.pair (.int .i64) (.pair (.int .i64) (.pair (.sl (.int .i64)) (.sl (.int .i64)))))), (.sl (.int .i64)), (.int .i64)], outs := [.own (.int .i64), .val (.int .i64), .val .bool], F := fun x => impl_OrderPlan N x.1 x.2.1 x.2.2.1 }
def impl_OrderPlan_T (N : Nat) : Nat → List EntX
  | 28 => [.pl (impl_fitsCrew_e N)]
  | 29 => [.pl (impl_IsOrder_e N)]
  | 30 => [.pl (impl_orderPlan_e N)]
  | _ => []
def impl_OrderPlan_L : Nat → List (Nat × TK) := fun _ => []
theorem impl_OrderPlan_eq (N : Nat) : runF N tt (impl_OrderPlan_T N) impl_OrderPlan_L [(.sl (.pair (.int .i64) (.pair (.int .i64) (.pair (.sl (.int .i64)) (.sl (.int .i64)))))), (.sl (.int .i64)), (.int .i64)] [.own (.int .i64), .val (.int .i64), .val .bool] (bodyOf Try.f11) Try.f11.ntmps [6, 7, 8] = (impl_OrderPlan_e N).F := by
  funext x
  kernel_rfl
theorem impl_OrderPlan_sound (N : Nat) : SoundC Try.prog 11 (impl_OrderPlan_e N) := by
  have h := runF_sound (f := 11) (code := bodyOf Try.f11) (N := N) (T := (impl_OrderPlan_T N)) (L := impl_OrderPlan_L) (ins := [(.sl (.pair (.int .i64) (.pair (.int .i64) (.pair (.sl (.int .i64)) (.sl (.int .i64)))))), (.sl (.int .i64)), (.int .i64)]) (outs := [.own (.int .i64), .val (.int .i64), .val .bool]) (res := [6, 7, 8]) mixed tt_ok ?_ Try.func11 (by kernel_rfl) rfl (by kernel_rfl) (by kernel_rfl) (by decide +kernel)
  · rw [impl_OrderPlan_eq] at h
    exact h
  · intro f e he
    unfold impl_OrderPlan_T at he
    split at he
    · rw [List.mem_singleton.1 he]; exact impl_fitsCrew_sound N
    · rw [List.mem_singleton.1 he]; exact impl_IsOrder_sound N
    · rw [List.mem_singleton.1 he]; exact impl_orderPlan_sound N
    · cases he

/- laws.eqInt64S -/
def laws_eqInt64S (N : Nat) (x0 : List Int) (x1 : List Int) : Option (Bool × Unit) :=
  cond ((List.length x0 : Int) != (List.length x1 : Int))
    (some (false, ()))
    (loopN (fun (s1 : Int × Unit) next2 =>
      cond (decide (s1.1 < (List.length x0 : Int)))
        (Option.bind (idx x0 s1.1) fun v3 =>
        Option.bind (idx x1 s1.1) fun v4 =>
        cond (v3 != v4)
          (some (false, ()))
          (next2 ((w64 (s1.1 + 1)), ())))
        (some (true, ()))) N (0, ()))
def laws_eqInt64S_e (N : Nat) : Ent := { ins := [(.sl (.int .i64)), (.sl (.int .i64))], outs := [.val .bool], F := fun x => laws_eqInt64S N x.1 x.2.1 }
def laws_eqInt64S_T (_ : Nat) : Nat → List EntX := fun _ => []
def laws_eqInt64S_L : Nat → List (Nat × TK)
  | 4 => [(5, .v (.int .i64))]
  | _ => []
theorem laws_eqInt64S_eq (N : Nat) : runF N tt (laws_eqInt64S_T N) laws_eqInt64S_L [(.sl (.int .i64)), (.sl (.int .i64))] [.val .bool] (bodyOf Try.f12) Try.f12.ntmps [4] = (laws_eqInt64S_e N).F := by
  funext x
  kernel_rfl
theorem laws_eqInt64S_sound (N : Nat) : SoundC Try.prog 12 (laws_eqInt64S_e N) := by
  have h := runF_sound (f := 12) (code := bodyOf Try.f12) (N := N) (T := (laws_eqInt64S_T N)) (L := laws_eqInt64S_L) (ins := [(.sl (.int .i64)), (.sl (.int .i64))]) (outs := [.val .bool]) (res := [4]) mixed tt_ok ?_ Try.func12 (by kernel_rfl) rfl (by kernel_rfl) (by kernel_rfl) (by decide +kernel)
  · rw [laws_eqInt64S_eq] at h
    exact h
  · intro f e he
    cases he

/- laws.eqTask -/
def laws_eqTask (N : Nat) (x0 : Int × Int × (List Int) × List Int) (x1 : Int × Int × (List Int) × List Int) : Option (Bool × Unit) :=
  cond (x0.1 != x1.1)
    (some (false, ()))
    (cond (x0.2.1 != x1.2.1)
      (some (false, ()))
      (Option.bind (laws_eqInt64S N x0.2.2.1 x1.2.2.1) fun r1 =>
      cond (!r1.1)
        (some (false, ()))
        (Option.bind (laws_eqInt64S N x0.2.2.2 x1.2.2.2) fun r2 =>
        cond (!r2.1)
          (some (false, ()))
          (some (true, ())))))
def laws_eqTask_e (N : Nat) : Ent := { ins := [(.pair (.int .i64) (.pair (.int .i64) (.pair (.sl (.int .i64)) (.sl (.int .i64))))), (.pair (.int .i64) (.pair (.int .i64) (.pair (.sl (.int .i64)) (.sl (.int .i64)))))], outs := [.val .bool], F := fun x => laws_eqTask N x.1 x.2.1 }
def laws_eqTask_T (N : Nat) : Nat → List EntX
  | 12 => [.pl (laws_eqInt64S_e N)]
  | _ => []
def laws_eqTask_L : Nat → List (Nat × TK) := fun _ => []
theorem laws_eqTask_eq (N : Nat) : runF N tt (laws_eqTask_T N) laws_eqTask_L [(.pair (.int .i64) (.pair (.int .i64) (.pair (.sl (.int .i64)) (.sl (.int .i64))))), (.pair (.int .i64) (.pair (.int .i64) (.pair (.sl (.int .i64)) (.sl (.int .i64)))))] [.val .bool] (bodyOf Try.f31) Try.f31.ntmps [4] = (laws_eqTask_e N).F := by
  funext x
  kernel_rfl
theorem laws_eqTask_sound (N : Nat) : SoundC Try.prog 31 (laws_eqTask_e N) := by
  have h := runF_sound (f := 31) (code := bodyOf Try.f31) (N := N) (T := (laws_eqTask_T N)) (L := laws_eqTask_L) (ins := [(.pair (.int .i64) (.pair (.int .i64) (.pair (.sl (.int .i64)) (.sl (.int .i64))))), (.pair (.int .i64) (.pair (.int .i64) (.pair (.sl (.int .i64)) (.sl (.int .i64)))))]) (outs := [.val .bool]) (res := [4]) mixed tt_ok ?_ Try.func31 (by kernel_rfl) rfl (by kernel_rfl) (by kernel_rfl) (by decide +kernel)
  · rw [laws_eqTask_eq] at h
    exact h
  · intro f e he
    unfold laws_eqTask_T at he
    split at he
    · rw [List.mem_singleton.1 he]; exact laws_eqInt64S_sound N
    · cases he

/- laws.eqTaskS -/
def laws_eqTaskS (N : Nat) (x0 : List (Int × Int × (List Int) × List Int)) (x1 : List (Int × Int × (List Int) × List Int)) : Option (Bool × Unit) :=
  cond ((List.length x0 : Int) != (List.length x1 : Int))
    (some (false, ()))
    (loopN (fun (s1 : Int × Unit) next2 =>
      cond (decide (s1.1 < (List.length x0 : Int)))
        (Option.bind (idx x0 s1.1) fun v3 =>
        Option.bind (idx x1 s1.1) fun v4 =>
        Option.bind (laws_eqTask N v3 v4) fun r5 =>
        cond (!r5.1)
          (some (false, ()))
          (next2 ((w64 (s1.1 + 1)), ())))
        (some (true, ()))) N (0, ()))
def laws_eqTaskS_e (N : Nat) : Ent := { ins := [(.sl (.pair (.int .i64) (.pair (.int .i64) (.pair (.sl (.int .i64)) (.sl (.int .i64)))))), (.sl (.pair (.int .i64) (.pair (.int .i64) (.pair (.sl (.int .i64)) (.sl (.int .i64))))))], outs := [.val .bool], F := fun x => laws_eqTaskS N x.1 x.2.1 }
def laws_eqTaskS_T (N : Nat) : Nat → List EntX
  | 31 => [.pl (laws_eqTask_e N)]
  | _ => []
def laws_eqTaskS_L : Nat → List (Nat × TK)
  | 4 => [(5, .v (.int .i64))]
  | _ => []
theorem laws_eqTaskS_eq (N : Nat) : runF N tt (laws_eqTaskS_T N) laws_eqTaskS_L [(.sl (.pair (.int .i64) (.pair (.int .i64) (.pair (.sl (.int .i64)) (.sl (.int .i64)))))), (.sl (.pair (.int .i64) (.pair (.int .i64) (.pair (.sl (.int .i64)) (.sl (.int .i64))))))] [.val .bool] (bodyOf Try.f13) Try.f13.ntmps [4] = (laws_eqTaskS_e N).F := by
  funext x
  kernel_rfl
theorem laws_eqTaskS_sound (N : Nat) : SoundC Try.prog 13 (laws_eqTaskS_e N) := by
  have h := runF_sound (f := 13) (code := bodyOf Try.f13) (N := N) (T := (laws_eqTaskS_T N)) (L := laws_eqTaskS_L) (ins := [(.sl (.pair (.int .i64) (.pair (.int .i64) (.pair (.sl (.int .i64)) (.sl (.int .i64)))))), (.sl (.pair (.int .i64) (.pair (.int .i64) (.pair (.sl (.int .i64)) (.sl (.int .i64))))))]) (outs := [.val .bool]) (res := [4]) mixed tt_ok ?_ Try.func13 (by kernel_rfl) rfl (by kernel_rfl) (by kernel_rfl) (by decide +kernel)
  · rw [laws_eqTaskS_eq] at h
    exact h
  · intro f e he
    unfold laws_eqTaskS_T at he
    split at he
    · rw [List.mem_singleton.1 he]; exact laws_eqTask_sound N
    · cases he

/- laws.markInt64S -/
def laws_markInt64S (N : Nat) (x0 : List Int) (x1 : Int) : Option (List (Int) × (Int × Unit)) :=
  loopN (fun (s1 : List (Int) × Int × Int × Unit) next2 =>
    cond (decide (s1.2.2.1 < (List.length s1.1 : Int)))
      (cond (inB s1.2.2.1 (List.length s1.1))
        (let xs3 := (List.set s1.1 (Int.toNat s1.2.2.1) s1.2.1)
        next2 (xs3, (w64 (s1.2.1 + 1)), (w64 (s1.2.2.1 + 1)), ())) none)
      (some (s1.1, (s1.2.1, ())))) N (x0, x1, 0, ())
def laws_markInt64S_e (N : Nat) : EntM := { io := (.int .i64), ins := [(.int .i64)], outs := [.val (.int .i64)], F := fun xs x => laws_markInt64S N xs x.1 }
def laws_markInt64S_T (_ : Nat) : Nat → List EntX := fun _ => []
def laws_markInt64S_L : Nat → List (Nat × TK)
  | 2 => [(0, .own (.int .i64)), (1, .v (.int .i64)), (5, .v (.int .i64))]
  | _ => []
theorem laws_markInt64S_eq (N : Nat) : runM N tt (laws_markInt64S_T N) laws_markInt64S_L (.int .i64) [(.int .i64)] [.val (.int .i64)] (bodyOf Try.f15) Try.f15.ntmps [4] = (laws_markInt64S_e N).F := by
  funext xs x
  kernel_rfl
theorem laws_markInt64S_sound (N : Nat) : SoundM Try.prog 15 (laws_markInt64S_e N) := by
  have h := runM_sound (f := 15) (code := bodyOf Try.f15) (N := N) (T := (laws_markInt64S_T N)) (L := laws_markInt64S_L) (io := (.int .i64)) (ins := [(.int .i64)]) (outs := [.val (.int .i64)]) (res := [4]) mixed tt_ok ?_ Try.func15 (by kernel_rfl) rfl (by kernel_rfl) (by kernel_rfl) (by decide +kernel)
  · rw [laws_markInt64S_eq] at h
    exact h
  · intro f e he
    cases he

/- laws.heldInt64S -/
def laws_heldInt64S (N : Nat) (x0 : List Int) (x1 : Int) : Option (Int × Unit) :=
  loopN (fun (s1 : Int × Int × Unit) next2 =>
    cond (decide (s1.2.1 < (List.length x0 : Int)))
      (Option.bind (idx x0 s1.2.1) fun v3 =>
      cond (v3 != s1.1)
        (some ((-1), ()))
        (next2 ((w64 (s1.1 + 1)), (w64 (s1.2.1 + 1)), ())))
      (some (s1.1, ()))) N (x1, 0, ())
def laws_heldInt64S_e (N : Nat) : Ent := { ins := [(.sl (.int .i64)), (.int .i64)], outs := [.val (.int .i64)], F := fun x => laws_heldInt64S N x.1 x.2.1 }
def laws_heldInt64S_T (_ : Nat) : Nat → List EntX := fun _ => []
def laws_heldInt64S_L : Nat → List (Nat × TK)
  | 2 => [(1, .v (.int .i64)), (5, .v (.int .i64))]
  | _ => []
theorem laws_heldInt64S_eq (N : Nat) : runF N tt (laws_heldInt64S_T N) laws_heldInt64S_L [(.sl (.int .i64)), (.int .i64)] [.val (.int .i64)] (bodyOf Try.f16) Try.f16.ntmps [4] = (laws_heldInt64S_e N).F := by
  funext x
  kernel_rfl
theorem laws_heldInt64S_sound (N : Nat) : SoundC Try.prog 16 (laws_heldInt64S_e N) := by
  have h := runF_sound (f := 16) (code := bodyOf Try.f16) (N := N) (T := (laws_heldInt64S_T N)) (L := laws_heldInt64S_L) (ins := [(.sl (.int .i64)), (.int .i64)]) (outs := [.val (.int .i64)]) (res := [4]) mixed tt_ok ?_ Try.func16 (by kernel_rfl) rfl (by kernel_rfl) (by kernel_rfl) (by decide +kernel)
  · rw [laws_heldInt64S_eq] at h
    exact h
  · intro f e he
    cases he

/- laws.FnExactOrderPlan -/
def laws_FnExactOrderPlan (N : Nat) (x0 : List (Int × Int × (List Int) × List Int)) (x1 : List Int) (x2 : Int) : Option (Bool × Unit) :=
  cond (decide ((List.length x1 : Int) > 1048576))
    (some (true, ()))
    (Option.bind (laws_szTaskS N x0 1048576) fun r1 =>
    cond (decide (r1.1 < 0))
      (some (true, ()))
      (Option.bind (laws_toTaskS N x0) fun r2 =>
      Option.bind (laws_toInt64S N x1) fun r3 =>
      Option.bind (spec_OrderPlan N r2.1 r3.1 x2) fun r4 =>
      Option.bind (laws_toTaskS N x0) fun r5 =>
      Option.bind (laws_toInt64S N x1) fun r6 =>
      Option.bind (impl_OrderPlan N r5.1 r6.1 x2) fun r7 =>
      Option.bind (laws_eqInt64S N r7.1 r4.1) fun r8 =>
      cond (!r8.1)
        (some (false, ()))
        (cond (r7.2.1 != r4.2.1)
          (some (false, ()))
          (cond (!(r7.2.2.1 == r4.2.2.1))
            (some (false, ()))
            (Option.bind (laws_toTaskS N x0) fun r9 =>
            Option.bind (laws_eqTaskS N r5.1 r9.1) fun r10 =>
            cond (!r10.1)
              (some (false, ()))
              (Option.bind (laws_toInt64S N x1) fun r11 =>
              Option.bind (laws_eqInt64S N r6.1 r11.1) fun r12 =>
              cond (!r12.1)
                (some (false, ()))
                (Option.bind (laws_markTaskS_d r5.1 1) fun r13 =>
                Option.bind (laws_markInt64S N r6.1 r13) fun r14 =>
                cond (Nat.beq (List.length r14.1) (List.length r6.1))
                  (cond (decide (r14.2.1 < 0))
                    (some (false, ()))
                    (Option.bind (laws_eqInt64S N r7.1 r4.1) fun r15 =>
                    cond (!r15.1)
                      (some (false, ()))
                      (cond (r7.2.1 != r4.2.1)
                        (some (false, ()))
                        (cond (!(r7.2.2.1 == r4.2.2.1))
                          (some (false, ()))
                          (Option.bind (laws_markInt64S N r7.1 1) fun r16 =>
                          cond (Nat.beq (List.length r16.1) (List.length r7.1))
                            (Option.bind (laws_heldInt64S N r16.1 1) fun r17 =>
                            cond (decide (r17.1 < 0))
                              (some (false, ()))
                              (cond (r17.1 != r16.2.1)
                                (some (false, ()))
                                (Option.bind (laws_toTaskS N x0) fun r18 =>
                                Option.bind (laws_toInt64S N x1) fun r19 =>
                                Option.bind (impl_OrderPlan N r18.1 r19.1 x2) fun r20 =>
                                Option.bind (laws_eqInt64S N r20.1 r4.1) fun r21 =>
                                cond (!r21.1)
                                  (some (false, ()))
                                  (cond (r20.2.1 != r4.2.1)
                                    (some (false, ()))
                                    (cond (!(r20.2.2.1 == r4.2.2.1))
                                      (some (false, ()))
                                      (Option.bind (laws_heldInt64S N r16.1 1) fun r22 =>
                                      cond (decide (r22.1 < 0))
                                        (some (false, ()))
                                        (cond (r22.1 != r16.2.1)
                                          (some (false, ()))
                                          (some (true, ()))))))))) none))))) none)))))))
def laws_FnExactOrderPlan_e (N : Nat) : Ent := { ins := [(.sl (.pair (.int .i64) (.pair (.int .i64) (.pair (.sl (.int .i64)) (.sl (.int .i64)))))), (.sl (.int .i64)), (.int .i64)], outs := [.val .bool], F := fun x => laws_FnExactOrderPlan N x.1 x.2.1 x.2.2.1 }
def laws_FnExactOrderPlan_T (N : Nat) : Nat → List EntX
  | 7 => [.pl (laws_szTaskS_e N)]
  | 8 => [.pl (spec_OrderPlan_e N)]
  | 9 => [.pl (laws_toTaskS_e N)]
  | 10 => [.pl (laws_toInt64S_e N)]
  | 11 => [.pl (impl_OrderPlan_e N)]
  | 12 => [.pl (laws_eqInt64S_e N)]
  | 13 => [.pl (laws_eqTaskS_e N)]
  | 14 => [.dp (laws_markTaskS_d_e N)]
  | 15 => [.mu (laws_markInt64S_e N)]
  | 16 => [.pl (laws_heldInt64S_e N)]
  | _ => []
def laws_FnExactOrderPlan_L : Nat → List (Nat × TK) := fun _ => []
theorem laws_FnExactOrderPlan_eq (N : Nat) : runL N tt (laws_FnExactOrderPlan_T N) laws_FnExactOrderPlan_L [(.sl (.pair (.int .i64) (.pair (.int .i64) (.pair (.sl (.int .i64)) (.sl (.int .i64)))))), (.sl (.int .i64)), (.int .i64)] [.val .bool] (bodyOf Try.f3) Try.f3.ntmps [6] = (laws_FnExactOrderPlan_e N).F := by
  funext x
  kernel_rfl
theorem laws_FnExactOrderPlan_sound (N : Nat) : SoundC Try.prog 3 (laws_FnExactOrderPlan_e N) := by
  have h := runL_sound (f := 3) (code := bodyOf Try.f3) (N := N) (T := (laws_FnExactOrderPlan_T N)) (L := laws_FnExactOrderPlan_L) (ins := [(.sl (.pair (.int .i64) (.pair (.int .i64) (.pair (.sl (.int .i64)) (.sl (.int .i64)))))), (.sl (.int .i64)), (.int .i64)]) (outs := [.val .bool]) (res := [6]) mixed tt_ok ?_ Try.func3 (by kernel_rfl) rfl (by kernel_rfl) (by kernel_rfl) (by decide +kernel)
  · rw [laws_FnExactOrderPlan_eq] at h
    exact h
  · intro f e he
    unfold laws_FnExactOrderPlan_T at he
    split at he
    · rw [List.mem_singleton.1 he]; exact laws_szTaskS_sound N
    · rw [List.mem_singleton.1 he]; exact spec_OrderPlan_sound N
    · rw [List.mem_singleton.1 he]; exact laws_toTaskS_sound N
    · rw [List.mem_singleton.1 he]; exact laws_toInt64S_sound N
    · rw [List.mem_singleton.1 he]; exact impl_OrderPlan_sound N
    · rw [List.mem_singleton.1 he]; exact laws_eqInt64S_sound N
    · rw [List.mem_singleton.1 he]; exact laws_eqTaskS_sound N
    · rw [List.mem_singleton.1 he]; exact laws_markTaskS_d_sound N
    · rw [List.mem_singleton.1 he]; exact laws_markInt64S_sound N
    · rw [List.mem_singleton.1 he]; exact laws_heldInt64S_sound N
    · cases he

/- spec.l03Early -/
def spec_l03Early (N : Nat) (x0 : List (Int × Int × (List Int) × List Int)) : Option (List (Int) × Unit) :=
  cond (mkOk (List.length x0 : Int) (List.length x0 : Int))
    (let xs1 := (List.replicate (Int.toNat (List.length x0 : Int)) (0 : Int) : List (Int))
    loopN (fun (s2 : List (Int) × Int × Unit) next3 =>
      cond (decide (s2.2.1 < (List.length x0 : Int)))
        (Option.bind (spec_l03Least N x0 s2.1 s2.2.1) fun r4 =>
        cond (inB s2.2.1 (List.length s2.1))
          (let xs5 := (List.set s2.1 (Int.toNat s2.2.1) r4.1)
          next3 (xs5, (w64 (s2.2.1 + 1)), ())) none)
        (some (s2.1, ()))) N (xs1, 0, ())) none
def spec_l03Early_e (N : Nat) : Ent := { ins := [(.sl (.pair (.int .i64) (.pair (.int .i64) (.pair (.sl (.int .i64)) (.sl (.int .i64))))))], outs := [.own (.int .i64)], F := fun x => spec_l03Early N x.1 }
def spec_l03Early_T (N : Nat) : Nat → List EntX
  | 40 => [.pl (spec_l03Least_e N)]
  | _ => []
def spec_l03Early_L : Nat → List (Nat × TK)
  | 3 => [(3, .own (.int .i64)), (10, .v (.int .i64))]
  | _ => []
theorem spec_l03Early_eq (N : Nat) : runF N tt (spec_l03Early_T N) spec_l03Early_L [(.sl (.pair (.int .i64) (.pair (.int .i64) (.pair (.sl (.int .i64)) (.sl (.int .i64))))))] [.own (.int .i64)] (bodyOf Try.f50) Try.f50.ntmps [2] = (spec_l03Early_e N).F := by
  funext x
  kernel_rfl
theorem spec_l03Early_sound (N : Nat) : SoundC Try.prog 50 (spec_l03Early_e N) := by
  have h := runF_sound (f := 50) (code := bodyOf Try.f50) (N := N) (T := (spec_l03Early_T N)) (L := spec_l03Early_L) (ins := [(.sl (.pair (.int .i64) (.pair (.int .i64) (.pair (.sl (.int .i64)) (.sl (.int .i64))))))]) (outs := [.own (.int .i64)]) (res := [2]) mixed tt_ok ?_ Try.func50 (by kernel_rfl) rfl (by kernel_rfl) (by kernel_rfl) (by decide +kernel)
  · rw [spec_l03Early_eq] at h
    exact h
  · intro f e he
    unfold spec_l03Early_T at he
    split at he
    · rw [List.mem_singleton.1 he]; exact spec_l03Least_sound N
    · cases he

/- spec.l00Min -/
def spec_l00Min (_N : Nat) (x0 : Int) (x1 : Int) : Option (Int × Unit) :=
  cond (decide (x0 < x1))
    (some (x0, ()))
    (some (x1, ()))
def spec_l00Min_e (N : Nat) : Ent := { ins := [(.int .i64), (.int .i64)], outs := [.val (.int .i64)], F := fun x => spec_l00Min N x.1 x.2.1 }
def spec_l00Min_T (_ : Nat) : Nat → List EntX := fun _ => []
def spec_l00Min_L : Nat → List (Nat × TK) := fun _ => []
theorem spec_l00Min_eq (N : Nat) : runF N tt (spec_l00Min_T N) spec_l00Min_L [(.int .i64), (.int .i64)] [.val (.int .i64)] (bodyOf Try.f69) Try.f69.ntmps [4] = (spec_l00Min_e N).F := by
  funext x
  kernel_rfl
theorem spec_l00Min_sound (N : Nat) : SoundC Try.prog 69 (spec_l00Min_e N) := by
  have h := runF_sound (f := 69) (code := bodyOf Try.f69) (N := N) (T := (spec_l00Min_T N)) (L := spec_l00Min_L) (ins := [(.int .i64), (.int .i64)]) (outs := [.val (.int .i64)]) (res := [4]) mixed tt_ok ?_ Try.func69 (by kernel_rfl) rfl (by kernel_rfl) (by kernel_rfl) (by decide +kernel)
  · rw [spec_l00Min_eq] at h
    exact h
  · intro f e he
    cases he

/- spec.l03Greatest -/
def spec_l03Greatest (N : Nat) (x0 : List (Int × Int × (List Int) × List Int)) (x1 : List Int) (x2 : Int) (x3 : Int) : Option (Int × Unit) :=
  Option.bind (idx x0 x2) fun v1 =>
  loopN (fun (s2 : Int × Int × Unit) next3 =>
    cond (decide (s2.2.1 < (List.length x0 : Int)))
      (Option.bind (idx x0 s2.2.1) fun v4 =>
      loopN (fun (s5 : Int × Int × Unit) next6 =>
        cond (decide (s5.2.1 < (List.length v4.2.2.1 : Int)))
          (Option.bind (idx x0 s2.2.1) fun v7 =>
          Option.bind (idx v7.2.2.1 s5.2.1) fun v8 =>
          cond (v8 == x2)
            (Option.bind (idx x1 s2.2.1) fun v9 =>
            Option.bind (idx x0 s2.2.1) fun v10 =>
            Option.bind (idx v10.2.2.2 s5.2.1) fun v11 =>
            Option.bind (idx x0 x2) fun v12 =>
            Option.bind (spec_l00Min N s5.1 (w64 ((w64 (v9 - v11)) - v12.1))) fun r13 =>
            next6 (r13.1, (w64 (s5.2.1 + 1)), ()))
            (next6 (s5.1, (w64 (s5.2.1 + 1)), ())))
          (next3 (s5.1, (w64 (s2.2.1 + 1)), ()))) N (s2.1, 0, ()))
      (some (s2.1, ()))) N ((w64 (x3 - v1.1)), (w64 (x2 + 1)), ())
def spec_l03Greatest_e (N : Nat) : Ent := { ins := [(.sl (.pair (.int .i64) (.pair (.int .i64) (.pair (.sl (.int .i64)) (.sl (.int .i64)))))), (.sl (.int .i64)), (.int .i64), (.int .i64)], outs := [.val (.int .i64)], F := fun x => spec_l03Greatest N x.1 x.2.1 x.2.2.1 x.2.2.2.1 }
def spec_l03Greatest_T (N : Nat) : Nat → List EntX
  | 69 => [.pl (spec_l00Min_e N)]
  | _ => []
def spec_l03Greatest_L : Nat → List (Nat × TK)
  | 3 => [(9, .v (.int .i64)), (10, .v (.int .i64))]
  | 6 => [(9, .v (.int .i64)), (33, .v (.int .i64))]
  | _ => []
theorem spec_l03Greatest_eq (N : Nat) : runF N tt (spec_l03Greatest_T N) spec_l03Greatest_L [(.sl (.pair (.int .i64) (.pair (.int .i64) (.pair (.sl (.int .i64)) (.sl (.int .i64)))))), (.sl (.int .i64)), (.int .i64), (.int .i64)] [.val (.int .i64)] (bodyOf Try.f63) Try.f63.ntmps [8] = (spec_l03Greatest_e N).F := by
  funext x
  kernel_rfl
theorem spec_l03Greatest_sound (N : Nat) : SoundC Try.prog 63 (spec_l03Greatest_e N) := by
  have h := runF_sound (f := 63) (code := bodyOf Try.f63) (N := N) (T := (spec_l03Greatest_T N)) (L := spec_l03Greatest_L) (ins := [(.sl (.pair (.int .i64) (.pair (.int .i64) (.pair (.sl (.int .i64)) (.sl (.int .i64)))))), (.sl (.int .i64)), (.int .i64), (.int .i64)]) (outs := [.val (.int .i64)]) (res := [8]) mixed tt_ok ?_ Try.func63 (by kernel_rfl) rfl (by kernel_rfl) (by kernel_rfl) (by decide +kernel)
  · rw [spec_l03Greatest_eq] at h
    exact h
  · intro f e he
    unfold spec_l03Greatest_T at he
    split at he
    · rw [List.mem_singleton.1 he]; exact spec_l00Min_sound N
    · cases he

/- spec.l03Late -/
def spec_l03Late (N : Nat) (x0 : List (Int × Int × (List Int) × List Int)) (x1 : Int) : Option (List (Int) × Unit) :=
  cond (mkOk (List.length x0 : Int) (List.length x0 : Int))
    (let xs1 := (List.replicate (Int.toNat (List.length x0 : Int)) (0 : Int) : List (Int))
    loopN (fun (s2 : List (Int) × Int × Unit) next3 =>
      cond (decide (s2.2.1 ≥ 0))
        (Option.bind (spec_l03Greatest N x0 s2.1 s2.2.1 x1) fun r4 =>
        cond (inB s2.2.1 (List.length s2.1))
          (let xs5 := (List.set s2.1 (Int.toNat s2.2.1) r4.1)
          next3 (xs5, (w64 (s2.2.1 - 1)), ())) none)
        (some (s2.1, ()))) N (xs1, (w64 ((List.length x0 : Int) - 1)), ())) none
def spec_l03Late_e (N : Nat) : Ent := { ins := [(.sl (.pair (.int .i64) (.pair (.int .i64) (.pair (.sl (.int .i64)) (.sl (.int .i64)))))), (.int .i64)], outs := [.own (.int .i64)], F := fun x => spec_l03Late N x.1 x.2.1 }
def spec_l03Late_T (N : Nat) : Nat → List EntX
  | 63 => [.pl (spec_l03Greatest_e N)]
  | _ => []
def spec_l03Late_L : Nat → List (Nat × TK)
  | 3 => [(5, .own (.int .i64)), (6, .v (.int .i64))]
  | _ => []
theorem spec_l03Late_eq (N : Nat) : runF N tt (spec_l03Late_T N) spec_l03Late_L [(.sl (.pair (.int .i64) (.pair (.int .i64) (.pair (.sl (.int .i64)) (.sl (.int .i64)))))), (.int .i64)] [.own (.int .i64)] (bodyOf Try.f51) Try.f51.ntmps [4] = (spec_l03Late_e N).F := by
  funext x
  kernel_rfl
theorem spec_l03Late_sound (N : Nat) : SoundC Try.prog 51 (spec_l03Late_e N) := by
  have h := runF_sound (f := 51) (code := bodyOf Try.f51) (N := N) (T := (spec_l03Late_T N)) (L := spec_l03Late_L) (ins := [(.sl (.pair (.int .i64) (.pair (.int .i64) (.pair (.sl (.int .i64)) (.sl (.int .i64)))))), (.int .i64)]) (outs := [.own (.int .i64)]) (res := [4]) mixed tt_ok ?_ Try.func51 (by kernel_rfl) rfl (by kernel_rfl) (by kernel_rfl) (by decide +kernel)
  · rw [spec_l03Late_eq] at h
    exact h
  · intro f e he
    unfold spec_l03Late_T at he
    split at he
    · rw [List.mem_singleton.1 he]; exact spec_l03Greatest_sound N
    · cases he

/- spec.l03Slack -/
def spec_l03Slack (N : Nat) (x0 : List (Int × Int × (List Int) × List Int)) : Option (List (Int) × Unit) :=
  Option.bind (spec_l03Early N x0) fun r1 =>
  Option.bind (spec_l03End N x0 r1.1) fun r2 =>
  Option.bind (spec_l03Late N x0 r2.1) fun r3 =>
  loopN (fun (s4 : List (Int) × Int × Unit) next5 =>
    cond (decide (s4.2.1 < (List.length r3.1 : Int)))
      (cond (inB s4.2.1 (List.length r3.1))
        (Option.bind (r3.1[(Int.toNat s4.2.1)]?) fun v6 =>
        cond (inB s4.2.1 (List.length r1.1))
          (Option.bind (r1.1[(Int.toNat s4.2.1)]?) fun v7 =>
          cond (appOk (List.length s4.1) (List.length ([(w64 (v6 - v7))] : List Int)))
            (let xs8 := (s4.1 ++ ([(w64 (v6 - v7))] : List Int))
            next5 (xs8, (w64 (s4.2.1 + 1)), ())) none) none) none)
      (some (s4.1, ()))) N (([] : List Int), 0, ())
def spec_l03Slack_e (N : Nat) : Ent := { ins := [(.sl (.pair (.int .i64) (.pair (.int .i64) (.pair (.sl (.int .i64)) (.sl (.int .i64))))))], outs := [.own (.int .i64)], F := fun x => spec_l03Slack N x.1 }
def spec_l03Slack_T (N : Nat) : Nat → List EntX
  | 26 => [.pl (spec_l03End_e N)]
  | 50 => [.pl (spec_l03Early_e N)]
  | 51 => [.pl (spec_l03Late_e N)]
  | _ => []
def spec_l03Slack_L : Nat → List (Nat × TK)
  | 5 => [(5, .own (.int .i64)), (17, .v (.int .i64))]
  | _ => []
theorem spec_l03Slack_eq (N : Nat) : runF N tt (spec_l03Slack_T N) spec_l03Slack_L [(.sl (.pair (.int .i64) (.pair (.int .i64) (.pair (.sl (.int .i64)) (.sl (.int .i64))))))] [.own (.int .i64)] (bodyOf Try.f52) Try.f52.ntmps [2] = (spec_l03Slack_e N).F := by
  funext x
  kernel_rfl
theorem spec_l03Slack_sound (N : Nat) : SoundC Try.prog 52 (spec_l03Slack_e N) := by
  have h := runF_sound (f := 52) (code := bodyOf Try.f52) (N := N) (T := (spec_l03Slack_T N)) (L := spec_l03Slack_L) (ins := [(.sl (.pair (.int .i64) (.pair (.int .i64) (.pair (.sl (.int .i64)) (.sl (.int .i64))))))]) (outs := [.own (.int .i64)]) (res := [2]) mixed tt_ok ?_ Try.func52 (by kernel_rfl) rfl (by kernel_rfl) (by kernel_rfl) (by decide +kernel)
  · rw [spec_l03Slack_eq] at h
    exact h
  · intro f e he
    unfold spec_l03Slack_T at he
    split at he
    · rw [List.mem_singleton.1 he]; exact spec_l03End_sound N
    · rw [List.mem_singleton.1 he]; exact spec_l03Early_sound N
    · rw [List.mem_singleton.1 he]; exact spec_l03Late_sound N
    · cases he

/- spec.l03Rule -/
def spec_l03Rule (N : Nat) (x0 : List (Int × Int × (List Int) × List Int)) (x1 : Int) : Option (List (Int) × Unit) :=
  Option.bind (spec_l03Early N x0) fun r1 =>
  Option.bind (spec_l03End N x0 r1.1) fun r2 =>
  Option.bind (spec_l03Late N x0 r2.1) fun r3 =>
  Option.bind (spec_l03Slack N x0) fun r4 =>
  cond (mkOk (List.length x0 : Int) (List.length x0 : Int))
    (let xs5 := (List.replicate (Int.toNat (List.length x0 : Int)) false : List (Bool))
    loopN (fun (s6 : List (Bool) × List (Int) × Unit) next7 =>
      cond (decide ((List.length s6.2.1 : Int) < (List.length x0 : Int)))
        (loopN (fun (s8 : Int × Int × Int × Unit) next9 =>
          cond (decide (s8.2.2.1 < (List.length x0 : Int)))
            (cond (inB s8.2.2.1 (List.length s6.1))
              (Option.bind (s6.1[(Int.toNat s8.2.2.1)]?) fun v10 =>
              Option.bind (idx x0 s8.2.2.1) fun v11 =>
              loopN (fun (s12 : Bool × Int × Unit) next13 =>
                cond (decide (s12.2.1 < (List.length v11.2.2.1 : Int)))
                  (cond s12.1
                    (Option.bind (idx x0 s8.2.2.1) fun v14 =>
                    Option.bind (idx v14.2.2.1 s12.2.1) fun v15 =>
                    cond (inB v15 (List.length s6.1))
                      (Option.bind (s6.1[(Int.toNat v15)]?) fun v16 =>
                      next13 (v16, (w64 (s12.2.1 + 1)), ())) none)
                    (next13 (false, (w64 (s12.2.1 + 1)), ())))
                  (cond (!s12.1)
                    (next9 (s8.1, s8.2.1, (w64 (s8.2.2.1 + 1)), ()))
                    (cond (inB s8.2.2.1 (List.length r3.1))
                      (Option.bind (r3.1[(Int.toNat s8.2.2.1)]?) fun v17 =>
                      cond (x1 == 1)
                        (Option.bind (idx x0 s8.2.2.1) fun v18 =>
                        cond (decide (s8.1 < 0))
                          (next9 (s8.2.2.1, (IntKind.wrap .i64 (0 - v18.1)), (w64 (s8.2.2.1 + 1)), ()))
                          (cond (decide ((IntKind.wrap .i64 (0 - v18.1)) < s8.2.1))
                            (next9 (s8.2.2.1, (IntKind.wrap .i64 (0 - v18.1)), (w64 (s8.2.2.1 + 1)), ()))
                            (next9 (s8.1, s8.2.1, (w64 (s8.2.2.1 + 1)), ()))))
                        (cond (x1 == 2)
                          (cond (inB s8.2.2.1 (List.length r4.1))
                            (Option.bind (r4.1[(Int.toNat s8.2.2.1)]?) fun v19 =>
                            cond (decide (s8.1 < 0))
                              (next9 (s8.2.2.1, v19, (w64 (s8.2.2.1 + 1)), ()))
                              (cond (decide (v19 < s8.2.1))
                                (next9 (s8.2.2.1, v19, (w64 (s8.2.2.1 + 1)), ()))
                                (next9 (s8.1, s8.2.1, (w64 (s8.2.2.1 + 1)), ())))) none)
                          (cond (x1 == 3)
                            (Option.bind (idx x0 s8.2.2.1) fun v20 =>
                            Option.bind (idx x0 s8.2.2.1) fun v21 =>
                            cond (decide (s8.1 < 0))
                              (next9 (s8.2.2.1, (w64 ((IntKind.wrap .i64 (0 - v20.1)) * v21.2.1)), (w64 (s8.2.2.1 + 1)), ()))
                              (cond (decide ((w64 ((IntKind.wrap .i64 (0 - v20.1)) * v21.2.1)) < s8.2.1))
                                (next9 (s8.2.2.1, (w64 ((IntKind.wrap .i64 (0 - v20.1)) * v21.2.1)), (w64 (s8.2.2.1 + 1)), ()))
                                (next9 (s8.1, s8.2.1, (w64 (s8.2.2.1 + 1)), ()))))
                            (cond (decide (s8.1 < 0))
                              (next9 (s8.2.2.1, v17, (w64 (s8.2.2.1 + 1)), ()))
                              (cond (decide (v17 < s8.2.1))
                                (next9 (s8.2.2.1, v17, (w64 (s8.2.2.1 + 1)), ()))
                                (next9 (s8.1, s8.2.1, (w64 (s8.2.2.1 + 1)), ()))))))) none))) N ((!v10), 0, ())) none)
            (cond (inB s8.1 (List.length s6.1))
              (let xs22 := (List.set s6.1 (Int.toNat s8.1) true)
              cond (appOk (List.length s6.2.1) (List.length ([s8.1] : List Int)))
                (let xs23 := (s6.2.1 ++ ([s8.1] : List Int))
                next7 (xs22, xs23, ())) none) none)) N ((-1), 0, 0, ()))
        (some (s6.2.1, ()))) N (xs5, ([] : List Int), ())) none
def spec_l03Rule_e (N : Nat) : Ent := { ins := [(.sl (.pair (.int .i64) (.pair (.int .i64) (.pair (.sl (.int .i64)) (.sl (.int .i64)))))), (.int .i64)], outs := [.own (.int .i64)], F := fun x => spec_l03Rule N x.1 x.2.1 }
def spec_l03Rule_T (N : Nat) : Nat → List EntX
  | 26 => [.pl (spec_l03End_e N)]
  | 50 => [.pl (spec_l03Early_e N)]
  | 51 => [.pl (spec_l03Late_e N)]
  | 52 => [.pl (spec_l03Slack_e N)]
  | _ => []
def spec_l03Rule_L : Nat → List (Nat × TK)
  | 6 => [(8, .own .bool), (9, .own (.int .i64))]
  | 10 => [(10, .v (.int .i64)), (11, .v (.int .i64)), (36, .v (.int .i64))]
  | 14 => [(13, .v .bool), (50, .v (.int .i64))]
  | _ => []
theorem spec_l03Rule_eq (N : Nat) : runF N tt (spec_l03Rule_T N) spec_l03Rule_L [(.sl (.pair (.int .i64) (.pair (.int .i64) (.pair (.sl (.int .i64)) (.sl (.int .i64)))))), (.int .i64)] [.own (.int .i64)] (bodyOf Try.f33) Try.f33.ntmps [4] = (spec_l03Rule_e N).F := by
  funext x
  kernel_rfl
theorem spec_l03Rule_sound (N : Nat) : SoundC Try.prog 33 (spec_l03Rule_e N) := by
  have h := runF_sound (f := 33) (code := bodyOf Try.f33) (N := N) (T := (spec_l03Rule_T N)) (L := spec_l03Rule_L) (ins := [(.sl (.pair (.int .i64) (.pair (.int .i64) (.pair (.sl (.int .i64)) (.sl (.int .i64)))))), (.int .i64)]) (outs := [.own (.int .i64)]) (res := [4]) mixed tt_ok ?_ Try.func33 (by kernel_rfl) rfl (by kernel_rfl) (by kernel_rfl) (by decide +kernel)
  · rw [spec_l03Rule_eq] at h
    exact h
  · intro f e he
    unfold spec_l03Rule_T at he
    split at he
    · rw [List.mem_singleton.1 he]; exact spec_l03End_sound N
    · rw [List.mem_singleton.1 he]; exact spec_l03Early_sound N
    · rw [List.mem_singleton.1 he]; exact spec_l03Late_sound N
    · rw [List.mem_singleton.1 he]; exact spec_l03Slack_sound N
    · cases he

/- spec.RulePlan -/
def spec_RulePlan (N : Nat) (x0 : List (Int × Int × (List Int) × List Int)) (x1 : Int) (x2 : Int) : Option (List (Int) × Int × Bool × Unit) :=
  Option.bind (spec_l03Crew N x0 x2) fun r1 =>
  cond (!r1.1)
    (some ([], 0, false, ()))
    (Option.bind (spec_l00In N x1 0 3) fun r2 =>
    cond (!r2.1)
      (some ([], 0, false, ()))
      (Option.bind (spec_l03Rule N x0 x1) fun r3 =>
      Option.bind (spec_l03Take N x0 r3.1 x2) fun r4 =>
      Option.bind (spec_l03End N x0 r4.1) fun r5 =>
      some (r4.1, r5.1, true, ())))
def spec_RulePlan_e (N : Nat) : Ent := { ins := [(.sl (.pair (.int .i64) (.pair (.int .i64) (.pair (.sl (.int .i64)) (.sl (.int .i64)))))), (.int .i64), (.int .i64)], outs := [.own (.int .i64), .val (.int .i64), .val .bool], F := fun x => spec_RulePlan N x.1 x.2.1 x.2.2.1 }
def spec_RulePlan_T (N : Nat) : Nat → List EntX
  | 23 => [.pl (spec_l03Crew_e N)]
  | 25 => [.pl (spec_l03Take_e N)]
  | 26 => [.pl (spec_l03End_e N)]
  | 32 => [.pl (spec_l00In_e N)]
  | 33 => [.pl (spec_l03Rule_e N)]
  | _ => []
def spec_RulePlan_L : Nat → List (Nat × TK) := fun _ => []
theorem spec_RulePlan_eq (N : Nat) : runF N tt (spec_RulePlan_T N) spec_RulePlan_L [(.sl (.pair (.int .i64) (.pair (.int .i64) (.pair (.sl (.int .i64)) (.sl (.int .i64)))))), (.int .i64), (.int .i64)] [.own (.int .i64), .val (.int .i64), .val .bool] (bodyOf Try.f17) Try.f17.ntmps [6, 7, 8] = (spec_RulePlan_e N).F := by
  funext x
  kernel_rfl
theorem spec_RulePlan_sound (N : Nat) : SoundC Try.prog 17 (spec_RulePlan_e N) := by
  have h := runF_sound (f := 17) (code := bodyOf Try.f17) (N := N) (T := (spec_RulePlan_T N)) (L := spec_RulePlan_L) (ins := [(.sl (.pair (.int .i64) (.pair (.int .i64) (.pair (.sl (.int .i64)) (.sl (.int .i64)))))), (.int .i64), (.int .i64)]) (outs := [.own (.int .i64), .val (.int .i64), .val .bool]) (res := [6, 7, 8]) mixed tt_ok ?_ Try.func17 (by kernel_rfl) rfl (by kernel_rfl) (by kernel_rfl) (by decide +kernel)
  · rw [spec_RulePlan_eq] at h
    exact h
  · intro f e he
    unfold spec_RulePlan_T at he
    split at he
    · rw [List.mem_singleton.1 he]; exact spec_l03Crew_sound N
    · rw [List.mem_singleton.1 he]; exact spec_l03Take_sound N
    · rw [List.mem_singleton.1 he]; exact spec_l03End_sound N
    · rw [List.mem_singleton.1 he]; exact spec_l00In_sound N
    · rw [List.mem_singleton.1 he]; exact spec_l03Rule_sound N
    · cases he

/- impl.earlyStarts -/
def impl_earlyStarts (N : Nat) (x0 : List (Int × Int × (List Int) × List Int)) : Option (List (Int) × Unit) :=
  cond (mkOk (List.length x0 : Int) (List.length x0 : Int))
    (let xs1 := (List.replicate (Int.toNat (List.length x0 : Int)) (0 : Int) : List (Int))
    loopN (fun (s2 : List (Int) × Int × Unit) next3 =>
      cond (decide (s2.2.1 < (List.length x0 : Int)))
        (Option.bind (impl_earliest N x0 s2.1 s2.2.1) fun r4 =>
        cond (inB s2.2.1 (List.length s2.1))
          (let xs5 := (List.set s2.1 (Int.toNat s2.2.1) r4.1)
          next3 (xs5, (w64 (s2.2.1 + 1)), ())) none)
        (some (s2.1, ()))) N (xs1, 0, ())) none
def impl_earlyStarts_e (N : Nat) : Ent := { ins := [(.sl (.pair (.int .i64) (.pair (.int .i64) (.pair (.sl (.int .i64)) (.sl (.int .i64))))))], outs := [.own (.int .i64)], F := fun x => impl_earlyStarts N x.1 }
def impl_earlyStarts_T (N : Nat) : Nat → List EntX
  | 48 => [.pl (impl_earliest_e N)]
  | _ => []
def impl_earlyStarts_L : Nat → List (Nat × TK)
  | 3 => [(3, .own (.int .i64)), (10, .v (.int .i64))]
  | _ => []
theorem impl_earlyStarts_eq (N : Nat) : runF N tt (impl_earlyStarts_T N) impl_earlyStarts_L [(.sl (.pair (.int .i64) (.pair (.int .i64) (.pair (.sl (.int .i64)) (.sl (.int .i64))))))] [.own (.int .i64)] (bodyOf Try.f64) Try.f64.ntmps [2] = (impl_earlyStarts_e N).F := by
  funext x
  kernel_rfl
theorem impl_earlyStarts_sound (N : Nat) : SoundC Try.prog 64 (impl_earlyStarts_e N) := by
  have h := runF_sound (f := 64) (code := bodyOf Try.f64) (N := N) (T := (impl_earlyStarts_T N)) (L := impl_earlyStarts_L) (ins := [(.sl (.pair (.int .i64) (.pair (.int .i64) (.pair (.sl (.int .i64)) (.sl (.int .i64))))))]) (outs := [.own (.int .i64)]) (res := [2]) mixed tt_ok ?_ Try.func64 (by kernel_rfl) rfl (by kernel_rfl) (by kernel_rfl) (by decide +kernel)
  · rw [impl_earlyStarts_eq] at h
    exact h
  · intro f e he
    unfold impl_earlyStarts_T at he
    split at he
    · rw [List.mem_singleton.1 he]; exact impl_earliest_sound N
    · cases he

/- impl.EarlyStarts -/
def impl_EarlyStarts (N : Nat) (x0 : List (Int × Int × (List Int) × List Int)) : Option (List (Int) × Int × Bool × Unit) :=
  Option.bind (impl_AreTasks N x0) fun r1 =>
  cond (!r1.1)
    (some ([], 0, false, ()))
    (Option.bind (impl_earlyStarts N x0) fun r2 =>
    Option.bind (impl_lastEnd N x0 r2.1) fun r3 =>
    some (r2.1, r3.1, true, ()))
def impl_EarlyStarts_e (N : Nat) : Ent := { ins := [(.sl (.pair (.int .i64) (.pair (.int .i64) (.pair (.sl (.int .i64)) (.sl (.int .i64))))))], outs := [.own (.int .i64), .val (.int .i64), .val .bool], F := fun x => impl_EarlyStarts N x.1 }
def impl_EarlyStarts_T (N : Nat) : Nat → List EntX
  | 37 => [.pl (impl_AreTasks_e N)]
  | 49 => [.pl (impl_lastEnd_e N)]
  | 64 => [.pl (impl_earlyStarts_e N)]
  | _ => []
def impl_EarlyStarts_L : Nat → List (Nat × TK) := fun _ => []
theorem impl_EarlyStarts_eq (N : Nat) : runF N tt (impl_EarlyStarts_T N) impl_EarlyStarts_L [(.sl (.pair (.int .i64) (.pair (.int .i64) (.pair (.sl (.int .i64)) (.sl (.int .i64))))))] [.own (.int .i64), .val (.int .i64), .val .bool] (bodyOf Try.f53) Try.f53.ntmps [2, 3, 4] = (impl_EarlyStarts_e N).F := by
  funext x
  kernel_rfl
theorem impl_EarlyStarts_sound (N : Nat) : SoundC Try.prog 53 (impl_EarlyStarts_e N) := by
  have h := runF_sound (f := 53) (code := bodyOf Try.f53) (N := N) (T := (impl_EarlyStarts_T N)) (L := impl_EarlyStarts_L) (ins := [(.sl (.pair (.int .i64) (.pair (.int .i64) (.pair (.sl (.int .i64)) (.sl (.int .i64))))))]) (outs := [.own (.int .i64), .val (.int .i64), .val .bool]) (res := [2, 3, 4]) mixed tt_ok ?_ Try.func53 (by kernel_rfl) rfl (by kernel_rfl) (by kernel_rfl) (by decide +kernel)
  · rw [impl_EarlyStarts_eq] at h
    exact h
  · intro f e he
    unfold impl_EarlyStarts_T at he
    split at he
    · rw [List.mem_singleton.1 he]; exact impl_AreTasks_sound N
    · rw [List.mem_singleton.1 he]; exact impl_lastEnd_sound N
    · rw [List.mem_singleton.1 he]; exact impl_earlyStarts_sound N
    · cases he

/- slices.Index[[]int64,int64] -/
def slices_Index_int64_int64 (N : Nat) (x0 : List Int) (x1 : Int) : Option (Int × Unit) :=
  loopN (fun (s1 : Int × Unit) next2 =>
    cond (decide (s1.1 < (List.length x0 : Int)))
      (Option.bind (idx x0 s1.1) fun v3 =>
      cond (x1 == v3)
        (some (s1.1, ()))
        (next2 ((w64 (s1.1 + 1)), ())))
      (some ((-1), ()))) N (0, ())
def slices_Index_int64_int64_e (N : Nat) : Ent := { ins := [(.sl (.int .i64)), (.int .i64)], outs := [.val (.int .i64)], F := fun x => slices_Index_int64_int64 N x.1 x.2.1 }
def slices_Index_int64_int64_T (_ : Nat) : Nat → List EntX := fun _ => []
def slices_Index_int64_int64_L : Nat → List (Nat × TK)
  | 2 => [(8, .v (.int .i64))]
  | _ => []
theorem slices_Index_int64_int64_eq (N : Nat) : runF N tt (slices_Index_int64_int64_T N) slices_Index_int64_int64_L [(.sl (.int .i64)), (.int .i64)] [.val (.int .i64)] (bodyOf Try.f66) Try.f66.ntmps [4] = (slices_Index_int64_int64_e N).F := by
  funext x
  kernel_rfl
theorem slices_Index_int64_int64_sound (N : Nat) : SoundC Try.prog 66 (slices_Index_int64_int64_e N) := by
  have h := runF_sound (f := 66) (code := bodyOf Try.f66) (N := N) (T := (slices_Index_int64_int64_T N)) (L := slices_Index_int64_int64_L) (ins := [(.sl (.int .i64)), (.int .i64)]) (outs := [.val (.int .i64)]) (res := [4]) mixed tt_ok ?_ Try.func66 (by kernel_rfl) rfl (by kernel_rfl) (by kernel_rfl) (by decide +kernel)
  · rw [slices_Index_int64_int64_eq] at h
    exact h
  · intro f e he
    cases he

/- impl.latest -/
def impl_latest (N : Nat) (x0 : List (Int × Int × (List Int) × List Int)) (x1 : List Int) (x2 : Int) (x3 : Int) : Option (Int × Unit) :=
  Option.bind (idx x0 x2) fun v1 =>
  loopN (fun (s2 : Int × Int × Unit) next3 =>
    cond (decide (s2.2.1 < (List.length x0 : Int)))
      (Option.bind (idx x0 s2.2.1) fun v4 =>
      Option.bind (slices_Index_int64_int64 N v4.2.2.1 x2) fun r5 =>
      cond (decide (r5.1 ≥ 0))
        (Option.bind (idx x1 s2.2.1) fun v6 =>
        Option.bind (idx x0 s2.2.1) fun v7 =>
        Option.bind (idx v7.2.2.2 r5.1) fun v8 =>
        Option.bind (idx x0 x2) fun v9 =>
        next3 ((imin s2.1 (w64 ((w64 (v6 - v8)) - v9.1))), (w64 (s2.2.1 + 1)), ()))
        (next3 (s2.1, (w64 (s2.2.1 + 1)), ())))
      (some (s2.1, ()))) N ((w64 (x3 - v1.1)), (w64 (x2 + 1)), ())
def impl_latest_e (N : Nat) : Ent := { ins := [(.sl (.pair (.int .i64) (.pair (.int .i64) (.pair (.sl (.int .i64)) (.sl (.int .i64)))))), (.sl (.int .i64)), (.int .i64), (.int .i64)], outs := [.val (.int .i64)], F := fun x => impl_latest N x.1 x.2.1 x.2.2.1 x.2.2.2.1 }
def impl_latest_T (N : Nat) : Nat → List EntX
  | 66 => [.pl (slices_Index_int64_int64_e N)]
  | _ => []
def impl_latest_L : Nat → List (Nat × TK)
  | 3 => [(9, .v (.int .i64)), (10, .v (.int .i64))]
  | _ => []
theorem impl_latest_eq (N : Nat) : runF N tt (impl_latest_T N) impl_latest_L [(.sl (.pair (.int .i64) (.pair (.int .i64) (.pair (.sl (.int .i64)) (.sl (.int .i64)))))), (.sl (.int .i64)), (.int .i64), (.int .i64)] [.val (.int .i64)] (bodyOf Try.f65) Try.f65.ntmps [8] = (impl_latest_e N).F := by
  funext x
  kernel_rfl
theorem impl_latest_sound (N : Nat) : SoundC Try.prog 65 (impl_latest_e N) := by
  have h := runF_sound (f := 65) (code := bodyOf Try.f65) (N := N) (T := (impl_latest_T N)) (L := impl_latest_L) (ins := [(.sl (.pair (.int .i64) (.pair (.int .i64) (.pair (.sl (.int .i64)) (.sl (.int .i64)))))), (.sl (.int .i64)), (.int .i64), (.int .i64)]) (outs := [.val (.int .i64)]) (res := [8]) mixed tt_ok ?_ Try.func65 (by kernel_rfl) rfl (by kernel_rfl) (by kernel_rfl) (by decide +kernel)
  · rw [impl_latest_eq] at h
    exact h
  · intro f e he
    unfold impl_latest_T at he
    split at he
    · rw [List.mem_singleton.1 he]; exact slices_Index_int64_int64_sound N
    · cases he

/- impl.lateStarts -/
def impl_lateStarts (N : Nat) (x0 : List (Int × Int × (List Int) × List Int)) (x1 : Int) : Option (List (Int) × Unit) :=
  cond (mkOk (List.length x0 : Int) (List.length x0 : Int))
    (let xs1 := (List.replicate (Int.toNat (List.length x0 : Int)) (0 : Int) : List (Int))
    loopN (fun (s2 : List (Int) × Int × Unit) next3 =>
      cond (decide (s2.2.1 ≥ 0))
        (Option.bind (impl_latest N x0 s2.1 s2.2.1 x1) fun r4 =>
        cond (inB s2.2.1 (List.length s2.1))
          (let xs5 := (List.set s2.1 (Int.toNat s2.2.1) r4.1)
          next3 (xs5, (w64 (s2.2.1 - 1)), ())) none)
        (some (s2.1, ()))) N (xs1, (w64 ((List.length x0 : Int) - 1)), ())) none
def impl_lateStarts_e (N : Nat) : Ent := { ins := [(.sl (.pair (.int .i64) (.pair (.int .i64) (.pair (.sl (.int .i64)) (.sl (.int .i64)))))), (.int .i64)], outs := [.own (.int .i64)], F := fun x => impl_lateStarts N x.1 x.2.1 }
def impl_lateStarts_T (N : Nat) : Nat → List EntX
  | 65 => [.pl (impl_latest_e N)]
  | _ => []
def impl_lateStarts_L : Nat → List (Nat × TK)
  | 3 => [(5, .own (.int .i64)), (6, .v (.int .i64))]
  | _ => []
theorem impl_lateStarts_eq (N : Nat) : runF N tt (impl_lateStarts_T N) impl_lateStarts_L [(.sl (.pair (.int .i64) (.pair (.int .i64) (.pair (.sl (.int .i64)) (.sl (.int .i64)))))), (.int .i64)] [.own (.int .i64)] (bodyOf Try.f54) Try.f54.ntmps [4] = (impl_lateStarts_e N).F := by
  funext x
  kernel_rfl
theorem impl_lateStarts_sound (N : Nat) : SoundC Try.prog 54 (impl_lateStarts_e N) := by
  have h := runF_sound (f := 54) (code := bodyOf Try.f54) (N := N) (T := (impl_lateStarts_T N)) (L := impl_lateStarts_L) (ins := [(.sl (.pair (.int .i64) (.pair (.int .i64) (.pair (.sl (.int .i64)) (.sl (.int .i64)))))), (.int .i64)]) (outs := [.own (.int .i64)]) (res := [4]) mixed tt_ok ?_ Try.func54 (by kernel_rfl) rfl (by kernel_rfl) (by kernel_rfl) (by decide +kernel)
  · rw [impl_lateStarts_eq] at h
    exact h
  · intro f e he
    unfold impl_lateStarts_T at he
    split at he
    · rw [List.mem_singleton.1 he]; exact impl_latest_sound N
    · cases he

/- impl.slack -/
def impl_slack (N : Nat) (x0 : List (Int × Int × (List Int) × List Int)) : Option (List (Int) × Unit) :=
  Option.bind (impl_earlyStarts N x0) fun r1 =>
  Option.bind (impl_lastEnd N x0 r1.1) fun r2 =>
  Option.bind (impl_lateStarts N x0 r2.1) fun r3 =>
  loopN (fun (s4 : List (Int) × Int × Unit) next5 =>
    cond (decide (s4.2.1 < (List.length r3.1 : Int)))
      (cond (inB s4.2.1 (List.length s4.1))
        (Option.bind (s4.1[(Int.toNat s4.2.1)]?) fun v6 =>
        cond (inB s4.2.1 (List.length r1.1))
          (Option.bind (r1.1[(Int.toNat s4.2.1)]?) fun v7 =>
          cond (inB s4.2.1 (List.length s4.1))
            (let xs8 := (List.set s4.1 (Int.toNat s4.2.1) (w64 (v6 - v7)))
            next5 (xs8, (w64 (s4.2.1 + 1)), ())) none) none) none)
      (some (s4.1, ()))) N (r3.1, 0, ())
def impl_slack_e (N : Nat) : Ent := { ins := [(.sl (.pair (.int .i64) (.pair (.int .i64) (.pair (.sl (.int .i64)) (.sl (.int .i64))))))], outs := [.own (.int .i64)], F := fun x => impl_slack N x.1 }
def impl_slack_T (N : Nat) : Nat → List EntX
  | 49 => [.pl (impl_lastEnd_e N)]
  | 54 => [.pl (impl_lateStarts_e N)]
  | 64 => [.pl (impl_earlyStarts_e N)]
  | _ => []
def impl_slack_L : Nat → List (Nat × TK)
  | 4 => [(4, .own (.int .i64)), (15, .v (.int .i64))]
  | _ => []
theorem impl_slack_eq (N : Nat) : runF N tt (impl_slack_T N) impl_slack_L [(.sl (.pair (.int .i64) (.pair (.int .i64) (.pair (.sl (.int .i64)) (.sl (.int .i64))))))] [.own (.int .i64)] (bodyOf Try.f55) Try.f55.ntmps [2] = (impl_slack_e N).F := by
  funext x
  kernel_rfl
theorem impl_slack_sound (N : Nat) : SoundC Try.prog 55 (impl_slack_e N) := by
  have h := runF_sound (f := 55) (code := bodyOf Try.f55) (N := N) (T := (impl_slack_T N)) (L := impl_slack_L) (ins := [(.sl (.pair (.int .i64) (.pair (.int .i64) (.pair (.sl (.int .i64)) (.sl (.int .i64))))))]) (outs := [.own (.int .i64)]) (res := [2]) mixed tt_ok ?_ Try.func55 (by kernel_rfl) rfl (by kernel_rfl) (by kernel_rfl) (by decide +kernel)
  · rw [impl_slack_eq] at h
    exact h
  · intro f e he
    unfold impl_slack_T at he
    split at he
    · rw [List.mem_singleton.1 he]; exact impl_lastEnd_sound N
    · rw [List.mem_singleton.1 he]; exact impl_lateStarts_sound N
    · rw [List.mem_singleton.1 he]; exact impl_earlyStarts_sound N
    · cases he

/- slices.Contains[[]int64,int64] -/
def slices_Contains_int64_int64 (N : Nat) (x0 : List Int) (x1 : Int) : Option (Bool × Unit) :=
  Option.bind (slices_Index_int64_int64 N x0 x1) fun r1 =>
  some ((decide (r1.1 ≥ 0)), ())
def slices_Contains_int64_int64_e (N : Nat) : Ent := { ins := [(.sl (.int .i64)), (.int .i64)], outs := [.val .bool], F := fun x => slices_Contains_int64_int64 N x.1 x.2.1 }
def slices_Contains_int64_int64_T (N : Nat) : Nat → List EntX
  | 66 => [.pl (slices_Index_int64_int64_e N)]
  | _ => []
def slices_Contains_int64_int64_L : Nat → List (Nat × TK) := fun _ => []
theorem slices_Contains_int64_int64_eq (N : Nat) : runF N tt (slices_Contains_int64_int64_T N) slices_Contains_int64_int64_L [(.sl (.int .i64)), (.int .i64)] [.val .bool] (bodyOf Try.f56) Try.f56.ntmps [4] = (slices_Contains_int64_int64_e N).F := by
  funext x
  kernel_rfl
theorem slices_Contains_int64_int64_sound (N : Nat) : SoundC Try.prog 56 (slices_Contains_int64_int64_e N) := by
  have h := runF_sound (f := 56) (code := bodyOf Try.f56) (N := N) (T := (slices_Contains_int64_int64_T N)) (L := slices_Contains_int64_int64_L) (ins := [(.sl (.int .i64)), (.int .i64)]) (outs := [.val .bool]) (res := [4]) mixed tt_ok ?_ Try.func56 (by kernel_rfl) rfl (by kernel_rfl) (by kernel_rfl) (by decide +kernel)
  · rw [slices_Contains_int64_int64_eq] at h
    exact h
  · intro f e he
    unfold slices_Contains_int64_int64_T at he
    split at he
    · rw [List.mem_singleton.1 he]; exact slices_Index_int64_int64_sound N
    · cases he

/- impl.ruleOrder$1 -/
def impl_ruleOrder_1_c0 (N : Nat) (x0 : Int) (x1 : List Int) : Option (Bool × Unit) :=
  Option.bind (slices_Contains_int64_int64 N x1 x0) fun r1 =>
  some ((!r1.1), ())
def impl_ruleOrder_1_c0_e (N : Nat) : Ent := { ins := [(.int .i64), (.bx (.sl (.int .i64)))], outs := [.val .bool], F := fun x => impl_ruleOrder_1_c0 N x.1 x.2.1 }
def impl_ruleOrder_1_c0_T (N : Nat) : Nat → List EntX
  | 56 => [.pl (slices_Contains_int64_int64_e N)]
  | _ => []
def impl_ruleOrder_1_c0_L : Nat → List (Nat × TK) := fun _ => []
theorem impl_ruleOrder_1_c0_eq (N : Nat) : runF N tt (impl_ruleOrder_1_c0_T N) impl_ruleOrder_1_c0_L [(.int .i64), (.bx (.sl (.int .i64)))] [.val .bool] (bodyOf Try.f58) Try.f58.ntmps [3] = (impl_ruleOrder_1_c0_e N).F := by
  funext x
  kernel_rfl
theorem impl_ruleOrder_1_c0_sound (N : Nat) : SoundC Try.prog 58 (impl_ruleOrder_1_c0_e N) := by
  have h := runF_sound (f := 58) (code := bodyOf Try.f58) (N := N) (T := (impl_ruleOrder_1_c0_T N)) (L := impl_ruleOrder_1_c0_L) (ins := [(.int .i64), (.bx (.sl (.int .i64)))]) (outs := [.val .bool]) (res := [3]) mixed tt_ok ?_ Try.func58 (by kernel_rfl) rfl (by kernel_rfl) (by kernel_rfl) (by decide +kernel)
  · rw [impl_ruleOrder_1_c0_eq] at h
    exact h
  · intro f e he
    unfold impl_ruleOrder_1_c0_T at he
    split at he
    · rw [List.mem_singleton.1 he]; exact slices_Contains_int64_int64_sound N
    · cases he

/- slices.IndexFunc[[]int64,int64] -/
def slices_IndexFunc_int64_int64_impl_ruleOrder_1 (N : Nat) (x0 : List Int) (x1 : List Int) : Option (Int × Unit) :=
  loopN (fun (s1 : Int × Unit) next2 =>
    cond (decide (s1.1 < (List.length x0 : Int)))
      (Option.bind (idx x0 s1.1) fun v3 =>
      Option.bind (impl_ruleOrder_1_c0 N v3 x1) fun r4 =>
      cond r4.1
        (some (s1.1, ()))
        (next2 ((w64 (s1.1 + 1)), ())))
      (some ((-1), ()))) N (0, ())
def slices_IndexFunc_int64_int64_impl_ruleOrder_1_e (N : Nat) : Ent := { ins := [(.sl (.int .i64)), (.clo 58 (.bx (.sl (.int .i64))))], outs := [.val (.int .i64)], F := fun x => slices_IndexFunc_int64_int64_impl_ruleOrder_1 N x.1 x.2.1 }
def slices_IndexFunc_int64_int64_impl_ruleOrder_1_T (N : Nat) : Nat → List EntX
  | 58 => [.pl (impl_ruleOrder_1_c0_e N)]
  | _ => []
def slices_IndexFunc_int64_int64_impl_ruleOrder_1_L : Nat → List (Nat × TK)
  | 2 => [(8, .v (.int .i64))]
  | _ => []
theorem slices_IndexFunc_int64_int64_impl_ruleOrder_1_eq (N : Nat) : runF N tt (slices_IndexFunc_int64_int64_impl_ruleOrder_1_T N) slices_IndexFunc_int64_int64_impl_ruleOrder_1_L [(.sl (.int .i64)), (.clo 58 (.bx (.sl (.int .i64))))] [.val (.int .i64)] (bodyOf Try.f67) Try.f67.ntmps [4] = (slices_IndexFunc_int64_int64_impl_ruleOrder_1_e N).F := by
  funext x
  kernel_rfl
theorem slices_IndexFunc_int64_int64_impl_ruleOrder_1_sound (N : Nat) : SoundC Try.prog 67 (slices_IndexFunc_int64_int64_impl_ruleOrder_1_e N) := by
  have h := runF_sound (f := 67) (code := bodyOf Try.f67) (N := N) (T := (slices_IndexFunc_int64_int64_impl_ruleOrder_1_T N)) (L := slices_IndexFunc_int64_int64_impl_ruleOrder_1_L) (ins := [(.sl (.int .i64)), (.clo 58 (.bx (.sl (.int .i64))))]) (outs := [.val (.int .i64)]) (res := [4]) mixed tt_ok ?_ Try.func67 (by kernel_rfl) rfl (by kernel_rfl) (by kernel_rfl) (by decide +kernel)
  · rw [slices_IndexFunc_int64_int64_impl_ruleOrder_1_eq] at h
    exact h
  · intro f e he
    unfold slices_IndexFunc_int64_int64_impl_ruleOrder_1_T at he
    split at he
    · rw [List.mem_singleton.1 he]; exact impl_ruleOrder_1_c0_sound N
    · cases he

/- slices.ContainsFunc[[]int64,int64] -/
def slices_ContainsFunc_int64_int64_impl_ruleOrder_1 (N : Nat) (x0 : List Int) (x1 : List Int) : Option (Bool × Unit) :=
  Option.bind (slices_IndexFunc_int64_int64_impl_ruleOrder_1 N x0 x1) fun r1 =>
  some ((decide (r1.1 ≥ 0)), ())
def slices_ContainsFunc_int64_int64_impl_ruleOrder_1_e (N : Nat) : Ent := { ins := [(.sl (.int .i64)), (.clo 58 (.bx (.sl (.int .i64))))], outs := [.val .bool], F := fun x => slices_ContainsFunc_int64_int64_impl_ruleOrder_1 N x.1 x.2.1 }
def slices_ContainsFunc_int64_int64_impl_ruleOrder_1_T (N : Nat) : Nat → List EntX
  | 67 => [.pl (slices_IndexFunc_int64_int64_impl_ruleOrder_1_e N)]
  | _ => []
def slices_ContainsFunc_int64_int64_impl_ruleOrder_1_L : Nat → List (Nat × TK) := fun _ => []
theorem slices_ContainsFunc_int64_int64_impl_ruleOrder_1_eq (N : Nat) : runF N tt (slices_ContainsFunc_int64_int64_impl_ruleOrder_1_T N) slices_ContainsFunc_int64_int64_impl_ruleOrder_1_L [(.sl (.int .i64)), (.clo 58 (.bx (.sl (.int .i64))))] [.val .bool] (bodyOf Try.f57) Try.f57.ntmps [4] = (slices_ContainsFunc_int64_int64_impl_ruleOrder_1_e N).F := by
  funext x
  kernel_rfl
theorem slices_ContainsFunc_int64_int64_impl_ruleOrder_1_sound (N : Nat) : SoundC Try.prog 57 (slices_ContainsFunc_int64_int64_impl_ruleOrder_1_e N) := by
  have h := runF_sound (f := 57) (code := bodyOf Try.f57) (N := N) (T := (slices_ContainsFunc_int64_int64_impl_ruleOrder_1_T N)) (L := slices_ContainsFunc_int64_int64_impl_ruleOrder_1_L) (ins := [(.sl (.int .i64)), (.clo 58 (.bx (.sl (.int .i64))))]) (outs := [.val .bool]) (res := [4]) mixed tt_ok ?_ Try.func57 (by kernel_rfl) rfl (by kernel_rfl) (by kernel_rfl) (by decide +kernel)
  · rw [slices_ContainsFunc_int64_int64_impl_ruleOrder_1_eq] at h
    exact h
  · intro f e he
    unfold slices_ContainsFunc_int64_int64_impl_ruleOrder_1_T at he
    split at he
    · rw [List.mem_singleton.1 he]; exact slices_IndexFunc_int64_int64_impl_ruleOrder_1_sound N
    · cases he

/- impl.ruleOrder -/
def impl_ruleOrder (N : Nat) (x0 : List (Int × Int × (List Int) × List Int)) (x1 : Int) : Option (List (Int) × Unit) :=
  Option.bind (impl_EarlyStarts N x0) fun r1 =>
  Option.bind (impl_lateStarts N x0 r1.2.1) fun r2 =>
  Option.bind (impl_slack N x0) fun r3 =>
  loopN (fun (s4 : List (Int) × Int × Unit) next5 =>
    cond (decide (s4.2.1 < (List.length x0 : Int)))
      (Option.bind (idx x0 s4.2.1) fun v6 =>
      cond (inB s4.2.1 (List.length r2.1))
        (Option.bind (r2.1[(Int.toNat s4.2.1)]?) fun v7 =>
        cond (inB s4.2.1 (List.length r3.1))
          (Option.bind (r3.1[(Int.toNat s4.2.1)]?) fun v8 =>
          cond (inB x1 (List.length ([v7, (IntKind.wrap .i64 (0 - v6.1)), v8, (w64 ((IntKind.wrap .i64 (0 - v6.1)) * v6.2.1))] : List Int)))
            (Option.bind (([v7, (IntKind.wrap .i64 (0 - v6.1)), v8, (w64 ((IntKind.wrap .i64 (0 - v6.1)) * v6.2.1))] : List Int)[(Int.toNat x1)]?) fun v9 =>
            cond (appOk (List.length s4.1) (List.length ([v9] : List Int)))
              (let xs10 := (s4.1 ++ ([v9] : List Int))
              next5 (xs10, (w64 (s4.2.1 + 1)), ())) none) none) none) none)
      (loopN (fun (s11 : List Int × Unit) next12 =>
        cond (decide ((List.length s11.1 : Int) < (List.length x0 : Int)))
          (loopN (fun (s13 : Int × Int × Unit) next14 =>
            cond (decide (s13.2.1 < (List.length x0 : Int)))
              (Option.bind (idx x0 s13.2.1) fun v15 =>
              Option.bind (slices_Contains_int64_int64 N s11.1 s13.2.1) fun r16 =>
              cond r16.1
                (next14 (s13.1, (w64 (s13.2.1 + 1)), ()))
                (Option.bind (slices_ContainsFunc_int64_int64_impl_ruleOrder_1 N v15.2.2.1 s11.1) fun r17 =>
                cond r17.1
                  (next14 (s13.1, (w64 (s13.2.1 + 1)), ()))
                  (cond (decide (s13.1 < 0))
                    (next14 (s13.2.1, (w64 (s13.2.1 + 1)), ()))
                    (cond (inB s13.2.1 (List.length s4.1))
                      (Option.bind (s4.1[(Int.toNat s13.2.1)]?) fun v18 =>
                      cond (inB s13.1 (List.length s4.1))
                        (Option.bind (s4.1[(Int.toNat s13.1)]?) fun v19 =>
                        cond (decide (v18 < v19))
                          (next14 (s13.2.1, (w64 (s13.2.1 + 1)), ()))
                          (next14 (s13.1, (w64 (s13.2.1 + 1)), ()))) none) none))))
              (cond (appOk (List.length s11.1) (List.length ([s13.1] : List Int)))
                (let xs20 := (s11.1 ++ ([s13.1] : List Int))
                next12 (xs20, ())) none)) N ((-1), 0, ()))
          (some (s11.1, ()))) N (([] : List Int), ()))) N (([] : List Int), 0, ())
def impl_ruleOrder_e (N : Nat) : Ent := { ins := [(.sl (.pair (.int .i64) (.pair (.int .i64) (.pair (.sl (.int .i64)) (.sl (.int .i64)))))), (.int .i64)], outs := [.own (.int .i64)], F := fun x => impl_ruleOrder N x.1 x.2.1 }
def impl_ruleOrder_T (N : Nat) : Nat → List EntX
  | 53 => [.pl (impl_EarlyStarts_e N)]
  | 54 => [.pl (impl_lateStarts_e N)]
  | 55 => [.pl (impl_slack_e N)]
  | 56 => [.pl (slices_Contains_int64_int64_e N)]
  | 57 => [.pl (slices_ContainsFunc_int64_int64_impl_ruleOrder_1_e N)]
  | _ => []
def impl_ruleOrder_L : Nat → List (Nat × TK)
  | 5 => [(8, .own (.int .i64)), (31, .v (.int .i64))]
  | 10 => [(13, .b1)]
  | 13 => [(14, .v (.int .i64)), (69, .v (.int .i64))]
  | _ => []
theorem impl_ruleOrder_eq (N : Nat) : runF N tt (impl_ruleOrder_T N) impl_ruleOrder_L [(.sl (.pair (.int .i64) (.pair (.int .i64) (.pair (.sl (.int .i64)) (.sl (.int .i64)))))), (.int .i64)] [.own (.int .i64)] (bodyOf Try.f35) Try.f35.ntmps [4] = (impl_ruleOrder_e N).F := by
  funext x
  kernel_rfl
theorem impl_ruleOrder_sound (N : Nat) : SoundC Try.prog 35 (impl_ruleOrder_e N) := by
  have h := runF_sound (f := 35) (code := bodyOf Try.f35) (N := N) (T := (impl_ruleOrder_T N)) (L := impl_ruleOrder_L) (ins := [(.sl (.pair (.int .i64) (.pair (.int .i64) (.pair (.sl (.int .i64)) (.sl (.int .i64)))))), (.int .i64)]) (outs := [.own (.int .i64)]) (res := [4]) mixed tt_ok ?_ Try.func35 (by kernel_rfl) rfl (by kernel_rfl) (by kernel_rfl) (by decide +kernel)
  · rw [impl_ruleOrder_eq] at h
    exact h
  · intro f e he
    unfold impl_ruleOrder_T at he
    split at he
    · rw [List.mem_singleton.1 he]; exact impl_EarlyStarts_sound N
    · rw [List.mem_singleton.1 he]; exact impl_lateStarts_sound N
    · rw [List.mem_singleton.1 he]; exact impl_slack_sound N
    · rw [List.mem_singleton.1 he]; exact slices_Contains_int64_int64_sound N
    · rw [List.mem_singleton.1 he]; exact slices_ContainsFunc_int64_int64_impl_ruleOrder_1_sound N
    · cases he

/- impl.RulePlan -/
def impl_RulePlan (N : Nat) (x0 : List (Int × Int × (List Int) × List Int)) (x1 : Int) (x2 : Int) : Option (List (Int) × Int × Bool × Unit) :=
  Option.bind (impl_fitsCrew N x0 x2) fun r1 =>
  cond (!r1.1)
    (some ([], 0, false, ()))
    (Option.bind (impl_within N x1 0 3) fun r2 =>
    cond (!r2.1)
      (some ([], 0, false, ()))
      (Option.bind (impl_ruleOrder N x0 x1) fun r3 =>
      Option.bind (impl_orderPlan N x0 r3.1 x2) fun r4 =>
      some (r4.1, r4.2.1, r4.2.2.1, ())))
def impl_RulePlan_e (N : Nat) : Ent := { ins := [(.sl (.pair (.int .i64) (.pair (.int .i64) (.pair (.sl (.int .i64)) (.sl (.int .i64)))))), (.int .i64), (.int .i64)], outs := [.own (.int .i64), .val (.int .i64), .val .bool], F := fun x => impl_RulePlan N x.1 x.2.1 x.2.2.1 }
def impl_RulePlan_T (N : Nat) : Nat → List EntX
  | 28 => [.pl (impl_fitsCrew_e N)]
  | 30 => [.pl (impl_orderPlan_e N)]
  | 34 => [.pl (impl_within_e N)]
  | 35 => [.pl (impl_ruleOrder_e N)]
  | _ => []
def impl_RulePlan_L : Nat → List (Nat × TK) := fun _ => []
theorem impl_RulePlan_eq (N : Nat) : runF N tt (impl_RulePlan_T N) impl_RulePlan_L [(.sl (.pair (.int .i64) (.pair (.int .i64) (.pair (.sl (.int .i64)) (.sl (.int .i64)))))), (.int .i64), (.int .i64)] [.own (.int .i64), .val (.int .i64), .val .bool] (bodyOf Try.f18) Try.f18.ntmps [6, 7, 8] = (impl_RulePlan_e N).F := by
  funext x
  kernel_rfl
theorem impl_RulePlan_sound (N : Nat) : SoundC Try.prog 18 (impl_RulePlan_e N) := by
  have h := runF_sound (f := 18) (code := bodyOf Try.f18) (N := N) (T := (impl_RulePlan_T N)) (L := impl_RulePlan_L) (ins := [(.sl (.pair (.int .i64) (.pair (.int .i64) (.pair (.sl (.int .i64)) (.sl (.int .i64)))))), (.int .i64), (.int .i64)]) (outs := [.own (.int .i64), .val (.int .i64), .val .bool]) (res := [6, 7, 8]) mixed tt_ok ?_ Try.func18 (by kernel_rfl) rfl (by kernel_rfl) (by kernel_rfl) (by decide +kernel)
  · rw [impl_RulePlan_eq] at h
    exact h
  · intro f e he
    unfold impl_RulePlan_T at he
    split at he
    · rw [List.mem_singleton.1 he]; exact impl_fitsCrew_sound N
    · rw [List.mem_singleton.1 he]; exact impl_orderPlan_sound N
    · rw [List.mem_singleton.1 he]; exact impl_within_sound N
    · rw [List.mem_singleton.1 he]; exact impl_ruleOrder_sound N
    · cases he

/- laws.FnExactRulePlan -/
def laws_FnExactRulePlan (N : Nat) (x0 : List (Int × Int × (List Int) × List Int)) (x1 : Int) (x2 : Int) : Option (Bool × Unit) :=
  Option.bind (laws_szTaskS N x0 1048576) fun r1 =>
  cond (decide (r1.1 < 0))
    (some (true, ()))
    (Option.bind (laws_toTaskS N x0) fun r2 =>
    Option.bind (spec_RulePlan N r2.1 x1 x2) fun r3 =>
    Option.bind (laws_toTaskS N x0) fun r4 =>
    Option.bind (impl_RulePlan N r4.1 x1 x2) fun r5 =>
    Option.bind (laws_eqInt64S N r5.1 r3.1) fun r6 =>
    cond (!r6.1)
      (some (false, ()))
      (cond (r5.2.1 != r3.2.1)
        (some (false, ()))
        (cond (!(r5.2.2.1 == r3.2.2.1))
          (some (false, ()))
          (Option.bind (laws_toTaskS N x0) fun r7 =>
          Option.bind (laws_eqTaskS N r4.1 r7.1) fun r8 =>
          cond (!r8.1)
            (some (false, ()))
            (Option.bind (laws_markTaskS_d r4.1 1) fun r9 =>
            cond (decide (r9 < 0))
              (some (false, ()))
              (Option.bind (laws_eqInt64S N r5.1 r3.1) fun r10 =>
              cond (!r10.1)
                (some (false, ()))
                (cond (r5.2.1 != r3.2.1)
                  (some (false, ()))
                  (cond (!(r5.2.2.1 == r3.2.2.1))
                    (some (false, ()))
                    (Option.bind (laws_markInt64S N r5.1 1) fun r11 =>
                    cond (Nat.beq (List.length r11.1) (List.length r5.1))
                      (Option.bind (laws_heldInt64S N r11.1 1) fun r12 =>
                      cond (decide (r12.1 < 0))
                        (some (false, ()))
                        (cond (r12.1 != r11.2.1)
                          (some (false, ()))
                          (Option.bind (laws_toTaskS N x0) fun r13 =>
                          Option.bind (impl_RulePlan N r13.1 x1 x2) fun r14 =>
                          Option.bind (laws_eqInt64S N r14.1 r3.1) fun r15 =>
                          cond (!r15.1)
                            (some (false, ()))
                            (cond (r14.2.1 != r3.2.1)
                              (some (false, ()))
                              (cond (!(r14.2.2.1 == r3.2.2.1))
                                (some (false, ()))
                                (Option.bind (laws_heldInt64S N r11.1 1) fun r16 =>
                                cond (decide (r16.1 < 0))
                                  (some (false, ()))
                                  (cond (r16.1 != r11.2.1)
                                    (some (false, ()))
                                    (some (true, ()))))))))) none)))))))))
def laws_FnExactRulePlan_e (N : Nat) : Ent := { ins := [(.sl (.pair (.int .i64) (.pair (.int .i64) (.pair (.sl (.int .i64)) (.sl (.int .i64)))))), (.int .i64), (.int .i64)], outs := [.val .bool], F := fun x => laws_FnExactRulePlan N x.1 x.2.1 x.2.2.1 }
def laws_FnExactRulePlan_T (N : Nat) : Nat → List EntX
  | 7 => [.pl (laws_szTaskS_e N)]
  | 9 => [.pl (laws_toTaskS_e N)]
  | 12 => [.pl (laws_eqInt64S_e N)]
  | 13 => [.pl (laws_eqTaskS_e N)]
  | 14 => [.dp (laws_markTaskS_d_e N)]
  | 15 => [.mu (laws_markInt64S_e N)]
  | 16 => [.pl (laws_heldInt64S_e N)]
  | 17 => [.pl (spec_RulePlan_e N)]
  | 18 => [.pl (impl_RulePlan_e N)]
  | _ => []
def laws_FnExactRulePlan_L : Nat → List (Nat × TK) := fun _ => []
theorem laws_FnExactRulePlan_eq (N : Nat) : runL N tt (laws_FnExactRulePlan_T N) laws_FnExactRulePlan_L [(.sl (.pair (.int .i64) (.pair (.int .i64) (.pair (.sl (.int .i64)) (.sl (.int .i64)))))), (.int .i64), (.int .i64)] [.val .bool] (bodyOf Try.f4) Try.f4.ntmps [6] = (laws_FnExactRulePlan_e N).F := by
  funext x
  kernel_rfl
theorem laws_FnExactRulePlan_sound (N : Nat) : SoundC Try.prog 4 (laws_FnExactRulePlan_e N) := by
  have h := runL_sound (f := 4) (code := bodyOf Try.f4) (N := N) (T := (laws_FnExactRulePlan_T N)) (L := laws_FnExactRulePlan_L) (ins := [(.sl (.pair (.int .i64) (.pair (.int .i64) (.pair (.sl (.int .i64)) (.sl (.int .i64)))))), (.int .i64), (.int .i64)]) (outs := [.val .bool]) (res := [6]) mixed tt_ok ?_ Try.func4 (by kernel_rfl) rfl (by kernel_rfl) (by kernel_rfl) (by decide +kernel)
  · rw [laws_FnExactRulePlan_eq] at h
    exact h
  · intro f e he
    unfold laws_FnExactRulePlan_T at he
    split at he
    · rw [List.mem_singleton.1 he]; exact laws_szTaskS_sound N
    · rw [List.mem_singleton.1 he]; exact laws_toTaskS_sound N
    · rw [List.mem_singleton.1 he]; exact laws_eqInt64S_sound N
    · rw [List.mem_singleton.1 he]; exact laws_eqTaskS_sound N
    · rw [List.mem_singleton.1 he]; exact laws_markTaskS_d_sound N
    · rw [List.mem_singleton.1 he]; exact laws_markInt64S_sound N
    · rw [List.mem_singleton.1 he]; exact laws_heldInt64S_sound N
    · rw [List.mem_singleton.1 he]; exact spec_RulePlan_sound N
    · rw [List.mem_singleton.1 he]; exact impl_RulePlan_sound N
    · cases he

/- spec.CrewsShared -/
def spec_CrewsShared (N : Nat) (x0 : List (Int × Int × (List Int) × List Int)) (x1 : List Int) (x2 : Int) : Option (List (Int) × Bool × Unit) :=
  Option.bind (spec_l03Are N x0) fun r1 =>
  cond (!r1.1)
    (some ([], false, ()))
    (cond (decide ((List.length x1 : Int) > 16))
      (some ([], false, ()))
      (Option.bind (spec_l00In N x2 1 8) fun r2 =>
      cond (!r2.1)
        (some ([], false, ()))
        (loopN (fun (s3 : List (Int) × Int × Unit) next4 =>
          cond (decide (s3.2.1 < (List.length x1 : Int)))
            (Option.bind (idx x1 s3.2.1) fun v5 =>
            Option.bind (spec_RulePlan N x0 0 v5) fun r6 =>
            cond (!r6.2.2.1)
              (some ([], false, ()))
              (cond (appOk (List.length s3.1) (List.length ([r6.2.1] : List Int)))
                (let xs7 := (s3.1 ++ ([r6.2.1] : List Int))
                next4 (xs7, (w64 (s3.2.1 + 1)), ())) none))
            (some (s3.1, true, ()))) N (([] : List Int), 0, ()))))
def spec_CrewsShared_e (N : Nat) : Ent := { ins := [(.sl (.pair (.int .i64) (.pair (.int .i64) (.pair (.sl (.int .i64)) (.sl (.int .i64)))))), (.sl (.int .i64)), (.int .i64)], outs := [.own (.int .i64), .val .bool], F := fun x => spec_CrewsShared N x.1 x.2.1 x.2.2.1 }
def spec_CrewsShared_T (N : Nat) : Nat → List EntX
  | 17 => [.pl (spec_RulePlan_e N)]
  | 32 => [.pl (spec_l00In_e N)]
  | 36 => [.pl (spec_l03Are_e N)]
  | _ => []
def spec_CrewsShared_L : Nat → List (Nat × TK)
  | 5 => [(8, .own (.int .i64)), (29, .v (.int .i64))]
  | _ => []
theorem spec_CrewsShared_eq (N : Nat) : runF N tt (spec_CrewsShared_T N) spec_CrewsShared_L [(.sl (.pair (.int .i64) (.pair (.int .i64) (.pair (.sl (.int .i64)) (.sl (.int .i64)))))), (.sl (.int .i64)), (.int .i64)] [.own (.int .i64), .val .bool] (bodyOf Try.f19) Try.f19.ntmps [6, 7] = (spec_CrewsShared_e N).F := by
  funext x
  kernel_rfl
theorem spec_CrewsShared_sound (N : Nat) : SoundC Try.prog 19 (spec_CrewsShared_e N) := by
  have h := runF_sound (f := 19) (code := bodyOf Try.f19) (N := N) (T := (spec_CrewsShared_T N)) (L := spec_CrewsShared_L) (ins := [(.sl (.pair (.int .i64) (.pair (.int .i64) (.pair (.sl (.int .i64)) (.sl (.int .i64)))))), (.sl (.int .i64)), (.int .i64)]) (outs := [.own (.int .i64), .val .bool]) (res := [6, 7]) mixed tt_ok ?_ Try.func19 (by kernel_rfl) rfl (by kernel_rfl) (by kernel_rfl) (by decide +kernel)
  · rw [spec_CrewsShared_eq] at h
    exact h
  · intro f e he
    unfold spec_CrewsShared_T at he
    split at he
    · rw [List.mem_singleton.1 he]; exact spec_RulePlan_sound N
    · rw [List.mem_singleton.1 he]; exact spec_l00In_sound N
    · rw [List.mem_singleton.1 he]; exact spec_l03Are_sound N
    · cases he

/- impl.areWorkers -/
def impl_areWorkers (N : Nat) (x0 : Int) : Option (Bool × Unit) :=
  Option.bind (impl_within N x0 1 8) fun r1 =>
  some (r1.1, ())
def impl_areWorkers_e (N : Nat) : Ent := { ins := [(.int .i64)], outs := [.val .bool], F := fun x => impl_areWorkers N x.1 }
def impl_areWorkers_T (N : Nat) : Nat → List EntX
  | 34 => [.pl (impl_within_e N)]
  | _ => []
def impl_areWorkers_L : Nat → List (Nat × TK) := fun _ => []
theorem impl_areWorkers_eq (N : Nat) : runF N tt (impl_areWorkers_T N) impl_areWorkers_L [(.int .i64)] [.val .bool] (bodyOf Try.f38) Try.f38.ntmps [2] = (impl_areWorkers_e N).F := by
  funext x
  kernel_rfl
theorem impl_areWorkers_sound (N : Nat) : SoundC Try.prog 38 (impl_areWorkers_e N) := by
  have h := runF_sound (f := 38) (code := bodyOf Try.f38) (N := N) (T := (impl_areWorkers_T N)) (L := impl_areWorkers_L) (ins := [(.int .i64)]) (outs := [.val .bool]) (res := [2]) mixed tt_ok ?_ Try.func38 (by kernel_rfl) rfl (by kernel_rfl) (by kernel_rfl) (by decide +kernel)
  · rw [impl_areWorkers_eq] at h
    exact h
  · intro f e he
    unfold impl_areWorkers_T at he
    split at he
    · rw [List.mem_singleton.1 he]; exact impl_within_sound N
    · cases he

/- impl.CrewsShared -/
def impl_CrewsShared (N : Nat) (x0 : List (Int × Int × (List Int) × List Int)) (x1 : List Int) (x2 : Int) : Option (List (Int) × Bool × Unit) :=
  Option.bind (impl_AreTasks N x0) fun r1 =>
  cond (!r1.1)
    (some ([], false, ()))
    (cond (decide ((List.length x1 : Int) > 16))
      (some ([], false, ()))
      (Option.bind (impl_areWorkers N x2) fun r2 =>
      cond (!r2.1)
        (some ([], false, ()))
        (loopN (fun (s3 : List (Int) × Int × Unit) next4 =>
          cond (decide (s3.2.1 < (List.length x1 : Int)))
            (Option.bind (idx x1 s3.2.1) fun v5 =>
            Option.bind (impl_RulePlan N x0 0 v5) fun r6 =>
            cond (!r6.2.2.1)
              (some ([], false, ()))
              (cond (appOk (List.length s3.1) (List.length ([r6.2.1] : List Int)))
                (let xs7 := (s3.1 ++ ([r6.2.1] : List Int))
                next4 (xs7, (w64 (s3.2.1 + 1)), ())) none))
            (some (s3.1, true, ()))) N (([] : List Int), 0, ()))))
def impl_CrewsShared_e (N : Nat) : Ent := { ins := [(.sl (.pair (.int .i64) (.pair (.int .i64) (.pair (.sl (.int .i64)) (.sl (.int .i64)))))), (.sl (.int .i64)), (.int .i64)], outs := [.own (.int .i64), .val .bool], F := fun x => impl_CrewsShared N x.1 x.2.1 x.2.2.1 }
def impl_CrewsShared_T (N : Nat) : Nat → List EntX
  | 18 => [.pl (impl_RulePlan_e N)]
  | 37 => [.pl (impl_AreTasks_e N)]
  | 38 => [.pl (impl_areWorkers_e N)]
  | _ => []
def impl_CrewsShared_L : Nat → List (Nat × TK)
  | 5 => [(8, .own (.int .i64)), (30, .v (.int .i64))]
  | _ => []
theorem impl_CrewsShared_eq (N : Nat) : runF N tt (impl_CrewsShared_T N) impl_CrewsShared_L [(.sl (.pair (.int .i64) (.pair (.int .i64) (.pair (.sl (.int .i64)) (.sl (.int .i64)))))), (.sl (.int .i64)), (.int .i64)] [.own (.int .i64), .val .bool] (bodyOf Try.f20) Try.f20.ntmps [6, 7] = (impl_CrewsShared_e N).F := by
  funext x
  kernel_rfl
theorem impl_CrewsShared_sound (N : Nat) : SoundC Try.prog 20 (impl_CrewsShared_e N) := by
  have h := runF_sound (f := 20) (code := bodyOf Try.f20) (N := N) (T := (impl_CrewsShared_T N)) (L := impl_CrewsShared_L) (ins := [(.sl (.pair (.int .i64) (.pair (.int .i64) (.pair (.sl (.int .i64)) (.sl (.int .i64)))))), (.sl (.int .i64)), (.int .i64)]) (outs := [.own (.int .i64), .val .bool]) (res := [6, 7]) mixed tt_ok ?_ Try.func20 (by kernel_rfl) rfl (by kernel_rfl) (by kernel_rfl) (by decide +kernel)
  · rw [impl_CrewsShared_eq] at h
    exact h
  · intro f e he
    unfold impl_CrewsShared_T at he
    split at he
    · rw [List.mem_singleton.1 he]; exact impl_RulePlan_sound N
    · rw [List.mem_singleton.1 he]; exact impl_AreTasks_sound N
    · rw [List.mem_singleton.1 he]; exact impl_areWorkers_sound N
    · cases he

/- laws.FnExactCrewsShared -/
def laws_FnExactCrewsShared (N : Nat) (x0 : List (Int × Int × (List Int) × List Int)) (x1 : List Int) (x2 : Int) : Option (Bool × Unit) :=
  cond (decide ((List.length x1 : Int) > 1048576))
    (some (true, ()))
    (Option.bind (laws_szTaskS N x0 1048576) fun r1 =>
    cond (decide (r1.1 < 0))
      (some (true, ()))
      (Option.bind (laws_toTaskS N x0) fun r2 =>
      Option.bind (laws_toInt64S N x1) fun r3 =>
      Option.bind (spec_CrewsShared N r2.1 r3.1 x2) fun r4 =>
      Option.bind (laws_toTaskS N x0) fun r5 =>
      Option.bind (laws_toInt64S N x1) fun r6 =>
      Option.bind (impl_CrewsShared N r5.1 r6.1 x2) fun r7 =>
      Option.bind (laws_eqInt64S N r7.1 r4.1) fun r8 =>
      cond (!r8.1)
        (some (false, ()))
        (cond (!(r7.2.1 == r4.2.1))
          (some (false, ()))
          (Option.bind (laws_toTaskS N x0) fun r9 =>
          Option.bind (laws_eqTaskS N r5.1 r9.1) fun r10 =>
          cond (!r10.1)
            (some (false, ()))
            (Option.bind (laws_toInt64S N x1) fun r11 =>
            Option.bind (laws_eqInt64S N r6.1 r11.1) fun r12 =>
            cond (!r12.1)
              (some (false, ()))
              (Option.bind (laws_markTaskS_d r5.1 1) fun r13 =>
              Option.bind (laws_markInt64S N r6.1 r13) fun r14 =>
              cond (Nat.beq (List.length r14.1) (List.length r6.1))
                (cond (decide (r14.2.1 < 0))
                  (some (false, ()))
                  (Option.bind (laws_eqInt64S N r7.1 r4.1) fun r15 =>
                  cond (!r15.1)
                    (some (false, ()))
                    (cond (!(r7.2.1 == r4.2.1))
                      (some (false, ()))
                      (Option.bind (laws_markInt64S N r7.1 1) fun r16 =>
                      cond (Nat.beq (List.length r16.1) (List.length r7.1))
                        (Option.bind (laws_heldInt64S N r16.1 1) fun r17 =>
                        cond (decide (r17.1 < 0))
                          (some (false, ()))
                          (cond (r17.1 != r16.2.1)
                            (some (false, ()))
                            (Option.bind (laws_toTaskS N x0) fun r18 =>
                            Option.bind (laws_toInt64S N x1) fun r19 =>
                            Option.bind (impl_CrewsShared N r18.1 r19.1 x2) fun r20 =>
                            Option.bind (laws_eqInt64S N r20.1 r4.1) fun r21 =>
                            cond (!r21.1)
                              (some (false, ()))
                              (cond (!(r20.2.1 == r4.2.1))
                                (some (false, ()))
                                (Option.bind (laws_heldInt64S N r16.1 1) fun r22 =>
                                cond (decide (r22.1 < 0))
                                  (some (false, ()))
                                  (cond (r22.1 != r16.2.1)
                                    (some (false, ()))
                                    (some (true, ())))))))) none)))) none))))))
def laws_FnExactCrewsShared_e (N : Nat) : Ent := { ins := [(.sl (.pair (.int .i64) (.pair (.int .i64) (.pair (.sl (.int .i64)) (.sl (.int .i64)))))), (.sl (.int .i64)), (.int .i64)], outs := [.val .bool], F := fun x => laws_FnExactCrewsShared N x.1 x.2.1 x.2.2.1 }
def laws_FnExactCrewsShared_T (N : Nat) : Nat → List EntX
  | 7 => [.pl (laws_szTaskS_e N)]
  | 9 => [.pl (laws_toTaskS_e N)]
  | 10 => [.pl (laws_toInt64S_e N)]
  | 12 => [.pl (laws_eqInt64S_e N)]
  | 13 => [.pl (laws_eqTaskS_e N)]
  | 14 => [.dp (laws_markTaskS_d_e N)]
  | 15 => [.mu (laws_markInt64S_e N)]
  | 16 => [.pl (laws_heldInt64S_e N)]
  | 19 => [.pl (spec_CrewsShared_e N)]
  | 20 => [.pl (impl_CrewsShared_e N)]
  | _ => []
def laws_FnExactCrewsShared_L : Nat → List (Nat × TK) := fun _ => []
theorem laws_FnExactCrewsShared_eq (N : Nat) : runL N tt (laws_FnExactCrewsShared_T N) laws_FnExactCrewsShared_L [(.sl (.pair (.int .i64) (.pair (.int .i64) (.pair (.sl (.int .i64)) (.sl (.int .i64)))))), (.sl (.int .i64)), (.int .i64)] [.val .bool] (bodyOf Try.f5) Try.f5.ntmps [6] = (laws_FnExactCrewsShared_e N).F := by
  funext x
  kernel_rfl
theorem laws_FnExactCrewsShared_sound (N : Nat) : SoundC Try.prog 5 (laws_FnExactCrewsShared_e N) := by
  have h := runL_sound (f := 5) (code := bodyOf Try.f5) (N := N) (T := (laws_FnExactCrewsShared_T N)) (L := laws_FnExactCrewsShared_L) (ins := [(.sl (.pair (.int .i64) (.pair (.int .i64) (.pair (.sl (.int .i64)) (.sl (.int .i64)))))), (.sl (.int .i64)), (.int .i64)]) (outs := [.val .bool]) (res := [6]) mixed tt_ok ?_ Try.func5 (by kernel_rfl) rfl (by kernel_rfl) (by kernel_rfl) (by decide +kernel)
  · rw [laws_FnExactCrewsShared_eq] at h
    exact h
  · intro f e he
    unfold laws_FnExactCrewsShared_T at he
    split at he
    · rw [List.mem_singleton.1 he]; exact laws_szTaskS_sound N
    · rw [List.mem_singleton.1 he]; exact laws_toTaskS_sound N
    · rw [List.mem_singleton.1 he]; exact laws_toInt64S_sound N
    · rw [List.mem_singleton.1 he]; exact laws_eqInt64S_sound N
    · rw [List.mem_singleton.1 he]; exact laws_eqTaskS_sound N
    · rw [List.mem_singleton.1 he]; exact laws_markTaskS_d_sound N
    · rw [List.mem_singleton.1 he]; exact laws_markInt64S_sound N
    · rw [List.mem_singleton.1 he]; exact laws_heldInt64S_sound N
    · rw [List.mem_singleton.1 he]; exact spec_CrewsShared_sound N
    · rw [List.mem_singleton.1 he]; exact impl_CrewsShared_sound N
    · cases he

/- laws.sameInts -/
def laws_sameInts (N : Nat) (x0 : List Int) (x1 : List Int) : Option (Bool × Unit) :=
  cond ((List.length x0 : Int) != (List.length x1 : Int))
    (some (false, ()))
    (loopN (fun (s1 : Int × Unit) next2 =>
      cond (decide (s1.1 < (List.length x0 : Int)))
        (Option.bind (idx x0 s1.1) fun v3 =>
        Option.bind (idx x1 s1.1) fun v4 =>
        cond (v3 != v4)
          (some (false, ()))
          (next2 ((w64 (s1.1 + 1)), ())))
        (some (true, ()))) N (0, ()))
def laws_sameInts_e (N : Nat) : Ent := { ins := [(.sl (.int .i64)), (.sl (.int .i64))], outs := [.val .bool], F := fun x => laws_sameInts N x.1 x.2.1 }
def laws_sameInts_T (_ : Nat) : Nat → List EntX := fun _ => []
def laws_sameInts_L : Nat → List (Nat × TK)
  | 4 => [(5, .v (.int .i64))]
  | _ => []
theorem laws_sameInts_eq (N : Nat) : runF N tt (laws_sameInts_T N) laws_sameInts_L [(.sl (.int .i64)), (.sl (.int .i64))] [.val .bool] (bodyOf Try.f21) Try.f21.ntmps [4] = (laws_sameInts_e N).F := by
  funext x
  kernel_rfl
theorem laws_sameInts_sound (N : Nat) : SoundC Try.prog 21 (laws_sameInts_e N) := by
  have h := runF_sound (f := 21) (code := bodyOf Try.f21) (N := N) (T := (laws_sameInts_T N)) (L := laws_sameInts_L) (ins := [(.sl (.int .i64)), (.sl (.int .i64))]) (outs := [.val .bool]) (res := [4]) mixed tt_ok ?_ Try.func21 (by kernel_rfl) rfl (by kernel_rfl) (by kernel_rfl) (by decide +kernel)
  · rw [laws_sameInts_eq] at h
    exact h
  · intro f e he
    cases he

/- laws.FnCrewsSharedOfAll -/
def laws_FnCrewsSharedOfAll (N : Nat) (x0 : List (Int × Int × (List Int) × List Int)) (x1 : List Int) (x2 : Int) (x3 : Int) : Option (Bool × Unit) :=
  cond (decide ((List.length x0 : Int) > 10000))
    (some (true, ()))
    (cond (decide ((List.length x1 : Int) > 10000))
      (some (true, ()))
      (Option.bind (impl_CrewsShared N x0 x1 x2) fun r1 =>
      Option.bind (impl_CrewsShared N x0 x1 x3) fun r2 =>
      Option.bind (spec_CrewsShared N x0 x1 x2) fun r3 =>
      cond (!(r1.2.1 == r3.2.1))
        (some (false, ()))
        (cond r1.2.1
          (Option.bind (laws_sameInts N r1.1 r3.1) fun r4 =>
          cond (!r4.1)
            (some (false, ()))
            (cond (decide (x2 < 1))
              (some (true, ()))
              (cond (decide (x2 > 8))
                (some (true, ()))
                (cond (decide (x3 < 1))
                  (some (true, ()))
                  (cond (decide (x3 > 8))
                    (some (true, ()))
                    (cond (r1.2.1 == r2.2.1)
                      (cond (!r1.2.1)
                        (some (true, ()))
                        (Option.bind (laws_sameInts N r1.1 r2.1) fun r5 =>
                        some (r5.1, ())))
                      (some (false, ()))))))))
          (cond (decide (x2 < 1))
            (some (true, ()))
            (cond (decide (x2 > 8))
              (some (true, ()))
              (cond (decide (x3 < 1))
                (some (true, ()))
                (cond (decide (x3 > 8))
                  (some (true, ()))
                  (cond (r1.2.1 == r2.2.1)
                    (cond (!r1.2.1)
                      (some (true, ()))
                      (Option.bind (laws_sameInts N r1.1 r2.1) fun r6 =>
                      some (r6.1, ())))
                    (some (false, ()))))))))))
def laws_FnCrewsSharedOfAll_e (N : Nat) : Ent := { ins := [(.sl (.pair (.int .i64) (.pair (.int .i64) (.pair (.sl (.int .i64)) (.sl (.int .i64)))))), (.sl (.int .i64)), (.int .i64), (.int .i64)], outs := [.val .bool], F := fun x => laws_FnCrewsSharedOfAll N x.1 x.2.1 x.2.2.1 x.2.2.2.1 }
def laws_FnCrewsSharedOfAll_T (N : Nat) : Nat → List EntX
  | 19 => [.pl (spec_CrewsShared_e N)]
  | 20 => [.pl (impl_CrewsShared_e N)]
  | 21 => [.pl (laws_sameInts_e N)]
  | _ => []
def laws_FnCrewsSharedOfAll_L : Nat → List (Nat × TK) := fun _ => []
theorem laws_FnCrewsSharedOfAll_eq (N : Nat) : runF N tt (laws_FnCrewsSharedOfAll_T N) laws_FnCrewsSharedOfAll_L [(.sl (.pair (.int .i64) (.pair (.int .i64) (.pair (.sl (.int .i64)) (.sl (.int .i64)))))), (.sl (.int .i64)), (.int .i64), (.int .i64)] [.val .bool] (bodyOf Try.f6) Try.f6.ntmps [8] = (laws_FnCrewsSharedOfAll_e N).F := by
  funext x
  kernel_rfl
theorem laws_FnCrewsSharedOfAll_sound (N : Nat) : SoundC Try.prog 6 (laws_FnCrewsSharedOfAll_e N) := by
  have h := runF_sound (f := 6) (code := bodyOf Try.f6) (N := N) (T := (laws_FnCrewsSharedOfAll_T N)) (L := laws_FnCrewsSharedOfAll_L) (ins := [(.sl (.pair (.int .i64) (.pair (.int .i64) (.pair (.sl (.int .i64)) (.sl (.int .i64)))))), (.sl (.int .i64)), (.int .i64), (.int .i64)]) (outs := [.val .bool]) (res := [8]) mixed tt_ok ?_ Try.func6 (by kernel_rfl) rfl (by kernel_rfl) (by kernel_rfl) (by decide +kernel)
  · rw [laws_FnCrewsSharedOfAll_eq] at h
    exact h
  · intro f e he
    unfold laws_FnCrewsSharedOfAll_T at he
    split at he
    · rw [List.mem_singleton.1 he]; exact spec_CrewsShared_sound N
    · rw [List.mem_singleton.1 he]; exact impl_CrewsShared_sound N
    · rw [List.mem_singleton.1 he]; exact laws_sameInts_sound N
    · cases he

end Go.Proofs.Ytggpodcpjkafhaa
