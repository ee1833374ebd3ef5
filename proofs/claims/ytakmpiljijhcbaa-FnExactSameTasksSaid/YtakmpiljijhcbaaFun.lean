/-
  The plain functions of this seat, printed by a program, each equal to the evaluator's run, with its contract. No condition.
-/
import Derived.Test.YtakmpiljijhcbaaFwV
import Derived.Test.YtakmpiljijhcbaaChecked
namespace Go.Proofs.Ytakmpiljijhcbaa
open Go Go.Proofs.Ytakmpiljijhcbaa.Fw
set_option maxRecDepth 100000
set_option linter.unusedVariables false

theorem mixed : Try.prog.follows .mixedOrders = true := Try.checked.mixed
def tt : Nat → TD
  | 2 => tdInt .i64
  | 3 => tdInt .i64
  | 4 => tdBool
  | 34 => tdSl (.int .i64) 8
  | 43 => tdSl (.pair (.int .i64) (.pair (.int .i64) (.pair (.sl (.int .i64)) (.sl (.int .i64))))) 64
  | 46 => tdSl (.pair (.int .i64) (.pair (.int .i64) (.pair (.sl (.int .i64)) (.sl (.int .i64))))) 64
  | 76 => tdSt 4 [(0, 1, false), (1, 1, false), (2, 1, false), (3, 1, false)] [.g (.int .i64) (0 : Int), .g (.int .i64) (0 : Int), .nil, .nil]
  | 77 => tdSt 4 [(0, 1, false), (1, 1, false), (2, 1, false), (3, 1, false)] [.g (.int .i64) (0 : Int), .g (.int .i64) (0 : Int), .nil, .nil]
  | _ => tdNone
theorem tt_2 : TDok Try.prog 2 (tdInt .i64) := tdok_int (b := 8) (by kernel_rfl) (by kernel_rfl)
theorem tt_3 : TDok Try.prog 3 (tdInt .i64) := tdok_int (b := 8) (by kernel_rfl) (by kernel_rfl)
theorem tt_4 : TDok Try.prog 4 (tdBool) := tdok_bool (b := 1) (by kernel_rfl) (by kernel_rfl)
theorem tt_34 : TDok Try.prog 34 (tdSl (.int .i64) 8) := tdok_sl (b := 24) (e := 2) (z := (.int .i64 0)) (by kernel_rfl) (by kernel_rfl) (by kernel_rfl) (by decide) (fun _ => by kernel_rfl)
theorem tt_43 : TDok Try.prog 43 (tdSl (.pair (.int .i64) (.pair (.int .i64) (.pair (.sl (.int .i64)) (.sl (.int .i64))))) 64) := tdok_sl (b := 24) (e := 76) (z := (.agg #[(.int .i64 0), (.int .i64 0), (.slice none 0 0), (.slice none 0 0)])) (by kernel_rfl) (by kernel_rfl) (by kernel_rfl) (by decide) (fun _ => by kernel_rfl)
theorem tt_46 : TDok Try.prog 46 (tdSl (.pair (.int .i64) (.pair (.int .i64) (.pair (.sl (.int .i64)) (.sl (.int .i64))))) 64) := tdok_sl (b := 24) (e := 77) (z := (.agg #[(.int .i64 0), (.int .i64 0), (.slice none 0 0), (.slice none 0 0)])) (by kernel_rfl) (by kernel_rfl) (by kernel_rfl) (by decide) (fun _ => by kernel_rfl)
theorem tt_76 : TDok Try.prog 76 (tdSt 4 [(0, 1, false), (1, 1, false), (2, 1, false), (3, 1, false)] [.g (.int .i64) (0 : Int), .g (.int .i64) (0 : Int), .nil, .nil]) := tdok_st (b := 64) (z := (.agg #[(.int .i64 0), (.int .i64 0), (.slice none 0 0), (.slice none 0 0)])) (by kernel_rfl) (by kernel_rfl) (by kernel_rfl) (by kernel_rfl) (by kernel_rfl)
theorem tt_77 : TDok Try.prog 77 (tdSt 4 [(0, 1, false), (1, 1, false), (2, 1, false), (3, 1, false)] [.g (.int .i64) (0 : Int), .g (.int .i64) (0 : Int), .nil, .nil]) := tdok_st (b := 64) (z := (.agg #[(.int .i64 0), (.int .i64 0), (.slice none 0 0), (.slice none 0 0)])) (by kernel_rfl) (by kernel_rfl) (by kernel_rfl) (by kernel_rfl) (by kernel_rfl)
theorem tt_ok (t : Nat) : TDok Try.prog t (tt t) := by
  unfold tt
  split
  · exact tt_2
  · exact tt_3
  · exact tt_4
  · exact tt_34
  · exact tt_43
  · exact tt_46
  · exact tt_76
  · exact tt_77
  · exact tdok_none

/- laws.toInt64S -/
def laws_toInt64S (N : Nat) (x0 : List Int) : Option (List (Int) × Unit) :=
  cond (mkOk (List.length x0 : Int) (List.length x0 : Int))
    (let xs1 := (List.replicate (Int.toNat (List.length x0 : Int)) (0 : Int) : List (Int))
    loopN (fun (s2 : List (Int) × Int × Unit) next3 =>
      cond (decide (s2.2.1 < (List.length x0 : Int)))
        (Option.bind (idx x0 s2.2.1) fun v4 =>
        cond (inB s2.2.1 (List.length s2.1))
          (let xs5 := (List.set s2.1 (Int.toNat s2.2.1) v4)
          next3 (xs5, (w64 (s2.2.1 + 1)), ())) none)
        (some (s2.1, ()))) N (xs1, 0, ())) none
def laws_toInt64S_e (N : Nat) : Ent := { ins := [(.sl (.int .i64))], outs := [.own (.int .i64)], F := fun x => laws_toInt64S N x.1 }
def laws_toInt64S_T (_ : Nat) : Nat → List EntX := fun _ => []
def laws_toInt64S_L : Nat → List (Nat × TK)
  | 3 => [(3, .own (.int .i64)), (4, .v (.int .i64))]
  | _ => []
theorem laws_toInt64S_eq (N : Nat) : runF N tt (laws_toInt64S_T N) laws_toInt64S_L [(.sl (.int .i64))] [.own (.int .i64)] (bodyOf Try.f26) Try.f26.ntmps [2] = (laws_toInt64S_e N).F := by
  funext x
  kernel_rfl
theorem laws_toInt64S_sound (N : Nat) : SoundC Try.prog 26 (laws_toInt64S_e N) := by
  have h := runF_sound (f := 26) (code := bodyOf Try.f26) (N := N) (T := laws_toInt64S_T N) (L := laws_toInt64S_L) (ins := [(.sl (.int .i64))]) (outs := [.own (.int .i64)]) (res := [2]) mixed tt_ok ?_ Try.func26 (by kernel_rfl) rfl (by kernel_rfl) (by kernel_rfl) (by decide +kernel)
  · rw [laws_toInt64S_eq] at h
    exact h
  · intro f e he
    cases he

/- laws.eqInt64S -/
def laws_eqInt64S (N : Nat) (x0 : List Int) (x1 : List Int) : Option (Bool × Unit) :=
  cond ((List.length x0 : Int) != (List.length x1 : Int))
    (some (false, ()))
    (loopN (fun (s1 : Int × Unit) next2 =>
      cond (decide (s1.1 < (List.length x0 : Int)))
        (Option.bind (idx x0 s1.1) fun v3 =>
        Option.bind (idx x1 s1.1) fun v4 =>
        cond (v3 != v4)
          (some (false, ()))
          (next2 ((w64 (s1.1 + 1)), ())))
        (some (true, ()))) N (0, ()))
def laws_eqInt64S_e (N : Nat) : Ent := { ins := [(.sl (.int .i64)), (.sl (.int .i64))], outs := [.val .bool], F := fun x => laws_eqInt64S N x.1 x.2.1 }
def laws_eqInt64S_T (_ : Nat) : Nat → List EntX := fun _ => []
def laws_eqInt64S_L : Nat → List (Nat × TK)
  | 4 => [(5, .v (.int .i64))]
  | _ => []
theorem laws_eqInt64S_eq (N : Nat) : runF N tt (laws_eqInt64S_T N) laws_eqInt64S_L [(.sl (.int .i64)), (.sl (.int .i64))] [.val .bool] (bodyOf Try.f28) Try.f28.ntmps [4] = (laws_eqInt64S_e N).F := by
  funext x
  kernel_rfl
theorem laws_eqInt64S_sound (N : Nat) : SoundC Try.prog 28 (laws_eqInt64S_e N) := by
  have h := runF_sound (f := 28) (code := bodyOf Try.f28) (N := N) (T := laws_eqInt64S_T N) (L := laws_eqInt64S_L) (ins := [(.sl (.int .i64)), (.sl (.int .i64))]) (outs := [.val .bool]) (res := [4]) mixed tt_ok ?_ Try.func28 (by kernel_rfl) rfl (by kernel_rfl) (by kernel_rfl) (by decide +kernel)
  · rw [laws_eqInt64S_eq] at h
    exact h
  · intro f e he
    cases he

/- spec.l00In -/
def spec_l00In (_N : Nat) (x0 : Int) (x1 : Int) (x2 : Int) : Option (Bool × Unit) :=
  cond (decide (x0 ≥ x1))
    (some ((decide (x0 ≤ x2)), ()))
    (some (false, ()))
def spec_l00In_e (N : Nat) : Ent := { ins := [(.int .i64), (.int .i64), (.int .i64)], outs := [.val .bool], F := fun x => spec_l00In N x.1 x.2.1 x.2.2.1 }
def spec_l00In_T (_ : Nat) : Nat → List EntX := fun _ => []
def spec_l00In_L : Nat → List (Nat × TK) := fun _ => []
theorem spec_l00In_eq (N : Nat) : runF N tt (spec_l00In_T N) spec_l00In_L [(.int .i64), (.int .i64), (.int .i64)] [.val .bool] (bodyOf Try.f63) Try.f63.ntmps [6] = (spec_l00In_e N).F := by
  funext x
  kernel_rfl
theorem spec_l00In_sound (N : Nat) : SoundC Try.prog 63 (spec_l00In_e N) := by
  have h := runF_sound (f := 63) (code := bodyOf Try.f63) (N := N) (T := spec_l00In_T N) (L := spec_l00In_L) (ins := [(.int .i64), (.int .i64), (.int .i64)]) (outs := [.val .bool]) (res := [6]) mixed tt_ok ?_ Try.func63 (by kernel_rfl) rfl (by kernel_rfl) (by kernel_rfl) (by decide +kernel)
  · rw [spec_l00In_eq] at h
    exact h
  · intro f e he
    cases he

/- spec.l02Times -/
def spec_l02Times (N : Nat) (x0 : List Int) : Option (Bool × Unit) :=
  loopN (fun (s1 : Int × Unit) next2 =>
    cond (decide (s1.1 < (List.length x0 : Int)))
      (Option.bind (idx x0 s1.1) fun v3 =>
      Option.bind (spec_l00In N v3 1 10000) fun r4 =>
      cond (!r4.1)
        (some (false, ()))
        (next2 ((w64 (s1.1 + 1)), ())))
      (cond (decide ((List.length x0 : Int) ≥ 1))
        (some ((decide ((List.length x0 : Int) ≤ 24)), ()))
        (some (false, ())))) N (0, ())
def spec_l02Times_e (N : Nat) : Ent := { ins := [(.sl (.int .i64))], outs := [.val .bool], F := fun x => spec_l02Times N x.1 }
def spec_l02Times_T (N : Nat) : Nat → List EntX
  | 63 => [.pl (spec_l00In_e N)]
  | _ => []
def spec_l02Times_L : Nat → List (Nat × TK)
  | 2 => [(3, .v (.int .i64))]
  | _ => []
theorem spec_l02Times_eq (N : Nat) : runF N tt (spec_l02Times_T N) spec_l02Times_L [(.sl (.int .i64))] [.val .bool] (bodyOf Try.f98) Try.f98.ntmps [2] = (spec_l02Times_e N).F := by
  funext x
  kernel_rfl
theorem spec_l02Times_sound (N : Nat) : SoundC Try.prog 98 (spec_l02Times_e N) := by
  have h := runF_sound (f := 98) (code := bodyOf Try.f98) (N := N) (T := spec_l02Times_T N) (L := spec_l02Times_L) (ins := [(.sl (.int .i64))]) (outs := [.val .bool]) (res := [2]) mixed tt_ok ?_ Try.func98 (by kernel_rfl) rfl (by kernel_rfl) (by kernel_rfl) (by decide +kernel)
  · rw [spec_l02Times_eq] at h
    exact h
  · intro f e he
    unfold spec_l02Times_T at he
    split at he
    · rw [List.mem_singleton.1 he]; exact spec_l00In_sound N
    · cases he

/- spec.l04Tasks -/
def spec_l04Tasks (N : Nat) (x0 : List Int) : Option (Bool × Unit) :=
  Option.bind (spec_l02Times N x0) fun r1 =>
  cond r1.1
    (some ((decide ((List.length x0 : Int) ≤ 12)), ()))
    (some (false, ()))
def spec_l04Tasks_e (N : Nat) : Ent := { ins := [(.sl (.int .i64))], outs := [.val .bool], F := fun x => spec_l04Tasks N x.1 }
def spec_l04Tasks_T (N : Nat) : Nat → List EntX
  | 98 => [.pl (spec_l02Times_e N)]
  | _ => []
def spec_l04Tasks_L : Nat → List (Nat × TK) := fun _ => []
theorem spec_l04Tasks_eq (N : Nat) : runF N tt (spec_l04Tasks_T N) spec_l04Tasks_L [(.sl (.int .i64))] [.val .bool] (bodyOf Try.f62) Try.f62.ntmps [2] = (spec_l04Tasks_e N).F := by
  funext x
  kernel_rfl
theorem spec_l04Tasks_sound (N : Nat) : SoundC Try.prog 62 (spec_l04Tasks_e N) := by
  have h := runF_sound (f := 62) (code := bodyOf Try.f62) (N := N) (T := spec_l04Tasks_T N) (L := spec_l04Tasks_L) (ins := [(.sl (.int .i64))]) (outs := [.val .bool]) (res := [2]) mixed tt_ok ?_ Try.func62 (by kernel_rfl) rfl (by kernel_rfl) (by kernel_rfl) (by decide +kernel)
  · rw [spec_l04Tasks_eq] at h
    exact h
  · intro f e he
    unfold spec_l04Tasks_T at he
    split at he
    · rw [List.mem_singleton.1 he]; exact spec_l02Times_sound N
    · cases he

/- spec.l00Max -/
def spec_l00Max (_N : Nat) (x0 : Int) (x1 : Int) : Option (Int × Unit) :=
  cond (decide (x0 > x1))
    (some (x0, ()))
    (some (x1, ()))
def spec_l00Max_e (N : Nat) : Ent := { ins := [(.int .i64), (.int .i64)], outs := [.val (.int .i64)], F := fun x => spec_l00Max N x.1 x.2.1 }
def spec_l00Max_T (_ : Nat) : Nat → List EntX := fun _ => []
def spec_l00Max_L : Nat → List (Nat × TK) := fun _ => []
theorem spec_l00Max_eq (N : Nat) : runF N tt (spec_l00Max_T N) spec_l00Max_L [(.int .i64), (.int .i64)] [.val (.int .i64)] (bodyOf Try.f86) Try.f86.ntmps [4] = (spec_l00Max_e N).F := by
  funext x
  kernel_rfl
theorem spec_l00Max_sound (N : Nat) : SoundC Try.prog 86 (spec_l00Max_e N) := by
  have h := runF_sound (f := 86) (code := bodyOf Try.f86) (N := N) (T := spec_l00Max_T N) (L := spec_l00Max_L) (ins := [(.int .i64), (.int .i64)]) (outs := [.val (.int .i64)]) (res := [4]) mixed tt_ok ?_ Try.func86 (by kernel_rfl) rfl (by kernel_rfl) (by kernel_rfl) (by decide +kernel)
  · rw [spec_l00Max_eq] at h
    exact h
  · intro f e he
    cases he

/- spec.l02Greatest -/
def spec_l02Greatest (N : Nat) (x0 : List Int) : Option (Int × Unit) :=
  Option.bind (idx x0 0) fun v1 =>
  loopN (fun (s2 : Int × Int × Unit) next3 =>
    cond (decide (s2.2.1 < (List.length x0 : Int)))
      (Option.bind (idx x0 s2.2.1) fun v4 =>
      Option.bind (spec_l00Max N s2.1 v4) fun r5 =>
      next3 (r5.1, (w64 (s2.2.1 + 1)), ()))
      (some (s2.1, ()))) N (v1, 1, ())
def spec_l02Greatest_e (N : Nat) : Ent := { ins := [(.sl (.int .i64))], outs := [.val (.int .i64)], F := fun x => spec_l02Greatest N x.1 }
def spec_l02Greatest_T (N : Nat) : Nat → List EntX
  | 86 => [.pl (spec_l00Max_e N)]
  | _ => []
def spec_l02Greatest_L : Nat → List (Nat × TK)
  | 3 => [(3, .v (.int .i64)), (4, .v (.int .i64))]
  | _ => []
theorem spec_l02Greatest_eq (N : Nat) : runF N tt (spec_l02Greatest_T N) spec_l02Greatest_L [(.sl (.int .i64))] [.val (.int .i64)] (bodyOf Try.f64) Try.f64.ntmps [2] = (spec_l02Greatest_e N).F := by
  funext x
  kernel_rfl
theorem spec_l02Greatest_sound (N : Nat) : SoundC Try.prog 64 (spec_l02Greatest_e N) := by
  have h := runF_sound (f := 64) (code := bodyOf Try.f64) (N := N) (T := spec_l02Greatest_T N) (L := spec_l02Greatest_L) (ins := [(.sl (.int .i64))]) (outs := [.val (.int .i64)]) (res := [2]) mixed tt_ok ?_ Try.func64 (by kernel_rfl) rfl (by kernel_rfl) (by kernel_rfl) (by decide +kernel)
  · rw [spec_l02Greatest_eq] at h
    exact h
  · intro f e he
    unfold spec_l02Greatest_T at he
    split at he
    · rw [List.mem_singleton.1 he]; exact spec_l00Max_sound N
    · cases he

/- spec.LoadsOfLine -/
def spec_LoadsOfLine (N : Nat) (x0 : List Int) (x1 : List Int) : Option (List (Int) × Bool × Unit) :=
  Option.bind (spec_l04Tasks N x0) fun r1 =>
  cond (!r1.1)
    (some ([], false, ()))
    (cond ((List.length x1 : Int) != (List.length x0 : Int))
      (some ([], false, ()))
      (loopN (fun (s2 : Int × Unit) next3 =>
        cond (decide (s2.1 < (List.length x1 : Int)))
          (Option.bind (idx x1 s2.1) fun v4 =>
          Option.bind (spec_l00In N v4 0 11) fun r5 =>
          cond (!r5.1)
            (some ([], false, ()))
            (next3 ((w64 (s2.1 + 1)), ())))
          (Option.bind (spec_l02Greatest N x1) fun r6 =>
          cond (mkOk (w64 (r6.1 + 1)) (w64 (r6.1 + 1)))
            (let xs7 := (List.replicate (Int.toNat (w64 (r6.1 + 1))) (0 : Int) : List (Int))
            loopN (fun (s8 : List (Int) × Int × Unit) next9 =>
              cond (decide (s8.2.1 < (List.length x0 : Int)))
                (Option.bind (idx x1 s8.2.1) fun v10 =>
                cond (inB v10 (List.length s8.1))
                  (Option.bind (s8.1[(Int.toNat v10)]?) fun v11 =>
                  Option.bind (idx x0 s8.2.1) fun v12 =>
                  cond (inB v10 (List.length s8.1))
                    (let xs13 := (List.set s8.1 (Int.toNat v10) (w64 (v11 + v12)))
                    next9 (xs13, (w64 (s8.2.1 + 1)), ())) none) none)
                (some (s8.1, true, ()))) N (xs7, 0, ())) none)) N (0, ())))
def spec_LoadsOfLine_e (N : Nat) : Ent := { ins := [(.sl (.int .i64)), (.sl (.int .i64))], outs := [.own (.int .i64), .val .bool], F := fun x => spec_LoadsOfLine N x.1 x.2.1 }
def spec_LoadsOfLine_T (N : Nat) : Nat → List EntX
  | 62 => [.pl (spec_l04Tasks_e N)]
  | 63 => [.pl (spec_l00In_e N)]
  | 64 => [.pl (spec_l02Greatest_e N)]
  | _ => []
def spec_LoadsOfLine_L : Nat → List (Nat × TK)
  | 4 => [(6, .v (.int .i64))]
  | 10 => [(7, .own (.int .i64)), (8, .v (.int .i64))]
  | _ => []
theorem spec_LoadsOfLine_eq (N : Nat) : runF N tt (spec_LoadsOfLine_T N) spec_LoadsOfLine_L [(.sl (.int .i64)), (.sl (.int .i64))] [.own (.int .i64), .val .bool] (bodyOf Try.f29) Try.f29.ntmps [4, 5] = (spec_LoadsOfLine_e N).F := by
  funext x
  kernel_rfl
theorem spec_LoadsOfLine_sound (N : Nat) : SoundC Try.prog 29 (spec_LoadsOfLine_e N) := by
  have h := runF_sound (f := 29) (code := bodyOf Try.f29) (N := N) (T := spec_LoadsOfLine_T N) (L := spec_LoadsOfLine_L) (ins := [(.sl (.int .i64)), (.sl (.int .i64))]) (outs := [.own (.int .i64), .val .bool]) (res := [4, 5]) mixed tt_ok ?_ Try.func29 (by kernel_rfl) rfl (by kernel_rfl) (by kernel_rfl) (by decide +kernel)
  · rw [spec_LoadsOfLine_eq] at h
    exact h
  · intro f e he
    unfold spec_LoadsOfLine_T at he
    split at he
    · rw [List.mem_singleton.1 he]; exact spec_l04Tasks_sound N
    · rw [List.mem_singleton.1 he]; exact spec_l00In_sound N
    · rw [List.mem_singleton.1 he]; exact spec_l02Greatest_sound N
    · cases he

/- impl.within -/
def impl_within (_N : Nat) (x0 : Int) (x1 : Int) (x2 : Int) : Option (Bool × Unit) :=
  cond (decide (x0 ≥ x1))
    (some ((decide (x0 ≤ x2)), ()))
    (some (false, ()))
def impl_within_e (N : Nat) : Ent := { ins := [(.int .i64), (.int .i64), (.int .i64)], outs := [.val .bool], F := fun x => impl_within N x.1 x.2.1 x.2.2.1 }
def impl_within_T (_ : Nat) : Nat → List EntX := fun _ => []
def impl_within_L : Nat → List (Nat × TK) := fun _ => []
theorem impl_within_eq (N : Nat) : runF N tt (impl_within_T N) impl_within_L [(.int .i64), (.int .i64), (.int .i64)] [.val .bool] (bodyOf Try.f75) Try.f75.ntmps [6] = (impl_within_e N).F := by
  funext x
  kernel_rfl
theorem impl_within_sound (N : Nat) : SoundC Try.prog 75 (impl_within_e N) := by
  have h := runF_sound (f := 75) (code := bodyOf Try.f75) (N := N) (T := impl_within_T N) (L := impl_within_L) (ins := [(.int .i64), (.int .i64), (.int .i64)]) (outs := [.val .bool]) (res := [6]) mixed tt_ok ?_ Try.func75 (by kernel_rfl) rfl (by kernel_rfl) (by kernel_rfl) (by decide +kernel)
  · rw [impl_within_eq] at h
    exact h
  · intro f e he
    cases he

/- impl.areWithin -/
def impl_areWithin (N : Nat) (x0 : List Int) (x1 : Int) (x2 : Int) : Option (Bool × Unit) :=
  loopN (fun (s1 : Int × Unit) next2 =>
    cond (decide (s1.1 < (List.length x0 : Int)))
      (Option.bind (idx x0 s1.1) fun v3 =>
      Option.bind (impl_within N v3 x1 x2) fun r4 =>
      cond (!r4.1)
        (some (false, ()))
        (next2 ((w64 (s1.1 + 1)), ())))
      (some (true, ()))) N (0, ())
def impl_areWithin_e (N : Nat) : Ent := { ins := [(.sl (.int .i64)), (.int .i64), (.int .i64)], outs := [.val .bool], F := fun x => impl_areWithin N x.1 x.2.1 x.2.2.1 }
def impl_areWithin_T (N : Nat) : Nat → List EntX
  | 75 => [.pl (impl_within_e N)]
  | _ => []
def impl_areWithin_L : Nat → List (Nat × TK)
  | 2 => [(11, .v (.int .i64))]
  | _ => []
theorem impl_areWithin_eq (N : Nat) : runF N tt (impl_areWithin_T N) impl_areWithin_L [(.sl (.int .i64)), (.int .i64), (.int .i64)] [.val .bool] (bodyOf Try.f76) Try.f76.ntmps [6] = (impl_areWithin_e N).F := by
  funext x
  kernel_rfl
theorem impl_areWithin_sound (N : Nat) : SoundC Try.prog 76 (impl_areWithin_e N) := by
  have h := runF_sound (f := 76) (code := bodyOf Try.f76) (N := N) (T := impl_areWithin_T N) (L := impl_areWithin_L) (ins := [(.sl (.int .i64)), (.int .i64), (.int .i64)]) (outs := [.val .bool]) (res := [6]) mixed tt_ok ?_ Try.func76 (by kernel_rfl) rfl (by kernel_rfl) (by kernel_rfl) (by decide +kernel)
  · rw [impl_areWithin_eq] at h
    exact h
  · intro f e he
    unfold impl_areWithin_T at he
    split at he
    · rw [List.mem_singleton.1 he]; exact impl_within_sound N
    · cases he

/- impl.areMany -/
def impl_areMany (N : Nat) (x0 : List Int) (x1 : Int) (x2 : Int) (x3 : Int) (x4 : Int) : Option (Bool × Unit) :=
  cond (decide ((List.length x0 : Int) ≥ x1))
    (cond (decide ((List.length x0 : Int) ≤ x2))
      (Option.bind (impl_areWithin N x0 x3 x4) fun r1 =>
      some (r1.1, ()))
      (some (false, ())))
    (some (false, ()))
def impl_areMany_e (N : Nat) : Ent := { ins := [(.sl (.int .i64)), (.int .i64), (.int .i64), (.int .i64), (.int .i64)], outs := [.val .bool], F := fun x => impl_areMany N x.1 x.2.1 x.2.2.1 x.2.2.2.1 x.2.2.2.2.1 }
def impl_areMany_T (N : Nat) : Nat → List EntX
  | 76 => [.pl (impl_areWithin_e N)]
  | _ => []
def impl_areMany_L : Nat → List (Nat × TK) := fun _ => []
theorem impl_areMany_eq (N : Nat) : runF N tt (impl_areMany_T N) impl_areMany_L [(.sl (.int .i64)), (.int .i64), (.int .i64), (.int .i64), (.int .i64)] [.val .bool] (bodyOf Try.f66) Try.f66.ntmps [10] = (impl_areMany_e N).F := by
  funext x
  kernel_rfl
theorem impl_areMany_sound (N : Nat) : SoundC Try.prog 66 (impl_areMany_e N) := by
  have h := runF_sound (f := 66) (code := bodyOf Try.f66) (N := N) (T := impl_areMany_T N) (L := impl_areMany_L) (ins := [(.sl (.int .i64)), (.int .i64), (.int .i64), (.int .i64), (.int .i64)]) (outs := [.val .bool]) (res := [10]) mixed tt_ok ?_ Try.func66 (by kernel_rfl) rfl (by kernel_rfl) (by kernel_rfl) (by decide +kernel)
  · rw [impl_areMany_eq] at h
    exact h
  · intro f e he
    unfold impl_areMany_T at he
    split at he
    · rw [List.mem_singleton.1 he]; exact impl_areWithin_sound N
    · cases he

/- impl.areLine -/
def impl_areLine (N : Nat) (x0 : List Int) : Option (Bool × Unit) :=
  Option.bind (impl_areMany N x0 1 12 1 10000) fun r1 =>
  some (r1.1, ())
def impl_areLine_e (N : Nat) : Ent := { ins := [(.sl (.int .i64))], outs := [.val .bool], F := fun x => impl_areLine N x.1 }
def impl_areLine_T (N : Nat) : Nat → List EntX
  | 66 => [.pl (impl_areMany_e N)]
  | _ => []
def impl_areLine_L : Nat → List (Nat × TK) := fun _ => []
theorem impl_areLine_eq (N : Nat) : runF N tt (impl_areLine_T N) impl_areLine_L [(.sl (.int .i64))] [.val .bool] (bodyOf Try.f65) Try.f65.ntmps [2] = (impl_areLine_e N).F := by
  funext x
  kernel_rfl
theorem impl_areLine_sound (N : Nat) : SoundC Try.prog 65 (impl_areLine_e N) := by
  have h := runF_sound (f := 65) (code := bodyOf Try.f65) (N := N) (T := impl_areLine_T N) (L := impl_areLine_L) (ins := [(.sl (.int .i64))]) (outs := [.val .bool]) (res := [2]) mixed tt_ok ?_ Try.func65 (by kernel_rfl) rfl (by kernel_rfl) (by kernel_rfl) (by decide +kernel)
  · rw [impl_areLine_eq] at h
    exact h
  · intro f e he
    unfold impl_areLine_T at he
    split at he
    · rw [List.mem_singleton.1 he]; exact impl_areMany_sound N
    · cases he

/- slices.Max[[]int64,int64] -/
def slices_Max_int64_int64 (N : Nat) (x0 : List Int) : Option (Int × Unit) :=
  cond (decide ((List.length x0 : Int) < 1))
    (none)
    (Option.bind (idx x0 0) fun v1 =>
    loopN (fun (s2 : Int × Int × Unit) next3 =>
      cond (decide (s2.2.1 < (List.length x0 : Int)))
        (Option.bind (idx x0 s2.2.1) fun v4 =>
        next3 ((imax s2.1 v4), (w64 (s2.2.1 + 1)), ()))
        (some (s2.1, ()))) N (v1, 1, ()))
def slices_Max_int64_int64_e (N : Nat) : Ent := { ins := [(.sl (.int .i64))], outs := [.val (.int .i64)], F := fun x => slices_Max_int64_int64 N x.1 }
def slices_Max_int64_int64_T (_ : Nat) : Nat → List EntX := fun _ => []
def slices_Max_int64_int64_L : Nat → List (Nat × TK)
  | 5 => [(3, .v (.int .i64)), (4, .v (.int .i64))]
  | _ => []
theorem slices_Max_int64_int64_eq (N : Nat) : runF N tt (slices_Max_int64_int64_T N) slices_Max_int64_int64_L [(.sl (.int .i64))] [.val (.int .i64)] (bodyOf Try.f67) Try.f67.ntmps [2] = (slices_Max_int64_int64_e N).F := by
  funext x
  kernel_rfl
theorem slices_Max_int64_int64_sound (N : Nat) : SoundC Try.prog 67 (slices_Max_int64_int64_e N) := by
  have h := runF_sound (f := 67) (code := bodyOf Try.f67) (N := N) (T := slices_Max_int64_int64_T N) (L := slices_Max_int64_int64_L) (ins := [(.sl (.int .i64))]) (outs := [.val (.int .i64)]) (res := [2]) mixed tt_ok ?_ Try.func67 (by kernel_rfl) rfl (by kernel_rfl) (by kernel_rfl) (by decide +kernel)
  · rw [slices_Max_int64_int64_eq] at h
    exact h
  · intro f e he
    cases he

/- impl.LoadsOfLine -/
def impl_LoadsOfLine (N : Nat) (x0 : List Int) (x1 : List Int) : Option (List (Int) × Bool × Unit) :=
  Option.bind (impl_areLine N x0) fun r1 =>
  cond (!r1.1)
    (some ([], false, ()))
    (Option.bind (impl_areMany N x1 (List.length x0 : Int) (List.length x0 : Int) 0 11) fun r2 =>
    cond (!r2.1)
      (some ([], false, ()))
      (Option.bind (slices_Max_int64_int64 N x1) fun r3 =>
      cond (mkOk (w64 (r3.1 + 1)) (w64 (r3.1 + 1)))
        (let xs4 := (List.replicate (Int.toNat (w64 (r3.1 + 1))) (0 : Int) : List (Int))
        loopN (fun (s5 : List (Int) × Int × Unit) next6 =>
          cond (decide (s5.2.1 < (List.length x1 : Int)))
            (Option.bind (idx x1 s5.2.1) fun v7 =>
            cond (inB v7 (List.length s5.1))
              (Option.bind (s5.1[(Int.toNat v7)]?) fun v8 =>
              Option.bind (idx x0 s5.2.1) fun v9 =>
              cond (inB v7 (List.length s5.1))
                (let xs10 := (List.set s5.1 (Int.toNat v7) (w64 (v8 + v9)))
                next6 (xs10, (w64 (s5.2.1 + 1)), ())) none) none)
            (some (s5.1, true, ()))) N (xs4, 0, ())) none))
def impl_LoadsOfLine_e (N : Nat) : Ent := { ins := [(.sl (.int .i64)), (.sl (.int .i64))], outs := [.own (.int .i64), .val .bool], F := fun x => impl_LoadsOfLine N x.1 x.2.1 }
def impl_LoadsOfLine_T (N : Nat) : Nat → List EntX
  | 65 => [.pl (impl_areLine_e N)]
  | 66 => [.pl (impl_areMany_e N)]
  | 67 => [.pl (slices_Max_int64_int64_e N)]
  | _ => []
def impl_LoadsOfLine_L : Nat → List (Nat × TK)
  | 5 => [(6, .own (.int .i64)), (27, .v (.int .i64))]
  | _ => []
theorem impl_LoadsOfLine_eq (N : Nat) : runF N tt (impl_LoadsOfLine_T N) impl_LoadsOfLine_L [(.sl (.int .i64)), (.sl (.int .i64))] [.own (.int .i64), .val .bool] (bodyOf Try.f30) Try.f30.ntmps [4, 5] = (impl_LoadsOfLine_e N).F := by
  funext x
  kernel_rfl
theorem impl_LoadsOfLine_sound (N : Nat) : SoundC Try.prog 30 (impl_LoadsOfLine_e N) := by
  have h := runF_sound (f := 30) (code := bodyOf Try.f30) (N := N) (T := impl_LoadsOfLine_T N) (L := impl_LoadsOfLine_L) (ins := [(.sl (.int .i64)), (.sl (.int .i64))]) (outs := [.own (.int .i64), .val .bool]) (res := [4, 5]) mixed tt_ok ?_ Try.func30 (by kernel_rfl) rfl (by kernel_rfl) (by kernel_rfl) (by decide +kernel)
  · rw [impl_LoadsOfLine_eq] at h
    exact h
  · intro f e he
    unfold impl_LoadsOfLine_T at he
    split at he
    · rw [List.mem_singleton.1 he]; exact impl_areLine_sound N
    · rw [List.mem_singleton.1 he]; exact impl_areMany_sound N
    · rw [List.mem_singleton.1 he]; exact slices_Max_int64_int64_sound N
    · cases he

/- laws.markInt64S -/
def laws_markInt64S (N : Nat) (x0 : List Int) (x1 : Int) : Option (List (Int) × (Int × Unit)) :=
  loopN (fun (s1 : List (Int) × Int × Int × Unit) next2 =>
    cond (decide (s1.2.2.1 < (List.length s1.1 : Int)))
      (cond (inB s1.2.2.1 (List.length s1.1))
        (let xs3 := (List.set s1.1 (Int.toNat s1.2.2.1) s1.2.1)
        next2 (xs3, (w64 (s1.2.1 + 1)), (w64 (s1.2.2.1 + 1)), ())) none)
      (some (s1.1, (s1.2.1, ())))) N (x0, x1, 0, ())
def laws_markInt64S_e (N : Nat) : EntM := { io := (.int .i64), ins := [(.int .i64)], outs := [.val (.int .i64)], F := fun xs x => laws_markInt64S N xs x.1 }
def laws_markInt64S_T (_ : Nat) : Nat → List EntX := fun _ => []
def laws_markInt64S_L : Nat → List (Nat × TK)
  | 2 => [(0, .own (.int .i64)), (1, .v (.int .i64)), (5, .v (.int .i64))]
  | _ => []
theorem laws_markInt64S_eq (N : Nat) : runM N tt (laws_markInt64S_T N) laws_markInt64S_L (.int .i64) [(.int .i64)] [.val (.int .i64)] (bodyOf Try.f31) Try.f31.ntmps [4] = (laws_markInt64S_e N).F := by
  funext xs x
  kernel_rfl
theorem laws_markInt64S_sound (N : Nat) : SoundM Try.prog 31 (laws_markInt64S_e N) := by
  have h := runM_sound (f := 31) (code := bodyOf Try.f31) (N := N) (T := laws_markInt64S_T N) (L := laws_markInt64S_L) (io := (.int .i64)) (ins := [(.int .i64)]) (outs := [.val (.int .i64)]) (res := [4]) mixed tt_ok ?_ Try.func31 (by kernel_rfl) rfl (by kernel_rfl) (by kernel_rfl) (by decide +kernel)
  · rw [laws_markInt64S_eq] at h
    exact h
  · intro f e he
    cases he

/- laws.heldInt64S -/
def laws_heldInt64S (N : Nat) (x0 : List Int) (x1 : Int) : Option (Int × Unit) :=
  loopN (fun (s1 : Int × Int × Unit) next2 =>
    cond (decide (s1.2.1 < (List.length x0 : Int)))
      (Option.bind (idx x0 s1.2.1) fun v3 =>
      cond (v3 != s1.1)
        (some ((-1), ()))
        (next2 ((w64 (s1.1 + 1)), (w64 (s1.2.1 + 1)), ())))
      (some (s1.1, ()))) N (x1, 0, ())
def laws_heldInt64S_e (N : Nat) : Ent := { ins := [(.sl (.int .i64)), (.int .i64)], outs := [.val (.int .i64)], F := fun x => laws_heldInt64S N x.1 x.2.1 }
def laws_heldInt64S_T (_ : Nat) : Nat → List EntX := fun _ => []
def laws_heldInt64S_L : Nat → List (Nat × TK)
  | 2 => [(1, .v (.int .i64)), (5, .v (.int .i64))]
  | _ => []
theorem laws_heldInt64S_eq (N : Nat) : runF N tt (laws_heldInt64S_T N) laws_heldInt64S_L [(.sl (.int .i64)), (.int .i64)] [.val (.int .i64)] (bodyOf Try.f32) Try.f32.ntmps [4] = (laws_heldInt64S_e N).F := by
  funext x
  kernel_rfl
theorem laws_heldInt64S_sound (N : Nat) : SoundC Try.prog 32 (laws_heldInt64S_e N) := by
  have h := runF_sound (f := 32) (code := bodyOf Try.f32) (N := N) (T := laws_heldInt64S_T N) (L := laws_heldInt64S_L) (ins := [(.sl (.int .i64)), (.int .i64)]) (outs := [.val (.int .i64)]) (res := [4]) mixed tt_ok ?_ Try.func32 (by kernel_rfl) rfl (by kernel_rfl) (by kernel_rfl) (by decide +kernel)
  · rw [laws_heldInt64S_eq] at h
    exact h
  · intro f e he
    cases he

/- laws.FnExactLoadsOfLine -/
def laws_FnExactLoadsOfLine (N : Nat) (x0 : List Int) (x1 : List Int) : Option (Bool × Unit) :=
  cond (decide ((List.length x0 : Int) > 1048576))
    (some (true, ()))
    (cond (decide ((List.length x1 : Int) > 1048576))
      (some (true, ()))
      (Option.bind (laws_toInt64S N x0) fun r1 =>
      Option.bind (laws_toInt64S N x1) fun r2 =>
      Option.bind (spec_LoadsOfLine N r1.1 r2.1) fun r3 =>
      Option.bind (laws_toInt64S N x0) fun r4 =>
      Option.bind (laws_toInt64S N x1) fun r5 =>
      Option.bind (impl_LoadsOfLine N r4.1 r5.1) fun r6 =>
      Option.bind (laws_eqInt64S N r6.1 r3.1) fun r7 =>
      cond (!r7.1)
        (some (false, ()))
        (cond (!(r6.2.1 == r3.2.1))
          (some (false, ()))
          (Option.bind (laws_toInt64S N x0) fun r8 =>
          Option.bind (laws_eqInt64S N r4.1 r8.1) fun r9 =>
          cond (!r9.1)
            (some (false, ()))
            (Option.bind (laws_toInt64S N x1) fun r10 =>
            Option.bind (laws_eqInt64S N r5.1 r10.1) fun r11 =>
            cond (!r11.1)
              (some (false, ()))
              (Option.bind (laws_markInt64S N r4.1 1) fun r12 =>
              cond (Nat.beq (List.length r12.1) (List.length r4.1))
                (Option.bind (laws_markInt64S N r5.1 r12.2.1) fun r13 =>
                cond (Nat.beq (List.length r13.1) (List.length r5.1))
                  (cond (decide (r13.2.1 < 0))
                    (some (false, ()))
                    (Option.bind (laws_eqInt64S N r6.1 r3.1) fun r14 =>
                    cond (!r14.1)
                      (some (false, ()))
                      (cond (!(r6.2.1 == r3.2.1))
                        (some (false, ()))
                        (Option.bind (laws_markInt64S N r6.1 1) fun r15 =>
                        cond (Nat.beq (List.length r15.1) (List.length r6.1))
                          (Option.bind (laws_heldInt64S N r15.1 1) fun r16 =>
                          cond (decide (r16.1 < 0))
                            (some (false, ()))
                            (cond (r16.1 != r15.2.1)
                              (some (false, ()))
                              (Option.bind (laws_toInt64S N x0) fun r17 =>
                              Option.bind (laws_toInt64S N x1) fun r18 =>
                              Option.bind (impl_LoadsOfLine N r17.1 r18.1) fun r19 =>
                              Option.bind (laws_eqInt64S N r19.1 r3.1) fun r20 =>
                              cond (!r20.1)
                                (some (false, ()))
                                (cond (!(r19.2.1 == r3.2.1))
                                  (some (false, ()))
                                  (Option.bind (laws_heldInt64S N r15.1 1) fun r21 =>
                                  cond (decide (r21.1 < 0))
                                    (some (false, ()))
                                    (cond (r21.1 != r15.2.1)
                                      (some (false, ()))
                                      (some (true, ())))))))) none)))) none) none))))))
def laws_FnExactLoadsOfLine_e (N : Nat) : Ent := { ins := [(.sl (.int .i64)), (.sl (.int .i64))], outs := [.val .bool], F := fun x => laws_FnExactLoadsOfLine N x.1 x.2.1 }
def laws_FnExactLoadsOfLine_T (N : Nat) : Nat → List EntX
  | 26 => [.pl (laws_toInt64S_e N)]
  | 28 => [.pl (laws_eqInt64S_e N)]
  | 29 => [.pl (spec_LoadsOfLine_e N)]
  | 30 => [.pl (impl_LoadsOfLine_e N)]
  | 31 => [.mu (laws_markInt64S_e N)]
  | 32 => [.pl (laws_heldInt64S_e N)]
  | _ => []
def laws_FnExactLoadsOfLine_L : Nat → List (Nat × TK) := fun _ => []
theorem laws_FnExactLoadsOfLine_eq (N : Nat) : runF N tt (laws_FnExactLoadsOfLine_T N) laws_FnExactLoadsOfLine_L [(.sl (.int .i64)), (.sl (.int .i64))] [.val .bool] (bodyOf Try.f6) Try.f6.ntmps [4] = (laws_FnExactLoadsOfLine_e N).F := by
  funext x
  kernel_rfl
theorem laws_FnExactLoadsOfLine_sound (N : Nat) : SoundC Try.prog 6 (laws_FnExactLoadsOfLine_e N) := by
  have h := runF_sound (f := 6) (code := bodyOf Try.f6) (N := N) (T := laws_FnExactLoadsOfLine_T N) (L := laws_FnExactLoadsOfLine_L) (ins := [(.sl (.int .i64)), (.sl (.int .i64))]) (outs := [.val .bool]) (res := [4]) mixed tt_ok ?_ Try.func6 (by kernel_rfl) rfl (by kernel_rfl) (by kernel_rfl) (by decide +kernel)
  · rw [laws_FnExactLoadsOfLine_eq] at h
    exact h
  · intro f e he
    unfold laws_FnExactLoadsOfLine_T at he
    split at he
    · rw [List.mem_singleton.1 he]; exact laws_toInt64S_sound N
    · rw [List.mem_singleton.1 he]; exact laws_eqInt64S_sound N
    · rw [List.mem_singleton.1 he]; exact spec_LoadsOfLine_sound N
    · rw [List.mem_singleton.1 he]; exact impl_LoadsOfLine_sound N
    · rw [List.mem_singleton.1 he]; exact laws_markInt64S_sound N
    · rw [List.mem_singleton.1 he]; exact laws_heldInt64S_sound N
    · cases he

/- spec.l02Sum -/
def spec_l02Sum (N : Nat) (x0 : List Int) : Option (Int × Unit) :=
  loopN (fun (s1 : Int × Int × Unit) next2 =>
    cond (decide (s1.2.1 < (List.length x0 : Int)))
      (Option.bind (idx x0 s1.2.1) fun v3 =>
      next2 ((w64 (s1.1 + v3)), (w64 (s1.2.1 + 1)), ()))
      (some (s1.1, ()))) N (0, 0, ())
def spec_l02Sum_e (N : Nat) : Ent := { ins := [(.sl (.int .i64))], outs := [.val (.int .i64)], F := fun x => spec_l02Sum N x.1 }
def spec_l02Sum_T (_ : Nat) : Nat → List EntX := fun _ => []
def spec_l02Sum_L : Nat → List (Nat × TK)
  | 3 => [(3, .v (.int .i64)), (4, .v (.int .i64))]
  | _ => []
theorem spec_l02Sum_eq (N : Nat) : runF N tt (spec_l02Sum_T N) spec_l02Sum_L [(.sl (.int .i64))] [.val (.int .i64)] (bodyOf Try.f69) Try.f69.ntmps [2] = (spec_l02Sum_e N).F := by
  funext x
  kernel_rfl
theorem spec_l02Sum_sound (N : Nat) : SoundC Try.prog 69 (spec_l02Sum_e N) := by
  have h := runF_sound (f := 69) (code := bodyOf Try.f69) (N := N) (T := spec_l02Sum_T N) (L := spec_l02Sum_L) (ins := [(.sl (.int .i64))]) (outs := [.val (.int .i64)]) (res := [2]) mixed tt_ok ?_ Try.func69 (by kernel_rfl) rfl (by kernel_rfl) (by kernel_rfl) (by decide +kernel)
  · rw [spec_l02Sum_eq] at h
    exact h
  · intro f e he
    cases he

/- spec.l04Counts -/
def spec_l04Counts (N : Nat) (x0 : List Int) : Option (Bool × Unit) :=
  loopN (fun (s1 : Int × Unit) next2 =>
    cond (decide (s1.1 < (List.length x0 : Int)))
      (Option.bind (idx x0 s1.1) fun v3 =>
      Option.bind (spec_l00In N v3 0 16) fun r4 =>
      cond (!r4.1)
        (some (false, ()))
        (next2 ((w64 (s1.1 + 1)), ())))
      (cond (decide ((List.length x0 : Int) ≥ 1))
        (cond (decide ((List.length x0 : Int) ≤ 8))
          (Option.bind (spec_l02Sum N x0) fun r5 =>
          Option.bind (spec_l00In N r5.1 1 64) fun r6 =>
          some (r6.1, ()))
          (some (false, ())))
        (some (false, ())))) N (0, ())
def spec_l04Counts_e (N : Nat) : Ent := { ins := [(.sl (.int .i64))], outs := [.val .bool], F := fun x => spec_l04Counts N x.1 }
def spec_l04Counts_T (N : Nat) : Nat → List EntX
  | 63 => [.pl (spec_l00In_e N)]
  | 69 => [.pl (spec_l02Sum_e N)]
  | _ => []
def spec_l04Counts_L : Nat → List (Nat × TK)
  | 2 => [(3, .v (.int .i64))]
  | _ => []
theorem spec_l04Counts_eq (N : Nat) : runF N tt (spec_l04Counts_T N) spec_l04Counts_L [(.sl (.int .i64))] [.val .bool] (bodyOf Try.f68) Try.f68.ntmps [2] = (spec_l04Counts_e N).F := by
  funext x
  kernel_rfl
theorem spec_l04Counts_sound (N : Nat) : SoundC Try.prog 68 (spec_l04Counts_e N) := by
  have h := runF_sound (f := 68) (code := bodyOf Try.f68) (N := N) (T := spec_l04Counts_T N) (L := spec_l04Counts_L) (ins := [(.sl (.int .i64))]) (outs := [.val .bool]) (res := [2]) mixed tt_ok ?_ Try.func68 (by kernel_rfl) rfl (by kernel_rfl) (by kernel_rfl) (by decide +kernel)
  · rw [spec_l04Counts_eq] at h
    exact h
  · intro f e he
    unfold spec_l04Counts_T at he
    split at he
    · rw [List.mem_singleton.1 he]; exact spec_l00In_sound N
    · rw [List.mem_singleton.1 he]; exact spec_l02Sum_sound N
    · cases he

/- spec.MixedOrder -/
def spec_MixedOrder (N : Nat) (x0 : List Int) : Option (List (Int) × Bool × Unit) :=
  Option.bind (spec_l04Counts N x0) fun r1 =>
  cond (!r1.1)
    (some ([], false, ()))
    (Option.bind (spec_l02Sum N x0) fun r2 =>
    cond (mkOk (List.length x0 : Int) (List.length x0 : Int))
      (let xs3 := (List.replicate (Int.toNat (List.length x0 : Int)) (0 : Int) : List (Int))
      loopN (fun (s4 : List (Int) × List (Int) × Int × Unit) next5 =>
        cond (decide (s4.2.2.1 ≤ r2.1))
          (loopN (fun (s6 : Int × Int × Unit) next7 =>
            cond (decide (s6.2.1 < (List.length x0 : Int)))
              (cond (inB s6.2.1 (List.length s4.1))
                (Option.bind (s4.1[(Int.toNat s6.2.1)]?) fun v8 =>
                Option.bind (idx x0 s6.2.1) fun v9 =>
                cond (decide (v8 < v9))
                  (cond (decide (s6.1 < 0))
                    (next7 (s6.2.1, (w64 (s6.2.1 + 1)), ()))
                    (Option.bind (idx x0 s6.2.1) fun v10 =>
                    cond (inB s6.2.1 (List.length s4.1))
                      (Option.bind (s4.1[(Int.toNat s6.2.1)]?) fun v11 =>
                      Option.bind (idx x0 s6.1) fun v12 =>
                      cond (inB s6.1 (List.length s4.1))
                        (Option.bind (s4.1[(Int.toNat s6.1)]?) fun v13 =>
                        cond (decide ((w64 ((w64 (s4.2.2.1 * v10)) - (w64 (r2.1 * v11)))) > (w64 ((w64 (s4.2.2.1 * v12)) - (w64 (r2.1 * v13))))))
                          (next7 (s6.2.1, (w64 (s6.2.1 + 1)), ()))
                          (next7 (s6.1, (w64 (s6.2.1 + 1)), ()))) none) none))
                  (next7 (s6.1, (w64 (s6.2.1 + 1)), ()))) none)
              (cond (inB s6.1 (List.length s4.1))
                (Option.bind (s4.1[(Int.toNat s6.1)]?) fun v14 =>
                cond (inB s6.1 (List.length s4.1))
                  (let xs15 := (List.set s4.1 (Int.toNat s6.1) (w64 (v14 + 1)))
                  cond (appOk (List.length s4.2.1) (List.length ([s6.1] : List Int)))
                    (let xs16 := (s4.2.1 ++ ([s6.1] : List Int))
                    next5 (xs15, xs16, (w64 (s4.2.2.1 + 1)), ())) none) none) none)) N ((-1), 0, ()))
          (some (s4.2.1, true, ()))) N (xs3, ([] : List Int), 1, ())) none)
def spec_MixedOrder_e (N : Nat) : Ent := { ins := [(.sl (.int .i64))], outs := [.own (.int .i64), .val .bool], F := fun x => spec_MixedOrder N x.1 }
def spec_MixedOrder_T (N : Nat) : Nat → List EntX
  | 68 => [.pl (spec_l04Counts_e N)]
  | 69 => [.pl (spec_l02Sum_e N)]
  | _ => []
def spec_MixedOrder_L : Nat → List (Nat × TK)
  | 7 => [(5, .own (.int .i64)), (6, .own (.int .i64)), (7, .v (.int .i64))]
  | 11 => [(8, .v (.int .i64)), (9, .v (.int .i64))]
  | _ => []
theorem spec_MixedOrder_eq (N : Nat) : runF N tt (spec_MixedOrder_T N) spec_MixedOrder_L [(.sl (.int .i64))] [.own (.int .i64), .val .bool] (bodyOf Try.f33) Try.f33.ntmps [2, 3] = (spec_MixedOrder_e N).F := by
  funext x
  kernel_rfl
theorem spec_MixedOrder_sound (N : Nat) : SoundC Try.prog 33 (spec_MixedOrder_e N) := by
  have h := runF_sound (f := 33) (code := bodyOf Try.f33) (N := N) (T := spec_MixedOrder_T N) (L := spec_MixedOrder_L) (ins := [(.sl (.int .i64))]) (outs := [.own (.int .i64), .val .bool]) (res := [2, 3]) mixed tt_ok ?_ Try.func33 (by kernel_rfl) rfl (by kernel_rfl) (by kernel_rfl) (by decide +kernel)
  · rw [spec_MixedOrder_eq] at h
    exact h
  · intro f e he
    unfold spec_MixedOrder_T at he
    split at he
    · rw [List.mem_singleton.1 he]; exact spec_l04Counts_sound N
    · rw [List.mem_singleton.1 he]; exact spec_l02Sum_sound N
    · cases he

/- impl.sumOf -/
def impl_sumOf (N : Nat) (x0 : List Int) : Option (Int × Unit) :=
  loopN (fun (s1 : Int × Int × Unit) next2 =>
    cond (decide (s1.2.1 < (List.length x0 : Int)))
      (Option.bind (idx x0 s1.2.1) fun v3 =>
      next2 ((w64 (s1.1 + v3)), (w64 (s1.2.1 + 1)), ()))
      (some (s1.1, ()))) N (0, 0, ())
def impl_sumOf_e (N : Nat) : Ent := { ins := [(.sl (.int .i64))], outs := [.val (.int .i64)], F := fun x => impl_sumOf N x.1 }
def impl_sumOf_T (_ : Nat) : Nat → List EntX := fun _ => []
def impl_sumOf_L : Nat → List (Nat × TK)
  | 3 => [(3, .v (.int .i64)), (8, .v (.int .i64))]
  | _ => []
theorem impl_sumOf_eq (N : Nat) : runF N tt (impl_sumOf_T N) impl_sumOf_L [(.sl (.int .i64))] [.val (.int .i64)] (bodyOf Try.f71) Try.f71.ntmps [2] = (impl_sumOf_e N).F := by
  funext x
  kernel_rfl
theorem impl_sumOf_sound (N : Nat) : SoundC Try.prog 71 (impl_sumOf_e N) := by
  have h := runF_sound (f := 71) (code := bodyOf Try.f71) (N := N) (T := impl_sumOf_T N) (L := impl_sumOf_L) (ins := [(.sl (.int .i64))]) (outs := [.val (.int .i64)]) (res := [2]) mixed tt_ok ?_ Try.func71 (by kernel_rfl) rfl (by kernel_rfl) (by kernel_rfl) (by decide +kernel)
  · rw [impl_sumOf_eq] at h
    exact h
  · intro f e he
    cases he

/- impl.areCounts -/
def impl_areCounts (N : Nat) (x0 : List Int) : Option (Bool × Unit) :=
  Option.bind (impl_areMany N x0 1 8 0 16) fun r1 =>
  cond r1.1
    (Option.bind (impl_sumOf N x0) fun r2 =>
    Option.bind (impl_within N r2.1 1 64) fun r3 =>
    some (r3.1, ()))
    (some (false, ()))
def impl_areCounts_e (N : Nat) : Ent := { ins := [(.sl (.int .i64))], outs := [.val .bool], F := fun x => impl_areCounts N x.1 }
def impl_areCounts_T (N : Nat) : Nat → List EntX
  | 66 => [.pl (impl_areMany_e N)]
  | 71 => [.pl (impl_sumOf_e N)]
  | 75 => [.pl (impl_within_e N)]
  | _ => []
def impl_areCounts_L : Nat → List (Nat × TK) := fun _ => []
theorem impl_areCounts_eq (N : Nat) : runF N tt (impl_areCounts_T N) impl_areCounts_L [(.sl (.int .i64))] [.val .bool] (bodyOf Try.f70) Try.f70.ntmps [2] = (impl_areCounts_e N).F := by
  funext x
  kernel_rfl
theorem impl_areCounts_sound (N : Nat) : SoundC Try.prog 70 (impl_areCounts_e N) := by
  have h := runF_sound (f := 70) (code := bodyOf Try.f70) (N := N) (T := impl_areCounts_T N) (L := impl_areCounts_L) (ins := [(.sl (.int .i64))]) (outs := [.val .bool]) (res := [2]) mixed tt_ok ?_ Try.func70 (by kernel_rfl) rfl (by kernel_rfl) (by kernel_rfl) (by decide +kernel)
  · rw [impl_areCounts_eq] at h
    exact h
  · intro f e he
    unfold impl_areCounts_T at he
    split at he
    · rw [List.mem_singleton.1 he]; exact impl_areMany_sound N
    · rw [List.mem_singleton.1 he]; exact impl_sumOf_sound N
    · rw [List.mem_singleton.1 he]; exact impl_within_sound N
    · cases he

/- impl.MixedOrder -/
def impl_MixedOrder (N : Nat) (x0 : List Int) : Option (List (Int) × Bool × Unit) :=
  Option.bind (impl_areCounts N x0) fun r1 =>
  cond (!r1.1)
    (some ([], false, ()))
    (Option.bind (impl_sumOf N x0) fun r2 =>
    cond (mkOk (List.length x0 : Int) (List.length x0 : Int))
      (let xs3 := (List.replicate (Int.toNat (List.length x0 : Int)) (0 : Int) : List (Int))
      loopN (fun (s4 : List (Int) × List (Int) × Int × Unit) next5 =>
        cond (decide (s4.2.2.1 ≤ r2.1))
          (loopN (fun (s6 : Int × Int × Int × Unit) next7 =>
            cond (decide (s6.2.2.1 < (List.length x0 : Int)))
              (Option.bind (idx x0 s6.2.2.1) fun v8 =>
              cond (inB s6.2.2.1 (List.length s4.1))
                (Option.bind (s4.1[(Int.toNat s6.2.2.1)]?) fun v9 =>
                cond (inB s6.2.2.1 (List.length s4.1))
                  (Option.bind (s4.1[(Int.toNat s6.2.2.1)]?) fun v10 =>
                  cond (decide (v10 < v8))
                    (cond (decide (s6.1 < 0))
                      (next7 (s6.2.2.1, (w64 ((w64 (s4.2.2.1 * v8)) - (w64 (r2.1 * v9)))), (w64 (s6.2.2.1 + 1)), ()))
                      (cond (decide ((w64 ((w64 (s4.2.2.1 * v8)) - (w64 (r2.1 * v9)))) > s6.2.1))
                        (next7 (s6.2.2.1, (w64 ((w64 (s4.2.2.1 * v8)) - (w64 (r2.1 * v9)))), (w64 (s6.2.2.1 + 1)), ()))
                        (next7 (s6.1, s6.2.1, (w64 (s6.2.2.1 + 1)), ()))))
                    (next7 (s6.1, s6.2.1, (w64 (s6.2.2.1 + 1)), ()))) none) none)
              (cond (inB s6.1 (List.length s4.1))
                (Option.bind (s4.1[(Int.toNat s6.1)]?) fun v11 =>
                cond (inB s6.1 (List.length s4.1))
                  (let xs12 := (List.set s4.1 (Int.toNat s6.1) (w64 (v11 + 1)))
                  cond (appOk (List.length s4.2.1) (List.length ([s6.1] : List Int)))
                    (let xs13 := (s4.2.1 ++ ([s6.1] : List Int))
                    next5 (xs12, xs13, (w64 (s4.2.2.1 + 1)), ())) none) none) none)) N ((-1), 0, 0, ()))
          (some (s4.2.1, true, ()))) N (xs3, ([] : List Int), 1, ())) none)
def impl_MixedOrder_e (N : Nat) : Ent := { ins := [(.sl (.int .i64))], outs := [.own (.int .i64), .val .bool], F := fun x => impl_MixedOrder N x.1 }
def impl_MixedOrder_T (N : Nat) : Nat → List EntX
  | 70 => [.pl (impl_areCounts_e N)]
  | 71 => [.pl (impl_sumOf_e N)]
  | _ => []
def impl_MixedOrder_L : Nat → List (Nat × TK)
  | 7 => [(5, .own (.int .i64)), (6, .own (.int .i64)), (7, .v (.int .i64))]
  | 11 => [(8, .v (.int .i64)), (9, .v (.int .i64)), (29, .v (.int .i64))]
  | _ => []
theorem impl_MixedOrder_eq (N : Nat) : runF N tt (impl_MixedOrder_T N) impl_MixedOrder_L [(.sl (.int .i64))] [.own (.int .i64), .val .bool] (bodyOf Try.f34) Try.f34.ntmps [2, 3] = (impl_MixedOrder_e N).F := by
  funext x
  kernel_rfl
theorem impl_MixedOrder_sound (N : Nat) : SoundC Try.prog 34 (impl_MixedOrder_e N) := by
  have h := runF_sound (f := 34) (code := bodyOf Try.f34) (N := N) (T := impl_MixedOrder_T N) (L := impl_MixedOrder_L) (ins := [(.sl (.int .i64))]) (outs := [.own (.int .i64), .val .bool]) (res := [2, 3]) mixed tt_ok ?_ Try.func34 (by kernel_rfl) rfl (by kernel_rfl) (by kernel_rfl) (by decide +kernel)
  · rw [impl_MixedOrder_eq] at h
    exact h
  · intro f e he
    unfold impl_MixedOrder_T at he
    split at he
    · rw [List.mem_singleton.1 he]; exact impl_areCounts_sound N
    · rw [List.mem_singleton.1 he]; exact impl_sumOf_sound N
    · cases he

/- laws.FnExactMixedOrder -/
def laws_FnExactMixedOrder (N : Nat) (x0 : List Int) : Option (Bool × Unit) :=
  cond (decide ((List.length x0 : Int) > 1048576))
    (some (true, ()))
    (Option.bind (laws_toInt64S N x0) fun r1 =>
    Option.bind (spec_MixedOrder N r1.1) fun r2 =>
    Option.bind (laws_toInt64S N x0) fun r3 =>
    Option.bind (impl_MixedOrder N r3.1) fun r4 =>
    Option.bind (laws_eqInt64S N r4.1 r2.1) fun r5 =>
    cond (!r5.1)
      (some (false, ()))
      (cond (!(r4.2.1 == r2.2.1))
        (some (false, ()))
        (Option.bind (laws_toInt64S N x0) fun r6 =>
        Option.bind (laws_eqInt64S N r3.1 r6.1) fun r7 =>
        cond (!r7.1)
          (some (false, ()))
          (Option.bind (laws_markInt64S N r3.1 1) fun r8 =>
          cond (Nat.beq (List.length r8.1) (List.length r3.1))
            (cond (decide (r8.2.1 < 0))
              (some (false, ()))
              (Option.bind (laws_eqInt64S N r4.1 r2.1) fun r9 =>
              cond (!r9.1)
                (some (false, ()))
                (cond (!(r4.2.1 == r2.2.1))
                  (some (false, ()))
                  (Option.bind (laws_markInt64S N r4.1 1) fun r10 =>
                  cond (Nat.beq (List.length r10.1) (List.length r4.1))
                    (Option.bind (laws_heldInt64S N r10.1 1) fun r11 =>
                    cond (decide (r11.1 < 0))
                      (some (false, ()))
                      (cond (r11.1 != r10.2.1)
                        (some (false, ()))
                        (Option.bind (laws_toInt64S N x0) fun r12 =>
                        Option.bind (impl_MixedOrder N r12.1) fun r13 =>
                        Option.bind (laws_eqInt64S N r13.1 r2.1) fun r14 =>
                        cond (!r14.1)
                          (some (false, ()))
                          (cond (!(r13.2.1 == r2.2.1))
                            (some (false, ()))
                            (Option.bind (laws_heldInt64S N r10.1 1) fun r15 =>
                            cond (decide (r15.1 < 0))
                              (some (false, ()))
                              (cond (r15.1 != r10.2.1)
                                (some (false, ()))
                                (some (true, ())))))))) none)))) none))))
def laws_FnExactMixedOrder_e (N : Nat) : Ent := { ins := [(.sl (.int .i64))], outs := [.val .bool], F := fun x => laws_FnExactMixedOrder N x.1 }
def laws_FnExactMixedOrder_T (N : Nat) : Nat → List EntX
  | 26 => [.pl (laws_toInt64S_e N)]
  | 28 => [.pl (laws_eqInt64S_e N)]
  | 31 => [.mu (laws_markInt64S_e N)]
  | 32 => [.pl (laws_heldInt64S_e N)]
  | 33 => [.pl (spec_MixedOrder_e N)]
  | 34 => [.pl (impl_MixedOrder_e N)]
  | _ => []
def laws_FnExactMixedOrder_L : Nat → List (Nat × TK) := fun _ => []
theorem laws_FnExactMixedOrder_eq (N : Nat) : runF N tt (laws_FnExactMixedOrder_T N) laws_FnExactMixedOrder_L [(.sl (.int .i64))] [.val .bool] (bodyOf Try.f7) Try.f7.ntmps [2] = (laws_FnExactMixedOrder_e N).F := by
  funext x
  kernel_rfl
theorem laws_FnExactMixedOrder_sound (N : Nat) : SoundC Try.prog 7 (laws_FnExactMixedOrder_e N) := by
  have h := runF_sound (f := 7) (code := bodyOf Try.f7) (N := N) (T := laws_FnExactMixedOrder_T N) (L := laws_FnExactMixedOrder_L) (ins := [(.sl (.int .i64))]) (outs := [.val .bool]) (res := [2]) mixed tt_ok ?_ Try.func7 (by kernel_rfl) rfl (by kernel_rfl) (by kernel_rfl) (by decide +kernel)
  · rw [laws_FnExactMixedOrder_eq] at h
    exact h
  · intro f e he
    unfold laws_FnExactMixedOrder_T at he
    split at he
    · rw [List.mem_singleton.1 he]; exact laws_toInt64S_sound N
    · rw [List.mem_singleton.1 he]; exact laws_eqInt64S_sound N
    · rw [List.mem_singleton.1 he]; exact laws_markInt64S_sound N
    · rw [List.mem_singleton.1 he]; exact laws_heldInt64S_sound N
    · rw [List.mem_singleton.1 he]; exact spec_MixedOrder_sound N
    · rw [List.mem_singleton.1 he]; exact impl_MixedOrder_sound N
    · cases he

/- laws.szInt64S -/
def laws_szInt64S (_N : Nat) (x0 : List Int) (x1 : Int) : Option (Int × Unit) :=
  cond (decide ((w64 (x1 - (List.length x0 : Int))) < 0))
    (some ((-1), ()))
    (some ((w64 (x1 - (List.length x0 : Int))), ()))
def laws_szInt64S_e (N : Nat) : Ent := { ins := [(.sl (.int .i64)), (.int .i64)], outs := [.val (.int .i64)], F := fun x => laws_szInt64S N x.1 x.2.1 }
def laws_szInt64S_T (_ : Nat) : Nat → List EntX := fun _ => []
def laws_szInt64S_L : Nat → List (Nat × TK) := fun _ => []
theorem laws_szInt64S_eq (N : Nat) : runF N tt (laws_szInt64S_T N) laws_szInt64S_L [(.sl (.int .i64)), (.int .i64)] [.val (.int .i64)] (bodyOf Try.f99) Try.f99.ntmps [4] = (laws_szInt64S_e N).F := by
  funext x
  kernel_rfl
theorem laws_szInt64S_sound (N : Nat) : SoundC Try.prog 99 (laws_szInt64S_e N) := by
  have h := runF_sound (f := 99) (code := bodyOf Try.f99) (N := N) (T := laws_szInt64S_T N) (L := laws_szInt64S_L) (ins := [(.sl (.int .i64)), (.int .i64)]) (outs := [.val (.int .i64)]) (res := [4]) mixed tt_ok ?_ Try.func99 (by kernel_rfl) rfl (by kernel_rfl) (by kernel_rfl) (by decide +kernel)
  · rw [laws_szInt64S_eq] at h
    exact h
  · intro f e he
    cases he

/- laws.szTask -/
def laws_szTask (N : Nat) (x0 : Int × Int × (List Int) × List Int) (x1 : Int) : Option (Int × Unit) :=
  Option.bind (laws_szInt64S N x0.2.2.1 x1) fun r1 =>
  cond (decide (r1.1 < 0))
    (some ((-1), ()))
    (Option.bind (laws_szInt64S N x0.2.2.2 r1.1) fun r2 =>
    cond (decide (r2.1 < 0))
      (some ((-1), ()))
      (some (r2.1, ())))
def laws_szTask_e (N : Nat) : Ent := { ins := [(.pair (.int .i64) (.pair (.int .i64) (.pair (.sl (.int .i64)) (.sl (.int .i64))))), (.int .i64)], outs := [.val (.int .i64)], F := fun x => laws_szTask N x.1 x.2.1 }
def laws_szTask_T (N : Nat) : Nat → List EntX
  | 99 => [.pl (laws_szInt64S_e N)]
  | _ => []
def laws_szTask_L : Nat → List (Nat × TK) := fun _ => []
theorem laws_szTask_eq (N : Nat) : runF N tt (laws_szTask_T N) laws_szTask_L [(.pair (.int .i64) (.pair (.int .i64) (.pair (.sl (.int .i64)) (.sl (.int .i64))))), (.int .i64)] [.val (.int .i64)] (bodyOf Try.f72) Try.f72.ntmps [4] = (laws_szTask_e N).F := by
  funext x
  kernel_rfl
theorem laws_szTask_sound (N : Nat) : SoundC Try.prog 72 (laws_szTask_e N) := by
  have h := runF_sound (f := 72) (code := bodyOf Try.f72) (N := N) (T := laws_szTask_T N) (L := laws_szTask_L) (ins := [(.pair (.int .i64) (.pair (.int .i64) (.pair (.sl (.int .i64)) (.sl (.int .i64))))), (.int .i64)]) (outs := [.val (.int .i64)]) (res := [4]) mixed tt_ok ?_ Try.func72 (by kernel_rfl) rfl (by kernel_rfl) (by kernel_rfl) (by decide +kernel)
  · rw [laws_szTask_eq] at h
    exact h
  · intro f e he
    unfold laws_szTask_T at he
    split at he
    · rw [List.mem_singleton.1 he]; exact laws_szInt64S_sound N
    · cases he

/- laws.szTaskS -/
def laws_szTaskS (N : Nat) (x0 : List (Int × Int × (List Int) × List Int)) (x1 : Int) : Option (Int × Unit) :=
  cond (decide ((w64 (x1 - (List.length x0 : Int))) < 0))
    (some ((-1), ()))
    (loopN (fun (s1 : Int × Int × Unit) next2 =>
      cond (decide (s1.2.1 < (List.length x0 : Int)))
        (Option.bind (idx x0 s1.2.1) fun v3 =>
        Option.bind (laws_szTask N v3 s1.1) fun r4 =>
        cond (decide (r4.1 < 0))
          (some ((-1), ()))
          (next2 (r4.1, (w64 (s1.2.1 + 1)), ())))
        (some (s1.1, ()))) N ((w64 (x1 - (List.length x0 : Int))), 0, ()))
def laws_szTaskS_e (N : Nat) : Ent := { ins := [(.sl (.pair (.int .i64) (.pair (.int .i64) (.pair (.sl (.int .i64)) (.sl (.int .i64)))))), (.int .i64)], outs := [.val (.int .i64)], F := fun x => laws_szTaskS N x.1 x.2.1 }
def laws_szTaskS_T (N : Nat) : Nat → List EntX
  | 72 => [.pl (laws_szTask_e N)]
  | _ => []
def laws_szTaskS_L : Nat → List (Nat × TK)
  | 5 => [(1, .v (.int .i64)), (5, .v (.int .i64))]
  | _ => []
theorem laws_szTaskS_eq (N : Nat) : runF N tt (laws_szTaskS_T N) laws_szTaskS_L [(.sl (.pair (.int .i64) (.pair (.int .i64) (.pair (.sl (.int .i64)) (.sl (.int .i64)))))), (.int .i64)] [.val (.int .i64)] (bodyOf Try.f35) Try.f35.ntmps [4] = (laws_szTaskS_e N).F := by
  funext x
  kernel_rfl
theorem laws_szTaskS_sound (N : Nat) : SoundC Try.prog 35 (laws_szTaskS_e N) := by
  have h := runF_sound (f := 35) (code := bodyOf Try.f35) (N := N) (T := laws_szTaskS_T N) (L := laws_szTaskS_L) (ins := [(.sl (.pair (.int .i64) (.pair (.int .i64) (.pair (.sl (.int .i64)) (.sl (.int .i64)))))), (.int .i64)]) (outs := [.val (.int .i64)]) (res := [4]) mixed tt_ok ?_ Try.func35 (by kernel_rfl) rfl (by kernel_rfl) (by kernel_rfl) (by decide +kernel)
  · rw [laws_szTaskS_eq] at h
    exact h
  · intro f e he
    unfold laws_szTaskS_T at he
    split at he
    · rw [List.mem_singleton.1 he]; exact laws_szTask_sound N
    · cases he

/- spec.l03Task -/
def spec_l03Task (N : Nat) (x0 : Int × Int × (List Int) × List Int) (x1 : Int) : Option (Bool × Unit) :=
  Option.bind (spec_l00In N x0.1 0 100) fun r1 =>
  cond (!r1.1)
    (some (false, ()))
    (Option.bind (spec_l00In N x0.2.1 0 20) fun r2 =>
    cond (!r2.1)
      (some (false, ()))
      (cond ((List.length x0.2.2.2 : Int) != (List.length x0.2.2.1 : Int))
        (some (false, ()))
        (loopN (fun (s3 : Int × Unit) next4 =>
          cond (decide (s3.1 < (List.length x0.2.2.1 : Int)))
            (Option.bind (idx x0.2.2.1 s3.1) fun v5 =>
            Option.bind (spec_l00In N v5 0 (w64 (x1 - 1))) fun r6 =>
            cond (!r6.1)
              (some (false, ()))
              (cond (decide (s3.1 > 0))
                (Option.bind (idx x0.2.2.1 s3.1) fun v7 =>
                Option.bind (idx x0.2.2.1 (w64 (s3.1 - 1))) fun v8 =>
                cond (decide (v7 ≤ v8))
                  (some (false, ()))
                  (Option.bind (idx x0.2.2.2 s3.1) fun v9 =>
                  Option.bind (spec_l00In N v9 (-100) 100) fun r10 =>
                  cond (!r10.1)
                    (some (false, ()))
                    (next4 ((w64 (s3.1 + 1)), ()))))
                (Option.bind (idx x0.2.2.2 s3.1) fun v11 =>
                Option.bind (spec_l00In N v11 (-100) 100) fun r12 =>
                cond (!r12.1)
                  (some (false, ()))
                  (next4 ((w64 (s3.1 + 1)), ())))))
            (some (true, ()))) N (0, ()))))
def spec_l03Task_e (N : Nat) : Ent := { ins := [(.bx (.pair (.int .i64) (.pair (.int .i64) (.pair (.sl (.int .i64)) (.sl (.int .i64)))))), (.int .i64)], outs := [.val .bool], F := fun x => spec_l03Task N x.1 x.2.1 }
def spec_l03Task_T (N : Nat) : Nat → List EntX
  | 63 => [.pl (spec_l00In_e N)]
  | _ => []
def spec_l03Task_L : Nat → List (Nat × TK)
  | 4 => [(38, .v (.int .i64))]
  | _ => []
theorem spec_l03Task_eq (N : Nat) : runF N tt (spec_l03Task_T N) spec_l03Task_L [(.bx (.pair (.int .i64) (.pair (.int .i64) (.pair (.sl (.int .i64)) (.sl (.int .i64)))))), (.int .i64)] [.val .bool] (bodyOf Try.f100) Try.f100.ntmps [4] = (spec_l03Task_e N).F := by
  funext x
  kernel_rfl
theorem spec_l03Task_sound (N : Nat) : SoundC Try.prog 100 (spec_l03Task_e N) := by
  have h := runF_sound (f := 100) (code := bodyOf Try.f100) (N := N) (T := spec_l03Task_T N) (L := spec_l03Task_L) (ins := [(.bx (.pair (.int .i64) (.pair (.int .i64) (.pair (.sl (.int .i64)) (.sl (.int .i64)))))), (.int .i64)]) (outs := [.val .bool]) (res := [4]) mixed tt_ok ?_ Try.func100 (by kernel_rfl) rfl (by kernel_rfl) (by kernel_rfl) (by decide +kernel)
  · rw [spec_l03Task_eq] at h
    exact h
  · intro f e he
    unfold spec_l03Task_T at he
    split at he
    · rw [List.mem_singleton.1 he]; exact spec_l00In_sound N
    · cases he

/- spec.l03Are -/
def spec_l03Are (N : Nat) (x0 : List (Int × Int × (List Int) × List Int)) : Option (Bool × Unit) :=
  loopN (fun (s1 : Int × Unit) next2 =>
    cond (decide (s1.1 < (List.length x0 : Int)))
      (Option.bind (idx x0 s1.1) fun v3 =>
      Option.bind (spec_l03Task N v3 s1.1) fun r4 =>
      cond (!r4.1)
        (some (false, ()))
        (next2 ((w64 (s1.1 + 1)), ())))
      (cond (decide ((List.length x0 : Int) ≥ 1))
        (some ((decide ((List.length x0 : Int) ≤ 16)), ()))
        (some (false, ())))) N (0, ())
def spec_l03Are_e (N : Nat) : Ent := { ins := [(.sl (.pair (.int .i64) (.pair (.int .i64) (.pair (.sl (.int .i64)) (.sl (.int .i64))))))], outs := [.val .bool], F := fun x => spec_l03Are N x.1 }
def spec_l03Are_T (N : Nat) : Nat → List EntX
  | 100 => [.pl (spec_l03Task_e N)]
  | _ => []
def spec_l03Are_L : Nat → List (Nat × TK)
  | 2 => [(6, .v (.int .i64))]
  | _ => []
theorem spec_l03Are_eq (N : Nat) : runF N tt (spec_l03Are_T N) spec_l03Are_L [(.sl (.pair (.int .i64) (.pair (.int .i64) (.pair (.sl (.int .i64)) (.sl (.int .i64))))))] [.val .bool] (bodyOf Try.f73) Try.f73.ntmps [2] = (spec_l03Are_e N).F := by
  funext x
  kernel_rfl
theorem spec_l03Are_sound (N : Nat) : SoundC Try.prog 73 (spec_l03Are_e N) := by
  have h := runF_sound (f := 73) (code := bodyOf Try.f73) (N := N) (T := spec_l03Are_T N) (L := spec_l03Are_L) (ins := [(.sl (.pair (.int .i64) (.pair (.int .i64) (.pair (.sl (.int .i64)) (.sl (.int .i64))))))]) (outs := [.val .bool]) (res := [2]) mixed tt_ok ?_ Try.func73 (by kernel_rfl) rfl (by kernel_rfl) (by kernel_rfl) (by decide +kernel)
  · rw [spec_l03Are_eq] at h
    exact h
  · intro f e he
    unfold spec_l03Are_T at he
    split at he
    · rw [List.mem_singleton.1 he]; exact spec_l03Task_sound N
    · cases he

/- spec.AreTasks -/
def spec_AreTasks (N : Nat) (x0 : List (Int × Int × (List Int) × List Int)) : Option (Bool × Unit) :=
  Option.bind (spec_l03Are N x0) fun r1 =>
  some (r1.1, ())
def spec_AreTasks_e (N : Nat) : Ent := { ins := [(.sl (.pair (.int .i64) (.pair (.int .i64) (.pair (.sl (.int .i64)) (.sl (.int .i64))))))], outs := [.val .bool], F := fun x => spec_AreTasks N x.1 }
def spec_AreTasks_T (N : Nat) : Nat → List EntX
  | 73 => [.pl (spec_l03Are_e N)]
  | _ => []
def spec_AreTasks_L : Nat → List (Nat × TK) := fun _ => []
theorem spec_AreTasks_eq (N : Nat) : runF N tt (spec_AreTasks_T N) spec_AreTasks_L [(.sl (.pair (.int .i64) (.pair (.int .i64) (.pair (.sl (.int .i64)) (.sl (.int .i64))))))] [.val .bool] (bodyOf Try.f36) Try.f36.ntmps [2] = (spec_AreTasks_e N).F := by
  funext x
  kernel_rfl
theorem spec_AreTasks_sound (N : Nat) : SoundC Try.prog 36 (spec_AreTasks_e N) := by
  have h := runF_sound (f := 36) (code := bodyOf Try.f36) (N := N) (T := spec_AreTasks_T N) (L := spec_AreTasks_L) (ins := [(.sl (.pair (.int .i64) (.pair (.int .i64) (.pair (.sl (.int .i64)) (.sl (.int .i64))))))]) (outs := [.val .bool]) (res := [2]) mixed tt_ok ?_ Try.func36 (by kernel_rfl) rfl (by kernel_rfl) (by kernel_rfl) (by decide +kernel)
  · rw [spec_AreTasks_eq] at h
    exact h
  · intro f e he
    unfold spec_AreTasks_T at he
    split at he
    · rw [List.mem_singleton.1 he]; exact spec_l03Are_sound N
    · cases he

/- laws.toTask -/
def laws_toTask (N : Nat) (x0 : Int × Int × (List Int) × List Int) : Option ((Int × Int × (List Int) × List Int) × Unit) :=
  Option.bind (laws_toInt64S N x0.2.2.1) fun r1 =>
  Option.bind (laws_toInt64S N x0.2.2.2) fun r2 =>
  some ((x0.1, (x0.2.1, (r1.1, r2.1))), ())
def laws_toTask_e (N : Nat) : Ent := { ins := [(.pair (.int .i64) (.pair (.int .i64) (.pair (.sl (.int .i64)) (.sl (.int .i64)))))], outs := [.val (.nw (.pair (.int .i64) (.pair (.int .i64) (.pair (.sl (.int .i64)) (.sl (.int .i64))))))], F := fun x => laws_toTask N x.1 }
def laws_toTask_T (N : Nat) : Nat → List EntX
  | 26 => [.pl (laws_toInt64S_e N)]
  | _ => []
def laws_toTask_L : Nat → List (Nat × TK) := fun _ => []
theorem laws_toTask_eq (N : Nat) : runC N tt (laws_toTask_T N) laws_toTask_L [(.pair (.int .i64) (.pair (.int .i64) (.pair (.sl (.int .i64)) (.sl (.int .i64)))))] [.val (.nw (.pair (.int .i64) (.pair (.int .i64) (.pair (.sl (.int .i64)) (.sl (.int .i64))))))] (bodyOf Try.f74) Try.f74.ntmps [2] [(2, 77)] = (laws_toTask_e N).F := by
  funext x
  kernel_rfl
theorem laws_toTask_sound (N : Nat) : SoundC Try.prog 74 (laws_toTask_e N) := by
  have h := runC_sound (f := 74) (code := bodyOf Try.f74) (N := N) (T := laws_toTask_T N) (L := laws_toTask_L) (ins := [(.pair (.int .i64) (.pair (.int .i64) (.pair (.sl (.int .i64)) (.sl (.int .i64)))))]) (outs := [.val (.nw (.pair (.int .i64) (.pair (.int .i64) (.pair (.sl (.int .i64)) (.sl (.int .i64))))))]) (res := [2]) (rs := [.cell 2 77]) (cells := [(2, 77)]) mixed tt_ok ?_ Try.func74 (by kernel_rfl) rfl (by kernel_rfl) (by kernel_rfl) rfl rfl (by decide) (by decide +kernel) (by decide +kernel)
  · rw [laws_toTask_eq] at h
    exact h
  · intro f e he
    unfold laws_toTask_T at he
    split at he
    · rw [List.mem_singleton.1 he]; exact laws_toInt64S_sound N
    · cases he

/- laws.toTaskS -/
def laws_toTaskS (N : Nat) (x0 : List (Int × Int × (List Int) × List Int)) : Option (List (Int × Int × (List Int) × List Int) × Unit) :=
  cond (mkOk (List.length x0 : Int) (List.length x0 : Int))
    (let xs1 := (List.replicate (Int.toNat (List.length x0 : Int)) ((0 : Int), ((0 : Int), ([], []))) : List (Int × Int × (List Int) × List Int))
    loopN (fun (s2 : List (Int × Int × (List Int) × List Int) × Int × Unit) next3 =>
      cond (decide (s2.2.1 < (List.length x0 : Int)))
        (Option.bind (idx x0 s2.2.1) fun v4 =>
        Option.bind (laws_toTask N v4) fun r5 =>
        cond (inB s2.2.1 (List.length s2.1))
          (let xs6 := (List.set s2.1 (Int.toNat s2.2.1) r5.1)
          next3 (xs6, (w64 (s2.2.1 + 1)), ())) none)
        (some (s2.1, ()))) N (xs1, 0, ())) none
def laws_toTaskS_e (N : Nat) : Ent := { ins := [(.sl (.pair (.int .i64) (.pair (.int .i64) (.pair (.sl (.int .i64)) (.sl (.int .i64))))))], outs := [.own (.nw (.pair (.int .i64) (.pair (.int .i64) (.pair (.sl (.int .i64)) (.sl (.int .i64))))))], F := fun x => laws_toTaskS N x.1 }
def laws_toTaskS_T (N : Nat) : Nat → List EntX
  | 74 => [.pl (laws_toTask_e N)]
  | _ => []
def laws_toTaskS_L : Nat → List (Nat × TK)
  | 3 => [(3, .own (.nw (.pair (.int .i64) (.pair (.int .i64) (.pair (.sl (.int .i64)) (.sl (.int .i64))))))), (4, .v (.int .i64))]
  | _ => []
theorem laws_toTaskS_eq (N : Nat) : runF N tt (laws_toTaskS_T N) laws_toTaskS_L [(.sl (.pair (.int .i64) (.pair (.int .i64) (.pair (.sl (.int .i64)) (.sl (.int .i64))))))] [.own (.nw (.pair (.int .i64) (.pair (.int .i64) (.pair (.sl (.int .i64)) (.sl (.int .i64))))))] (bodyOf Try.f37) Try.f37.ntmps [2] = (laws_toTaskS_e N).F := by
  funext x
  kernel_rfl
theorem laws_toTaskS_sound (N : Nat) : SoundC Try.prog 37 (laws_toTaskS_e N) := by
  have h := runF_sound (f := 37) (code := bodyOf Try.f37) (N := N) (T := laws_toTaskS_T N) (L := laws_toTaskS_L) (ins := [(.sl (.pair (.int .i64) (.pair (.int .i64) (.pair (.sl (.int .i64)) (.sl (.int .i64))))))]) (outs := [.own (.nw (.pair (.int .i64) (.pair (.int .i64) (.pair (.sl (.int .i64)) (.sl (.int .i64))))))]) (res := [2]) mixed tt_ok ?_ Try.func37 (by kernel_rfl) rfl (by kernel_rfl) (by kernel_rfl) (by decide +kernel)
  · rw [laws_toTaskS_eq] at h
    exact h
  · intro f e he
    unfold laws_toTaskS_T at he
    split at he
    · rw [List.mem_singleton.1 he]; exact laws_toTask_sound N
    · cases he

/- impl.AreTasks -/
def impl_AreTasks (N : Nat) (x0 : List (Int × Int × (List Int) × List Int)) : Option (Bool × Unit) :=
  loopN (fun (s1 : Int × Unit) next2 =>
    cond (decide (s1.1 < (List.length x0 : Int)))
      (Option.bind (idx x0 s1.1) fun v3 =>
      Option.bind (impl_within N v3.1 0 100) fun r4 =>
      cond (!r4.1)
        (some (false, ()))
        (Option.bind (impl_within N v3.2.1 0 20) fun r5 =>
        cond (!r5.1)
          (some (false, ()))
          (cond ((List.length v3.2.2.1 : Int) != (List.length v3.2.2.2 : Int))
            (some (false, ()))
            (Option.bind (impl_areWithin N v3.2.2.2 (-100) 100) fun r6 =>
            cond (!r6.1)
              (some (false, ()))
              (loopN (fun (s7 : Int × Unit) next8 =>
                cond (decide (s7.1 < (List.length v3.2.2.1 : Int)))
                  (Option.bind (idx v3.2.2.1 s7.1) fun v9 =>
                  Option.bind (impl_within N v9 0 (w64 (s1.1 - 1))) fun r10 =>
                  cond (!r10.1)
                    (some (false, ()))
                    (cond (decide (s7.1 > 0))
                      (Option.bind (idx v3.2.2.1 (w64 (s7.1 - 1))) fun v11 =>
                      cond (decide (v9 ≤ v11))
                        (some (false, ()))
                        (next8 ((w64 (s7.1 + 1)), ())))
                      (next8 ((w64 (s7.1 + 1)), ()))))
                  (next2 ((w64 (s1.1 + 1)), ()))) N (0, ()))))))
      (cond (decide ((List.length x0 : Int) ≥ 1))
        (some ((decide ((List.length x0 : Int) ≤ 16)), ()))
        (some (false, ())))) N (0, ())
def impl_AreTasks_e (N : Nat) : Ent := { ins := [(.sl (.pair (.int .i64) (.pair (.int .i64) (.pair (.sl (.int .i64)) (.sl (.int .i64))))))], outs := [.val .bool], F := fun x => impl_AreTasks N x.1 }
def impl_AreTasks_T (N : Nat) : Nat → List EntX
  | 75 => [.pl (impl_within_e N)]
  | 76 => [.pl (impl_areWithin_e N)]
  | _ => []
def impl_AreTasks_L : Nat → List (Nat × TK)
  | 2 => [(9, .v (.int .i64))]
  | 7 => [(42, .v (.int .i64))]
  | _ => []
theorem impl_AreTasks_eq (N : Nat) : runF N tt (impl_AreTasks_T N) impl_AreTasks_L [(.sl (.pair (.int .i64) (.pair (.int .i64) (.pair (.sl (.int .i64)) (.sl (.int .i64))))))] [.val .bool] (bodyOf Try.f38) Try.f38.ntmps [2] = (impl_AreTasks_e N).F := by
  funext x
  kernel_rfl
theorem impl_AreTasks_sound (N : Nat) : SoundC Try.prog 38 (impl_AreTasks_e N) := by
  have h := runF_sound (f := 38) (code := bodyOf Try.f38) (N := N) (T := impl_AreTasks_T N) (L := impl_AreTasks_L) (ins := [(.sl (.pair (.int .i64) (.pair (.int .i64) (.pair (.sl (.int .i64)) (.sl (.int .i64))))))]) (outs := [.val .bool]) (res := [2]) mixed tt_ok ?_ Try.func38 (by kernel_rfl) rfl (by kernel_rfl) (by kernel_rfl) (by decide +kernel)
  · rw [impl_AreTasks_eq] at h
    exact h
  · intro f e he
    unfold impl_AreTasks_T at he
    split at he
    · rw [List.mem_singleton.1 he]; exact impl_within_sound N
    · rw [List.mem_singleton.1 he]; exact impl_areWithin_sound N
    · cases he

/- laws.eqTask -/
def laws_eqTask (N : Nat) (x0 : Int × Int × (List Int) × List Int) (x1 : Int × Int × (List Int) × List Int) : Option (Bool × Unit) :=
  cond (x0.1 != x1.1)
    (some (false, ()))
    (cond (x0.2.1 != x1.2.1)
      (some (false, ()))
      (Option.bind (laws_eqInt64S N x0.2.2.1 x1.2.2.1) fun r1 =>
      cond (!r1.1)
        (some (false, ()))
        (Option.bind (laws_eqInt64S N x0.2.2.2 x1.2.2.2) fun r2 =>
        cond (!r2.1)
          (some (false, ()))
          (some (true, ())))))
def laws_eqTask_e (N : Nat) : Ent := { ins := [(.pair (.int .i64) (.pair (.int .i64) (.pair (.sl (.int .i64)) (.sl (.int .i64))))), (.pair (.int .i64) (.pair (.int .i64) (.pair (.sl (.int .i64)) (.sl (.int .i64)))))], outs := [.val .bool], F := fun x => laws_eqTask N x.1 x.2.1 }
def laws_eqTask_T (N : Nat) : Nat → List EntX
  | 28 => [.pl (laws_eqInt64S_e N)]
  | _ => []
def laws_eqTask_L : Nat → List (Nat × TK) := fun _ => []
theorem laws_eqTask_eq (N : Nat) : runF N tt (laws_eqTask_T N) laws_eqTask_L [(.pair (.int .i64) (.pair (.int .i64) (.pair (.sl (.int .i64)) (.sl (.int .i64))))), (.pair (.int .i64) (.pair (.int .i64) (.pair (.sl (.int .i64)) (.sl (.int .i64)))))] [.val .bool] (bodyOf Try.f77) Try.f77.ntmps [4] = (laws_eqTask_e N).F := by
  funext x
  kernel_rfl
theorem laws_eqTask_sound (N : Nat) : SoundC Try.prog 77 (laws_eqTask_e N) := by
  have h := runF_sound (f := 77) (code := bodyOf Try.f77) (N := N) (T := laws_eqTask_T N) (L := laws_eqTask_L) (ins := [(.pair (.int .i64) (.pair (.int .i64) (.pair (.sl (.int .i64)) (.sl (.int .i64))))), (.pair (.int .i64) (.pair (.int .i64) (.pair (.sl (.int .i64)) (.sl (.int .i64)))))]) (outs := [.val .bool]) (res := [4]) mixed tt_ok ?_ Try.func77 (by kernel_rfl) rfl (by kernel_rfl) (by kernel_rfl) (by decide +kernel)
  · rw [laws_eqTask_eq] at h
    exact h
  · intro f e he
    unfold laws_eqTask_T at he
    split at he
    · rw [List.mem_singleton.1 he]; exact laws_eqInt64S_sound N
    · cases he

/- laws.eqTaskS -/
def laws_eqTaskS (N : Nat) (x0 : List (Int × Int × (List Int) × List Int)) (x1 : List (Int × Int × (List Int) × List Int)) : Option (Bool × Unit) :=
  cond ((List.length x0 : Int) != (List.length x1 : Int))
    (some (false, ()))
    (loopN (fun (s1 : Int × Unit) next2 =>
      cond (decide (s1.1 < (List.length x0 : Int)))
        (Option.bind (idx x0 s1.1) fun v3 =>
        Option.bind (idx x1 s1.1) fun v4 =>
        Option.bind (laws_eqTask N v3 v4) fun r5 =>
        cond (!r5.1)
          (some (false, ()))
          (next2 ((w64 (s1.1 + 1)), ())))
        (some (true, ()))) N (0, ()))
def laws_eqTaskS_e (N : Nat) : Ent := { ins := [(.sl (.pair (.int .i64) (.pair (.int .i64) (.pair (.sl (.int .i64)) (.sl (.int .i64)))))), (.sl (.pair (.int .i64) (.pair (.int .i64) (.pair (.sl (.int .i64)) (.sl (.int .i64))))))], outs := [.val .bool], F := fun x => laws_eqTaskS N x.1 x.2.1 }
def laws_eqTaskS_T (N : Nat) : Nat → List EntX
  | 77 => [.pl (laws_eqTask_e N)]
  | _ => []
def laws_eqTaskS_L : Nat → List (Nat × TK)
  | 4 => [(5, .v (.int .i64))]
  | _ => []
theorem laws_eqTaskS_eq (N : Nat) : runF N tt (laws_eqTaskS_T N) laws_eqTaskS_L [(.sl (.pair (.int .i64) (.pair (.int .i64) (.pair (.sl (.int .i64)) (.sl (.int .i64)))))), (.sl (.pair (.int .i64) (.pair (.int .i64) (.pair (.sl (.int .i64)) (.sl (.int .i64))))))] [.val .bool] (bodyOf Try.f39) Try.f39.ntmps [4] = (laws_eqTaskS_e N).F := by
  funext x
  kernel_rfl
theorem laws_eqTaskS_sound (N : Nat) : SoundC Try.prog 39 (laws_eqTaskS_e N) := by
  have h := runF_sound (f := 39) (code := bodyOf Try.f39) (N := N) (T := laws_eqTaskS_T N) (L := laws_eqTaskS_L) (ins := [(.sl (.pair (.int .i64) (.pair (.int .i64) (.pair (.sl (.int .i64)) (.sl (.int .i64)))))), (.sl (.pair (.int .i64) (.pair (.int .i64) (.pair (.sl (.int .i64)) (.sl (.int .i64))))))]) (outs := [.val .bool]) (res := [4]) mixed tt_ok ?_ Try.func39 (by kernel_rfl) rfl (by kernel_rfl) (by kernel_rfl) (by decide +kernel)
  · rw [laws_eqTaskS_eq] at h
    exact h
  · intro f e he
    unfold laws_eqTaskS_T at he
    split at he
    · rw [List.mem_singleton.1 he]; exact laws_eqTask_sound N
    · cases he

/- laws.FnExactAreTasks -/
def laws_FnExactAreTasks (N : Nat) (x0 : List (Int × Int × (List Int) × List Int)) : Option (Bool × Unit) :=
  Option.bind (laws_szTaskS N x0 1048576) fun r1 =>
  cond (decide (r1.1 < 0))
    (some (true, ()))
    (Option.bind (laws_toTaskS N x0) fun r2 =>
    Option.bind (spec_AreTasks N r2.1) fun r3 =>
    Option.bind (laws_toTaskS N x0) fun r4 =>
    Option.bind (impl_AreTasks N r4.1) fun r5 =>
    cond (!(r5.1 == r3.1))
      (some (false, ()))
      (Option.bind (laws_toTaskS N x0) fun r6 =>
      Option.bind (laws_eqTaskS N r4.1 r6.1) fun r7 =>
      cond (!r7.1)
        (some (false, ()))
        (some (true, ()))))
def laws_FnExactAreTasks_e (N : Nat) : Ent := { ins := [(.sl (.pair (.int .i64) (.pair (.int .i64) (.pair (.sl (.int .i64)) (.sl (.int .i64))))))], outs := [.val .bool], F := fun x => laws_FnExactAreTasks N x.1 }
def laws_FnExactAreTasks_T (N : Nat) : Nat → List EntX
  | 35 => [.pl (laws_szTaskS_e N)]
  | 36 => [.pl (spec_AreTasks_e N)]
  | 37 => [.pl (laws_toTaskS_e N)]
  | 38 => [.pl (impl_AreTasks_e N)]
  | 39 => [.pl (laws_eqTaskS_e N)]
  | _ => []
def laws_FnExactAreTasks_L : Nat → List (Nat × TK) := fun _ => []
theorem laws_FnExactAreTasks_eq (N : Nat) : runF N tt (laws_FnExactAreTasks_T N) laws_FnExactAreTasks_L [(.sl (.pair (.int .i64) (.pair (.int .i64) (.pair (.sl (.int .i64)) (.sl (.int .i64))))))] [.val .bool] (bodyOf Try.f8) Try.f8.ntmps [2] = (laws_FnExactAreTasks_e N).F := by
  funext x
  kernel_rfl
theorem laws_FnExactAreTasks_sound (N : Nat) : SoundC Try.prog 8 (laws_FnExactAreTasks_e N) := by
  have h := runF_sound (f := 8) (code := bodyOf Try.f8) (N := N) (T := laws_FnExactAreTasks_T N) (L := laws_FnExactAreTasks_L) (ins := [(.sl (.pair (.int .i64) (.pair (.int .i64) (.pair (.sl (.int .i64)) (.sl (.int .i64))))))]) (outs := [.val .bool]) (res := [2]) mixed tt_ok ?_ Try.func8 (by kernel_rfl) rfl (by kernel_rfl) (by kernel_rfl) (by decide +kernel)
  · rw [laws_FnExactAreTasks_eq] at h
    exact h
  · intro f e he
    unfold laws_FnExactAreTasks_T at he
    split at he
    · rw [List.mem_singleton.1 he]; exact laws_szTaskS_sound N
    · rw [List.mem_singleton.1 he]; exact spec_AreTasks_sound N
    · rw [List.mem_singleton.1 he]; exact laws_toTaskS_sound N
    · rw [List.mem_singleton.1 he]; exact impl_AreTasks_sound N
    · rw [List.mem_singleton.1 he]; exact laws_eqTaskS_sound N
    · cases he

/- spec.l00Same -/
def spec_l00Same (N : Nat) (x0 : List Int) (x1 : List Int) : Option (Bool × Unit) :=
  cond ((List.length x0 : Int) != (List.length x1 : Int))
    (some (false, ()))
    (loopN (fun (s1 : Int × Unit) next2 =>
      cond (decide (s1.1 < (List.length x0 : Int)))
        (Option.bind (idx x0 s1.1) fun v3 =>
        Option.bind (idx x1 s1.1) fun v4 =>
        cond (v3 != v4)
          (some (false, ()))
          (next2 ((w64 (s1.1 + 1)), ())))
        (some (true, ()))) N (0, ()))
def spec_l00Same_e (N : Nat) : Ent := { ins := [(.sl (.int .i64)), (.sl (.int .i64))], outs := [.val .bool], F := fun x => spec_l00Same N x.1 x.2.1 }
def spec_l00Same_T (_ : Nat) : Nat → List EntX := fun _ => []
def spec_l00Same_L : Nat → List (Nat × TK)
  | 4 => [(5, .v (.int .i64))]
  | _ => []
theorem spec_l00Same_eq (N : Nat) : runF N tt (spec_l00Same_T N) spec_l00Same_L [(.sl (.int .i64)), (.sl (.int .i64))] [.val .bool] (bodyOf Try.f89) Try.f89.ntmps [4] = (spec_l00Same_e N).F := by
  funext x
  kernel_rfl
theorem spec_l00Same_sound (N : Nat) : SoundC Try.prog 89 (spec_l00Same_e N) := by
  have h := runF_sound (f := 89) (code := bodyOf Try.f89) (N := N) (T := spec_l00Same_T N) (L := spec_l00Same_L) (ins := [(.sl (.int .i64)), (.sl (.int .i64))]) (outs := [.val .bool]) (res := [4]) mixed tt_ok ?_ Try.func89 (by kernel_rfl) rfl (by kernel_rfl) (by kernel_rfl) (by decide +kernel)
  · rw [spec_l00Same_eq] at h
    exact h
  · intro f e he
    cases he

/- spec.SameTasks -/
def spec_SameTasks (N : Nat) (x0 : List (Int × Int × (List Int) × List Int)) (x1 : List (Int × Int × (List Int) × List Int)) : Option (Bool × Unit) :=
  cond ((List.length x0 : Int) != (List.length x1 : Int))
    (some (false, ()))
    (loopN (fun (s1 : Int × Unit) next2 =>
      cond (decide (s1.1 < (List.length x0 : Int)))
        (Option.bind (idx x0 s1.1) fun v3 =>
        Option.bind (idx x1 s1.1) fun v4 =>
        cond (v3.1 != v4.1)
          (some (false, ()))
          (Option.bind (idx x0 s1.1) fun v5 =>
          Option.bind (idx x1 s1.1) fun v6 =>
          cond (v5.2.1 != v6.2.1)
            (some (false, ()))
            (Option.bind (idx x0 s1.1) fun v7 =>
            Option.bind (idx x1 s1.1) fun v8 =>
            Option.bind (spec_l00Same N v7.2.2.1 v8.2.2.1) fun r9 =>
            cond (!r9.1)
              (some (false, ()))
              (Option.bind (idx x0 s1.1) fun v10 =>
              Option.bind (idx x1 s1.1) fun v11 =>
              Option.bind (spec_l00Same N v10.2.2.2 v11.2.2.2) fun r12 =>
              cond (!r12.1)
                (some (false, ()))
                (next2 ((w64 (s1.1 + 1)), ()))))))
        (some (true, ()))) N (0, ()))
def spec_SameTasks_e (N : Nat) : Ent := { ins := [(.sl (.pair (.int .i64) (.pair (.int .i64) (.pair (.sl (.int .i64)) (.sl (.int .i64)))))), (.sl (.pair (.int .i64) (.pair (.int .i64) (.pair (.sl (.int .i64)) (.sl (.int .i64))))))], outs := [.val .bool], F := fun x => spec_SameTasks N x.1 x.2.1 }
def spec_SameTasks_T (N : Nat) : Nat → List EntX
  | 89 => [.pl (spec_l00Same_e N)]
  | _ => []
def spec_SameTasks_L : Nat → List (Nat × TK)
  | 4 => [(13, .v (.int .i64))]
  | _ => []
theorem spec_SameTasks_eq (N : Nat) : runF N tt (spec_SameTasks_T N) spec_SameTasks_L [(.sl (.pair (.int .i64) (.pair (.int .i64) (.pair (.sl (.int .i64)) (.sl (.int .i64)))))), (.sl (.pair (.int .i64) (.pair (.int .i64) (.pair (.sl (.int .i64)) (.sl (.int .i64))))))] [.val .bool] (bodyOf Try.f46) Try.f46.ntmps [4] = (spec_SameTasks_e N).F := by
  funext x
  kernel_rfl
theorem spec_SameTasks_sound (N : Nat) : SoundC Try.prog 46 (spec_SameTasks_e N) := by
  have h := runF_sound (f := 46) (code := bodyOf Try.f46) (N := N) (T := spec_SameTasks_T N) (L := spec_SameTasks_L) (ins := [(.sl (.pair (.int .i64) (.pair (.int .i64) (.pair (.sl (.int .i64)) (.sl (.int .i64)))))), (.sl (.pair (.int .i64) (.pair (.int .i64) (.pair (.sl (.int .i64)) (.sl (.int .i64))))))]) (outs := [.val .bool]) (res := [4]) mixed tt_ok ?_ Try.func46 (by kernel_rfl) rfl (by kernel_rfl) (by kernel_rfl) (by decide +kernel)
  · rw [spec_SameTasks_eq] at h
    exact h
  · intro f e he
    unfold spec_SameTasks_T at he
    split at he
    · rw [List.mem_singleton.1 he]; exact spec_l00Same_sound N
    · cases he

/- slices.Equal[[]int64,int64] -/
def slices_Equal_int64_int64 (N : Nat) (x0 : List Int) (x1 : List Int) : Option (Bool × Unit) :=
  cond ((List.length x0 : Int) != (List.length x1 : Int))
    (some (false, ()))
    (loopN (fun (s1 : Int × Unit) next2 =>
      cond (decide (s1.1 < (List.length x0 : Int)))
        (Option.bind (idx x0 s1.1) fun v3 =>
        Option.bind (idx x1 s1.1) fun v4 =>
        cond (v3 != v4)
          (some (false, ()))
          (next2 ((w64 (s1.1 + 1)), ())))
        (some (true, ()))) N (0, ()))
def slices_Equal_int64_int64_e (N : Nat) : Ent := { ins := [(.sl (.int .i64)), (.sl (.int .i64))], outs := [.val .bool], F := fun x => slices_Equal_int64_int64 N x.1 x.2.1 }
def slices_Equal_int64_int64_T (_ : Nat) : Nat → List EntX := fun _ => []
def slices_Equal_int64_int64_L : Nat → List (Nat × TK)
  | 4 => [(13, .v (.int .i64))]
  | _ => []
theorem slices_Equal_int64_int64_eq (N : Nat) : runF N tt (slices_Equal_int64_int64_T N) slices_Equal_int64_int64_L [(.sl (.int .i64)), (.sl (.int .i64))] [.val .bool] (bodyOf Try.f92) Try.f92.ntmps [4] = (slices_Equal_int64_int64_e N).F := by
  funext x
  kernel_rfl
theorem slices_Equal_int64_int64_sound (N : Nat) : SoundC Try.prog 92 (slices_Equal_int64_int64_e N) := by
  have h := runF_sound (f := 92) (code := bodyOf Try.f92) (N := N) (T := slices_Equal_int64_int64_T N) (L := slices_Equal_int64_int64_L) (ins := [(.sl (.int .i64)), (.sl (.int .i64))]) (outs := [.val .bool]) (res := [4]) mixed tt_ok ?_ Try.func92 (by kernel_rfl) rfl (by kernel_rfl) (by kernel_rfl) (by decide +kernel)
  · rw [slices_Equal_int64_int64_eq] at h
    exact h
  · intro f e he
    cases he

/- impl.SameTasks$1 -/
def impl_SameTasks_1 (N : Nat) (x0 : Int × Int × (List Int) × List Int) (x1 : Int × Int × (List Int) × List Int) : Option (Bool × Unit) :=
  cond (x0.1 == x1.1)
    (cond (x0.2.1 == x1.2.1)
      (Option.bind (slices_Equal_int64_int64 N x0.2.2.1 x1.2.2.1) fun r1 =>
      cond r1.1
        (Option.bind (slices_Equal_int64_int64 N x0.2.2.2 x1.2.2.2) fun r2 =>
        some (r2.1, ()))
        (some (false, ())))
      (some (false, ())))
    (some (false, ()))
def impl_SameTasks_1_e (N : Nat) : Ent := { ins := [(.pair (.int .i64) (.pair (.int .i64) (.pair (.sl (.int .i64)) (.sl (.int .i64))))), (.pair (.int .i64) (.pair (.int .i64) (.pair (.sl (.int .i64)) (.sl (.int .i64)))))], outs := [.val .bool], F := fun x => impl_SameTasks_1 N x.1 x.2.1 }
def impl_SameTasks_1_T (N : Nat) : Nat → List EntX
  | 92 => [.pl (slices_Equal_int64_int64_e N)]
  | _ => []
def impl_SameTasks_1_L : Nat → List (Nat × TK) := fun _ => []
theorem impl_SameTasks_1_eq (N : Nat) : runF N tt (impl_SameTasks_1_T N) impl_SameTasks_1_L [(.pair (.int .i64) (.pair (.int .i64) (.pair (.sl (.int .i64)) (.sl (.int .i64))))), (.pair (.int .i64) (.pair (.int .i64) (.pair (.sl (.int .i64)) (.sl (.int .i64)))))] [.val .bool] (bodyOf Try.f91) Try.f91.ntmps [4] = (impl_SameTasks_1_e N).F := by
  funext x
  kernel_rfl
theorem impl_SameTasks_1_sound (N : Nat) : SoundC Try.prog 91 (impl_SameTasks_1_e N) := by
  have h := runF_sound (f := 91) (code := bodyOf Try.f91) (N := N) (T := impl_SameTasks_1_T N) (L := impl_SameTasks_1_L) (ins := [(.pair (.int .i64) (.pair (.int .i64) (.pair (.sl (.int .i64)) (.sl (.int .i64))))), (.pair (.int .i64) (.pair (.int .i64) (.pair (.sl (.int .i64)) (.sl (.int .i64)))))]) (outs := [.val .bool]) (res := [4]) mixed tt_ok ?_ Try.func91 (by kernel_rfl) rfl (by kernel_rfl) (by kernel_rfl) (by decide +kernel)
  · rw [impl_SameTasks_1_eq] at h
    exact h
  · intro f e he
    unfold impl_SameTasks_1_T at he
    split at he
    · rw [List.mem_singleton.1 he]; exact slices_Equal_int64_int64_sound N
    · cases he

/- slices.EqualFunc[[]impl.Task,[]impl.Task,impl.Task,impl.Task] -/
def slices_EqualFunc_impl_Task_impl_Task_impl_Task_impl_Task_c0 (N : Nat) (x0 : List (Int × Int × (List Int) × List Int)) (x1 : List (Int × Int × (List Int) × List Int)) (x2 : Unit) : Option (Bool × Unit) :=
  cond ((List.length x0 : Int) != (List.length x1 : Int))
    (some (false, ()))
    (loopN (fun (s1 : Int × Unit) next2 =>
      cond (decide (s1.1 < (List.length x0 : Int)))
        (Option.bind (idx x0 s1.1) fun v3 =>
        Option.bind (idx x1 s1.1) fun v4 =>
        Option.bind (impl_SameTasks_1 N (v3.1, (v3.2.1, (v3.2.2.1, v3.2.2.2))) (v4.1, (v4.2.1, (v4.2.2.1, v4.2.2.2)))) fun r5 =>
        cond (!r5.1)
          (some (false, ()))
          (next2 ((w64 (s1.1 + 1)), ())))
        (some (true, ()))) N (0, ()))
def slices_EqualFunc_impl_Task_impl_Task_impl_Task_impl_Task_c0_e (N : Nat) : Ent := { ins := [(.sl (.pair (.int .i64) (.pair (.int .i64) (.pair (.sl (.int .i64)) (.sl (.int .i64)))))), (.sl (.pair (.int .i64) (.pair (.int .i64) (.pair (.sl (.int .i64)) (.sl (.int .i64)))))), (.clo 91 .un)], outs := [.val .bool], F := fun x => slices_EqualFunc_impl_Task_impl_Task_impl_Task_impl_Task_c0 N x.1 x.2.1 x.2.2.1 }
def slices_EqualFunc_impl_Task_impl_Task_impl_Task_impl_Task_c0_T (N : Nat) : Nat → List EntX
  | 91 => [.pl (impl_SameTasks_1_e N)]
  | _ => []
def slices_EqualFunc_impl_Task_impl_Task_impl_Task_impl_Task_c0_L : Nat → List (Nat × TK)
  | 4 => [(17, .v (.int .i64))]
  | _ => []
theorem slices_EqualFunc_impl_Task_impl_Task_impl_Task_impl_Task_c0_eq (N : Nat) : runF N tt (slices_EqualFunc_impl_Task_impl_Task_impl_Task_impl_Task_c0_T N) slices_EqualFunc_impl_Task_impl_Task_impl_Task_impl_Task_c0_L [(.sl (.pair (.int .i64) (.pair (.int .i64) (.pair (.sl (.int .i64)) (.sl (.int .i64)))))), (.sl (.pair (.int .i64) (.pair (.int .i64) (.pair (.sl (.int .i64)) (.sl (.int .i64)))))), (.clo 91 .un)] [.val .bool] (bodyOf Try.f90) Try.f90.ntmps [6] = (slices_EqualFunc_impl_Task_impl_Task_impl_Task_impl_Task_c0_e N).F := by
  funext x
  kernel_rfl
theorem slices_EqualFunc_impl_Task_impl_Task_impl_Task_impl_Task_c0_sound (N : Nat) : SoundC Try.prog 90 (slices_EqualFunc_impl_Task_impl_Task_impl_Task_impl_Task_c0_e N) := by
  have h := runF_sound (f := 90) (code := bodyOf Try.f90) (N := N) (T := slices_EqualFunc_impl_Task_impl_Task_impl_Task_impl_Task_c0_T N) (L := slices_EqualFunc_impl_Task_impl_Task_impl_Task_impl_Task_c0_L) (ins := [(.sl (.pair (.int .i64) (.pair (.int .i64) (.pair (.sl (.int .i64)) (.sl (.int .i64)))))), (.sl (.pair (.int .i64) (.pair (.int .i64) (.pair (.sl (.int .i64)) (.sl (.int .i64)))))), (.clo 91 .un)]) (outs := [.val .bool]) (res := [6]) mixed tt_ok ?_ Try.func90 (by kernel_rfl) rfl (by kernel_rfl) (by kernel_rfl) (by decide +kernel)
  · rw [slices_EqualFunc_impl_Task_impl_Task_impl_Task_impl_Task_c0_eq] at h
    exact h
  · intro f e he
    unfold slices_EqualFunc_impl_Task_impl_Task_impl_Task_impl_Task_c0_T at he
    split at he
    · rw [List.mem_singleton.1 he]; exact impl_SameTasks_1_sound N
    · cases he

/- impl.SameTasks -/
def impl_SameTasks (N : Nat) (x0 : List (Int × Int × (List Int) × List Int)) (x1 : List (Int × Int × (List Int) × List Int)) : Option (Bool × Unit) :=
  Option.bind (slices_EqualFunc_impl_Task_impl_Task_impl_Task_impl_Task_c0 N x0 x1 ()) fun r1 =>
  some (r1.1, ())
def impl_SameTasks_e (N : Nat) : Ent := { ins := [(.sl (.pair (.int .i64) (.pair (.int .i64) (.pair (.sl (.int .i64)) (.sl (.int .i64)))))), (.sl (.pair (.int .i64) (.pair (.int .i64) (.pair (.sl (.int .i64)) (.sl (.int .i64))))))], outs := [.val .bool], F := fun x => impl_SameTasks N x.1 x.2.1 }
def impl_SameTasks_T (N : Nat) : Nat → List EntX
  | 90 => [.pl (slices_EqualFunc_impl_Task_impl_Task_impl_Task_impl_Task_c0_e N)]
  | _ => []
def impl_SameTasks_L : Nat → List (Nat × TK) := fun _ => []
theorem impl_SameTasks_eq (N : Nat) : runF N tt (impl_SameTasks_T N) impl_SameTasks_L [(.sl (.pair (.int .i64) (.pair (.int .i64) (.pair (.sl (.int .i64)) (.sl (.int .i64)))))), (.sl (.pair (.int .i64) (.pair (.int .i64) (.pair (.sl (.int .i64)) (.sl (.int .i64))))))] [.val .bool] (bodyOf Try.f47) Try.f47.ntmps [4] = (impl_SameTasks_e N).F := by
  funext x
  kernel_rfl
theorem impl_SameTasks_sound (N : Nat) : SoundC Try.prog 47 (impl_SameTasks_e N) := by
  have h := runF_sound (f := 47) (code := bodyOf Try.f47) (N := N) (T := impl_SameTasks_T N) (L := impl_SameTasks_L) (ins := [(.sl (.pair (.int .i64) (.pair (.int .i64) (.pair (.sl (.int .i64)) (.sl (.int .i64)))))), (.sl (.pair (.int .i64) (.pair (.int .i64) (.pair (.sl (.int .i64)) (.sl (.int .i64))))))]) (outs := [.val .bool]) (res := [4]) mixed tt_ok ?_ Try.func47 (by kernel_rfl) rfl (by kernel_rfl) (by kernel_rfl) (by decide +kernel)
  · rw [impl_SameTasks_eq] at h
    exact h
  · intro f e he
    unfold impl_SameTasks_T at he
    split at he
    · rw [List.mem_singleton.1 he]; exact slices_EqualFunc_impl_Task_impl_Task_impl_Task_impl_Task_c0_sound N
    · cases he

/- laws.FnExactSameTasks -/
def laws_FnExactSameTasks (N : Nat) (x0 : List (Int × Int × (List Int) × List Int)) (x1 : List (Int × Int × (List Int) × List Int)) : Option (Bool × Unit) :=
  Option.bind (laws_szTaskS N x0 1048576) fun r1 =>
  cond (decide (r1.1 < 0))
    (some (true, ()))
    (Option.bind (laws_szTaskS N x1 r1.1) fun r2 =>
    cond (decide (r2.1 < 0))
      (some (true, ()))
      (Option.bind (laws_toTaskS N x0) fun r3 =>
      Option.bind (laws_toTaskS N x1) fun r4 =>
      Option.bind (spec_SameTasks N r3.1 r4.1) fun r5 =>
      Option.bind (laws_toTaskS N x0) fun r6 =>
      Option.bind (laws_toTaskS N x1) fun r7 =>
      Option.bind (impl_SameTasks N r6.1 r7.1) fun r8 =>
      cond (!(r8.1 == r5.1))
        (some (false, ()))
        (Option.bind (laws_toTaskS N x0) fun r9 =>
        Option.bind (laws_eqTaskS N r6.1 r9.1) fun r10 =>
        cond (!r10.1)
          (some (false, ()))
          (Option.bind (laws_toTaskS N x1) fun r11 =>
          Option.bind (laws_eqTaskS N r7.1 r11.1) fun r12 =>
          cond (!r12.1)
            (some (false, ()))
            (some (true, ()))))))
def laws_FnExactSameTasks_e (N : Nat) : Ent := { ins := [(.sl (.pair (.int .i64) (.pair (.int .i64) (.pair (.sl (.int .i64)) (.sl (.int .i64)))))), (.sl (.pair (.int .i64) (.pair (.int .i64) (.pair (.sl (.int .i64)) (.sl (.int .i64))))))], outs := [.val .bool], F := fun x => laws_FnExactSameTasks N x.1 x.2.1 }
def laws_FnExactSameTasks_T (N : Nat) : Nat → List EntX
  | 35 => [.pl (laws_szTaskS_e N)]
  | 37 => [.pl (laws_toTaskS_e N)]
  | 39 => [.pl (laws_eqTaskS_e N)]
  | 46 => [.pl (spec_SameTasks_e N)]
  | 47 => [.pl (impl_SameTasks_e N)]
  | _ => []
def laws_FnExactSameTasks_L : Nat → List (Nat × TK) := fun _ => []
theorem laws_FnExactSameTasks_eq (N : Nat) : runF N tt (laws_FnExactSameTasks_T N) laws_FnExactSameTasks_L [(.sl (.pair (.int .i64) (.pair (.int .i64) (.pair (.sl (.int .i64)) (.sl (.int .i64)))))), (.sl (.pair (.int .i64) (.pair (.int .i64) (.pair (.sl (.int .i64)) (.sl (.int .i64))))))] [.val .bool] (bodyOf Try.f12) Try.f12.ntmps [4] = (laws_FnExactSameTasks_e N).F := by
  funext x
  kernel_rfl
theorem laws_FnExactSameTasks_sound (N : Nat) : SoundC Try.prog 12 (laws_FnExactSameTasks_e N) := by
  have h := runF_sound (f := 12) (code := bodyOf Try.f12) (N := N) (T := laws_FnExactSameTasks_T N) (L := laws_FnExactSameTasks_L) (ins := [(.sl (.pair (.int .i64) (.pair (.int .i64) (.pair (.sl (.int .i64)) (.sl (.int .i64)))))), (.sl (.pair (.int .i64) (.pair (.int .i64) (.pair (.sl (.int .i64)) (.sl (.int .i64))))))]) (outs := [.val .bool]) (res := [4]) mixed tt_ok ?_ Try.func12 (by kernel_rfl) rfl (by kernel_rfl) (by kernel_rfl) (by decide +kernel)
  · rw [laws_FnExactSameTasks_eq] at h
    exact h
  · intro f e he
    unfold laws_FnExactSameTasks_T at he
    split at he
    · rw [List.mem_singleton.1 he]; exact laws_szTaskS_sound N
    · rw [List.mem_singleton.1 he]; exact laws_toTaskS_sound N
    · rw [List.mem_singleton.1 he]; exact laws_eqTaskS_sound N
    · rw [List.mem_singleton.1 he]; exact spec_SameTasks_sound N
    · rw [List.mem_singleton.1 he]; exact impl_SameTasks_sound N
    · cases he

end Go.Proofs.Ytakmpiljijhcbaa
