/-
  The plain functions of this seat, printed by a program, each equal to the evaluator's run, with its contract. No condition.
-/
import Derived.Test.YtehmdibkccbamaaFwS
import Derived.Test.YtehmdibkccbamaaChecked
namespace Go.Proofs.Ytehmdibkccbamaa
open Go Go.Proofs.Ytehmdibkccbamaa.Fw
set_option maxRecDepth 100000
set_option linter.unusedVariables false

theorem mixed : Try.prog.follows .mixedOrders = true := Try.checked.mixed
def tt : Nat → TD
  | 2 => tdInt .i64
  | 3 => tdInt .i64
  | 4 => tdBool
  | 28 => tdSl (.int .i64) 8
  | 56 => tdInt .u64
  | _ => tdNone
theorem tt_2 : TDok Try.prog 2 (tdInt .i64) := tdok_int (b := 8) (by kernel_rfl) (by kernel_rfl)
theorem tt_3 : TDok Try.prog 3 (tdInt .i64) := tdok_int (b := 8) (by kernel_rfl) (by kernel_rfl)
theorem tt_4 : TDok Try.prog 4 (tdBool) := tdok_bool (b := 1) (by kernel_rfl) (by kernel_rfl)
theorem tt_28 : TDok Try.prog 28 (tdSl (.int .i64) 8) := tdok_sl (b := 24) (e := 2) (z := (.int .i64 0)) (by kernel_rfl) (by kernel_rfl) (by kernel_rfl) (by decide) (fun _ => by kernel_rfl)
theorem tt_56 : TDok Try.prog 56 (tdInt .u64) := tdok_int (b := 8) (by kernel_rfl) (by kernel_rfl)
theorem tt_ok (t : Nat) : TDok Try.prog t (tt t) := by
  unfold tt
  split
  · exact tt_2
  · exact tt_3
  · exact tt_4
  · exact tt_28
  · exact tt_56
  · exact tdok_none

/- spec.l00In -/
def spec_l00In (_N : Nat) (x0 : Int) (x1 : Int) (x2 : Int) : Option (Bool × Unit) :=
  cond (decide (x0 ≥ x1))
    (some ((decide (x0 ≤ x2)), ()))
    (some (false, ()))
def spec_l00In_e (N : Nat) : Ent := { ins := [(.int .i64), (.int .i64), (.int .i64)], outs := [.val .bool], F := fun x => spec_l00In N x.1 x.2.1 x.2.2.1 }
def spec_l00In_T (_ : Nat) : Nat → List Ent := fun _ => []
def spec_l00In_L : Nat → List (Nat × TK) := fun _ => []
theorem spec_l00In_eq (N : Nat) : runF N tt (spec_l00In_T N) spec_l00In_L [(.int .i64), (.int .i64), (.int .i64)] [.val .bool] (bodyOf Try.f33) Try.f33.ntmps [6] = (spec_l00In_e N).F := by
  funext x
  kernel_rfl
theorem spec_l00In_sound (N : Nat) : SoundC Try.prog 33 (spec_l00In_e N) := by
  have h := runF_sound (f := 33) (code := bodyOf Try.f33) (N := N) (T := spec_l00In_T N) (L := spec_l00In_L) (ins := [(.int .i64), (.int .i64), (.int .i64)]) (outs := [.val .bool]) (res := [6]) mixed tt_ok ?_ Try.func33 (by kernel_rfl) rfl (by kernel_rfl) (by kernel_rfl) (by decide +kernel)
  · rw [spec_l00In_eq] at h
    exact h
  · intro f e he
    cases he

/- spec.l02Times -/
def spec_l02Times (N : Nat) (x0 : List Int) : Option (Bool × Unit) :=
  loopN (fun (s1 : Int × Unit) next2 =>
    cond (decide (s1.1 < (List.length x0 : Int)))
      (Option.bind (idx x0 s1.1) fun v3 =>
      Option.bind (spec_l00In N v3 1 10000) fun r4 =>
      cond (!r4.1)
        (some (false, ()))
        (next2 ((w64 (s1.1 + 1)), ())))
      (cond (decide ((List.length x0 : Int) ≥ 1))
        (some ((decide ((List.length x0 : Int) ≤ 24)), ()))
        (some (false, ())))) N (0, ())
def spec_l02Times_e (N : Nat) : Ent := { ins := [(.sl (.int .i64))], outs := [.val .bool], F := fun x => spec_l02Times N x.1 }
def spec_l02Times_T (N : Nat) : Nat → List Ent
  | 33 => [spec_l00In_e N]
  | _ => []
def spec_l02Times_L : Nat → List (Nat × TK)
  | 2 => [(3, .v (.int .i64))]
  | _ => []
theorem spec_l02Times_eq (N : Nat) : runF N tt (spec_l02Times_T N) spec_l02Times_L [(.sl (.int .i64))] [.val .bool] (bodyOf Try.f45) Try.f45.ntmps [2] = (spec_l02Times_e N).F := by
  funext x
  kernel_rfl
theorem spec_l02Times_sound (N : Nat) : SoundC Try.prog 45 (spec_l02Times_e N) := by
  have h := runF_sound (f := 45) (code := bodyOf Try.f45) (N := N) (T := spec_l02Times_T N) (L := spec_l02Times_L) (ins := [(.sl (.int .i64))]) (outs := [.val .bool]) (res := [2]) mixed tt_ok ?_ Try.func45 (by kernel_rfl) rfl (by kernel_rfl) (by kernel_rfl) (by decide +kernel)
  · rw [spec_l02Times_eq] at h
    exact h
  · intro f e he
    unfold spec_l02Times_T at he
    split at he
    · rw [List.mem_singleton.1 he]; exact spec_l00In_sound N
    · cases he

/- spec.l04Tasks -/
def spec_l04Tasks (N : Nat) (x0 : List Int) : Option (Bool × Unit) :=
  Option.bind (spec_l02Times N x0) fun r1 =>
  cond r1.1
    (some ((decide ((List.length x0 : Int) ≤ 12)), ()))
    (some (false, ()))
def spec_l04Tasks_e (N : Nat) : Ent := { ins := [(.sl (.int .i64))], outs := [.val .bool], F := fun x => spec_l04Tasks N x.1 }
def spec_l04Tasks_T (N : Nat) : Nat → List Ent
  | 45 => [spec_l02Times_e N]
  | _ => []
def spec_l04Tasks_L : Nat → List (Nat × TK) := fun _ => []
theorem spec_l04Tasks_eq (N : Nat) : runF N tt (spec_l04Tasks_T N) spec_l04Tasks_L [(.sl (.int .i64))] [.val .bool] (bodyOf Try.f32) Try.f32.ntmps [2] = (spec_l04Tasks_e N).F := by
  funext x
  kernel_rfl
theorem spec_l04Tasks_sound (N : Nat) : SoundC Try.prog 32 (spec_l04Tasks_e N) := by
  have h := runF_sound (f := 32) (code := bodyOf Try.f32) (N := N) (T := spec_l04Tasks_T N) (L := spec_l04Tasks_L) (ins := [(.sl (.int .i64))]) (outs := [.val .bool]) (res := [2]) mixed tt_ok ?_ Try.func32 (by kernel_rfl) rfl (by kernel_rfl) (by kernel_rfl) (by decide +kernel)
  · rw [spec_l04Tasks_eq] at h
    exact h
  · intro f e he
    unfold spec_l04Tasks_T at he
    split at he
    · rw [List.mem_singleton.1 he]; exact spec_l02Times_sound N
    · cases he

/- spec.l04Line -/
def spec_l04Line (N : Nat) (x0 : List Int) (x1 : List Int) : Option (Bool × Unit) :=
  Option.bind (spec_l04Tasks N x0) fun r1 =>
  cond (!r1.1)
    (some (false, ()))
    (cond ((List.length x1 : Int) != (List.length x0 : Int))
      (some (false, ()))
      (loopN (fun (s2 : Int × Unit) next3 =>
        cond (decide (s2.1 < (List.length x1 : Int)))
          (Option.bind (idx x1 s2.1) fun v4 =>
          cond (decide ((IntKind.wrap .u64 s2.1) < 0)) none
            (Option.bind (spec_l00In N v4 0 (w64 ((ishl .i64 1 (IntKind.wrap .u64 s2.1)) - 1))) fun r5 =>
            cond (!r5.1)
              (some (false, ()))
              (next3 ((w64 (s2.1 + 1)), ()))))
          (some (true, ()))) N (0, ())))
def spec_l04Line_e (N : Nat) : Ent := { ins := [(.sl (.int .i64)), (.sl (.int .i64))], outs := [.val .bool], F := fun x => spec_l04Line N x.1 x.2.1 }
def spec_l04Line_T (N : Nat) : Nat → List Ent
  | 32 => [spec_l04Tasks_e N]
  | 33 => [spec_l00In_e N]
  | _ => []
def spec_l04Line_L : Nat → List (Nat × TK)
  | 4 => [(5, .v (.int .i64))]
  | _ => []
theorem spec_l04Line_eq (N : Nat) : runF N tt (spec_l04Line_T N) spec_l04Line_L [(.sl (.int .i64)), (.sl (.int .i64))] [.val .bool] (bodyOf Try.f27) Try.f27.ntmps [4] = (spec_l04Line_e N).F := by
  funext x
  kernel_rfl
theorem spec_l04Line_sound (N : Nat) : SoundC Try.prog 27 (spec_l04Line_e N) := by
  have h := runF_sound (f := 27) (code := bodyOf Try.f27) (N := N) (T := spec_l04Line_T N) (L := spec_l04Line_L) (ins := [(.sl (.int .i64)), (.sl (.int .i64))]) (outs := [.val .bool]) (res := [4]) mixed tt_ok ?_ Try.func27 (by kernel_rfl) rfl (by kernel_rfl) (by kernel_rfl) (by decide +kernel)
  · rw [spec_l04Line_eq] at h
    exact h
  · intro f e he
    unfold spec_l04Line_T at he
    split at he
    · rw [List.mem_singleton.1 he]; exact spec_l04Tasks_sound N
    · rw [List.mem_singleton.1 he]; exact spec_l00In_sound N
    · cases he

/- spec.IsLine -/
def spec_IsLine (N : Nat) (x0 : List Int) (x1 : List Int) : Option (Bool × Unit) :=
  Option.bind (spec_l04Line N x0 x1) fun r1 =>
  some (r1.1, ())
def spec_IsLine_e (N : Nat) : Ent := { ins := [(.sl (.int .i64)), (.sl (.int .i64))], outs := [.val .bool], F := fun x => spec_IsLine N x.1 x.2.1 }
def spec_IsLine_T (N : Nat) : Nat → List Ent
  | 27 => [spec_l04Line_e N]
  | _ => []
def spec_IsLine_L : Nat → List (Nat × TK) := fun _ => []
theorem spec_IsLine_eq (N : Nat) : runF N tt (spec_IsLine_T N) spec_IsLine_L [(.sl (.int .i64)), (.sl (.int .i64))] [.val .bool] (bodyOf Try.f11) Try.f11.ntmps [4] = (spec_IsLine_e N).F := by
  funext x
  kernel_rfl
theorem spec_IsLine_sound (N : Nat) : SoundC Try.prog 11 (spec_IsLine_e N) := by
  have h := runF_sound (f := 11) (code := bodyOf Try.f11) (N := N) (T := spec_IsLine_T N) (L := spec_IsLine_L) (ins := [(.sl (.int .i64)), (.sl (.int .i64))]) (outs := [.val .bool]) (res := [4]) mixed tt_ok ?_ Try.func11 (by kernel_rfl) rfl (by kernel_rfl) (by kernel_rfl) (by decide +kernel)
  · rw [spec_IsLine_eq] at h
    exact h
  · intro f e he
    unfold spec_IsLine_T at he
    split at he
    · rw [List.mem_singleton.1 he]; exact spec_l04Line_sound N
    · cases he

/- laws.toInt64S -/
def laws_toInt64S (N : Nat) (x0 : List Int) : Option (List (Int) × Unit) :=
  cond (mkOk (List.length x0 : Int) (List.length x0 : Int))
    (let xs1 := (List.replicate (Int.toNat (List.length x0 : Int)) (0 : Int) : List (Int))
    loopN (fun (s2 : List (Int) × Int × Unit) next3 =>
      cond (decide (s2.2.1 < (List.length x0 : Int)))
        (Option.bind (idx x0 s2.2.1) fun v4 =>
        cond (inB s2.2.1 (List.length s2.1))
          (let xs5 := (List.set s2.1 (Int.toNat s2.2.1) v4)
          next3 (xs5, (w64 (s2.2.1 + 1)), ())) none)
        (some (s2.1, ()))) N (xs1, 0, ())) none
def laws_toInt64S_e (N : Nat) : Ent := { ins := [(.sl (.int .i64))], outs := [.own (.int .i64)], F := fun x => laws_toInt64S N x.1 }
def laws_toInt64S_T (_ : Nat) : Nat → List Ent := fun _ => []
def laws_toInt64S_L : Nat → List (Nat × TK)
  | 3 => [(3, .own (.int .i64)), (4, .v (.int .i64))]
  | _ => []
theorem laws_toInt64S_eq (N : Nat) : runF N tt (laws_toInt64S_T N) laws_toInt64S_L [(.sl (.int .i64))] [.own (.int .i64)] (bodyOf Try.f12) Try.f12.ntmps [2] = (laws_toInt64S_e N).F := by
  funext x
  kernel_rfl
theorem laws_toInt64S_sound (N : Nat) : SoundC Try.prog 12 (laws_toInt64S_e N) := by
  have h := runF_sound (f := 12) (code := bodyOf Try.f12) (N := N) (T := laws_toInt64S_T N) (L := laws_toInt64S_L) (ins := [(.sl (.int .i64))]) (outs := [.own (.int .i64)]) (res := [2]) mixed tt_ok ?_ Try.func12 (by kernel_rfl) rfl (by kernel_rfl) (by kernel_rfl) (by decide +kernel)
  · rw [laws_toInt64S_eq] at h
    exact h
  · intro f e he
    cases he

/- impl.within -/
def impl_within (_N : Nat) (x0 : Int) (x1 : Int) (x2 : Int) : Option (Bool × Unit) :=
  cond (decide (x0 ≥ x1))
    (some ((decide (x0 ≤ x2)), ()))
    (some (false, ()))
def impl_within_e (N : Nat) : Ent := { ins := [(.int .i64), (.int .i64), (.int .i64)], outs := [.val .bool], F := fun x => impl_within N x.1 x.2.1 x.2.2.1 }
def impl_within_T (_ : Nat) : Nat → List Ent := fun _ => []
def impl_within_L : Nat → List (Nat × TK) := fun _ => []
theorem impl_within_eq (N : Nat) : runF N tt (impl_within_T N) impl_within_L [(.int .i64), (.int .i64), (.int .i64)] [.val .bool] (bodyOf Try.f29) Try.f29.ntmps [6] = (impl_within_e N).F := by
  funext x
  kernel_rfl
theorem impl_within_sound (N : Nat) : SoundC Try.prog 29 (impl_within_e N) := by
  have h := runF_sound (f := 29) (code := bodyOf Try.f29) (N := N) (T := impl_within_T N) (L := impl_within_L) (ins := [(.int .i64), (.int .i64), (.int .i64)]) (outs := [.val .bool]) (res := [6]) mixed tt_ok ?_ Try.func29 (by kernel_rfl) rfl (by kernel_rfl) (by kernel_rfl) (by decide +kernel)
  · rw [impl_within_eq] at h
    exact h
  · intro f e he
    cases he

/- impl.areWithin -/
def impl_areWithin (N : Nat) (x0 : List Int) (x1 : Int) (x2 : Int) : Option (Bool × Unit) :=
  loopN (fun (s1 : Int × Unit) next2 =>
    cond (decide (s1.1 < (List.length x0 : Int)))
      (Option.bind (idx x0 s1.1) fun v3 =>
      Option.bind (impl_within N v3 x1 x2) fun r4 =>
      cond (!r4.1)
        (some (false, ()))
        (next2 ((w64 (s1.1 + 1)), ())))
      (some (true, ()))) N (0, ())
def impl_areWithin_e (N : Nat) : Ent := { ins := [(.sl (.int .i64)), (.int .i64), (.int .i64)], outs := [.val .bool], F := fun x => impl_areWithin N x.1 x.2.1 x.2.2.1 }
def impl_areWithin_T (N : Nat) : Nat → List Ent
  | 29 => [impl_within_e N]
  | _ => []
def impl_areWithin_L : Nat → List (Nat × TK)
  | 2 => [(11, .v (.int .i64))]
  | _ => []
theorem impl_areWithin_eq (N : Nat) : runF N tt (impl_areWithin_T N) impl_areWithin_L [(.sl (.int .i64)), (.int .i64), (.int .i64)] [.val .bool] (bodyOf Try.f48) Try.f48.ntmps [6] = (impl_areWithin_e N).F := by
  funext x
  kernel_rfl
theorem impl_areWithin_sound (N : Nat) : SoundC Try.prog 48 (impl_areWithin_e N) := by
  have h := runF_sound (f := 48) (code := bodyOf Try.f48) (N := N) (T := impl_areWithin_T N) (L := impl_areWithin_L) (ins := [(.sl (.int .i64)), (.int .i64), (.int .i64)]) (outs := [.val .bool]) (res := [6]) mixed tt_ok ?_ Try.func48 (by kernel_rfl) rfl (by kernel_rfl) (by kernel_rfl) (by decide +kernel)
  · rw [impl_areWithin_eq] at h
    exact h
  · intro f e he
    unfold impl_areWithin_T at he
    split at he
    · rw [List.mem_singleton.1 he]; exact impl_within_sound N
    · cases he

/- impl.areMany -/
def impl_areMany (N : Nat) (x0 : List Int) (x1 : Int) (x2 : Int) (x3 : Int) (x4 : Int) : Option (Bool × Unit) :=
  cond (decide ((List.length x0 : Int) ≥ x1))
    (cond (decide ((List.length x0 : Int) ≤ x2))
      (Option.bind (impl_areWithin N x0 x3 x4) fun r1 =>
      some (r1.1, ()))
      (some (false, ())))
    (some (false, ()))
def impl_areMany_e (N : Nat) : Ent := { ins := [(.sl (.int .i64)), (.int .i64), (.int .i64), (.int .i64), (.int .i64)], outs := [.val .bool], F := fun x => impl_areMany N x.1 x.2.1 x.2.2.1 x.2.2.2.1 x.2.2.2.2.1 }
def impl_areMany_T (N : Nat) : Nat → List Ent
  | 48 => [impl_areWithin_e N]
  | _ => []
def impl_areMany_L : Nat → List (Nat × TK) := fun _ => []
theorem impl_areMany_eq (N : Nat) : runF N tt (impl_areMany_T N) impl_areMany_L [(.sl (.int .i64)), (.int .i64), (.int .i64), (.int .i64), (.int .i64)] [.val .bool] (bodyOf Try.f44) Try.f44.ntmps [10] = (impl_areMany_e N).F := by
  funext x
  kernel_rfl
theorem impl_areMany_sound (N : Nat) : SoundC Try.prog 44 (impl_areMany_e N) := by
  have h := runF_sound (f := 44) (code := bodyOf Try.f44) (N := N) (T := impl_areMany_T N) (L := impl_areMany_L) (ins := [(.sl (.int .i64)), (.int .i64), (.int .i64), (.int .i64), (.int .i64)]) (outs := [.val .bool]) (res := [10]) mixed tt_ok ?_ Try.func44 (by kernel_rfl) rfl (by kernel_rfl) (by kernel_rfl) (by decide +kernel)
  · rw [impl_areMany_eq] at h
    exact h
  · intro f e he
    unfold impl_areMany_T at he
    split at he
    · rw [List.mem_singleton.1 he]; exact impl_areWithin_sound N
    · cases he

/- impl.areLine -/
def impl_areLine (N : Nat) (x0 : List Int) : Option (Bool × Unit) :=
  Option.bind (impl_areMany N x0 1 12 1 10000) fun r1 =>
  some (r1.1, ())
def impl_areLine_e (N : Nat) : Ent := { ins := [(.sl (.int .i64))], outs := [.val .bool], F := fun x => impl_areLine N x.1 }
def impl_areLine_T (N : Nat) : Nat → List Ent
  | 44 => [impl_areMany_e N]
  | _ => []
def impl_areLine_L : Nat → List (Nat × TK) := fun _ => []
theorem impl_areLine_eq (N : Nat) : runF N tt (impl_areLine_T N) impl_areLine_L [(.sl (.int .i64))] [.val .bool] (bodyOf Try.f28) Try.f28.ntmps [2] = (impl_areLine_e N).F := by
  funext x
  kernel_rfl
theorem impl_areLine_sound (N : Nat) : SoundC Try.prog 28 (impl_areLine_e N) := by
  have h := runF_sound (f := 28) (code := bodyOf Try.f28) (N := N) (T := impl_areLine_T N) (L := impl_areLine_L) (ins := [(.sl (.int .i64))]) (outs := [.val .bool]) (res := [2]) mixed tt_ok ?_ Try.func28 (by kernel_rfl) rfl (by kernel_rfl) (by kernel_rfl) (by decide +kernel)
  · rw [impl_areLine_eq] at h
    exact h
  · intro f e he
    unfold impl_areLine_T at he
    split at he
    · rw [List.mem_singleton.1 he]; exact impl_areMany_sound N
    · cases he

/- impl.IsLine -/
def impl_IsLine (N : Nat) (x0 : List Int) (x1 : List Int) : Option (Bool × Unit) :=
  Option.bind (impl_areLine N x0) fun r1 =>
  cond (!r1.1)
    (some (false, ()))
    (cond ((List.length x1 : Int) != (List.length x0 : Int))
      (some (false, ()))
      (loopN (fun (s2 : Int × Unit) next3 =>
        cond (decide (s2.1 < (List.length x1 : Int)))
          (Option.bind (idx x1 s2.1) fun v4 =>
          cond (decide (s2.1 < 0)) none
            (Option.bind (impl_within N v4 0 (w64 ((ishl .i64 1 s2.1) - 1))) fun r5 =>
            cond (!r5.1)
              (some (false, ()))
              (next3 ((w64 (s2.1 + 1)), ()))))
          (some (true, ()))) N (0, ())))
def impl_IsLine_e (N : Nat) : Ent := { ins := [(.sl (.int .i64)), (.sl (.int .i64))], outs := [.val .bool], F := fun x => impl_IsLine N x.1 x.2.1 }
def impl_IsLine_T (N : Nat) : Nat → List Ent
  | 28 => [impl_areLine_e N]
  | 29 => [impl_within_e N]
  | _ => []
def impl_IsLine_L : Nat → List (Nat × TK)
  | 4 => [(19, .v (.int .i64))]
  | _ => []
theorem impl_IsLine_eq (N : Nat) : runF N tt (impl_IsLine_T N) impl_IsLine_L [(.sl (.int .i64)), (.sl (.int .i64))] [.val .bool] (bodyOf Try.f13) Try.f13.ntmps [4] = (impl_IsLine_e N).F := by
  funext x
  kernel_rfl
theorem impl_IsLine_sound (N : Nat) : SoundC Try.prog 13 (impl_IsLine_e N) := by
  have h := runF_sound (f := 13) (code := bodyOf Try.f13) (N := N) (T := impl_IsLine_T N) (L := impl_IsLine_L) (ins := [(.sl (.int .i64)), (.sl (.int .i64))]) (outs := [.val .bool]) (res := [4]) mixed tt_ok ?_ Try.func13 (by kernel_rfl) rfl (by kernel_rfl) (by kernel_rfl) (by decide +kernel)
  · rw [impl_IsLine_eq] at h
    exact h
  · intro f e he
    unfold impl_IsLine_T at he
    split at he
    · rw [List.mem_singleton.1 he]; exact impl_areLine_sound N
    · rw [List.mem_singleton.1 he]; exact impl_within_sound N
    · cases he

/- laws.eqInt64S -/
def laws_eqInt64S (N : Nat) (x0 : List Int) (x1 : List Int) : Option (Bool × Unit) :=
  cond ((List.length x0 : Int) != (List.length x1 : Int))
    (some (false, ()))
    (loopN (fun (s1 : Int × Unit) next2 =>
      cond (decide (s1.1 < (List.length x0 : Int)))
        (Option.bind (idx x0 s1.1) fun v3 =>
        Option.bind (idx x1 s1.1) fun v4 =>
        cond (v3 != v4)
          (some (false, ()))
          (next2 ((w64 (s1.1 + 1)), ())))
        (some (true, ()))) N (0, ()))
def laws_eqInt64S_e (N : Nat) : Ent := { ins := [(.sl (.int .i64)), (.sl (.int .i64))], outs := [.val .bool], F := fun x => laws_eqInt64S N x.1 x.2.1 }
def laws_eqInt64S_T (_ : Nat) : Nat → List Ent := fun _ => []
def laws_eqInt64S_L : Nat → List (Nat × TK)
  | 4 => [(5, .v (.int .i64))]
  | _ => []
theorem laws_eqInt64S_eq (N : Nat) : runF N tt (laws_eqInt64S_T N) laws_eqInt64S_L [(.sl (.int .i64)), (.sl (.int .i64))] [.val .bool] (bodyOf Try.f14) Try.f14.ntmps [4] = (laws_eqInt64S_e N).F := by
  funext x
  kernel_rfl
theorem laws_eqInt64S_sound (N : Nat) : SoundC Try.prog 14 (laws_eqInt64S_e N) := by
  have h := runF_sound (f := 14) (code := bodyOf Try.f14) (N := N) (T := laws_eqInt64S_T N) (L := laws_eqInt64S_L) (ins := [(.sl (.int .i64)), (.sl (.int .i64))]) (outs := [.val .bool]) (res := [4]) mixed tt_ok ?_ Try.func14 (by kernel_rfl) rfl (by kernel_rfl) (by kernel_rfl) (by decide +kernel)
  · rw [laws_eqInt64S_eq] at h
    exact h
  · intro f e he
    cases he

/- laws.FnExactIsLine -/
def laws_FnExactIsLine (N : Nat) (x0 : List Int) (x1 : List Int) : Option (Bool × Unit) :=
  cond (decide ((List.length x0 : Int) > 1048576))
    (some (true, ()))
    (cond (decide ((List.length x1 : Int) > 1048576))
      (some (true, ()))
      (Option.bind (laws_toInt64S N x0) fun r1 =>
      Option.bind (laws_toInt64S N x1) fun r2 =>
      Option.bind (spec_IsLine N r1.1 r2.1) fun r3 =>
      Option.bind (laws_toInt64S N x0) fun r4 =>
      Option.bind (laws_toInt64S N x1) fun r5 =>
      Option.bind (impl_IsLine N r4.1 r5.1) fun r6 =>
      cond (!(r6.1 == r3.1))
        (some (false, ()))
        (Option.bind (laws_toInt64S N x0) fun r7 =>
        Option.bind (laws_eqInt64S N r4.1 r7.1) fun r8 =>
        cond (!r8.1)
          (some (false, ()))
          (Option.bind (laws_toInt64S N x1) fun r9 =>
          Option.bind (laws_eqInt64S N r5.1 r9.1) fun r10 =>
          cond (!r10.1)
            (some (false, ()))
            (some (true, ()))))))
def laws_FnExactIsLine_e (N : Nat) : Ent := { ins := [(.sl (.int .i64)), (.sl (.int .i64))], outs := [.val .bool], F := fun x => laws_FnExactIsLine N x.1 x.2.1 }
def laws_FnExactIsLine_T (N : Nat) : Nat → List Ent
  | 11 => [spec_IsLine_e N]
  | 12 => [laws_toInt64S_e N]
  | 13 => [impl_IsLine_e N]
  | 14 => [laws_eqInt64S_e N]
  | _ => []
def laws_FnExactIsLine_L : Nat → List (Nat × TK) := fun _ => []
theorem laws_FnExactIsLine_eq (N : Nat) : runF N tt (laws_FnExactIsLine_T N) laws_FnExactIsLine_L [(.sl (.int .i64)), (.sl (.int .i64))] [.val .bool] (bodyOf Try.f4) Try.f4.ntmps [4] = (laws_FnExactIsLine_e N).F := by
  funext x
  kernel_rfl
theorem laws_FnExactIsLine_sound (N : Nat) : SoundC Try.prog 4 (laws_FnExactIsLine_e N) := by
  have h := runF_sound (f := 4) (code := bodyOf Try.f4) (N := N) (T := laws_FnExactIsLine_T N) (L := laws_FnExactIsLine_L) (ins := [(.sl (.int .i64)), (.sl (.int .i64))]) (outs := [.val .bool]) (res := [4]) mixed tt_ok ?_ Try.func4 (by kernel_rfl) rfl (by kernel_rfl) (by kernel_rfl) (by decide +kernel)
  · rw [laws_FnExactIsLine_eq] at h
    exact h
  · intro f e he
    unfold laws_FnExactIsLine_T at he
    split at he
    · rw [List.mem_singleton.1 he]; exact spec_IsLine_sound N
    · rw [List.mem_singleton.1 he]; exact laws_toInt64S_sound N
    · rw [List.mem_singleton.1 he]; exact impl_IsLine_sound N
    · rw [List.mem_singleton.1 he]; exact laws_eqInt64S_sound N
    · cases he

/- spec.l02Sum -/
def spec_l02Sum (N : Nat) (x0 : List Int) : Option (Int × Unit) :=
  loopN (fun (s1 : Int × Int × Unit) next2 =>
    cond (decide (s1.2.1 < (List.length x0 : Int)))
      (Option.bind (idx x0 s1.2.1) fun v3 =>
      next2 ((w64 (s1.1 + v3)), (w64 (s1.2.1 + 1)), ()))
      (some (s1.1, ()))) N (0, 0, ())
def spec_l02Sum_e (N : Nat) : Ent := { ins := [(.sl (.int .i64))], outs := [.val (.int .i64)], F := fun x => spec_l02Sum N x.1 }
def spec_l02Sum_T (_ : Nat) : Nat → List Ent := fun _ => []
def spec_l02Sum_L : Nat → List (Nat × TK)
  | 3 => [(3, .v (.int .i64)), (4, .v (.int .i64))]
  | _ => []
theorem spec_l02Sum_eq (N : Nat) : runF N tt (spec_l02Sum_T N) spec_l02Sum_L [(.sl (.int .i64))] [.val (.int .i64)] (bodyOf Try.f46) Try.f46.ntmps [2] = (spec_l02Sum_e N).F := by
  funext x
  kernel_rfl
theorem spec_l02Sum_sound (N : Nat) : SoundC Try.prog 46 (spec_l02Sum_e N) := by
  have h := runF_sound (f := 46) (code := bodyOf Try.f46) (N := N) (T := spec_l02Sum_T N) (L := spec_l02Sum_L) (ins := [(.sl (.int .i64))]) (outs := [.val (.int .i64)]) (res := [2]) mixed tt_ok ?_ Try.func46 (by kernel_rfl) rfl (by kernel_rfl) (by kernel_rfl) (by decide +kernel)
  · rw [spec_l02Sum_eq] at h
    exact h
  · intro f e he
    cases he

/- spec.l04Fewest -/
def spec_l04Fewest (N : Nat) (x0 : List Int) (x1 : Int) : Option (Int × Unit) :=
  Option.bind (spec_l02Sum N x0) fun r1 =>
  cond (x1 == 0) none
    (some ((w64 (Int.tdiv (w64 ((w64 (r1.1 + x1)) - 1)) x1)), ()))
def spec_l04Fewest_e (N : Nat) : Ent := { ins := [(.sl (.int .i64)), (.int .i64)], outs := [.val (.int .i64)], F := fun x => spec_l04Fewest N x.1 x.2.1 }
def spec_l04Fewest_T (N : Nat) : Nat → List Ent
  | 46 => [spec_l02Sum_e N]
  | _ => []
def spec_l04Fewest_L : Nat → List (Nat × TK) := fun _ => []
theorem spec_l04Fewest_eq (N : Nat) : runF N tt (spec_l04Fewest_T N) spec_l04Fewest_L [(.sl (.int .i64)), (.int .i64)] [.val (.int .i64)] (bodyOf Try.f34) Try.f34.ntmps [4] = (spec_l04Fewest_e N).F := by
  funext x
  kernel_rfl
theorem spec_l04Fewest_sound (N : Nat) : SoundC Try.prog 34 (spec_l04Fewest_e N) := by
  have h := runF_sound (f := 34) (code := bodyOf Try.f34) (N := N) (T := spec_l04Fewest_T N) (L := spec_l04Fewest_L) (ins := [(.sl (.int .i64)), (.int .i64)]) (outs := [.val (.int .i64)]) (res := [4]) mixed tt_ok ?_ Try.func34 (by kernel_rfl) rfl (by kernel_rfl) (by kernel_rfl) (by decide +kernel)
  · rw [spec_l04Fewest_eq] at h
    exact h
  · intro f e he
    unfold spec_l04Fewest_T at he
    split at he
    · rw [List.mem_singleton.1 he]; exact spec_l02Sum_sound N
    · cases he

/- spec.LineBound -/
def spec_LineBound (N : Nat) (x0 : List Int) (x1 : Int) : Option (Int × Bool × Unit) :=
  Option.bind (spec_l04Tasks N x0) fun r1 =>
  cond (!r1.1)
    (some (0, false, ()))
    (Option.bind (spec_l00In N x1 1 10000) fun r2 =>
    cond (!r2.1)
      (some (0, false, ()))
      (Option.bind (spec_l04Fewest N x0 x1) fun r3 =>
      some (r3.1, true, ())))
def spec_LineBound_e (N : Nat) : Ent := { ins := [(.sl (.int .i64)), (.int .i64)], outs := [.val (.int .i64), .val .bool], F := fun x => spec_LineBound N x.1 x.2.1 }
def spec_LineBound_T (N : Nat) : Nat → List Ent
  | 32 => [spec_l04Tasks_e N]
  | 33 => [spec_l00In_e N]
  | 34 => [spec_l04Fewest_e N]
  | _ => []
def spec_LineBound_L : Nat → List (Nat × TK) := fun _ => []
theorem spec_LineBound_eq (N : Nat) : runF N tt (spec_LineBound_T N) spec_LineBound_L [(.sl (.int .i64)), (.int .i64)] [.val (.int .i64), .val .bool] (bodyOf Try.f17) Try.f17.ntmps [4, 5] = (spec_LineBound_e N).F := by
  funext x
  kernel_rfl
theorem spec_LineBound_sound (N : Nat) : SoundC Try.prog 17 (spec_LineBound_e N) := by
  have h := runF_sound (f := 17) (code := bodyOf Try.f17) (N := N) (T := spec_LineBound_T N) (L := spec_LineBound_L) (ins := [(.sl (.int .i64)), (.int .i64)]) (outs := [.val (.int .i64), .val .bool]) (res := [4, 5]) mixed tt_ok ?_ Try.func17 (by kernel_rfl) rfl (by kernel_rfl) (by kernel_rfl) (by decide +kernel)
  · rw [spec_LineBound_eq] at h
    exact h
  · intro f e he
    unfold spec_LineBound_T at he
    split at he
    · rw [List.mem_singleton.1 he]; exact spec_l04Tasks_sound N
    · rw [List.mem_singleton.1 he]; exact spec_l00In_sound N
    · rw [List.mem_singleton.1 he]; exact spec_l04Fewest_sound N
    · cases he

/- impl.isCycle -/
def impl_isCycle (N : Nat) (x0 : Int) : Option (Bool × Unit) :=
  Option.bind (impl_within N x0 1 10000) fun r1 =>
  some (r1.1, ())
def impl_isCycle_e (N : Nat) : Ent := { ins := [(.int .i64)], outs := [.val .bool], F := fun x => impl_isCycle N x.1 }
def impl_isCycle_T (N : Nat) : Nat → List Ent
  | 29 => [impl_within_e N]
  | _ => []
def impl_isCycle_L : Nat → List (Nat × TK) := fun _ => []
theorem impl_isCycle_eq (N : Nat) : runF N tt (impl_isCycle_T N) impl_isCycle_L [(.int .i64)] [.val .bool] (bodyOf Try.f35) Try.f35.ntmps [2] = (impl_isCycle_e N).F := by
  funext x
  kernel_rfl
theorem impl_isCycle_sound (N : Nat) : SoundC Try.prog 35 (impl_isCycle_e N) := by
  have h := runF_sound (f := 35) (code := bodyOf Try.f35) (N := N) (T := impl_isCycle_T N) (L := impl_isCycle_L) (ins := [(.int .i64)]) (outs := [.val .bool]) (res := [2]) mixed tt_ok ?_ Try.func35 (by kernel_rfl) rfl (by kernel_rfl) (by kernel_rfl) (by decide +kernel)
  · rw [impl_isCycle_eq] at h
    exact h
  · intro f e he
    unfold impl_isCycle_T at he
    split at he
    · rw [List.mem_singleton.1 he]; exact impl_within_sound N
    · cases he

/- impl.upward -/
def impl_upward (_N : Nat) (x0 : Int) (x1 : Int) : Option (Int × Unit) :=
  cond (x1 == 0) none
    (some ((w64 (Int.tdiv (w64 ((w64 (x0 + x1)) - 1)) x1)), ()))
def impl_upward_e (N : Nat) : Ent := { ins := [(.int .i64), (.int .i64)], outs := [.val (.int .i64)], F := fun x => impl_upward N x.1 x.2.1 }
def impl_upward_T (_ : Nat) : Nat → List Ent := fun _ => []
def impl_upward_L : Nat → List (Nat × TK) := fun _ => []
theorem impl_upward_eq (N : Nat) : runF N tt (impl_upward_T N) impl_upward_L [(.int .i64), (.int .i64)] [.val (.int .i64)] (bodyOf Try.f36) Try.f36.ntmps [4] = (impl_upward_e N).F := by
  funext x
  kernel_rfl
theorem impl_upward_sound (N : Nat) : SoundC Try.prog 36 (impl_upward_e N) := by
  have h := runF_sound (f := 36) (code := bodyOf Try.f36) (N := N) (T := impl_upward_T N) (L := impl_upward_L) (ins := [(.int .i64), (.int .i64)]) (outs := [.val (.int .i64)]) (res := [4]) mixed tt_ok ?_ Try.func36 (by kernel_rfl) rfl (by kernel_rfl) (by kernel_rfl) (by decide +kernel)
  · rw [impl_upward_eq] at h
    exact h
  · intro f e he
    cases he

/- impl.sumOf -/
def impl_sumOf (N : Nat) (x0 : List Int) : Option (Int × Unit) :=
  loopN (fun (s1 : Int × Int × Unit) next2 =>
    cond (decide (s1.2.1 < (List.length x0 : Int)))
      (Option.bind (idx x0 s1.2.1) fun v3 =>
      next2 ((w64 (s1.1 + v3)), (w64 (s1.2.1 + 1)), ()))
      (some (s1.1, ()))) N (0, 0, ())
def impl_sumOf_e (N : Nat) : Ent := { ins := [(.sl (.int .i64))], outs := [.val (.int .i64)], F := fun x => impl_sumOf N x.1 }
def impl_sumOf_T (_ : Nat) : Nat → List Ent := fun _ => []
def impl_sumOf_L : Nat → List (Nat × TK)
  | 3 => [(3, .v (.int .i64)), (8, .v (.int .i64))]
  | _ => []
theorem impl_sumOf_eq (N : Nat) : runF N tt (impl_sumOf_T N) impl_sumOf_L [(.sl (.int .i64))] [.val (.int .i64)] (bodyOf Try.f37) Try.f37.ntmps [2] = (impl_sumOf_e N).F := by
  funext x
  kernel_rfl
theorem impl_sumOf_sound (N : Nat) : SoundC Try.prog 37 (impl_sumOf_e N) := by
  have h := runF_sound (f := 37) (code := bodyOf Try.f37) (N := N) (T := impl_sumOf_T N) (L := impl_sumOf_L) (ins := [(.sl (.int .i64))]) (outs := [.val (.int .i64)]) (res := [2]) mixed tt_ok ?_ Try.func37 (by kernel_rfl) rfl (by kernel_rfl) (by kernel_rfl) (by decide +kernel)
  · rw [impl_sumOf_eq] at h
    exact h
  · intro f e he
    cases he

/- impl.LineBound -/
def impl_LineBound (N : Nat) (x0 : List Int) (x1 : Int) : Option (Int × Bool × Unit) :=
  Option.bind (impl_areLine N x0) fun r1 =>
  cond (!r1.1)
    (some (0, false, ()))
    (Option.bind (impl_isCycle N x1) fun r2 =>
    cond (!r2.1)
      (some (0, false, ()))
      (Option.bind (impl_sumOf N x0) fun r3 =>
      Option.bind (impl_upward N r3.1 x1) fun r4 =>
      some (r4.1, true, ())))
def impl_LineBound_e (N : Nat) : Ent := { ins := [(.sl (.int .i64)), (.int .i64)], outs := [.val (.int .i64), .val .bool], F := fun x => impl_LineBound N x.1 x.2.1 }
def impl_LineBound_T (N : Nat) : Nat → List Ent
  | 28 => [impl_areLine_e N]
  | 35 => [impl_isCycle_e N]
  | 36 => [impl_upward_e N]
  | 37 => [impl_sumOf_e N]
  | _ => []
def impl_LineBound_L : Nat → List (Nat × TK) := fun _ => []
theorem impl_LineBound_eq (N : Nat) : runF N tt (impl_LineBound_T N) impl_LineBound_L [(.sl (.int .i64)), (.int .i64)] [.val (.int .i64), .val .bool] (bodyOf Try.f18) Try.f18.ntmps [4, 5] = (impl_LineBound_e N).F := by
  funext x
  kernel_rfl
theorem impl_LineBound_sound (N : Nat) : SoundC Try.prog 18 (impl_LineBound_e N) := by
  have h := runF_sound (f := 18) (code := bodyOf Try.f18) (N := N) (T := impl_LineBound_T N) (L := impl_LineBound_L) (ins := [(.sl (.int .i64)), (.int .i64)]) (outs := [.val (.int .i64), .val .bool]) (res := [4, 5]) mixed tt_ok ?_ Try.func18 (by kernel_rfl) rfl (by kernel_rfl) (by kernel_rfl) (by decide +kernel)
  · rw [impl_LineBound_eq] at h
    exact h
  · intro f e he
    unfold impl_LineBound_T at he
    split at he
    · rw [List.mem_singleton.1 he]; exact impl_areLine_sound N
    · rw [List.mem_singleton.1 he]; exact impl_isCycle_sound N
    · rw [List.mem_singleton.1 he]; exact impl_upward_sound N
    · rw [List.mem_singleton.1 he]; exact impl_sumOf_sound N
    · cases he

/- laws.FnExactLineBound -/
def laws_FnExactLineBound (N : Nat) (x0 : List Int) (x1 : Int) : Option (Bool × Unit) :=
  cond (decide ((List.length x0 : Int) > 1048576))
    (some (true, ()))
    (Option.bind (laws_toInt64S N x0) fun r1 =>
    Option.bind (spec_LineBound N r1.1 x1) fun r2 =>
    Option.bind (laws_toInt64S N x0) fun r3 =>
    Option.bind (impl_LineBound N r3.1 x1) fun r4 =>
    cond (r4.1 != r2.1)
      (some (false, ()))
      (cond (!(r4.2.1 == r2.2.1))
        (some (false, ()))
        (Option.bind (laws_toInt64S N x0) fun r5 =>
        Option.bind (laws_eqInt64S N r3.1 r5.1) fun r6 =>
        cond (!r6.1)
          (some (false, ()))
          (some (true, ())))))
def laws_FnExactLineBound_e (N : Nat) : Ent := { ins := [(.sl (.int .i64)), (.int .i64)], outs := [.val .bool], F := fun x => laws_FnExactLineBound N x.1 x.2.1 }
def laws_FnExactLineBound_T (N : Nat) : Nat → List Ent
  | 12 => [laws_toInt64S_e N]
  | 14 => [laws_eqInt64S_e N]
  | 17 => [spec_LineBound_e N]
  | 18 => [impl_LineBound_e N]
  | _ => []
def laws_FnExactLineBound_L : Nat → List (Nat × TK) := fun _ => []
theorem laws_FnExactLineBound_eq (N : Nat) : runF N tt (laws_FnExactLineBound_T N) laws_FnExactLineBound_L [(.sl (.int .i64)), (.int .i64)] [.val .bool] (bodyOf Try.f6) Try.f6.ntmps [4] = (laws_FnExactLineBound_e N).F := by
  funext x
  kernel_rfl
theorem laws_FnExactLineBound_sound (N : Nat) : SoundC Try.prog 6 (laws_FnExactLineBound_e N) := by
  have h := runF_sound (f := 6) (code := bodyOf Try.f6) (N := N) (T := laws_FnExactLineBound_T N) (L := laws_FnExactLineBound_L) (ins := [(.sl (.int .i64)), (.int .i64)]) (outs := [.val .bool]) (res := [4]) mixed tt_ok ?_ Try.func6 (by kernel_rfl) rfl (by kernel_rfl) (by kernel_rfl) (by decide +kernel)
  · rw [laws_FnExactLineBound_eq] at h
    exact h
  · intro f e he
    unfold laws_FnExactLineBound_T at he
    split at he
    · rw [List.mem_singleton.1 he]; exact laws_toInt64S_sound N
    · rw [List.mem_singleton.1 he]; exact laws_eqInt64S_sound N
    · rw [List.mem_singleton.1 he]; exact spec_LineBound_sound N
    · rw [List.mem_singleton.1 he]; exact impl_LineBound_sound N
    · cases he

/- spec.l05Runs -/
def spec_l05Runs (N : Nat) (x0 : List Int) : Option (Bool × Unit) :=
  loopN (fun (s1 : Int × Unit) next2 =>
    cond (decide (s1.1 < (List.length x0 : Int)))
      (Option.bind (idx x0 s1.1) fun v3 =>
      Option.bind (spec_l00In N v3 0 1000) fun r4 =>
      cond (!r4.1)
        (some (false, ()))
        (next2 ((w64 (s1.1 + 1)), ())))
      (cond (decide ((List.length x0 : Int) ≥ 1))
        (some ((decide ((List.length x0 : Int) ≤ 12)), ()))
        (some (false, ())))) N (0, ())
def spec_l05Runs_e (N : Nat) : Ent := { ins := [(.sl (.int .i64))], outs := [.val .bool], F := fun x => spec_l05Runs N x.1 }
def spec_l05Runs_T (N : Nat) : Nat → List Ent
  | 33 => [spec_l00In_e N]
  | _ => []
def spec_l05Runs_L : Nat → List (Nat × TK)
  | 2 => [(6, .v (.int .i64))]
  | _ => []
theorem spec_l05Runs_eq (N : Nat) : runF N tt (spec_l05Runs_T N) spec_l05Runs_L [(.sl (.int .i64))] [.val .bool] (bodyOf Try.f30) Try.f30.ntmps [2] = (spec_l05Runs_e N).F := by
  funext x
  kernel_rfl
theorem spec_l05Runs_sound (N : Nat) : SoundC Try.prog 30 (spec_l05Runs_e N) := by
  have h := runF_sound (f := 30) (code := bodyOf Try.f30) (N := N) (T := spec_l05Runs_T N) (L := spec_l05Runs_L) (ins := [(.sl (.int .i64))]) (outs := [.val .bool]) (res := [2]) mixed tt_ok ?_ Try.func30 (by kernel_rfl) rfl (by kernel_rfl) (by kernel_rfl) (by decide +kernel)
  · rw [spec_l05Runs_eq] at h
    exact h
  · intro f e he
    unfold spec_l05Runs_T at he
    split at he
    · rw [List.mem_singleton.1 he]; exact spec_l00In_sound N
    · cases he

/- spec.LeastHead -/
def spec_LeastHead (N : Nat) (x0 : List Int) (x1 : List Int) : Option (Int × Bool × Unit) :=
  Option.bind (spec_l05Runs N x0) fun r1 =>
  cond (!r1.1)
    (some (0, false, ()))
    (Option.bind (spec_l05Runs N x1) fun r2 =>
    cond (!r2.1)
      (some (0, false, ()))
      (cond ((List.length x0 : Int) != (List.length x1 : Int))
        (some (0, false, ()))
        (loopN (fun (s3 : Int × Int × Int × Unit) next4 =>
          cond (decide (s3.2.2.1 < (List.length x0 : Int)))
            (Option.bind (idx x0 s3.2.2.1) fun v5 =>
            cond (s3.2.2.1 == 0)
              (Option.bind (idx x1 s3.2.2.1) fun v6 =>
              next4 ((w64 (s3.2.1 + v5)), (w64 ((w64 (s3.2.1 + v5)) - v6)), (w64 (s3.2.2.1 + 1)), ()))
              (cond (decide ((w64 (s3.2.1 + v5)) > s3.1))
                (Option.bind (idx x1 s3.2.2.1) fun v7 =>
                next4 ((w64 (s3.2.1 + v5)), (w64 ((w64 (s3.2.1 + v5)) - v7)), (w64 (s3.2.2.1 + 1)), ()))
                (Option.bind (idx x1 s3.2.2.1) fun v8 =>
                next4 (s3.1, (w64 ((w64 (s3.2.1 + v5)) - v8)), (w64 (s3.2.2.1 + 1)), ()))))
            (some (s3.1, true, ()))) N (0, 0, 0, ()))))
def spec_LeastHead_e (N : Nat) : Ent := { ins := [(.sl (.int .i64)), (.sl (.int .i64))], outs := [.val (.int .i64), .val .bool], F := fun x => spec_LeastHead N x.1 x.2.1 }
def spec_LeastHead_T (N : Nat) : Nat → List Ent
  | 30 => [spec_l05Runs_e N]
  | _ => []
def spec_LeastHead_L : Nat → List (Nat × TK)
  | 6 => [(6, .v (.int .i64)), (7, .v (.int .i64)), (26, .v (.int .i64))]
  | _ => []
theorem spec_LeastHead_eq (N : Nat) : runF N tt (spec_LeastHead_T N) spec_LeastHead_L [(.sl (.int .i64)), (.sl (.int .i64))] [.val (.int .i64), .val .bool] (bodyOf Try.f15) Try.f15.ntmps [4, 5] = (spec_LeastHead_e N).F := by
  funext x
  kernel_rfl
theorem spec_LeastHead_sound (N : Nat) : SoundC Try.prog 15 (spec_LeastHead_e N) := by
  have h := runF_sound (f := 15) (code := bodyOf Try.f15) (N := N) (T := spec_LeastHead_T N) (L := spec_LeastHead_L) (ins := [(.sl (.int .i64)), (.sl (.int .i64))]) (outs := [.val (.int .i64), .val .bool]) (res := [4, 5]) mixed tt_ok ?_ Try.func15 (by kernel_rfl) rfl (by kernel_rfl) (by kernel_rfl) (by decide +kernel)
  · rw [spec_LeastHead_eq] at h
    exact h
  · intro f e he
    unfold spec_LeastHead_T at he
    split at he
    · rw [List.mem_singleton.1 he]; exact spec_l05Runs_sound N
    · cases he

/- impl.areRuns -/
def impl_areRuns (N : Nat) (x0 : List Int) : Option (Bool × Unit) :=
  Option.bind (impl_areMany N x0 1 12 0 1000) fun r1 =>
  some (r1.1, ())
def impl_areRuns_e (N : Nat) : Ent := { ins := [(.sl (.int .i64))], outs := [.val .bool], F := fun x => impl_areRuns N x.1 }
def impl_areRuns_T (N : Nat) : Nat → List Ent
  | 44 => [impl_areMany_e N]
  | _ => []
def impl_areRuns_L : Nat → List (Nat × TK) := fun _ => []
theorem impl_areRuns_eq (N : Nat) : runF N tt (impl_areRuns_T N) impl_areRuns_L [(.sl (.int .i64))] [.val .bool] (bodyOf Try.f31) Try.f31.ntmps [2] = (impl_areRuns_e N).F := by
  funext x
  kernel_rfl
theorem impl_areRuns_sound (N : Nat) : SoundC Try.prog 31 (impl_areRuns_e N) := by
  have h := runF_sound (f := 31) (code := bodyOf Try.f31) (N := N) (T := impl_areRuns_T N) (L := impl_areRuns_L) (ins := [(.sl (.int .i64))]) (outs := [.val .bool]) (res := [2]) mixed tt_ok ?_ Try.func31 (by kernel_rfl) rfl (by kernel_rfl) (by kernel_rfl) (by decide +kernel)
  · rw [impl_areRuns_eq] at h
    exact h
  · intro f e he
    unfold impl_areRuns_T at he
    split at he
    · rw [List.mem_singleton.1 he]; exact impl_areMany_sound N
    · cases he

/- impl.LeastHead -/
def impl_LeastHead (N : Nat) (x0 : List Int) (x1 : List Int) : Option (Int × Bool × Unit) :=
  Option.bind (impl_areRuns N x0) fun r1 =>
  cond (!r1.1)
    (some (0, false, ()))
    (Option.bind (impl_areRuns N x1) fun r2 =>
    cond (!r2.1)
      (some (0, false, ()))
      (cond ((List.length x0 : Int) != (List.length x1 : Int))
        (some (0, false, ()))
        (Option.bind (idx x0 0) fun v3 =>
        loopN (fun (s4 : Int × Int × Int × Int × Unit) next5 =>
          cond (decide (s4.2.2.2.1 < (List.length x0 : Int)))
            (Option.bind (idx x0 s4.2.2.2.1) fun v6 =>
            Option.bind (idx x1 s4.2.2.2.1) fun v7 =>
            next5 ((w64 (s4.1 + v6)), (w64 (s4.2.1 + v7)), (imax s4.2.2.1 (w64 ((w64 (s4.1 + v6)) - s4.2.1))), (w64 (s4.2.2.2.1 + 1)), ()))
            (some (s4.2.2.1, true, ()))) N (0, 0, v3, 0, ()))))
def impl_LeastHead_e (N : Nat) : Ent := { ins := [(.sl (.int .i64)), (.sl (.int .i64))], outs := [.val (.int .i64), .val .bool], F := fun x => impl_LeastHead N x.1 x.2.1 }
def impl_LeastHead_T (N : Nat) : Nat → List Ent
  | 31 => [impl_areRuns_e N]
  | _ => []
def impl_LeastHead_L : Nat → List (Nat × TK)
  | 6 => [(6, .v (.int .i64)), (7, .v (.int .i64)), (8, .v (.int .i64)), (31, .v (.int .i64))]
  | _ => []
theorem impl_LeastHead_eq (N : Nat) : runF N tt (impl_LeastHead_T N) impl_LeastHead_L [(.sl (.int .i64)), (.sl (.int .i64))] [.val (.int .i64), .val .bool] (bodyOf Try.f16) Try.f16.ntmps [4, 5] = (impl_LeastHead_e N).F := by
  funext x
  kernel_rfl
theorem impl_LeastHead_sound (N : Nat) : SoundC Try.prog 16 (impl_LeastHead_e N) := by
  have h := runF_sound (f := 16) (code := bodyOf Try.f16) (N := N) (T := impl_LeastHead_T N) (L := impl_LeastHead_L) (ins := [(.sl (.int .i64)), (.sl (.int .i64))]) (outs := [.val (.int .i64), .val .bool]) (res := [4, 5]) mixed tt_ok ?_ Try.func16 (by kernel_rfl) rfl (by kernel_rfl) (by kernel_rfl) (by decide +kernel)
  · rw [impl_LeastHead_eq] at h
    exact h
  · intro f e he
    unfold impl_LeastHead_T at he
    split at he
    · rw [List.mem_singleton.1 he]; exact impl_areRuns_sound N
    · cases he

/- laws.FnExactLeastHead -/
def laws_FnExactLeastHead (N : Nat) (x0 : List Int) (x1 : List Int) : Option (Bool × Unit) :=
  cond (decide ((List.length x0 : Int) > 1048576))
    (some (true, ()))
    (cond (decide ((List.length x1 : Int) > 1048576))
      (some (true, ()))
      (Option.bind (laws_toInt64S N x0) fun r1 =>
      Option.bind (laws_toInt64S N x1) fun r2 =>
      Option.bind (spec_LeastHead N r1.1 r2.1) fun r3 =>
      Option.bind (laws_toInt64S N x0) fun r4 =>
      Option.bind (laws_toInt64S N x1) fun r5 =>
      Option.bind (impl_LeastHead N r4.1 r5.1) fun r6 =>
      cond (r6.1 != r3.1)
        (some (false, ()))
        (cond (!(r6.2.1 == r3.2.1))
          (some (false, ()))
          (Option.bind (laws_toInt64S N x0) fun r7 =>
          Option.bind (laws_eqInt64S N r4.1 r7.1) fun r8 =>
          cond (!r8.1)
            (some (false, ()))
            (Option.bind (laws_toInt64S N x1) fun r9 =>
            Option.bind (laws_eqInt64S N r5.1 r9.1) fun r10 =>
            cond (!r10.1)
              (some (false, ()))
              (some (true, ())))))))
def laws_FnExactLeastHead_e (N : Nat) : Ent := { ins := [(.sl (.int .i64)), (.sl (.int .i64))], outs := [.val .bool], F := fun x => laws_FnExactLeastHead N x.1 x.2.1 }
def laws_FnExactLeastHead_T (N : Nat) : Nat → List Ent
  | 12 => [laws_toInt64S_e N]
  | 14 => [laws_eqInt64S_e N]
  | 15 => [spec_LeastHead_e N]
  | 16 => [impl_LeastHead_e N]
  | _ => []
def laws_FnExactLeastHead_L : Nat → List (Nat × TK) := fun _ => []
theorem laws_FnExactLeastHead_eq (N : Nat) : runF N tt (laws_FnExactLeastHead_T N) laws_FnExactLeastHead_L [(.sl (.int .i64)), (.sl (.int .i64))] [.val .bool] (bodyOf Try.f5) Try.f5.ntmps [4] = (laws_FnExactLeastHead_e N).F := by
  funext x
  kernel_rfl
theorem laws_FnExactLeastHead_sound (N : Nat) : SoundC Try.prog 5 (laws_FnExactLeastHead_e N) := by
  have h := runF_sound (f := 5) (code := bodyOf Try.f5) (N := N) (T := laws_FnExactLeastHead_T N) (L := laws_FnExactLeastHead_L) (ins := [(.sl (.int .i64)), (.sl (.int .i64))]) (outs := [.val .bool]) (res := [4]) mixed tt_ok ?_ Try.func5 (by kernel_rfl) rfl (by kernel_rfl) (by kernel_rfl) (by decide +kernel)
  · rw [laws_FnExactLeastHead_eq] at h
    exact h
  · intro f e he
    unfold laws_FnExactLeastHead_T at he
    split at he
    · rw [List.mem_singleton.1 he]; exact laws_toInt64S_sound N
    · rw [List.mem_singleton.1 he]; exact laws_eqInt64S_sound N
    · rw [List.mem_singleton.1 he]; exact spec_LeastHead_sound N
    · rw [List.mem_singleton.1 he]; exact impl_LeastHead_sound N
    · cases he

end Go.Proofs.Ytehmdibkccbamaa
