/-
  The plain functions of this seat, printed by a program, each equal to the evaluator's run, with its contract. No condition.
-/
import Derived.Test.YtgcmklniacjcfaaFwV
import Derived.Test.YtgcmklniacjcfaaChecked
import Derived.Test.YtgcmklniacjcfaaOpen2
namespace Go.Proofs.Ytgcmklniacjcfaa
open Go Go.Proofs.Ytgcmklniacjcfaa.Fw
set_option maxRecDepth 100000
set_option linter.unusedVariables false

theorem mixed : Try.prog.follows .mixedOrders = true := Try.checked.mixed
def tt : Nat → TD
  | 2 => tdInt .i64
  | 3 => tdInt .i64
  | 4 => tdBool
  | 22 => tdSl (.int .i64) 8
  | 44 => tdSt 3 [(0, 1, false), (1, 1, false), (2, 1, false)] [.nil, .g (.int .i64) (0 : Int), .g (.int .i64) (0 : Int)]
  | 86 => tdInt .u64
  | 96 => tdInt .u32
  | 99 => tdInt .u64
  | _ => tdNone
theorem tt_2 : TDok Try.prog 2 (tdInt .i64) := tdok_int (b := 8) (by kernel_rfl) (by kernel_rfl)
theorem tt_3 : TDok Try.prog 3 (tdInt .i64) := tdok_int (b := 8) (by kernel_rfl) (by kernel_rfl)
theorem tt_4 : TDok Try.prog 4 (tdBool) := tdok_bool (b := 1) (by kernel_rfl) (by kernel_rfl)
theorem tt_22 : TDok Try.prog 22 (tdSl (.int .i64) 8) := tdok_sl (b := 24) (e := 2) (z := (.int .i64 0)) (by kernel_rfl) (by kernel_rfl) (by kernel_rfl) (by decide) (fun _ => by kernel_rfl)
theorem tt_44 : TDok Try.prog 44 (tdSt 3 [(0, 1, false), (1, 1, false), (2, 1, false)] [.nil, .g (.int .i64) (0 : Int), .g (.int .i64) (0 : Int)]) := tdok_st (b := 40) (z := (.agg #[(.slice none 0 0), (.int .i64 0), (.int .i64 0)])) (by kernel_rfl) (by kernel_rfl) (by kernel_rfl) (by kernel_rfl) (by kernel_rfl)
theorem tt_86 : TDok Try.prog 86 (tdInt .u64) := tdok_int (b := 8) (by kernel_rfl) (by kernel_rfl)
theorem tt_96 : TDok Try.prog 96 (tdInt .u32) := tdok_int (b := 4) (by kernel_rfl) (by kernel_rfl)
theorem tt_99 : TDok Try.prog 99 (tdInt .u64) := tdok_int (b := 8) (by kernel_rfl) (by kernel_rfl)
theorem tt_ok (t : Nat) : TDok Try.prog t (tt t) := by
  unfold tt
  split
  · exact tt_2
  · exact tt_3
  · exact tt_4
  · exact tt_22
  · exact tt_44
  · exact tt_86
  · exact tt_96
  · exact tt_99
  · exact tdok_none

/- spec.l00In -/
def spec_l00In (_N : Nat) (x0 : Int) (x1 : Int) (x2 : Int) : Option (Bool × Unit) :=
  cond (decide (x0 ≥ x1))
    (some ((decide (x0 ≤ x2)), ()))
    (some (false, ()))
def spec_l00In_e (N : Nat) : Ent := { ins := [(.int .i64), (.int .i64), (.int .i64)], outs := [.val .bool], F := fun x => spec_l00In N x.1 x.2.1 x.2.2.1 }
def spec_l00In_T (_ : Nat) : Nat → List EntX := fun _ => []
def spec_l00In_L : Nat → List (Nat × TK) := fun _ => []
theorem spec_l00In_eq (N : Nat) : runF N tt (spec_l00In_T N) spec_l00In_L [(.int .i64), (.int .i64), (.int .i64)] [.val .bool] (bodyOf Try.f45) Try.f45.ntmps [6] = (spec_l00In_e N).F := by
  funext x
  kernel_rfl
theorem spec_l00In_sound (N : Nat) : SoundC Try.prog 45 (spec_l00In_e N) := by
  have h := runF_sound (f := 45) (code := bodyOf Try.f45) (N := N) (T := (spec_l00In_T N)) (L := spec_l00In_L) (ins := [(.int .i64), (.int .i64), (.int .i64)]) (outs := [.val .bool]) (res := [6]) mixed tt_ok ?_ Try.func45 (by kernel_rfl) rfl (by kernel_rfl) (by kernel_rfl) (by decide +kernel)
  · rw [spec_l00In_eq] at h
    exact h
  · intro f e he
    cases he

/- spec.l02Machines -/
def spec_l02Machines (N : Nat) (x0 : Int) : Option (Bool × Unit) :=
  Option.bind (spec_l00In N x0 1 8) fun r1 =>
  some (r1.1, ())
def spec_l02Machines_e (N : Nat) : Ent := { ins := [(.int .i64)], outs := [.val .bool], F := fun x => spec_l02Machines N x.1 }
def spec_l02Machines_T (N : Nat) : Nat → List EntX
  | 45 => [.pl (spec_l00In_e N)]
  | _ => []
def spec_l02Machines_L : Nat → List (Nat × TK) := fun _ => []
theorem spec_l02Machines_eq (N : Nat) : runF N tt (spec_l02Machines_T N) spec_l02Machines_L [(.int .i64)] [.val .bool] (bodyOf Try.f81) Try.f81.ntmps [2] = (spec_l02Machines_e N).F := by
  funext x
  kernel_rfl
theorem spec_l02Machines_sound (N : Nat) : SoundC Try.prog 81 (spec_l02Machines_e N) := by
  have h := runF_sound (f := 81) (code := bodyOf Try.f81) (N := N) (T := (spec_l02Machines_T N)) (L := spec_l02Machines_L) (ins := [(.int .i64)]) (outs := [.val .bool]) (res := [2]) mixed tt_ok ?_ Try.func81 (by kernel_rfl) rfl (by kernel_rfl) (by kernel_rfl) (by decide +kernel)
  · rw [spec_l02Machines_eq] at h
    exact h
  · intro f e he
    unfold spec_l02Machines_T at he
    split at he
    · rw [List.mem_singleton.1 he]; exact spec_l00In_sound N
    · cases he

/- spec.l02Unlike -/
def spec_l02Unlike (N : Nat) (x0 : List Int) (x1 : Int) : Option (Bool × Unit) :=
  Option.bind (spec_l02Machines N x1) fun r1 =>
  cond (!r1.1)
    (some (false, ()))
    (cond (decide ((List.length x0 : Int) < 1))
      (some (false, ()))
      (cond (x1 == 0) none
        (cond ((Int.tmod (List.length x0 : Int) x1) != 0)
          (some (false, ()))
          (cond (x1 == 0) none
            (cond (decide ((w64 (Int.tdiv (List.length x0 : Int) x1)) > 24))
              (some (false, ()))
              (loopN (fun (s2 : Int × Unit) next3 =>
                cond (decide (s2.1 < (List.length x0 : Int)))
                  (Option.bind (idx x0 s2.1) fun v4 =>
                  Option.bind (spec_l00In N v4 1 10000) fun r5 =>
                  cond (!r5.1)
                    (some (false, ()))
                    (next3 ((w64 (s2.1 + 1)), ())))
                  (some (true, ()))) N (0, ())))))))
def spec_l02Unlike_e (N : Nat) : Ent := { ins := [(.sl (.int .i64)), (.int .i64)], outs := [.val .bool], F := fun x => spec_l02Unlike N x.1 x.2.1 }
def spec_l02Unlike_T (N : Nat) : Nat → List EntX
  | 45 => [.pl (spec_l00In_e N)]
  | 81 => [.pl (spec_l02Machines_e N)]
  | _ => []
def spec_l02Unlike_L : Nat → List (Nat × TK)
  | 5 => [(6, .v (.int .i64))]
  | _ => []
theorem spec_l02Unlike_eq (N : Nat) : runF N tt (spec_l02Unlike_T N) spec_l02Unlike_L [(.sl (.int .i64)), (.int .i64)] [.val .bool] (bodyOf Try.f68) Try.f68.ntmps [4] = (spec_l02Unlike_e N).F := by
  funext x
  kernel_rfl
theorem spec_l02Unlike_sound (N : Nat) : SoundC Try.prog 68 (spec_l02Unlike_e N) := by
  have h := runF_sound (f := 68) (code := bodyOf Try.f68) (N := N) (T := (spec_l02Unlike_T N)) (L := spec_l02Unlike_L) (ins := [(.sl (.int .i64)), (.int .i64)]) (outs := [.val .bool]) (res := [4]) mixed tt_ok ?_ Try.func68 (by kernel_rfl) rfl (by kernel_rfl) (by kernel_rfl) (by decide +kernel)
  · rw [spec_l02Unlike_eq] at h
    exact h
  · intro f e he
    unfold spec_l02Unlike_T at he
    split at he
    · rw [List.mem_singleton.1 he]; exact spec_l00In_sound N
    · rw [List.mem_singleton.1 he]; exact spec_l02Machines_sound N
    · cases he

/- spec.l04Can -/
def spec_l04Can (N : Nat) (x0 : List Int) (x1 : Int) : Option (Bool × Unit) :=
  Option.bind (spec_l02Unlike N x0 x1) fun r1 =>
  some (r1.1, ())
def spec_l04Can_e (N : Nat) : Ent := { ins := [(.sl (.int .i64)), (.int .i64)], outs := [.val .bool], F := fun x => spec_l04Can N x.1 x.2.1 }
def spec_l04Can_T (N : Nat) : Nat → List EntX
  | 68 => [.pl (spec_l02Unlike_e N)]
  | _ => []
def spec_l04Can_L : Nat → List (Nat × TK) := fun _ => []
theorem spec_l04Can_eq (N : Nat) : runF N tt (spec_l04Can_T N) spec_l04Can_L [(.sl (.int .i64)), (.int .i64)] [.val .bool] (bodyOf Try.f26) Try.f26.ntmps [4] = (spec_l04Can_e N).F := by
  funext x
  kernel_rfl
theorem spec_l04Can_sound (N : Nat) : SoundC Try.prog 26 (spec_l04Can_e N) := by
  have h := runF_sound (f := 26) (code := bodyOf Try.f26) (N := N) (T := (spec_l04Can_T N)) (L := spec_l04Can_L) (ins := [(.sl (.int .i64)), (.int .i64)]) (outs := [.val .bool]) (res := [4]) mixed tt_ok ?_ Try.func26 (by kernel_rfl) rfl (by kernel_rfl) (by kernel_rfl) (by decide +kernel)
  · rw [spec_l04Can_eq] at h
    exact h
  · intro f e he
    unfold spec_l04Can_T at he
    split at he
    · rw [List.mem_singleton.1 he]; exact spec_l02Unlike_sound N
    · cases he

/- spec.l04Count -/
def spec_l04Count (_N : Nat) (x0 : List Int) (x1 : Int) : Option (Int × Unit) :=
  cond (x1 == 0) none
    (some ((w64 (Int.tdiv (List.length x0 : Int) x1)), ()))
def spec_l04Count_e (N : Nat) : Ent := { ins := [(.sl (.int .i64)), (.int .i64)], outs := [.val (.int .i64)], F := fun x => spec_l04Count N x.1 x.2.1 }
def spec_l04Count_T (_ : Nat) : Nat → List EntX := fun _ => []
def spec_l04Count_L : Nat → List (Nat × TK) := fun _ => []
theorem spec_l04Count_eq (N : Nat) : runF N tt (spec_l04Count_T N) spec_l04Count_L [(.sl (.int .i64)), (.int .i64)] [.val (.int .i64)] (bodyOf Try.f27) Try.f27.ntmps [4] = (spec_l04Count_e N).F := by
  funext x
  kernel_rfl
theorem spec_l04Count_sound (N : Nat) : SoundC Try.prog 27 (spec_l04Count_e N) := by
  have h := runF_sound (f := 27) (code := bodyOf Try.f27) (N := N) (T := (spec_l04Count_T N)) (L := spec_l04Count_L) (ins := [(.sl (.int .i64)), (.int .i64)]) (outs := [.val (.int .i64)]) (res := [4]) mixed tt_ok ?_ Try.func27 (by kernel_rfl) rfl (by kernel_rfl) (by kernel_rfl) (by decide +kernel)
  · rw [spec_l04Count_eq] at h
    exact h
  · intro f e he
    cases he

/- spec.l00Max -/
def spec_l00Max (_N : Nat) (x0 : Int) (x1 : Int) : Option (Int × Unit) :=
  cond (decide (x0 > x1))
    (some (x0, ()))
    (some (x1, ()))
def spec_l00Max_e (N : Nat) : Ent := { ins := [(.int .i64), (.int .i64)], outs := [.val (.int .i64)], F := fun x => spec_l00Max N x.1 x.2.1 }
def spec_l00Max_T (_ : Nat) : Nat → List EntX := fun _ => []
def spec_l00Max_L : Nat → List (Nat × TK) := fun _ => []
theorem spec_l00Max_eq (N : Nat) : runF N tt (spec_l00Max_T N) spec_l00Max_L [(.int .i64), (.int .i64)] [.val (.int .i64)] (bodyOf Try.f28) Try.f28.ntmps [4] = (spec_l00Max_e N).F := by
  funext x
  kernel_rfl
theorem spec_l00Max_sound (N : Nat) : SoundC Try.prog 28 (spec_l00Max_e N) := by
  have h := runF_sound (f := 28) (code := bodyOf Try.f28) (N := N) (T := (spec_l00Max_T N)) (L := spec_l00Max_L) (ins := [(.int .i64), (.int .i64)]) (outs := [.val (.int .i64)]) (res := [4]) mixed tt_ok ?_ Try.func28 (by kernel_rfl) rfl (by kernel_rfl) (by kernel_rfl) (by decide +kernel)
  · rw [spec_l00Max_eq] at h
    exact h
  · intro f e he
    cases he

/- spec.OpenPlan -/
def spec_OpenPlan (N : Nat) (x0 : List Int) (x1 : Int) : Option (List (Int) × Int × Bool × Unit) :=
  Option.bind (spec_l04Can N x0 x1) fun r1 =>
  cond (!r1.1)
    (some ([], 0, false, ()))
    (loopN (fun (s2 : List (Int) × Int × Unit) next3 =>
      cond (decide (s2.2.1 < (List.length x0 : Int)))
        (cond (appOk (List.length s2.1) (List.length ([(-1)] : List Int)))
          (let xs4 := (s2.1 ++ ([(-1)] : List Int))
          next3 (xs4, (w64 (s2.2.1 + 1)), ())) none)
        (Option.bind (spec_l04Count N x0 x1) fun r5 =>
        cond (mkOk r5.1 r5.1)
          (let xs6 := (List.replicate (Int.toNat r5.1) (0 : Int) : List (Int))
          cond (mkOk x1 x1)
            (let xs7 := (List.replicate (Int.toNat x1) (0 : Int) : List (Int))
            loopN (fun (s8 : List (Int) × List (Int) × List (Int) × Int × Int × Unit) next9 =>
              cond (decide (s8.2.2.2.2.1 < (List.length x0 : Int)))
                (loopN (fun (s10 : Int × Int × Int × Unit) next11 =>
                  cond (decide (s10.2.2.1 < (List.length x0 : Int)))
                    (cond (x1 == 0) none
                      (cond (inB (w64 (Int.tdiv s10.2.2.1 x1)) (List.length s8.2.1))
                        (Option.bind (s8.2.1[(Int.toNat (w64 (Int.tdiv s10.2.2.1 x1)))]?) fun v12 =>
                        cond (x1 == 0) none
                          (cond (inB (Int.tmod s10.2.2.1 x1) (List.length s8.2.2.1))
                            (Option.bind (s8.2.2.1[(Int.toNat (Int.tmod s10.2.2.1 x1))]?) fun v13 =>
                            Option.bind (spec_l00Max N v12 v13) fun r14 =>
                            cond (inB s10.2.2.1 (List.length s8.1))
                              (Option.bind (s8.1[(Int.toNat s10.2.2.1)]?) fun v15 =>
                              cond (decide (v15 ≥ 0))
                                (next11 (s10.1, s10.2.1, (w64 (s10.2.2.1 + 1)), ()))
                                (cond (decide (s10.1 ≥ 0))
                                  (cond (decide (r14.1 > s10.2.1))
                                    (next11 (s10.1, s10.2.1, (w64 (s10.2.2.1 + 1)), ()))
                                    (cond (r14.1 == s10.2.1)
                                      (Option.bind (idx x0 s10.2.2.1) fun v16 =>
                                      Option.bind (idx x0 s10.1) fun v17 =>
                                      cond (decide (v16 ≤ v17))
                                        (next11 (s10.1, s10.2.1, (w64 (s10.2.2.1 + 1)), ()))
                                        (next11 (s10.2.2.1, r14.1, (w64 (s10.2.2.1 + 1)), ())))
                                      (next11 (s10.2.2.1, r14.1, (w64 (s10.2.2.1 + 1)), ()))))
                                  (next11 (s10.2.2.1, r14.1, (w64 (s10.2.2.1 + 1)), ())))) none) none)) none))
                    (cond (inB s10.1 (List.length s8.1))
                      (let xs18 := (List.set s8.1 (Int.toNat s10.1) s10.2.1)
                      cond (x1 == 0) none
                        (Option.bind (idx x0 s10.1) fun v19 =>
                        cond (inB (w64 (Int.tdiv s10.1 x1)) (List.length s8.2.1))
                          (let xs20 := (List.set s8.2.1 (Int.toNat (w64 (Int.tdiv s10.1 x1))) (w64 (s10.2.1 + v19)))
                          cond (x1 == 0) none
                            (Option.bind (idx x0 s10.1) fun v21 =>
                            cond (inB (Int.tmod s10.1 x1) (List.length s8.2.2.1))
                              (let xs22 := (List.set s8.2.2.1 (Int.toNat (Int.tmod s10.1 x1)) (w64 (s10.2.1 + v21)))
                              Option.bind (idx x0 s10.1) fun v23 =>
                              Option.bind (spec_l00Max N s8.2.2.2.1 (w64 (s10.2.1 + v23))) fun r24 =>
                              next9 (xs18, xs20, xs22, r24.1, (w64 (s8.2.2.2.2.1 + 1)), ())) none)) none)) none)) N ((-1), 0, 0, ()))
                (some (s8.1, s8.2.2.2.1, true, ()))) N (s2.1, xs6, xs7, 0, 0, ())) none) none)) N (([] : List Int), 0, ()))
def spec_OpenPlan_e (N : Nat) : Ent := { ins := [(.sl (.int .i64)), (.int .i64)], outs := [.own (.int .i64), .val (.int .i64), .val .bool], F := fun x => spec_OpenPlan N x.1 x.2.1 }
def spec_OpenPlan_T (N : Nat) : Nat → List EntX
  | 26 => [.pl (spec_l04Can_e N)]
  | 27 => [.pl (spec_l04Count_e N)]
  | 28 => [.pl (spec_l00Max_e N)]
  | _ => []
def spec_OpenPlan_L : Nat → List (Nat × TK)
  | 5 => [(7, .own (.int .i64)), (8, .v (.int .i64))]
  | 12 => [(7, .own (.int .i64)), (9, .own (.int .i64)), (10, .own (.int .i64)), (11, .v (.int .i64)), (12, .v (.int .i64))]
  | 17 => [(13, .v (.int .i64)), (14, .v (.int .i64)), (15, .v (.int .i64))]
  | _ => []
theorem spec_OpenPlan_eq (N : Nat) : runF N tt (spec_OpenPlan_T N) spec_OpenPlan_L [(.sl (.int .i64)), (.int .i64)] [.own (.int .i64), .val (.int .i64), .val .bool] (bodyOf Try.f8) Try.f8.ntmps [4, 5, 6] = (spec_OpenPlan_e N).F := by
  funext x
  kernel_rfl
theorem spec_OpenPlan_sound (N : Nat) : SoundC Try.prog 8 (spec_OpenPlan_e N) := by
  have h := runF_sound (f := 8) (code := bodyOf Try.f8) (N := N) (T := (spec_OpenPlan_T N)) (L := spec_OpenPlan_L) (ins := [(.sl (.int .i64)), (.int .i64)]) (outs := [.own (.int .i64), .val (.int .i64), .val .bool]) (res := [4, 5, 6]) mixed tt_ok ?_ Try.func8 (by kernel_rfl) rfl (by kernel_rfl) (by kernel_rfl) (by decide +kernel)
  · rw [spec_OpenPlan_eq] at h
    exact h
  · intro f e he
    unfold spec_OpenPlan_T at he
    split at he
    · rw [List.mem_singleton.1 he]; exact spec_l04Can_sound N
    · rw [List.mem_singleton.1 he]; exact spec_l04Count_sound N
    · rw [List.mem_singleton.1 he]; exact spec_l00Max_sound N
    · cases he

/- laws.toInt64S -/
def laws_toInt64S (N : Nat) (x0 : List Int) : Option (List (Int) × Unit) :=
  cond (mkOk (List.length x0 : Int) (List.length x0 : Int))
    (let xs1 := (List.replicate (Int.toNat (List.length x0 : Int)) (0 : Int) : List (Int))
    loopN (fun (s2 : List (Int) × Int × Unit) next3 =>
      cond (decide (s2.2.1 < (List.length x0 : Int)))
        (Option.bind (idx x0 s2.2.1) fun v4 =>
        cond (inB s2.2.1 (List.length s2.1))
          (let xs5 := (List.set s2.1 (Int.toNat s2.2.1) v4)
          next3 (xs5, (w64 (s2.2.1 + 1)), ())) none)
        (some (s2.1, ()))) N (xs1, 0, ())) none
def laws_toInt64S_e (N : Nat) : Ent := { ins := [(.sl (.int .i64))], outs := [.own (.int .i64)], F := fun x => laws_toInt64S N x.1 }
def laws_toInt64S_T (_ : Nat) : Nat → List EntX := fun _ => []
def laws_toInt64S_L : Nat → List (Nat × TK)
  | 3 => [(3, .own (.int .i64)), (4, .v (.int .i64))]
  | _ => []
theorem laws_toInt64S_eq (N : Nat) : runF N tt (laws_toInt64S_T N) laws_toInt64S_L [(.sl (.int .i64))] [.own (.int .i64)] (bodyOf Try.f9) Try.f9.ntmps [2] = (laws_toInt64S_e N).F := by
  funext x
  kernel_rfl
theorem laws_toInt64S_sound (N : Nat) : SoundC Try.prog 9 (laws_toInt64S_e N) := by
  have h := runF_sound (f := 9) (code := bodyOf Try.f9) (N := N) (T := (laws_toInt64S_T N)) (L := laws_toInt64S_L) (ins := [(.sl (.int .i64))]) (outs := [.own (.int .i64)]) (res := [2]) mixed tt_ok ?_ Try.func9 (by kernel_rfl) rfl (by kernel_rfl) (by kernel_rfl) (by decide +kernel)
  · rw [laws_toInt64S_eq] at h
    exact h
  · intro f e he
    cases he

/- impl.within -/
def impl_within (_N : Nat) (x0 : Int) (x1 : Int) (x2 : Int) : Option (Bool × Unit) :=
  cond (decide (x0 ≥ x1))
    (some ((decide (x0 ≤ x2)), ()))
    (some (false, ()))
def impl_within_e (N : Nat) : Ent := { ins := [(.int .i64), (.int .i64), (.int .i64)], outs := [.val .bool], F := fun x => impl_within N x.1 x.2.1 x.2.2.1 }
def impl_within_T (_ : Nat) : Nat → List EntX := fun _ => []
def impl_within_L : Nat → List (Nat × TK) := fun _ => []
theorem impl_within_eq (N : Nat) : runF N tt (impl_within_T N) impl_within_L [(.int .i64), (.int .i64), (.int .i64)] [.val .bool] (bodyOf Try.f52) Try.f52.ntmps [6] = (impl_within_e N).F := by
  funext x
  kernel_rfl
theorem impl_within_sound (N : Nat) : SoundC Try.prog 52 (impl_within_e N) := by
  have h := runF_sound (f := 52) (code := bodyOf Try.f52) (N := N) (T := (impl_within_T N)) (L := impl_within_L) (ins := [(.int .i64), (.int .i64), (.int .i64)]) (outs := [.val .bool]) (res := [6]) mixed tt_ok ?_ Try.func52 (by kernel_rfl) rfl (by kernel_rfl) (by kernel_rfl) (by decide +kernel)
  · rw [impl_within_eq] at h
    exact h
  · intro f e he
    cases he

/- impl.areWithin -/
def impl_areWithin (N : Nat) (x0 : List Int) (x1 : Int) (x2 : Int) : Option (Bool × Unit) :=
  loopN (fun (s1 : Int × Unit) next2 =>
    cond (decide (s1.1 < (List.length x0 : Int)))
      (Option.bind (idx x0 s1.1) fun v3 =>
      Option.bind (impl_within N v3 x1 x2) fun r4 =>
      cond (!r4.1)
        (some (false, ()))
        (next2 ((w64 (s1.1 + 1)), ())))
      (some (true, ()))) N (0, ())
def impl_areWithin_e (N : Nat) : Ent := { ins := [(.sl (.int .i64)), (.int .i64), (.int .i64)], outs := [.val .bool], F := fun x => impl_areWithin N x.1 x.2.1 x.2.2.1 }
def impl_areWithin_T (N : Nat) : Nat → List EntX
  | 52 => [.pl (impl_within_e N)]
  | _ => []
def impl_areWithin_L : Nat → List (Nat × TK)
  | 2 => [(11, .v (.int .i64))]
  | _ => []
theorem impl_areWithin_eq (N : Nat) : runF N tt (impl_areWithin_T N) impl_areWithin_L [(.sl (.int .i64)), (.int .i64), (.int .i64)] [.val .bool] (bodyOf Try.f36) Try.f36.ntmps [6] = (impl_areWithin_e N).F := by
  funext x
  kernel_rfl
theorem impl_areWithin_sound (N : Nat) : SoundC Try.prog 36 (impl_areWithin_e N) := by
  have h := runF_sound (f := 36) (code := bodyOf Try.f36) (N := N) (T := (impl_areWithin_T N)) (L := impl_areWithin_L) (ins := [(.sl (.int .i64)), (.int .i64), (.int .i64)]) (outs := [.val .bool]) (res := [6]) mixed tt_ok ?_ Try.func36 (by kernel_rfl) rfl (by kernel_rfl) (by kernel_rfl) (by decide +kernel)
  · rw [impl_areWithin_eq] at h
    exact h
  · intro f e he
    unfold impl_areWithin_T at he
    split at he
    · rw [List.mem_singleton.1 he]; exact impl_within_sound N
    · cases he

/- impl.areMachines -/
def impl_areMachines (N : Nat) (x0 : Int) : Option (Bool × Unit) :=
  Option.bind (impl_within N x0 1 8) fun r1 =>
  some (r1.1, ())
def impl_areMachines_e (N : Nat) : Ent := { ins := [(.int .i64)], outs := [.val .bool], F := fun x => impl_areMachines N x.1 }
def impl_areMachines_T (N : Nat) : Nat → List EntX
  | 52 => [.pl (impl_within_e N)]
  | _ => []
def impl_areMachines_L : Nat → List (Nat × TK) := fun _ => []
theorem impl_areMachines_eq (N : Nat) : runF N tt (impl_areMachines_T N) impl_areMachines_L [(.int .i64)] [.val .bool] (bodyOf Try.f82) Try.f82.ntmps [2] = (impl_areMachines_e N).F := by
  funext x
  kernel_rfl
theorem impl_areMachines_sound (N : Nat) : SoundC Try.prog 82 (impl_areMachines_e N) := by
  have h := runF_sound (f := 82) (code := bodyOf Try.f82) (N := N) (T := (impl_areMachines_T N)) (L := impl_areMachines_L) (ins := [(.int .i64)]) (outs := [.val .bool]) (res := [2]) mixed tt_ok ?_ Try.func82 (by kernel_rfl) rfl (by kernel_rfl) (by kernel_rfl) (by decide +kernel)
  · rw [impl_areMachines_eq] at h
    exact h
  · intro f e he
    unfold impl_areMachines_T at he
    split at he
    · rw [List.mem_singleton.1 he]; exact impl_within_sound N
    · cases he

/- impl.unlikeJobs -/
def impl_unlikeJobs (N : Nat) (x0 : List Int) (x1 : Int) : Option (Int × Bool × Unit) :=
  Option.bind (impl_areMachines N x1) fun r1 =>
  cond (!r1.1)
    (some (0, false, ()))
    (cond (x1 == 0) none
      (cond ((Int.tmod (List.length x0 : Int) x1) != 0)
        (some (0, false, ()))
        (Option.bind (impl_areWithin N x0 1 10000) fun r2 =>
        cond (!r2.1)
          (some (0, false, ()))
          (cond (x1 == 0) none
            (cond (decide ((w64 (Int.tdiv (List.length x0 : Int) x1)) ≥ 1))
              (some ((w64 (Int.tdiv (List.length x0 : Int) x1)), (decide ((w64 (Int.tdiv (List.length x0 : Int) x1)) ≤ 24)), ()))
              (some ((w64 (Int.tdiv (List.length x0 : Int) x1)), false, ())))))))
def impl_unlikeJobs_e (N : Nat) : Ent := { ins := [(.sl (.int .i64)), (.int .i64)], outs := [.val (.int .i64), .val .bool], F := fun x => impl_unlikeJobs N x.1 x.2.1 }
def impl_unlikeJobs_T (N : Nat) : Nat → List EntX
  | 36 => [.pl (impl_areWithin_e N)]
  | 82 => [.pl (impl_areMachines_e N)]
  | _ => []
def impl_unlikeJobs_L : Nat → List (Nat × TK) := fun _ => []
theorem impl_unlikeJobs_eq (N : Nat) : runF N tt (impl_unlikeJobs_T N) impl_unlikeJobs_L [(.sl (.int .i64)), (.int .i64)] [.val (.int .i64), .val .bool] (bodyOf Try.f69) Try.f69.ntmps [4, 5] = (impl_unlikeJobs_e N).F := by
  funext x
  kernel_rfl
theorem impl_unlikeJobs_sound (N : Nat) : SoundC Try.prog 69 (impl_unlikeJobs_e N) := by
  have h := runF_sound (f := 69) (code := bodyOf Try.f69) (N := N) (T := (impl_unlikeJobs_T N)) (L := impl_unlikeJobs_L) (ins := [(.sl (.int .i64)), (.int .i64)]) (outs := [.val (.int .i64), .val .bool]) (res := [4, 5]) mixed tt_ok ?_ Try.func69 (by kernel_rfl) rfl (by kernel_rfl) (by kernel_rfl) (by decide +kernel)
  · rw [impl_unlikeJobs_eq] at h
    exact h
  · intro f e he
    unfold impl_unlikeJobs_T at he
    split at he
    · rw [List.mem_singleton.1 he]; exact impl_areWithin_sound N
    · rw [List.mem_singleton.1 he]; exact impl_areMachines_sound N
    · cases he

/- impl.asShop -/
def impl_asShop (N : Nat) (x0 : List Int) (x1 : Int) : Option (((List Int) × Int × Int) × Bool × Unit) :=
  Option.bind (impl_unlikeJobs N x0 x1) fun r1 =>
  some ((x0, (r1.1, x1)), r1.2.1, ())
def impl_asShop_e (N : Nat) : Ent := { ins := [(.sl (.int .i64)), (.int .i64)], outs := [.val (.pair (.sl (.int .i64)) (.pair (.int .i64) (.int .i64))), .val .bool], F := fun x => impl_asShop N x.1 x.2.1 }
def impl_asShop_T (N : Nat) : Nat → List EntX
  | 69 => [.pl (impl_unlikeJobs_e N)]
  | _ => []
def impl_asShop_L : Nat → List (Nat × TK) := fun _ => []
theorem impl_asShop_eq (N : Nat) : runC N tt (impl_asShop_T N) impl_asShop_L [(.sl (.int .i64)), (.int .i64)] [.val (.pair (.sl (.int .i64)) (.pair (.int .i64) (.int .i64))), .val .bool] (bodyOf Try.f29) Try.f29.ntmps [4, 5] [(4, 44)] = (impl_asShop_e N).F := by
  funext x
  kernel_rfl
theorem impl_asShop_sound (N : Nat) : SoundC Try.prog 29 (impl_asShop_e N) := by
  have h := runC_sound (f := 29) (code := bodyOf Try.f29) (N := N) (T := (impl_asShop_T N)) (L := impl_asShop_L) (ins := [(.sl (.int .i64)), (.int .i64)]) (outs := [.val (.pair (.sl (.int .i64)) (.pair (.int .i64) (.int .i64))), .val .bool]) (res := [4, 5]) (rs := [.cell 4 44, .tmp 5]) (cells := [(4, 44)]) mixed tt_ok ?_ Try.func29 (by kernel_rfl) rfl (by kernel_rfl) (by kernel_rfl) rfl rfl (by decide) (by decide +kernel) (by decide +kernel)
  · rw [impl_asShop_eq] at h
    exact h
  · intro f e he
    unfold impl_asShop_T at he
    split at he
    · rw [List.mem_singleton.1 he]; exact impl_unlikeJobs_sound N
    · cases he

/- math/bits.Mul32 -/
def math_bits_Mul32 (_N : Nat) (x0 : Int) (x1 : Int) : Option (Int × Int × Unit) :=
  some ((IntKind.wrap .u32 (ishr .u64 (IntKind.wrap .u64 ((IntKind.wrap .u64 x0) * (IntKind.wrap .u64 x1))) 32)), (IntKind.wrap .u32 (IntKind.wrap .u64 ((IntKind.wrap .u64 x0) * (IntKind.wrap .u64 x1)))), ())
def math_bits_Mul32_e (N : Nat) : Ent := { ins := [(.int .u32), (.int .u32)], outs := [.val (.int .u32), .val (.int .u32)], F := fun x => math_bits_Mul32 N x.1 x.2.1 }
def math_bits_Mul32_T (_ : Nat) : Nat → List EntX := fun _ => []
def math_bits_Mul32_L : Nat → List (Nat × TK) := fun _ => []
theorem math_bits_Mul32_eq (N : Nat) : runF N tt (math_bits_Mul32_T N) math_bits_Mul32_L [(.int .u32), (.int .u32)] [.val (.int .u32), .val (.int .u32)] (bodyOf Try.f87) Try.f87.ntmps [4, 5] = (math_bits_Mul32_e N).F := by
  funext x
  kernel_rfl
theorem math_bits_Mul32_sound (N : Nat) : SoundC Try.prog 87 (math_bits_Mul32_e N) := by
  have h := runF_sound (f := 87) (code := bodyOf Try.f87) (N := N) (T := (math_bits_Mul32_T N)) (L := math_bits_Mul32_L) (ins := [(.int .u32), (.int .u32)]) (outs := [.val (.int .u32), .val (.int .u32)]) (res := [4, 5]) mixed tt_ok ?_ Try.func87 (by kernel_rfl) rfl (by kernel_rfl) (by kernel_rfl) (by decide +kernel)
  · rw [math_bits_Mul32_eq] at h
    exact h
  · intro f e he
    cases he

/- math/bits.Mul64 -/
def math_bits_Mul64 (_N : Nat) (x0 : Int) (x1 : Int) : Option (Int × Int × Unit) :=
  some ((IntKind.wrap .u64 ((IntKind.wrap .u64 ((IntKind.wrap .u64 ((ishr .u64 x0 32) * (ishr .u64 x1 32))) + (ishr .u64 (IntKind.wrap .u64 ((IntKind.wrap .u64 ((ishr .u64 x0 32) * (ibits .and .u64 x1 4294967295))) + (ishr .u64 (IntKind.wrap .u64 ((ibits .and .u64 x0 4294967295) * (ibits .and .u64 x1 4294967295))) 32))) 32))) + (ishr .u64 (IntKind.wrap .u64 ((ibits .and .u64 (IntKind.wrap .u64 ((IntKind.wrap .u64 ((ishr .u64 x0 32) * (ibits .and .u64 x1 4294967295))) + (ishr .u64 (IntKind.wrap .u64 ((ibits .and .u64 x0 4294967295) * (ibits .and .u64 x1 4294967295))) 32))) 4294967295) + (IntKind.wrap .u64 ((ibits .and .u64 x0 4294967295) * (ishr .u64 x1 32))))) 32))), (IntKind.wrap .u64 (x0 * x1)), ())
def math_bits_Mul64_e (N : Nat) : Ent := { ins := [(.int .u64), (.int .u64)], outs := [.val (.int .u64), .val (.int .u64)], F := fun x => math_bits_Mul64 N x.1 x.2.1 }
def math_bits_Mul64_T (_ : Nat) : Nat → List EntX := fun _ => []
def math_bits_Mul64_L : Nat → List (Nat × TK) := fun _ => []
theorem math_bits_Mul64_eq (N : Nat) : runF N tt (math_bits_Mul64_T N) math_bits_Mul64_L [(.int .u64), (.int .u64)] [.val (.int .u64), .val (.int .u64)] (bodyOf Try.f88) Try.f88.ntmps [4, 5] = (math_bits_Mul64_e N).F := by
  funext x
  kernel_rfl
theorem math_bits_Mul64_sound (N : Nat) : SoundC Try.prog 88 (math_bits_Mul64_e N) := by
  have h := runF_sound (f := 88) (code := bodyOf Try.f88) (N := N) (T := (math_bits_Mul64_T N)) (L := math_bits_Mul64_L) (ins := [(.int .u64), (.int .u64)]) (outs := [.val (.int .u64), .val (.int .u64)]) (res := [4, 5]) mixed tt_ok ?_ Try.func88 (by kernel_rfl) rfl (by kernel_rfl) (by kernel_rfl) (by decide +kernel)
  · rw [math_bits_Mul64_eq] at h
    exact h
  · intro f e he
    cases he

/- math/bits.Mul -/
def math_bits_Mul (N : Nat) (x0 : Int) (x1 : Int) : Option (Int × Int × Unit) :=
  Option.bind (math_bits_Mul64 N x0 x1) fun r1 =>
  some (r1.1, r1.2.1, ())
def math_bits_Mul_e (N : Nat) : Ent := { ins := [(.int .u64), (.int .u64)], outs := [.val (.int .u64), .val (.int .u64)], F := fun x => math_bits_Mul N x.1 x.2.1 }
def math_bits_Mul_T (N : Nat) : Nat → List EntX
  | 88 => [.pl (math_bits_Mul64_e N)]
  | _ => []
def math_bits_Mul_L : Nat → List (Nat × TK) := fun _ => []
theorem math_bits_Mul_eq (N : Nat) : runF N tt (math_bits_Mul_T N) math_bits_Mul_L [(.int .u64), (.int .u64)] [.val (.int .u64), .val (.int .u64)] (bodyOf Try.f80) Try.f80.ntmps [4, 5] = (math_bits_Mul_e N).F := by
  funext x
  kernel_rfl
theorem math_bits_Mul_sound (N : Nat) : SoundC Try.prog 80 (math_bits_Mul_e N) := by
  have h := runF_sound (f := 80) (code := bodyOf Try.f80) (N := N) (T := (math_bits_Mul_T N)) (L := math_bits_Mul_L) (ins := [(.int .u64), (.int .u64)]) (outs := [.val (.int .u64), .val (.int .u64)]) (res := [4, 5]) mixed tt_ok ?_ Try.func80 (by kernel_rfl) rfl (by kernel_rfl) (by kernel_rfl) (by decide +kernel)
  · rw [math_bits_Mul_eq] at h
    exact h
  · intro f e he
    unfold math_bits_Mul_T at he
    split at he
    · rw [List.mem_singleton.1 he]; exact math_bits_Mul64_sound N
    · cases he

/- slices.Repeat[[]int64,int64] -/
def slices_Repeat_int64_int64 (N : Nat) (x0 : List Int) (x1 : Int) : Option (List (Int) × Unit) :=
  cond (decide (x1 < 0))
    (none)
    (Option.bind (math_bits_Mul N (IntKind.wrap .u64 (List.length x0 : Int)) (IntKind.wrap .u64 x1)) fun r1 =>
    cond (decide (r1.1 > 0))
      (none)
      (cond (decide (r1.2.1 > 9223372036854775807))
        (none)
        (cond (mkOk (IntKind.wrap .i64 r1.2.1) (IntKind.wrap .i64 r1.2.1))
          (let xs2 := (List.replicate (Int.toNat (IntKind.wrap .i64 r1.2.1)) (0 : Int) : List (Int))
          let xs3 := (copyL xs2 0 (copyN (List.length xs2) x0) x0)
          loopN (fun (s4 : List (Int) × Int × Unit) next5 =>
            cond (decide (s4.2.1 < (List.length s4.1 : Int)))
              (cond (decide (0 ≤ s4.2.1) && decide (s4.2.1 ≤ (List.length s4.1 : Int)) && decide ((List.length s4.1 : Int) ≤ (List.length s4.1 : Int)))
                (cond (decide (0 ≤ (0 : Int)) && decide ((0 : Int) ≤ s4.2.1) && decide (s4.2.1 ≤ (List.length s4.1 : Int)))
                  (let xs6 := (copyL s4.1 (Int.toNat s4.2.1) (copyN (Int.toNat (List.length s4.1 : Int) - Int.toNat s4.2.1) ((s4.1.drop (Int.toNat (0 : Int))).take (Int.toNat s4.2.1 - Int.toNat (0 : Int)))) ((s4.1.drop (Int.toNat (0 : Int))).take (Int.toNat s4.2.1 - Int.toNat (0 : Int))))
                  next5 (xs6, (w64 (s4.2.1 + ((copyN (Int.toNat (List.length s4.1 : Int) - Int.toNat s4.2.1) ((s4.1.drop (Int.toNat (0 : Int))).take (Int.toNat s4.2.1 - Int.toNat (0 : Int)))) : Int))), ())) none) none)
              (some (s4.1, ()))) N (xs3, ((copyN (List.length xs2) x0) : Int), ())) none)))
def slices_Repeat_int64_int64_e (N : Nat) : Ent := { ins := [(.sl (.int .i64)), (.int .i64)], outs := [.own (.int .i64)], F := fun x => slices_Repeat_int64_int64 N x.1 x.2.1 }
def slices_Repeat_int64_int64_T (N : Nat) : Nat → List EntX
  | 80 => [.pl (math_bits_Mul_e N)]
  | _ => []
def slices_Repeat_int64_int64_L : Nat → List (Nat × TK)
  | 8 => [(7, .own (.int .i64)), (8, .v (.int .i64))]
  | _ => []
theorem slices_Repeat_int64_int64_eq (N : Nat) : runF N tt (slices_Repeat_int64_int64_T N) slices_Repeat_int64_int64_L [(.sl (.int .i64)), (.int .i64)] [.own (.int .i64)] (bodyOf Try.f65) Try.f65.ntmps [4] = (slices_Repeat_int64_int64_e N).F := by
  funext x
  kernel_rfl
theorem slices_Repeat_int64_int64_sound (N : Nat) : SoundC Try.prog 65 (slices_Repeat_int64_int64_e N) := by
  have h := runF_sound (f := 65) (code := bodyOf Try.f65) (N := N) (T := (slices_Repeat_int64_int64_T N)) (L := slices_Repeat_int64_int64_L) (ins := [(.sl (.int .i64)), (.int .i64)]) (outs := [.own (.int .i64)]) (res := [4]) mixed tt_ok ?_ Try.func65 (by kernel_rfl) rfl (by kernel_rfl) (by kernel_rfl) (by decide +kernel)
  · rw [slices_Repeat_int64_int64_eq] at h
    exact h
  · intro f e he
    unfold slices_Repeat_int64_int64_T at he
    split at he
    · rw [List.mem_singleton.1 he]; exact math_bits_Mul_sound N
    · cases he

/- impl.none -/
def impl_none (N : Nat) (x0 : Int) : Option (List (Int) × Unit) :=
  Option.bind (slices_Repeat_int64_int64 N ([(-1)] : List Int) x0) fun r1 =>
  some (r1.1, ())
def impl_none_e (N : Nat) : Ent := { ins := [(.int .i64)], outs := [.own (.int .i64)], F := fun x => impl_none N x.1 }
def impl_none_T (N : Nat) : Nat → List EntX
  | 65 => [.pl (slices_Repeat_int64_int64_e N)]
  | _ => []
def impl_none_L : Nat → List (Nat × TK) := fun _ => []
theorem impl_none_eq (N : Nat) : runF N tt (impl_none_T N) impl_none_L [(.int .i64)] [.own (.int .i64)] (bodyOf Try.f30) Try.f30.ntmps [2] = (impl_none_e N).F := by
  funext x
  kernel_rfl
theorem impl_none_sound (N : Nat) : SoundC Try.prog 30 (impl_none_e N) := by
  have h := runF_sound (f := 30) (code := bodyOf Try.f30) (N := N) (T := (impl_none_T N)) (L := impl_none_L) (ins := [(.int .i64)]) (outs := [.own (.int .i64)]) (res := [2]) mixed tt_ok ?_ Try.func30 (by kernel_rfl) rfl (by kernel_rfl) (by kernel_rfl) (by decide +kernel)
  · rw [impl_none_eq] at h
    exact h
  · intro f e he
    unfold impl_none_T at he
    split at he
    · rw [List.mem_singleton.1 he]; exact slices_Repeat_int64_int64_sound N
    · cases he

/- slices.Max[[]int64,int64] -/
def slices_Max_int64_int64 (N : Nat) (x0 : List Int) : Option (Int × Unit) :=
  cond (decide ((List.length x0 : Int) < 1))
    (none)
    (Option.bind (idx x0 0) fun v1 =>
    loopN (fun (s2 : Int × Int × Unit) next3 =>
      cond (decide (s2.2.1 < (List.length x0 : Int)))
        (Option.bind (idx x0 s2.2.1) fun v4 =>
        next3 ((imax s2.1 v4), (w64 (s2.2.1 + 1)), ()))
        (some (s2.1, ()))) N (v1, 1, ()))
def slices_Max_int64_int64_e (N : Nat) : Ent := { ins := [(.sl (.int .i64))], outs := [.val (.int .i64)], F := fun x => slices_Max_int64_int64 N x.1 }
def slices_Max_int64_int64_T (_ : Nat) : Nat → List EntX := fun _ => []
def slices_Max_int64_int64_L : Nat → List (Nat × TK)
  | 5 => [(3, .v (.int .i64)), (4, .v (.int .i64))]
  | _ => []
theorem slices_Max_int64_int64_eq (N : Nat) : runF N tt (slices_Max_int64_int64_T N) slices_Max_int64_int64_L [(.sl (.int .i64))] [.val (.int .i64)] (bodyOf Try.f31) Try.f31.ntmps [2] = (slices_Max_int64_int64_e N).F := by
  funext x
  kernel_rfl
theorem slices_Max_int64_int64_sound (N : Nat) : SoundC Try.prog 31 (slices_Max_int64_int64_e N) := by
  have h := runF_sound (f := 31) (code := bodyOf Try.f31) (N := N) (T := (slices_Max_int64_int64_T N)) (L := slices_Max_int64_int64_L) (ins := [(.sl (.int .i64))]) (outs := [.val (.int .i64)]) (res := [2]) mixed tt_ok ?_ Try.func31 (by kernel_rfl) rfl (by kernel_rfl) (by kernel_rfl) (by decide +kernel)
  · rw [slices_Max_int64_int64_eq] at h
    exact h
  · intro f e he
    cases he

/- impl.OpenPlan -/
def impl_OpenPlan (N : Nat) (x0 : List Int) (x1 : Int) : Option (List (Int) × Int × Bool × Unit) :=
  openF (impl_asShop N) (impl_none N) (slices_Max_int64_int64 N) x0 x1
def impl_OpenPlan_e (N : Nat) : Ent := { ins := [(.sl (.int .i64)), (.int .i64)], outs := [.own (.int .i64), .val (.int .i64), .val .bool], F := fun x => impl_OpenPlan N x.1 x.2.1 }
theorem impl_OpenPlan_sound (N : Nat) : SoundC Try.prog 10 (impl_OpenPlan_e N) := open_sound (impl_asShop_sound N) (impl_none_sound N) (slices_Max_int64_int64_sound N)

/- laws.eqInt64S -/
def laws_eqInt64S (N : Nat) (x0 : List Int) (x1 : List Int) : Option (Bool × Unit) :=
  cond ((List.length x0 : Int) != (List.length x1 : Int))
    (some (false, ()))
    (loopN (fun (s1 : Int × Unit) next2 =>
      cond (decide (s1.1 < (List.length x0 : Int)))
        (Option.bind (idx x0 s1.1) fun v3 =>
        Option.bind (idx x1 s1.1) fun v4 =>
        cond (v3 != v4)
          (some (false, ()))
          (next2 ((w64 (s1.1 + 1)), ())))
        (some (true, ()))) N (0, ()))
def laws_eqInt64S_e (N : Nat) : Ent := { ins := [(.sl (.int .i64)), (.sl (.int .i64))], outs := [.val .bool], F := fun x => laws_eqInt64S N x.1 x.2.1 }
def laws_eqInt64S_T (_ : Nat) : Nat → List EntX := fun _ => []
def laws_eqInt64S_L : Nat → List (Nat × TK)
  | 4 => [(5, .v (.int .i64))]
  | _ => []
theorem laws_eqInt64S_eq (N : Nat) : runF N tt (laws_eqInt64S_T N) laws_eqInt64S_L [(.sl (.int .i64)), (.sl (.int .i64))] [.val .bool] (bodyOf Try.f11) Try.f11.ntmps [4] = (laws_eqInt64S_e N).F := by
  funext x
  kernel_rfl
theorem laws_eqInt64S_sound (N : Nat) : SoundC Try.prog 11 (laws_eqInt64S_e N) := by
  have h := runF_sound (f := 11) (code := bodyOf Try.f11) (N := N) (T := (laws_eqInt64S_T N)) (L := laws_eqInt64S_L) (ins := [(.sl (.int .i64)), (.sl (.int .i64))]) (outs := [.val .bool]) (res := [4]) mixed tt_ok ?_ Try.func11 (by kernel_rfl) rfl (by kernel_rfl) (by kernel_rfl) (by decide +kernel)
  · rw [laws_eqInt64S_eq] at h
    exact h
  · intro f e he
    cases he

/- laws.markInt64S -/
def laws_markInt64S (N : Nat) (x0 : List Int) (x1 : Int) : Option (List (Int) × (Int × Unit)) :=
  loopN (fun (s1 : List (Int) × Int × Int × Unit) next2 =>
    cond (decide (s1.2.2.1 < (List.length s1.1 : Int)))
      (cond (inB s1.2.2.1 (List.length s1.1))
        (let xs3 := (List.set s1.1 (Int.toNat s1.2.2.1) s1.2.1)
        next2 (xs3, (w64 (s1.2.1 + 1)), (w64 (s1.2.2.1 + 1)), ())) none)
      (some (s1.1, (s1.2.1, ())))) N (x0, x1, 0, ())
def laws_markInt64S_e (N : Nat) : EntM := { io := (.int .i64), ins := [(.int .i64)], outs := [.val (.int .i64)], F := fun xs x => laws_markInt64S N xs x.1 }
def laws_markInt64S_T (_ : Nat) : Nat → List EntX := fun _ => []
def laws_markInt64S_L : Nat → List (Nat × TK)
  | 2 => [(0, .own (.int .i64)), (1, .v (.int .i64)), (5, .v (.int .i64))]
  | _ => []
theorem laws_markInt64S_eq (N : Nat) : runM N tt (laws_markInt64S_T N) laws_markInt64S_L (.int .i64) [(.int .i64)] [.val (.int .i64)] (bodyOf Try.f12) Try.f12.ntmps [4] = (laws_markInt64S_e N).F := by
  funext xs x
  kernel_rfl
theorem laws_markInt64S_sound (N : Nat) : SoundM Try.prog 12 (laws_markInt64S_e N) := by
  have h := runM_sound (f := 12) (code := bodyOf Try.f12) (N := N) (T := (laws_markInt64S_T N)) (L := laws_markInt64S_L) (io := (.int .i64)) (ins := [(.int .i64)]) (outs := [.val (.int .i64)]) (res := [4]) mixed tt_ok ?_ Try.func12 (by kernel_rfl) rfl (by kernel_rfl) (by kernel_rfl) (by decide +kernel)
  · rw [laws_markInt64S_eq] at h
    exact h
  · intro f e he
    cases he

/- laws.heldInt64S -/
def laws_heldInt64S (N : Nat) (x0 : List Int) (x1 : Int) : Option (Int × Unit) :=
  loopN (fun (s1 : Int × Int × Unit) next2 =>
    cond (decide (s1.2.1 < (List.length x0 : Int)))
      (Option.bind (idx x0 s1.2.1) fun v3 =>
      cond (v3 != s1.1)
        (some ((-1), ()))
        (next2 ((w64 (s1.1 + 1)), (w64 (s1.2.1 + 1)), ())))
      (some (s1.1, ()))) N (x1, 0, ())
def laws_heldInt64S_e (N : Nat) : Ent := { ins := [(.sl (.int .i64)), (.int .i64)], outs := [.val (.int .i64)], F := fun x => laws_heldInt64S N x.1 x.2.1 }
def laws_heldInt64S_T (_ : Nat) : Nat → List EntX := fun _ => []
def laws_heldInt64S_L : Nat → List (Nat × TK)
  | 2 => [(1, .v (.int .i64)), (5, .v (.int .i64))]
  | _ => []
theorem laws_heldInt64S_eq (N : Nat) : runF N tt (laws_heldInt64S_T N) laws_heldInt64S_L [(.sl (.int .i64)), (.int .i64)] [.val (.int .i64)] (bodyOf Try.f13) Try.f13.ntmps [4] = (laws_heldInt64S_e N).F := by
  funext x
  kernel_rfl
theorem laws_heldInt64S_sound (N : Nat) : SoundC Try.prog 13 (laws_heldInt64S_e N) := by
  have h := runF_sound (f := 13) (code := bodyOf Try.f13) (N := N) (T := (laws_heldInt64S_T N)) (L := laws_heldInt64S_L) (ins := [(.sl (.int .i64)), (.int .i64)]) (outs := [.val (.int .i64)]) (res := [4]) mixed tt_ok ?_ Try.func13 (by kernel_rfl) rfl (by kernel_rfl) (by kernel_rfl) (by decide +kernel)
  · rw [laws_heldInt64S_eq] at h
    exact h
  · intro f e he
    cases he

/- laws.FnExactOpenPlan -/
def laws_FnExactOpenPlan (N : Nat) (x0 : List Int) (x1 : Int) : Option (Bool × Unit) :=
  cond (decide ((List.length x0 : Int) > 1048576))
    (some (true, ()))
    (Option.bind (laws_toInt64S N x0) fun r1 =>
    Option.bind (spec_OpenPlan N r1.1 x1) fun r2 =>
    Option.bind (laws_toInt64S N x0) fun r3 =>
    Option.bind (impl_OpenPlan N r3.1 x1) fun r4 =>
    Option.bind (laws_eqInt64S N r4.1 r2.1) fun r5 =>
    cond (!r5.1)
      (some (false, ()))
      (cond (r4.2.1 != r2.2.1)
        (some (false, ()))
        (cond (!(r4.2.2.1 == r2.2.2.1))
          (some (false, ()))
          (Option.bind (laws_toInt64S N x0) fun r6 =>
          Option.bind (laws_eqInt64S N r3.1 r6.1) fun r7 =>
          cond (!r7.1)
            (some (false, ()))
            (Option.bind (laws_markInt64S N r3.1 1) fun r8 =>
            cond (Nat.beq (List.length r8.1) (List.length r3.1))
              (cond (decide (r8.2.1 < 0))
                (some (false, ()))
                (Option.bind (laws_eqInt64S N r4.1 r2.1) fun r9 =>
                cond (!r9.1)
                  (some (false, ()))
                  (cond (r4.2.1 != r2.2.1)
                    (some (false, ()))
                    (cond (!(r4.2.2.1 == r2.2.2.1))
                      (some (false, ()))
                      (Option.bind (laws_markInt64S N r4.1 1) fun r10 =>
                      cond (Nat.beq (List.length r10.1) (List.length r4.1))
                        (Option.bind (laws_heldInt64S N r10.1 1) fun r11 =>
                        cond (decide (r11.1 < 0))
                          (some (false, ()))
                          (cond (r11.1 != r10.2.1)
                            (some (false, ()))
                            (Option.bind (laws_toInt64S N x0) fun r12 =>
                            Option.bind (impl_OpenPlan N r12.1 x1) fun r13 =>
                            Option.bind (laws_eqInt64S N r13.1 r2.1) fun r14 =>
                            cond (!r14.1)
                              (some (false, ()))
                              (cond (r13.2.1 != r2.2.1)
                                (some (false, ()))
                                (cond (!(r13.2.2.1 == r2.2.2.1))
                                  (some (false, ()))
                                  (Option.bind (laws_heldInt64S N r10.1 1) fun r15 =>
                                  cond (decide (r15.1 < 0))
                                    (some (false, ()))
                                    (cond (r15.1 != r10.2.1)
                                      (some (false, ()))
                                      (some (true, ()))))))))) none))))) none)))))
def laws_FnExactOpenPlan_e (N : Nat) : Ent := { ins := [(.sl (.int .i64)), (.int .i64)], outs := [.val .bool], F := fun x => laws_FnExactOpenPlan N x.1 x.2.1 }
def laws_FnExactOpenPlan_T (N : Nat) : Nat → List EntX
  | 8 => [.pl (spec_OpenPlan_e N)]
  | 9 => [.pl (laws_toInt64S_e N)]
  | 10 => [.pl (impl_OpenPlan_e N)]
  | 11 => [.pl (laws_eqInt64S_e N)]
  | 12 => [.mu (laws_markInt64S_e N)]
  | 13 => [.pl (laws_heldInt64S_e N)]
  | _ => []
def laws_FnExactOpenPlan_L : Nat → List (Nat × TK) := fun _ => []
theorem laws_FnExactOpenPlan_eq (N : Nat) : runF N tt (laws_FnExactOpenPlan_T N) laws_FnExactOpenPlan_L [(.sl (.int .i64)), (.int .i64)] [.val .bool] (bodyOf Try.f3) Try.f3.ntmps [4] = (laws_FnExactOpenPlan_e N).F := by
  funext x
  kernel_rfl
theorem laws_FnExactOpenPlan_sound (N : Nat) : SoundC Try.prog 3 (laws_FnExactOpenPlan_e N) := by
  have h := runF_sound (f := 3) (code := bodyOf Try.f3) (N := N) (T := (laws_FnExactOpenPlan_T N)) (L := laws_FnExactOpenPlan_L) (ins := [(.sl (.int .i64)), (.int .i64)]) (outs := [.val .bool]) (res := [4]) mixed tt_ok ?_ Try.func3 (by kernel_rfl) rfl (by kernel_rfl) (by kernel_rfl) (by decide +kernel)
  · rw [laws_FnExactOpenPlan_eq] at h
    exact h
  · intro f e he
    unfold laws_FnExactOpenPlan_T at he
    split at he
    · rw [List.mem_singleton.1 he]; exact spec_OpenPlan_sound N
    · rw [List.mem_singleton.1 he]; exact laws_toInt64S_sound N
    · rw [List.mem_singleton.1 he]; exact impl_OpenPlan_sound N
    · rw [List.mem_singleton.1 he]; exact laws_eqInt64S_sound N
    · rw [List.mem_singleton.1 he]; exact laws_markInt64S_sound N
    · rw [List.mem_singleton.1 he]; exact laws_heldInt64S_sound N
    · cases he

end Go.Proofs.Ytgcmklniacjcfaa
