/-
  The plain functions of this seat, printed by a program, each equal to the evaluator's run, with its contract. No condition.
-/
import Derived.Test.YtgbahgkfjghidaaFwS
import Derived.Test.YtgbahgkfjghidaaChecked
namespace Go.Proofs.Ytgbahgkfjghidaa
open Go Go.Proofs.Ytgbahgkfjghidaa.Fw
set_option maxRecDepth 100000
set_option linter.unusedVariables false

theorem mixed : Try.prog.follows .mixedOrders = true := Try.checked.mixed
def tt : Nat → TD
  | 2 => tdInt .i64
  | 3 => tdInt .i64
  | 4 => tdBool
  | 29 => tdSl (.int .i64) 8
  | _ => tdNone
theorem tt_2 : TDok Try.prog 2 (tdInt .i64) := tdok_int (b := 8) (by kernel_rfl) (by kernel_rfl)
theorem tt_3 : TDok Try.prog 3 (tdInt .i64) := tdok_int (b := 8) (by kernel_rfl) (by kernel_rfl)
theorem tt_4 : TDok Try.prog 4 (tdBool) := tdok_bool (b := 1) (by kernel_rfl) (by kernel_rfl)
theorem tt_29 : TDok Try.prog 29 (tdSl (.int .i64) 8) := tdok_sl (b := 24) (e := 2) (z := (.int .i64 0)) (by kernel_rfl) (by kernel_rfl) (by kernel_rfl) (by decide) (fun _ => by kernel_rfl)
theorem tt_ok (t : Nat) : TDok Try.prog t (tt t) := by
  unfold tt
  split
  · exact tt_2
  · exact tt_3
  · exact tt_4
  · exact tt_29
  · exact tdok_none

/- laws.toInt64S -/
def laws_toInt64S (N : Nat) (x0 : List Int) : Option (List (Int) × Unit) :=
  cond (mkOk (List.length x0 : Int) (List.length x0 : Int))
    (let xs1 := (List.replicate (Int.toNat (List.length x0 : Int)) (0 : Int) : List (Int))
    loopN (fun (s2 : List (Int) × Int × Unit) next3 =>
      cond (decide (s2.2.1 < (List.length x0 : Int)))
        (Option.bind (idx x0 s2.2.1) fun v4 =>
        cond (inB s2.2.1 (List.length s2.1))
          (let xs5 := (List.set s2.1 (Int.toNat s2.2.1) v4)
          next3 (xs5, (w64 (s2.2.1 + 1)), ())) none)
        (some (s2.1, ()))) N (xs1, 0, ())) none
def laws_toInt64S_e (N : Nat) : Ent := { ins := [(.sl (.int .i64))], outs := [.own (.int .i64)], F := fun x => laws_toInt64S N x.1 }
def laws_toInt64S_T (_ : Nat) : Nat → List Ent := fun _ => []
def laws_toInt64S_L : Nat → List (Nat × TK)
  | 3 => [(3, .own (.int .i64)), (4, .v (.int .i64))]
  | _ => []
theorem laws_toInt64S_eq (N : Nat) : runF N tt (laws_toInt64S_T N) laws_toInt64S_L [(.sl (.int .i64))] [.own (.int .i64)] (bodyOf Try.f15) Try.f15.ntmps [2] = (laws_toInt64S_e N).F := by
  funext x
  kernel_rfl
theorem laws_toInt64S_sound (N : Nat) : SoundC Try.prog 15 (laws_toInt64S_e N) := by
  have h := runF_sound (f := 15) (code := bodyOf Try.f15) (N := N) (T := laws_toInt64S_T N) (L := laws_toInt64S_L) (ins := [(.sl (.int .i64))]) (outs := [.own (.int .i64)]) (res := [2]) mixed tt_ok ?_ Try.func15 (by kernel_rfl) rfl (by kernel_rfl) (by kernel_rfl) (by decide +kernel)
  · rw [laws_toInt64S_eq] at h
    exact h
  · intro f e he
    cases he

/- laws.eqInt64S -/
def laws_eqInt64S (N : Nat) (x0 : List Int) (x1 : List Int) : Option (Bool × Unit) :=
  cond ((List.length x0 : Int) != (List.length x1 : Int))
    (some (false, ()))
    (loopN (fun (s1 : Int × Unit) next2 =>
      cond (decide (s1.1 < (List.length x0 : Int)))
        (Option.bind (idx x0 s1.1) fun v3 =>
        Option.bind (idx x1 s1.1) fun v4 =>
        cond (v3 != v4)
          (some (false, ()))
          (next2 ((w64 (s1.1 + 1)), ())))
        (some (true, ()))) N (0, ()))
def laws_eqInt64S_e (N : Nat) : Ent := { ins := [(.sl (.int .i64)), (.sl (.int .i64))], outs := [.val .bool], F := fun x => laws_eqInt64S N x.1 x.2.1 }
def laws_eqInt64S_T (_ : Nat) : Nat → List Ent := fun _ => []
def laws_eqInt64S_L : Nat → List (Nat × TK)
  | 4 => [(5, .v (.int .i64))]
  | _ => []
theorem laws_eqInt64S_eq (N : Nat) : runF N tt (laws_eqInt64S_T N) laws_eqInt64S_L [(.sl (.int .i64)), (.sl (.int .i64))] [.val .bool] (bodyOf Try.f17) Try.f17.ntmps [4] = (laws_eqInt64S_e N).F := by
  funext x
  kernel_rfl
theorem laws_eqInt64S_sound (N : Nat) : SoundC Try.prog 17 (laws_eqInt64S_e N) := by
  have h := runF_sound (f := 17) (code := bodyOf Try.f17) (N := N) (T := laws_eqInt64S_T N) (L := laws_eqInt64S_L) (ins := [(.sl (.int .i64)), (.sl (.int .i64))]) (outs := [.val .bool]) (res := [4]) mixed tt_ok ?_ Try.func17 (by kernel_rfl) rfl (by kernel_rfl) (by kernel_rfl) (by decide +kernel)
  · rw [laws_eqInt64S_eq] at h
    exact h
  · intro f e he
    cases he

/- spec.l02Sum -/
def spec_l02Sum (N : Nat) (x0 : List Int) : Option (Int × Unit) :=
  loopN (fun (s1 : Int × Int × Unit) next2 =>
    cond (decide (s1.2.1 < (List.length x0 : Int)))
      (Option.bind (idx x0 s1.2.1) fun v3 =>
      next2 ((w64 (s1.1 + v3)), (w64 (s1.2.1 + 1)), ()))
      (some (s1.1, ()))) N (0, 0, ())
def spec_l02Sum_e (N : Nat) : Ent := { ins := [(.sl (.int .i64))], outs := [.val (.int .i64)], F := fun x => spec_l02Sum N x.1 }
def spec_l02Sum_T (_ : Nat) : Nat → List Ent := fun _ => []
def spec_l02Sum_L : Nat → List (Nat × TK)
  | 3 => [(3, .v (.int .i64)), (4, .v (.int .i64))]
  | _ => []
theorem spec_l02Sum_eq (N : Nat) : runF N tt (spec_l02Sum_T N) spec_l02Sum_L [(.sl (.int .i64))] [.val (.int .i64)] (bodyOf Try.f38) Try.f38.ntmps [2] = (spec_l02Sum_e N).F := by
  funext x
  kernel_rfl
theorem spec_l02Sum_sound (N : Nat) : SoundC Try.prog 38 (spec_l02Sum_e N) := by
  have h := runF_sound (f := 38) (code := bodyOf Try.f38) (N := N) (T := spec_l02Sum_T N) (L := spec_l02Sum_L) (ins := [(.sl (.int .i64))]) (outs := [.val (.int .i64)]) (res := [2]) mixed tt_ok ?_ Try.func38 (by kernel_rfl) rfl (by kernel_rfl) (by kernel_rfl) (by decide +kernel)
  · rw [spec_l02Sum_eq] at h
    exact h
  · intro f e he
    cases he

/- spec.l00In -/
def spec_l00In (_N : Nat) (x0 : Int) (x1 : Int) (x2 : Int) : Option (Bool × Unit) :=
  cond (decide (x0 ≥ x1))
    (some ((decide (x0 ≤ x2)), ()))
    (some (false, ()))
def spec_l00In_e (N : Nat) : Ent := { ins := [(.int .i64), (.int .i64), (.int .i64)], outs := [.val .bool], F := fun x => spec_l00In N x.1 x.2.1 x.2.2.1 }
def spec_l00In_T (_ : Nat) : Nat → List Ent := fun _ => []
def spec_l00In_L : Nat → List (Nat × TK) := fun _ => []
theorem spec_l00In_eq (N : Nat) : runF N tt (spec_l00In_T N) spec_l00In_L [(.int .i64), (.int .i64), (.int .i64)] [.val .bool] (bodyOf Try.f39) Try.f39.ntmps [6] = (spec_l00In_e N).F := by
  funext x
  kernel_rfl
theorem spec_l00In_sound (N : Nat) : SoundC Try.prog 39 (spec_l00In_e N) := by
  have h := runF_sound (f := 39) (code := bodyOf Try.f39) (N := N) (T := spec_l00In_T N) (L := spec_l00In_L) (ins := [(.int .i64), (.int .i64), (.int .i64)]) (outs := [.val .bool]) (res := [6]) mixed tt_ok ?_ Try.func39 (by kernel_rfl) rfl (by kernel_rfl) (by kernel_rfl) (by decide +kernel)
  · rw [spec_l00In_eq] at h
    exact h
  · intro f e he
    cases he

/- spec.l04Counts -/
def spec_l04Counts (N : Nat) (x0 : List Int) : Option (Bool × Unit) :=
  loopN (fun (s1 : Int × Unit) next2 =>
    cond (decide (s1.1 < (List.length x0 : Int)))
      (Option.bind (idx x0 s1.1) fun v3 =>
      Option.bind (spec_l00In N v3 0 16) fun r4 =>
      cond (!r4.1)
        (some (false, ()))
        (next2 ((w64 (s1.1 + 1)), ())))
      (cond (decide ((List.length x0 : Int) ≥ 1))
        (cond (decide ((List.length x0 : Int) ≤ 8))
          (Option.bind (spec_l02Sum N x0) fun r5 =>
          Option.bind (spec_l00In N r5.1 1 64) fun r6 =>
          some (r6.1, ()))
          (some (false, ())))
        (some (false, ())))) N (0, ())
def spec_l04Counts_e (N : Nat) : Ent := { ins := [(.sl (.int .i64))], outs := [.val .bool], F := fun x => spec_l04Counts N x.1 }
def spec_l04Counts_T (N : Nat) : Nat → List Ent
  | 38 => [spec_l02Sum_e N]
  | 39 => [spec_l00In_e N]
  | _ => []
def spec_l04Counts_L : Nat → List (Nat × TK)
  | 2 => [(3, .v (.int .i64))]
  | _ => []
theorem spec_l04Counts_eq (N : Nat) : runF N tt (spec_l04Counts_T N) spec_l04Counts_L [(.sl (.int .i64))] [.val .bool] (bodyOf Try.f37) Try.f37.ntmps [2] = (spec_l04Counts_e N).F := by
  funext x
  kernel_rfl
theorem spec_l04Counts_sound (N : Nat) : SoundC Try.prog 37 (spec_l04Counts_e N) := by
  have h := runF_sound (f := 37) (code := bodyOf Try.f37) (N := N) (T := spec_l04Counts_T N) (L := spec_l04Counts_L) (ins := [(.sl (.int .i64))]) (outs := [.val .bool]) (res := [2]) mixed tt_ok ?_ Try.func37 (by kernel_rfl) rfl (by kernel_rfl) (by kernel_rfl) (by decide +kernel)
  · rw [spec_l04Counts_eq] at h
    exact h
  · intro f e he
    unfold spec_l04Counts_T at he
    split at he
    · rw [List.mem_singleton.1 he]; exact spec_l02Sum_sound N
    · rw [List.mem_singleton.1 he]; exact spec_l00In_sound N
    · cases he

/- spec.l00Max -/
def spec_l00Max (_N : Nat) (x0 : Int) (x1 : Int) : Option (Int × Unit) :=
  cond (decide (x0 > x1))
    (some (x0, ()))
    (some (x1, ()))
def spec_l00Max_e (N : Nat) : Ent := { ins := [(.int .i64), (.int .i64)], outs := [.val (.int .i64)], F := fun x => spec_l00Max N x.1 x.2.1 }
def spec_l00Max_T (_ : Nat) : Nat → List Ent := fun _ => []
def spec_l00Max_L : Nat → List (Nat × TK) := fun _ => []
theorem spec_l00Max_eq (N : Nat) : runF N tt (spec_l00Max_T N) spec_l00Max_L [(.int .i64), (.int .i64)] [.val (.int .i64)] (bodyOf Try.f40) Try.f40.ntmps [4] = (spec_l00Max_e N).F := by
  funext x
  kernel_rfl
theorem spec_l00Max_sound (N : Nat) : SoundC Try.prog 40 (spec_l00Max_e N) := by
  have h := runF_sound (f := 40) (code := bodyOf Try.f40) (N := N) (T := spec_l00Max_T N) (L := spec_l00Max_L) (ins := [(.int .i64), (.int .i64)]) (outs := [.val (.int .i64)]) (res := [4]) mixed tt_ok ?_ Try.func40 (by kernel_rfl) rfl (by kernel_rfl) (by kernel_rfl) (by decide +kernel)
  · rw [spec_l00Max_eq] at h
    exact h
  · intro f e he
    cases he

/- spec.MixedGap -/
def spec_MixedGap (N : Nat) (x0 : List Int) (x1 : List Int) : Option (Int × Bool × Unit) :=
  Option.bind (spec_l04Counts N x0) fun r1 =>
  cond (!r1.1)
    (some (0, false, ()))
    (Option.bind (spec_l02Sum N x0) fun r2 =>
    cond ((List.length x1 : Int) != r2.1)
      (some (0, false, ()))
      (cond (mkOk (List.length x0 : Int) (List.length x0 : Int))
        (let xs3 := (List.replicate (Int.toNat (List.length x0 : Int)) (0 : Int) : List (Int))
        loopN (fun (s4 : List (Int) × Int × Int × Unit) next5 =>
          cond (decide (s4.2.2.1 ≤ (List.length x1 : Int)))
            (Option.bind (idx x1 (w64 (s4.2.2.1 - 1))) fun v6 =>
            Option.bind (spec_l00In N v6 0 (w64 ((List.length x0 : Int) - 1))) fun r7 =>
            cond (!r7.1)
              (some (0, false, ()))
              (Option.bind (idx x1 (w64 (s4.2.2.1 - 1))) fun v8 =>
              cond (inB v8 (List.length s4.1))
                (Option.bind (s4.1[(Int.toNat v8)]?) fun v9 =>
                cond (inB v8 (List.length s4.1))
                  (let xs10 := (List.set s4.1 (Int.toNat v8) (w64 (v9 + 1)))
                  loopN (fun (s11 : Int × Int × Unit) next12 =>
                    cond (decide (s11.2.1 < (List.length x0 : Int)))
                      (Option.bind (idx x0 s11.2.1) fun v13 =>
                      cond (inB s11.2.1 (List.length xs10))
                        (Option.bind (xs10[(Int.toNat s11.2.1)]?) fun v14 =>
                        Option.bind (spec_l00Max N (w64 ((w64 (s4.2.2.1 * v13)) - (w64 ((List.length x1 : Int) * v14)))) (IntKind.wrap .i64 (0 - (w64 ((w64 (s4.2.2.1 * v13)) - (w64 ((List.length x1 : Int) * v14))))))) fun r15 =>
                        Option.bind (spec_l00Max N s11.1 r15.1) fun r16 =>
                        next12 (r16.1, (w64 (s11.2.1 + 1)), ())) none)
                      (next5 (xs10, s11.1, (w64 (s4.2.2.1 + 1)), ()))) N (s4.2.1, 0, ())) none) none))
            (loopN (fun (s17 : Int × Unit) next18 =>
              cond (decide (s17.1 < (List.length x0 : Int)))
                (cond (inB s17.1 (List.length s4.1))
                  (Option.bind (s4.1[(Int.toNat s17.1)]?) fun v19 =>
                  Option.bind (idx x0 s17.1) fun v20 =>
                  cond (v19 != v20)
                    (some (0, false, ()))
                    (next18 ((w64 (s17.1 + 1)), ()))) none)
                (some (s4.2.1, true, ()))) N (0, ()))) N (xs3, 0, 1, ())) none))
def spec_MixedGap_e (N : Nat) : Ent := { ins := [(.sl (.int .i64)), (.sl (.int .i64))], outs := [.val (.int .i64), .val .bool], F := fun x => spec_MixedGap N x.1 x.2.1 }
def spec_MixedGap_T (N : Nat) : Nat → List Ent
  | 37 => [spec_l04Counts_e N]
  | 38 => [spec_l02Sum_e N]
  | 39 => [spec_l00In_e N]
  | 40 => [spec_l00Max_e N]
  | _ => []
def spec_MixedGap_L : Nat → List (Nat × TK)
  | 7 => [(7, .own (.int .i64)), (8, .v (.int .i64)), (9, .v (.int .i64))]
  | 13 => [(8, .v (.int .i64)), (10, .v (.int .i64))]
  | 18 => [(12, .v (.int .i64))]
  | _ => []
theorem spec_MixedGap_eq (N : Nat) : runF N tt (spec_MixedGap_T N) spec_MixedGap_L [(.sl (.int .i64)), (.sl (.int .i64))] [.val (.int .i64), .val .bool] (bodyOf Try.f18) Try.f18.ntmps [4, 5] = (spec_MixedGap_e N).F := by
  funext x
  kernel_rfl
theorem spec_MixedGap_sound (N : Nat) : SoundC Try.prog 18 (spec_MixedGap_e N) := by
  have h := runF_sound (f := 18) (code := bodyOf Try.f18) (N := N) (T := spec_MixedGap_T N) (L := spec_MixedGap_L) (ins := [(.sl (.int .i64)), (.sl (.int .i64))]) (outs := [.val (.int .i64), .val .bool]) (res := [4, 5]) mixed tt_ok ?_ Try.func18 (by kernel_rfl) rfl (by kernel_rfl) (by kernel_rfl) (by decide +kernel)
  · rw [spec_MixedGap_eq] at h
    exact h
  · intro f e he
    unfold spec_MixedGap_T at he
    split at he
    · rw [List.mem_singleton.1 he]; exact spec_l04Counts_sound N
    · rw [List.mem_singleton.1 he]; exact spec_l02Sum_sound N
    · rw [List.mem_singleton.1 he]; exact spec_l00In_sound N
    · rw [List.mem_singleton.1 he]; exact spec_l00Max_sound N
    · cases he

/- impl.within -/
def impl_within (_N : Nat) (x0 : Int) (x1 : Int) (x2 : Int) : Option (Bool × Unit) :=
  cond (decide (x0 ≥ x1))
    (some ((decide (x0 ≤ x2)), ()))
    (some (false, ()))
def impl_within_e (N : Nat) : Ent := { ins := [(.int .i64), (.int .i64), (.int .i64)], outs := [.val .bool], F := fun x => impl_within N x.1 x.2.1 x.2.2.1 }
def impl_within_T (_ : Nat) : Nat → List Ent := fun _ => []
def impl_within_L : Nat → List (Nat × TK) := fun _ => []
theorem impl_within_eq (N : Nat) : runF N tt (impl_within_T N) impl_within_L [(.int .i64), (.int .i64), (.int .i64)] [.val .bool] (bodyOf Try.f28) Try.f28.ntmps [6] = (impl_within_e N).F := by
  funext x
  kernel_rfl
theorem impl_within_sound (N : Nat) : SoundC Try.prog 28 (impl_within_e N) := by
  have h := runF_sound (f := 28) (code := bodyOf Try.f28) (N := N) (T := impl_within_T N) (L := impl_within_L) (ins := [(.int .i64), (.int .i64), (.int .i64)]) (outs := [.val .bool]) (res := [6]) mixed tt_ok ?_ Try.func28 (by kernel_rfl) rfl (by kernel_rfl) (by kernel_rfl) (by decide +kernel)
  · rw [impl_within_eq] at h
    exact h
  · intro f e he
    cases he

/- impl.sumOf -/
def impl_sumOf (N : Nat) (x0 : List Int) : Option (Int × Unit) :=
  loopN (fun (s1 : Int × Int × Unit) next2 =>
    cond (decide (s1.2.1 < (List.length x0 : Int)))
      (Option.bind (idx x0 s1.2.1) fun v3 =>
      next2 ((w64 (s1.1 + v3)), (w64 (s1.2.1 + 1)), ()))
      (some (s1.1, ()))) N (0, 0, ())
def impl_sumOf_e (N : Nat) : Ent := { ins := [(.sl (.int .i64))], outs := [.val (.int .i64)], F := fun x => impl_sumOf N x.1 }
def impl_sumOf_T (_ : Nat) : Nat → List Ent := fun _ => []
def impl_sumOf_L : Nat → List (Nat × TK)
  | 3 => [(3, .v (.int .i64)), (8, .v (.int .i64))]
  | _ => []
theorem impl_sumOf_eq (N : Nat) : runF N tt (impl_sumOf_T N) impl_sumOf_L [(.sl (.int .i64))] [.val (.int .i64)] (bodyOf Try.f42) Try.f42.ntmps [2] = (impl_sumOf_e N).F := by
  funext x
  kernel_rfl
theorem impl_sumOf_sound (N : Nat) : SoundC Try.prog 42 (impl_sumOf_e N) := by
  have h := runF_sound (f := 42) (code := bodyOf Try.f42) (N := N) (T := impl_sumOf_T N) (L := impl_sumOf_L) (ins := [(.sl (.int .i64))]) (outs := [.val (.int .i64)]) (res := [2]) mixed tt_ok ?_ Try.func42 (by kernel_rfl) rfl (by kernel_rfl) (by kernel_rfl) (by decide +kernel)
  · rw [impl_sumOf_eq] at h
    exact h
  · intro f e he
    cases he

/- impl.areWithin -/
def impl_areWithin (N : Nat) (x0 : List Int) (x1 : Int) (x2 : Int) : Option (Bool × Unit) :=
  loopN (fun (s1 : Int × Unit) next2 =>
    cond (decide (s1.1 < (List.length x0 : Int)))
      (Option.bind (idx x0 s1.1) fun v3 =>
      Option.bind (impl_within N v3 x1 x2) fun r4 =>
      cond (!r4.1)
        (some (false, ()))
        (next2 ((w64 (s1.1 + 1)), ())))
      (some (true, ()))) N (0, ())
def impl_areWithin_e (N : Nat) : Ent := { ins := [(.sl (.int .i64)), (.int .i64), (.int .i64)], outs := [.val .bool], F := fun x => impl_areWithin N x.1 x.2.1 x.2.2.1 }
def impl_areWithin_T (N : Nat) : Nat → List Ent
  | 28 => [impl_within_e N]
  | _ => []
def impl_areWithin_L : Nat → List (Nat × TK)
  | 2 => [(11, .v (.int .i64))]
  | _ => []
theorem impl_areWithin_eq (N : Nat) : runF N tt (impl_areWithin_T N) impl_areWithin_L [(.sl (.int .i64)), (.int .i64), (.int .i64)] [.val .bool] (bodyOf Try.f43) Try.f43.ntmps [6] = (impl_areWithin_e N).F := by
  funext x
  kernel_rfl
theorem impl_areWithin_sound (N : Nat) : SoundC Try.prog 43 (impl_areWithin_e N) := by
  have h := runF_sound (f := 43) (code := bodyOf Try.f43) (N := N) (T := impl_areWithin_T N) (L := impl_areWithin_L) (ins := [(.sl (.int .i64)), (.int .i64), (.int .i64)]) (outs := [.val .bool]) (res := [6]) mixed tt_ok ?_ Try.func43 (by kernel_rfl) rfl (by kernel_rfl) (by kernel_rfl) (by decide +kernel)
  · rw [impl_areWithin_eq] at h
    exact h
  · intro f e he
    unfold impl_areWithin_T at he
    split at he
    · rw [List.mem_singleton.1 he]; exact impl_within_sound N
    · cases he

/- impl.areMany -/
def impl_areMany (N : Nat) (x0 : List Int) (x1 : Int) (x2 : Int) (x3 : Int) (x4 : Int) : Option (Bool × Unit) :=
  cond (decide ((List.length x0 : Int) ≥ x1))
    (cond (decide ((List.length x0 : Int) ≤ x2))
      (Option.bind (impl_areWithin N x0 x3 x4) fun r1 =>
      some (r1.1, ()))
      (some (false, ())))
    (some (false, ()))
def impl_areMany_e (N : Nat) : Ent := { ins := [(.sl (.int .i64)), (.int .i64), (.int .i64), (.int .i64), (.int .i64)], outs := [.val .bool], F := fun x => impl_areMany N x.1 x.2.1 x.2.2.1 x.2.2.2.1 x.2.2.2.2.1 }
def impl_areMany_T (N : Nat) : Nat → List Ent
  | 43 => [impl_areWithin_e N]
  | _ => []
def impl_areMany_L : Nat → List (Nat × TK) := fun _ => []
theorem impl_areMany_eq (N : Nat) : runF N tt (impl_areMany_T N) impl_areMany_L [(.sl (.int .i64)), (.int .i64), (.int .i64), (.int .i64), (.int .i64)] [.val .bool] (bodyOf Try.f55) Try.f55.ntmps [10] = (impl_areMany_e N).F := by
  funext x
  kernel_rfl
theorem impl_areMany_sound (N : Nat) : SoundC Try.prog 55 (impl_areMany_e N) := by
  have h := runF_sound (f := 55) (code := bodyOf Try.f55) (N := N) (T := impl_areMany_T N) (L := impl_areMany_L) (ins := [(.sl (.int .i64)), (.int .i64), (.int .i64), (.int .i64), (.int .i64)]) (outs := [.val .bool]) (res := [10]) mixed tt_ok ?_ Try.func55 (by kernel_rfl) rfl (by kernel_rfl) (by kernel_rfl) (by decide +kernel)
  · rw [impl_areMany_eq] at h
    exact h
  · intro f e he
    unfold impl_areMany_T at he
    split at he
    · rw [List.mem_singleton.1 he]; exact impl_areWithin_sound N
    · cases he

/- impl.areCounts -/
def impl_areCounts (N : Nat) (x0 : List Int) : Option (Bool × Unit) :=
  Option.bind (impl_areMany N x0 1 8 0 16) fun r1 =>
  cond r1.1
    (Option.bind (impl_sumOf N x0) fun r2 =>
    Option.bind (impl_within N r2.1 1 64) fun r3 =>
    some (r3.1, ()))
    (some (false, ()))
def impl_areCounts_e (N : Nat) : Ent := { ins := [(.sl (.int .i64))], outs := [.val .bool], F := fun x => impl_areCounts N x.1 }
def impl_areCounts_T (N : Nat) : Nat → List Ent
  | 28 => [impl_within_e N]
  | 42 => [impl_sumOf_e N]
  | 55 => [impl_areMany_e N]
  | _ => []
def impl_areCounts_L : Nat → List (Nat × TK) := fun _ => []
theorem impl_areCounts_eq (N : Nat) : runF N tt (impl_areCounts_T N) impl_areCounts_L [(.sl (.int .i64))] [.val .bool] (bodyOf Try.f41) Try.f41.ntmps [2] = (impl_areCounts_e N).F := by
  funext x
  kernel_rfl
theorem impl_areCounts_sound (N : Nat) : SoundC Try.prog 41 (impl_areCounts_e N) := by
  have h := runF_sound (f := 41) (code := bodyOf Try.f41) (N := N) (T := impl_areCounts_T N) (L := impl_areCounts_L) (ins := [(.sl (.int .i64))]) (outs := [.val .bool]) (res := [2]) mixed tt_ok ?_ Try.func41 (by kernel_rfl) rfl (by kernel_rfl) (by kernel_rfl) (by decide +kernel)
  · rw [impl_areCounts_eq] at h
    exact h
  · intro f e he
    unfold impl_areCounts_T at he
    split at he
    · rw [List.mem_singleton.1 he]; exact impl_within_sound N
    · rw [List.mem_singleton.1 he]; exact impl_sumOf_sound N
    · rw [List.mem_singleton.1 he]; exact impl_areMany_sound N
    · cases he

/- slices.Equal[[]int64,int64] -/
def slices_Equal_int64_int64 (N : Nat) (x0 : List Int) (x1 : List Int) : Option (Bool × Unit) :=
  cond ((List.length x0 : Int) != (List.length x1 : Int))
    (some (false, ()))
    (loopN (fun (s1 : Int × Unit) next2 =>
      cond (decide (s1.1 < (List.length x0 : Int)))
        (Option.bind (idx x0 s1.1) fun v3 =>
        Option.bind (idx x1 s1.1) fun v4 =>
        cond (v3 != v4)
          (some (false, ()))
          (next2 ((w64 (s1.1 + 1)), ())))
        (some (true, ()))) N (0, ()))
def slices_Equal_int64_int64_e (N : Nat) : Ent := { ins := [(.sl (.int .i64)), (.sl (.int .i64))], outs := [.val .bool], F := fun x => slices_Equal_int64_int64 N x.1 x.2.1 }
def slices_Equal_int64_int64_T (_ : Nat) : Nat → List Ent := fun _ => []
def slices_Equal_int64_int64_L : Nat → List (Nat × TK)
  | 4 => [(13, .v (.int .i64))]
  | _ => []
theorem slices_Equal_int64_int64_eq (N : Nat) : runF N tt (slices_Equal_int64_int64_T N) slices_Equal_int64_int64_L [(.sl (.int .i64)), (.sl (.int .i64))] [.val .bool] (bodyOf Try.f44) Try.f44.ntmps [4] = (slices_Equal_int64_int64_e N).F := by
  funext x
  kernel_rfl
theorem slices_Equal_int64_int64_sound (N : Nat) : SoundC Try.prog 44 (slices_Equal_int64_int64_e N) := by
  have h := runF_sound (f := 44) (code := bodyOf Try.f44) (N := N) (T := slices_Equal_int64_int64_T N) (L := slices_Equal_int64_int64_L) (ins := [(.sl (.int .i64)), (.sl (.int .i64))]) (outs := [.val .bool]) (res := [4]) mixed tt_ok ?_ Try.func44 (by kernel_rfl) rfl (by kernel_rfl) (by kernel_rfl) (by decide +kernel)
  · rw [slices_Equal_int64_int64_eq] at h
    exact h
  · intro f e he
    cases he

/- impl.MixedGap -/
def impl_MixedGap (N : Nat) (x0 : List Int) (x1 : List Int) : Option (Int × Bool × Unit) :=
  Option.bind (impl_areCounts N x0) fun r1 =>
  cond (!r1.1)
    (some (0, false, ()))
    (Option.bind (impl_sumOf N x0) fun r2 =>
    cond ((List.length x1 : Int) != r2.1)
      (some (0, false, ()))
      (Option.bind (impl_areWithin N x1 0 (w64 ((List.length x0 : Int) - 1))) fun r3 =>
      cond (!r3.1)
        (some (0, false, ()))
        (Option.bind (impl_sumOf N x0) fun r4 =>
        cond (mkOk (List.length x0 : Int) (List.length x0 : Int))
          (let xs5 := (List.replicate (Int.toNat (List.length x0 : Int)) (0 : Int) : List (Int))
          loopN (fun (s6 : List (Int) × Int × Int × Unit) next7 =>
            cond (decide (s6.2.2.1 < (List.length x1 : Int)))
              (Option.bind (idx x1 s6.2.2.1) fun v8 =>
              cond (inB v8 (List.length s6.1))
                (Option.bind (s6.1[(Int.toNat v8)]?) fun v9 =>
                cond (inB v8 (List.length s6.1))
                  (let xs10 := (List.set s6.1 (Int.toNat v8) (w64 (v9 + 1)))
                  loopN (fun (s11 : Int × Int × Unit) next12 =>
                    cond (decide (s11.2.1 < (List.length x0 : Int)))
                      (Option.bind (idx x0 s11.2.1) fun v13 =>
                      cond (inB s11.2.1 (List.length xs10))
                        (Option.bind (xs10[(Int.toNat s11.2.1)]?) fun v14 =>
                        next12 ((imax (imax s11.1 (w64 ((w64 ((w64 (s6.2.2.1 + 1)) * v13)) - (w64 (r4.1 * v14))))) (IntKind.wrap .i64 (0 - (w64 ((w64 ((w64 (s6.2.2.1 + 1)) * v13)) - (w64 (r4.1 * v14))))))), (w64 (s11.2.1 + 1)), ())) none)
                      (next7 (xs10, s11.1, (w64 (s6.2.2.1 + 1)), ()))) N (s6.2.1, 0, ())) none) none)
              (Option.bind (slices_Equal_int64_int64 N s6.1 x0) fun r15 =>
              cond (!r15.1)
                (some (0, false, ()))
                (some (s6.2.1, true, ())))) N (xs5, 0, 0, ())) none)))
def impl_MixedGap_e (N : Nat) : Ent := { ins := [(.sl (.int .i64)), (.sl (.int .i64))], outs := [.val (.int .i64), .val .bool], F := fun x => impl_MixedGap N x.1 x.2.1 }
def impl_MixedGap_T (N : Nat) : Nat → List Ent
  | 41 => [impl_areCounts_e N]
  | 42 => [impl_sumOf_e N]
  | 43 => [impl_areWithin_e N]
  | 44 => [slices_Equal_int64_int64_e N]
  | _ => []
def impl_MixedGap_L : Nat → List (Nat × TK)
  | 7 => [(7, .own (.int .i64)), (8, .v (.int .i64)), (39, .v (.int .i64))]
  | 11 => [(8, .v (.int .i64)), (52, .v (.int .i64))]
  | _ => []
theorem impl_MixedGap_eq (N : Nat) : runF N tt (impl_MixedGap_T N) impl_MixedGap_L [(.sl (.int .i64)), (.sl (.int .i64))] [.val (.int .i64), .val .bool] (bodyOf Try.f19) Try.f19.ntmps [4, 5] = (impl_MixedGap_e N).F := by
  funext x
  kernel_rfl
theorem impl_MixedGap_sound (N : Nat) : SoundC Try.prog 19 (impl_MixedGap_e N) := by
  have h := runF_sound (f := 19) (code := bodyOf Try.f19) (N := N) (T := impl_MixedGap_T N) (L := impl_MixedGap_L) (ins := [(.sl (.int .i64)), (.sl (.int .i64))]) (outs := [.val (.int .i64), .val .bool]) (res := [4, 5]) mixed tt_ok ?_ Try.func19 (by kernel_rfl) rfl (by kernel_rfl) (by kernel_rfl) (by decide +kernel)
  · rw [impl_MixedGap_eq] at h
    exact h
  · intro f e he
    unfold impl_MixedGap_T at he
    split at he
    · rw [List.mem_singleton.1 he]; exact impl_areCounts_sound N
    · rw [List.mem_singleton.1 he]; exact impl_sumOf_sound N
    · rw [List.mem_singleton.1 he]; exact impl_areWithin_sound N
    · rw [List.mem_singleton.1 he]; exact slices_Equal_int64_int64_sound N
    · cases he

/- laws.FnExactMixedGap -/
def laws_FnExactMixedGap (N : Nat) (x0 : List Int) (x1 : List Int) : Option (Bool × Unit) :=
  cond (decide ((List.length x0 : Int) > 1048576))
    (some (true, ()))
    (cond (decide ((List.length x1 : Int) > 1048576))
      (some (true, ()))
      (Option.bind (laws_toInt64S N x0) fun r1 =>
      Option.bind (laws_toInt64S N x1) fun r2 =>
      Option.bind (spec_MixedGap N r1.1 r2.1) fun r3 =>
      Option.bind (laws_toInt64S N x0) fun r4 =>
      Option.bind (laws_toInt64S N x1) fun r5 =>
      Option.bind (impl_MixedGap N r4.1 r5.1) fun r6 =>
      cond (r6.1 != r3.1)
        (some (false, ()))
        (cond (!(r6.2.1 == r3.2.1))
          (some (false, ()))
          (Option.bind (laws_toInt64S N x0) fun r7 =>
          Option.bind (laws_eqInt64S N r4.1 r7.1) fun r8 =>
          cond (!r8.1)
            (some (false, ()))
            (Option.bind (laws_toInt64S N x1) fun r9 =>
            Option.bind (laws_eqInt64S N r5.1 r9.1) fun r10 =>
            cond (!r10.1)
              (some (false, ()))
              (some (true, ())))))))
def laws_FnExactMixedGap_e (N : Nat) : Ent := { ins := [(.sl (.int .i64)), (.sl (.int .i64))], outs := [.val .bool], F := fun x => laws_FnExactMixedGap N x.1 x.2.1 }
def laws_FnExactMixedGap_T (N : Nat) : Nat → List Ent
  | 15 => [laws_toInt64S_e N]
  | 17 => [laws_eqInt64S_e N]
  | 18 => [spec_MixedGap_e N]
  | 19 => [impl_MixedGap_e N]
  | _ => []
def laws_FnExactMixedGap_L : Nat → List (Nat × TK) := fun _ => []
theorem laws_FnExactMixedGap_eq (N : Nat) : runF N tt (laws_FnExactMixedGap_T N) laws_FnExactMixedGap_L [(.sl (.int .i64)), (.sl (.int .i64))] [.val .bool] (bodyOf Try.f5) Try.f5.ntmps [4] = (laws_FnExactMixedGap_e N).F := by
  funext x
  kernel_rfl
theorem laws_FnExactMixedGap_sound (N : Nat) : SoundC Try.prog 5 (laws_FnExactMixedGap_e N) := by
  have h := runF_sound (f := 5) (code := bodyOf Try.f5) (N := N) (T := laws_FnExactMixedGap_T N) (L := laws_FnExactMixedGap_L) (ins := [(.sl (.int .i64)), (.sl (.int .i64))]) (outs := [.val .bool]) (res := [4]) mixed tt_ok ?_ Try.func5 (by kernel_rfl) rfl (by kernel_rfl) (by kernel_rfl) (by decide +kernel)
  · rw [laws_FnExactMixedGap_eq] at h
    exact h
  · intro f e he
    unfold laws_FnExactMixedGap_T at he
    split at he
    · rw [List.mem_singleton.1 he]; exact laws_toInt64S_sound N
    · rw [List.mem_singleton.1 he]; exact laws_eqInt64S_sound N
    · rw [List.mem_singleton.1 he]; exact spec_MixedGap_sound N
    · rw [List.mem_singleton.1 he]; exact impl_MixedGap_sound N
    · cases he

end Go.Proofs.Ytgbahgkfjghidaa
