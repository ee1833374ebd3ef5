/-
  The plain functions of this seat, printed by a program, each equal to the evaluator's run, with its contract. No condition.
-/
import Derived.Test.YtgbahgkfjghidaaFwV
import Derived.Test.YtgbahgkfjghidaaChecked
namespace Go.Proofs.Ytgbahgkfjghidaa
open Go Go.Proofs.Ytgbahgkfjghidaa.Fw
set_option maxRecDepth 100000
set_option linter.unusedVariables false

theorem mixed : Try.prog.follows .mixedOrders = true := Try.checked.mixed
def tt : Nat → TD
  | 2 => tdInt .i64
  | 3 => tdInt .i64
  | 4 => tdBool
  | 22 => tdSl (.pair (.int .i64) (.pair (.int .i64) (.pair (.int .i64) (.int .i64)))) 32
  | 25 => tdSl (.pair (.int .i64) (.pair (.int .i64) (.pair (.int .i64) (.int .i64)))) 32
  | 29 => tdSl (.int .i64) 8
  | 41 => tdSt 4 [(0, 1, false), (1, 1, false), (2, 1, false), (3, 1, false)] [.g (.int .i64) (0 : Int), .g (.int .i64) (0 : Int), .g (.int .i64) (0 : Int), .g (.int .i64) (0 : Int)]
  | 43 => tdSt 4 [(0, 1, false), (1, 1, false), (2, 1, false), (3, 1, false)] [.g (.int .i64) (0 : Int), .g (.int .i64) (0 : Int), .g (.int .i64) (0 : Int), .g (.int .i64) (0 : Int)]
  | 49 => tdSt 3 [(0, 1, false), (1, 1, false), (2, 1, false)] [.nil, .g (.int .i64) (0 : Int), .g (.int .i64) (0 : Int)]
  | _ => tdNone
theorem tt_2 : TDok Try.prog 2 (tdInt .i64) := tdok_int (b := 8) (by kernel_rfl) (by kernel_rfl)
theorem tt_3 : TDok Try.prog 3 (tdInt .i64) := tdok_int (b := 8) (by kernel_rfl) (by kernel_rfl)
theorem tt_4 : TDok Try.prog 4 (tdBool) := tdok_bool (b := 1) (by kernel_rfl) (by kernel_rfl)
theorem tt_22 : TDok Try.prog 22 (tdSl (.pair (.int .i64) (.pair (.int .i64) (.pair (.int .i64) (.int .i64)))) 32) := tdok_sl (b := 24) (e := 43) (z := (.agg #[(.int .i64 0), (.int .i64 0), (.int .i64 0), (.int .i64 0)])) (by kernel_rfl) (by kernel_rfl) (by kernel_rfl) (by decide) (fun _ => by kernel_rfl)
theorem tt_25 : TDok Try.prog 25 (tdSl (.pair (.int .i64) (.pair (.int .i64) (.pair (.int .i64) (.int .i64)))) 32) := tdok_sl (b := 24) (e := 41) (z := (.agg #[(.int .i64 0), (.int .i64 0), (.int .i64 0), (.int .i64 0)])) (by kernel_rfl) (by kernel_rfl) (by kernel_rfl) (by decide) (fun _ => by kernel_rfl)
theorem tt_29 : TDok Try.prog 29 (tdSl (.int .i64) 8) := tdok_sl (b := 24) (e := 2) (z := (.int .i64 0)) (by kernel_rfl) (by kernel_rfl) (by kernel_rfl) (by decide) (fun _ => by kernel_rfl)
theorem tt_41 : TDok Try.prog 41 (tdSt 4 [(0, 1, false), (1, 1, false), (2, 1, false), (3, 1, false)] [.g (.int .i64) (0 : Int), .g (.int .i64) (0 : Int), .g (.int .i64) (0 : Int), .g (.int .i64) (0 : Int)]) := tdok_st (b := 32) (z := (.agg #[(.int .i64 0), (.int .i64 0), (.int .i64 0), (.int .i64 0)])) (by kernel_rfl) (by kernel_rfl) (by kernel_rfl) (by kernel_rfl) (by kernel_rfl)
theorem tt_43 : TDok Try.prog 43 (tdSt 4 [(0, 1, false), (1, 1, false), (2, 1, false), (3, 1, false)] [.g (.int .i64) (0 : Int), .g (.int .i64) (0 : Int), .g (.int .i64) (0 : Int), .g (.int .i64) (0 : Int)]) := tdok_st (b := 32) (z := (.agg #[(.int .i64 0), (.int .i64 0), (.int .i64 0), (.int .i64 0)])) (by kernel_rfl) (by kernel_rfl) (by kernel_rfl) (by kernel_rfl) (by kernel_rfl)
theorem tt_49 : TDok Try.prog 49 (tdSt 3 [(0, 1, false), (1, 1, false), (2, 1, false)] [.nil, .g (.int .i64) (0 : Int), .g (.int .i64) (0 : Int)]) := tdok_st (b := 40) (z := (.agg #[(.slice none 0 0), (.int .i64 0), (.int .i64 0)])) (by kernel_rfl) (by kernel_rfl) (by kernel_rfl) (by kernel_rfl) (by kernel_rfl)
theorem tt_ok (t : Nat) : TDok Try.prog t (tt t) := by
  unfold tt
  split
  · exact tt_2
  · exact tt_3
  · exact tt_4
  · exact tt_22
  · exact tt_25
  · exact tt_29
  · exact tt_41
  · exact tt_43
  · exact tt_49
  · exact tdok_none

/- laws.toInt64S -/
def laws_toInt64S (N : Nat) (x0 : List Int) : Option (List (Int) × Unit) :=
  cond (mkOk (List.length x0 : Int) (List.length x0 : Int))
    (let xs1 := (List.replicate (Int.toNat (List.length x0 : Int)) (0 : Int) : List (Int))
    loopN (fun (s2 : List (Int) × Int × Unit) next3 =>
      cond (decide (s2.2.1 < (List.length x0 : Int)))
        (Option.bind (idx x0 s2.2.1) fun v4 =>
        cond (inB s2.2.1 (List.length s2.1))
          (let xs5 := (List.set s2.1 (Int.toNat s2.2.1) v4)
          next3 (xs5, (w64 (s2.2.1 + 1)), ())) none)
        (some (s2.1, ()))) N (xs1, 0, ())) none
def laws_toInt64S_e (N : Nat) : Ent := { ins := [(.sl (.int .i64))], outs := [.own (.int .i64)], F := fun x => laws_toInt64S N x.1 }
def laws_toInt64S_T (_ : Nat) : Nat → List Ent := fun _ => []
def laws_toInt64S_L : Nat → List (Nat × TK)
  | 3 => [(3, .own (.int .i64)), (4, .v (.int .i64))]
  | _ => []
theorem laws_toInt64S_eq (N : Nat) : runF N tt (laws_toInt64S_T N) laws_toInt64S_L [(.sl (.int .i64))] [.own (.int .i64)] (bodyOf Try.f15) Try.f15.ntmps [2] = (laws_toInt64S_e N).F := by
  funext x
  kernel_rfl
theorem laws_toInt64S_sound (N : Nat) : SoundC Try.prog 15 (laws_toInt64S_e N) := by
  have h := runF_sound (f := 15) (code := bodyOf Try.f15) (N := N) (T := laws_toInt64S_T N) (L := laws_toInt64S_L) (ins := [(.sl (.int .i64))]) (outs := [.own (.int .i64)]) (res := [2]) mixed tt_ok ?_ Try.func15 (by kernel_rfl) rfl (by kernel_rfl) (by kernel_rfl) (by decide +kernel)
  · rw [laws_toInt64S_eq] at h
    exact h
  · intro f e he
    cases he

/- laws.eqInt64S -/
def laws_eqInt64S (N : Nat) (x0 : List Int) (x1 : List Int) : Option (Bool × Unit) :=
  cond ((List.length x0 : Int) != (List.length x1 : Int))
    (some (false, ()))
    (loopN (fun (s1 : Int × Unit) next2 =>
      cond (decide (s1.1 < (List.length x0 : Int)))
        (Option.bind (idx x0 s1.1) fun v3 =>
        Option.bind (idx x1 s1.1) fun v4 =>
        cond (v3 != v4)
          (some (false, ()))
          (next2 ((w64 (s1.1 + 1)), ())))
        (some (true, ()))) N (0, ()))
def laws_eqInt64S_e (N : Nat) : Ent := { ins := [(.sl (.int .i64)), (.sl (.int .i64))], outs := [.val .bool], F := fun x => laws_eqInt64S N x.1 x.2.1 }
def laws_eqInt64S_T (_ : Nat) : Nat → List Ent := fun _ => []
def laws_eqInt64S_L : Nat → List (Nat × TK)
  | 4 => [(5, .v (.int .i64))]
  | _ => []
theorem laws_eqInt64S_eq (N : Nat) : runF N tt (laws_eqInt64S_T N) laws_eqInt64S_L [(.sl (.int .i64)), (.sl (.int .i64))] [.val .bool] (bodyOf Try.f17) Try.f17.ntmps [4] = (laws_eqInt64S_e N).F := by
  funext x
  kernel_rfl
theorem laws_eqInt64S_sound (N : Nat) : SoundC Try.prog 17 (laws_eqInt64S_e N) := by
  have h := runF_sound (f := 17) (code := bodyOf Try.f17) (N := N) (T := laws_eqInt64S_T N) (L := laws_eqInt64S_L) (ins := [(.sl (.int .i64)), (.sl (.int .i64))]) (outs := [.val .bool]) (res := [4]) mixed tt_ok ?_ Try.func17 (by kernel_rfl) rfl (by kernel_rfl) (by kernel_rfl) (by decide +kernel)
  · rw [laws_eqInt64S_eq] at h
    exact h
  · intro f e he
    cases he

/- spec.l02Sum -/
def spec_l02Sum (N : Nat) (x0 : List Int) : Option (Int × Unit) :=
  loopN (fun (s1 : Int × Int × Unit) next2 =>
    cond (decide (s1.2.1 < (List.length x0 : Int)))
      (Option.bind (idx x0 s1.2.1) fun v3 =>
      next2 ((w64 (s1.1 + v3)), (w64 (s1.2.1 + 1)), ()))
      (some (s1.1, ()))) N (0, 0, ())
def spec_l02Sum_e (N : Nat) : Ent := { ins := [(.sl (.int .i64))], outs := [.val (.int .i64)], F := fun x => spec_l02Sum N x.1 }
def spec_l02Sum_T (_ : Nat) : Nat → List Ent := fun _ => []
def spec_l02Sum_L : Nat → List (Nat × TK)
  | 3 => [(3, .v (.int .i64)), (4, .v (.int .i64))]
  | _ => []
theorem spec_l02Sum_eq (N : Nat) : runF N tt (spec_l02Sum_T N) spec_l02Sum_L [(.sl (.int .i64))] [.val (.int .i64)] (bodyOf Try.f38) Try.f38.ntmps [2] = (spec_l02Sum_e N).F := by
  funext x
  kernel_rfl
theorem spec_l02Sum_sound (N : Nat) : SoundC Try.prog 38 (spec_l02Sum_e N) := by
  have h := runF_sound (f := 38) (code := bodyOf Try.f38) (N := N) (T := spec_l02Sum_T N) (L := spec_l02Sum_L) (ins := [(.sl (.int .i64))]) (outs := [.val (.int .i64)]) (res := [2]) mixed tt_ok ?_ Try.func38 (by kernel_rfl) rfl (by kernel_rfl) (by kernel_rfl) (by decide +kernel)
  · rw [spec_l02Sum_eq] at h
    exact h
  · intro f e he
    cases he

/- spec.l00In -/
def spec_l00In (_N : Nat) (x0 : Int) (x1 : Int) (x2 : Int) : Option (Bool × Unit) :=
  cond (decide (x0 ≥ x1))
    (some ((decide (x0 ≤ x2)), ()))
    (some (false, ()))
def spec_l00In_e (N : Nat) : Ent := { ins := [(.int .i64), (.int .i64), (.int .i64)], outs := [.val .bool], F := fun x => spec_l00In N x.1 x.2.1 x.2.2.1 }
def spec_l00In_T (_ : Nat) : Nat → List Ent := fun _ => []
def spec_l00In_L : Nat → List (Nat × TK) := fun _ => []
theorem spec_l00In_eq (N : Nat) : runF N tt (spec_l00In_T N) spec_l00In_L [(.int .i64), (.int .i64), (.int .i64)] [.val .bool] (bodyOf Try.f39) Try.f39.ntmps [6] = (spec_l00In_e N).F := by
  funext x
  kernel_rfl
theorem spec_l00In_sound (N : Nat) : SoundC Try.prog 39 (spec_l00In_e N) := by
  have h := runF_sound (f := 39) (code := bodyOf Try.f39) (N := N) (T := spec_l00In_T N) (L := spec_l00In_L) (ins := [(.int .i64), (.int .i64), (.int .i64)]) (outs := [.val .bool]) (res := [6]) mixed tt_ok ?_ Try.func39 (by kernel_rfl) rfl (by kernel_rfl) (by kernel_rfl) (by decide +kernel)
  · rw [spec_l00In_eq] at h
    exact h
  · intro f e he
    cases he

/- spec.l04Counts -/
def spec_l04Counts (N : Nat) (x0 : List Int) : Option (Bool × Unit) :=
  loopN (fun (s1 : Int × Unit) next2 =>
    cond (decide (s1.1 < (List.length x0 : Int)))
      (Option.bind (idx x0 s1.1) fun v3 =>
      Option.bind (spec_l00In N v3 0 16) fun r4 =>
      cond (!r4.1)
        (some (false, ()))
        (next2 ((w64 (s1.1 + 1)), ())))
      (cond (decide ((List.length x0 : Int) ≥ 1))
        (cond (decide ((List.length x0 : Int) ≤ 8))
          (Option.bind (spec_l02Sum N x0) fun r5 =>
          Option.bind (spec_l00In N r5.1 1 64) fun r6 =>
          some (r6.1, ()))
          (some (false, ())))
        (some (false, ())))) N (0, ())
def spec_l04Counts_e (N : Nat) : Ent := { ins := [(.sl (.int .i64))], outs := [.val .bool], F := fun x => spec_l04Counts N x.1 }
def spec_l04Counts_T (N : Nat) : Nat → List Ent
  | 38 => [spec_l02Sum_e N]
  | 39 => [spec_l00In_e N]
  | _ => []
def spec_l04Counts_L : Nat → List (Nat × TK)
  | 2 => [(3, .v (.int .i64))]
  | _ => []
theorem spec_l04Counts_eq (N : Nat) : runF N tt (spec_l04Counts_T N) spec_l04Counts_L [(.sl (.int .i64))] [.val .bool] (bodyOf Try.f37) Try.f37.ntmps [2] = (spec_l04Counts_e N).F := by
  funext x
  kernel_rfl
theorem spec_l04Counts_sound (N : Nat) : SoundC Try.prog 37 (spec_l04Counts_e N) := by
  have h := runF_sound (f := 37) (code := bodyOf Try.f37) (N := N) (T := spec_l04Counts_T N) (L := spec_l04Counts_L) (ins := [(.sl (.int .i64))]) (outs := [.val .bool]) (res := [2]) mixed tt_ok ?_ Try.func37 (by kernel_rfl) rfl (by kernel_rfl) (by kernel_rfl) (by decide +kernel)
  · rw [spec_l04Counts_eq] at h
    exact h
  · intro f e he
    unfold spec_l04Counts_T at he
    split at he
    · rw [List.mem_singleton.1 he]; exact spec_l02Sum_sound N
    · rw [List.mem_singleton.1 he]; exact spec_l00In_sound N
    · cases he

/- spec.l00Max -/
def spec_l00Max (_N : Nat) (x0 : Int) (x1 : Int) : Option (Int × Unit) :=
  cond (decide (x0 > x1))
    (some (x0, ()))
    (some (x1, ()))
def spec_l00Max_e (N : Nat) : Ent := { ins := [(.int .i64), (.int .i64)], outs := [.val (.int .i64)], F := fun x => spec_l00Max N x.1 x.2.1 }
def spec_l00Max_T (_ : Nat) : Nat → List Ent := fun _ => []
def spec_l00Max_L : Nat → List (Nat × TK) := fun _ => []
theorem spec_l00Max_eq (N : Nat) : runF N tt (spec_l00Max_T N) spec_l00Max_L [(.int .i64), (.int .i64)] [.val (.int .i64)] (bodyOf Try.f40) Try.f40.ntmps [4] = (spec_l00Max_e N).F := by
  funext x
  kernel_rfl
theorem spec_l00Max_sound (N : Nat) : SoundC Try.prog 40 (spec_l00Max_e N) := by
  have h := runF_sound (f := 40) (code := bodyOf Try.f40) (N := N) (T := spec_l00Max_T N) (L := spec_l00Max_L) (ins := [(.int .i64), (.int .i64)]) (outs := [.val (.int .i64)]) (res := [4]) mixed tt_ok ?_ Try.func40 (by kernel_rfl) rfl (by kernel_rfl) (by kernel_rfl) (by decide +kernel)
  · rw [spec_l00Max_eq] at h
    exact h
  · intro f e he
    cases he

/- spec.MixedGap -/
def spec_MixedGap (N : Nat) (x0 : List Int) (x1 : List Int) : Option (Int × Bool × Unit) :=
  Option.bind (spec_l04Counts N x0) fun r1 =>
  cond (!r1.1)
    (some (0, false, ()))
    (Option.bind (spec_l02Sum N x0) fun r2 =>
    cond ((List.length x1 : Int) != r2.1)
      (some (0, false, ()))
      (cond (mkOk (List.length x0 : Int) (List.length x0 : Int))
        (let xs3 := (List.replicate (Int.toNat (List.length x0 : Int)) (0 : Int) : List (Int))
        loopN (fun (s4 : List (Int) × Int × Int × Unit) next5 =>
          cond (decide (s4.2.2.1 ≤ (List.length x1 : Int)))
            (Option.bind (idx x1 (w64 (s4.2.2.1 - 1))) fun v6 =>
            Option.bind (spec_l00In N v6 0 (w64 ((List.length x0 : Int) - 1))) fun r7 =>
            cond (!r7.1)
              (some (0, false, ()))
              (Option.bind (idx x1 (w64 (s4.2.2.1 - 1))) fun v8 =>
              cond (inB v8 (List.length s4.1))
                (Option.bind (s4.1[(Int.toNat v8)]?) fun v9 =>
                cond (inB v8 (List.length s4.1))
                  (let xs10 := (List.set s4.1 (Int.toNat v8) (w64 (v9 + 1)))
                  loopN (fun (s11 : Int × Int × Unit) next12 =>
                    cond (decide (s11.2.1 < (List.length x0 : Int)))
                      (Option.bind (idx x0 s11.2.1) fun v13 =>
                      cond (inB s11.2.1 (List.length xs10))
                        (Option.bind (xs10[(Int.toNat s11.2.1)]?) fun v14 =>
                        Option.bind (spec_l00Max N (w64 ((w64 (s4.2.2.1 * v13)) - (w64 ((List.length x1 : Int) * v14)))) (IntKind.wrap .i64 (0 - (w64 ((w64 (s4.2.2.1 * v13)) - (w64 ((List.length x1 : Int) * v14))))))) fun r15 =>
                        Option.bind (spec_l00Max N s11.1 r15.1) fun r16 =>
                        next12 (r16.1, (w64 (s11.2.1 + 1)), ())) none)
                      (next5 (xs10, s11.1, (w64 (s4.2.2.1 + 1)), ()))) N (s4.2.1, 0, ())) none) none))
            (loopN (fun (s17 : Int × Unit) next18 =>
              cond (decide (s17.1 < (List.length x0 : Int)))
                (cond (inB s17.1 (List.length s4.1))
                  (Option.bind (s4.1[(Int.toNat s17.1)]?) fun v19 =>
                  Option.bind (idx x0 s17.1) fun v20 =>
                  cond (v19 != v20)
                    (some (0, false, ()))
                    (next18 ((w64 (s17.1 + 1)), ()))) none)
                (some (s4.2.1, true, ()))) N (0, ()))) N (xs3, 0, 1, ())) none))
def spec_MixedGap_e (N : Nat) : Ent := { ins := [(.sl (.int .i64)), (.sl (.int .i64))], outs := [.val (.int .i64), .val .bool], F := fun x => spec_MixedGap N x.1 x.2.1 }
def spec_MixedGap_T (N : Nat) : Nat → List Ent
  | 37 => [spec_l04Counts_e N]
  | 38 => [spec_l02Sum_e N]
  | 39 => [spec_l00In_e N]
  | 40 => [spec_l00Max_e N]
  | _ => []
def spec_MixedGap_L : Nat → List (Nat × TK)
  | 7 => [(7, .own (.int .i64)), (8, .v (.int .i64)), (9, .v (.int .i64))]
  | 13 => [(8, .v (.int .i64)), (10, .v (.int .i64))]
  | 18 => [(12, .v (.int .i64))]
  | _ => []
theorem spec_MixedGap_eq (N : Nat) : runF N tt (spec_MixedGap_T N) spec_MixedGap_L [(.sl (.int .i64)), (.sl (.int .i64))] [.val (.int .i64), .val .bool] (bodyOf Try.f18) Try.f18.ntmps [4, 5] = (spec_MixedGap_e N).F := by
  funext x
  kernel_rfl
theorem spec_MixedGap_sound (N : Nat) : SoundC Try.prog 18 (spec_MixedGap_e N) := by
  have h := runF_sound (f := 18) (code := bodyOf Try.f18) (N := N) (T := spec_MixedGap_T N) (L := spec_MixedGap_L) (ins := [(.sl (.int .i64)), (.sl (.int .i64))]) (outs := [.val (.int .i64), .val .bool]) (res := [4, 5]) mixed tt_ok ?_ Try.func18 (by kernel_rfl) rfl (by kernel_rfl) (by kernel_rfl) (by decide +kernel)
  · rw [spec_MixedGap_eq] at h
    exact h
  · intro f e he
    unfold spec_MixedGap_T at he
    split at he
    · rw [List.mem_singleton.1 he]; exact spec_l04Counts_sound N
    · rw [List.mem_singleton.1 he]; exact spec_l02Sum_sound N
    · rw [List.mem_singleton.1 he]; exact spec_l00In_sound N
    · rw [List.mem_singleton.1 he]; exact spec_l00Max_sound N
    · cases he

/- impl.within -/
def impl_within (_N : Nat) (x0 : Int) (x1 : Int) (x2 : Int) : Option (Bool × Unit) :=
  cond (decide (x0 ≥ x1))
    (some ((decide (x0 ≤ x2)), ()))
    (some (false, ()))
def impl_within_e (N : Nat) : Ent := { ins := [(.int .i64), (.int .i64), (.int .i64)], outs := [.val .bool], F := fun x => impl_within N x.1 x.2.1 x.2.2.1 }
def impl_within_T (_ : Nat) : Nat → List Ent := fun _ => []
def impl_within_L : Nat → List (Nat × TK) := fun _ => []
theorem impl_within_eq (N : Nat) : runF N tt (impl_within_T N) impl_within_L [(.int .i64), (.int .i64), (.int .i64)] [.val .bool] (bodyOf Try.f28) Try.f28.ntmps [6] = (impl_within_e N).F := by
  funext x
  kernel_rfl
theorem impl_within_sound (N : Nat) : SoundC Try.prog 28 (impl_within_e N) := by
  have h := runF_sound (f := 28) (code := bodyOf Try.f28) (N := N) (T := impl_within_T N) (L := impl_within_L) (ins := [(.int .i64), (.int .i64), (.int .i64)]) (outs := [.val .bool]) (res := [6]) mixed tt_ok ?_ Try.func28 (by kernel_rfl) rfl (by kernel_rfl) (by kernel_rfl) (by decide +kernel)
  · rw [impl_within_eq] at h
    exact h
  · intro f e he
    cases he

/- impl.sumOf -/
def impl_sumOf (N : Nat) (x0 : List Int) : Option (Int × Unit) :=
  loopN (fun (s1 : Int × Int × Unit) next2 =>
    cond (decide (s1.2.1 < (List.length x0 : Int)))
      (Option.bind (idx x0 s1.2.1) fun v3 =>
      next2 ((w64 (s1.1 + v3)), (w64 (s1.2.1 + 1)), ()))
      (some (s1.1, ()))) N (0, 0, ())
def impl_sumOf_e (N : Nat) : Ent := { ins := [(.sl (.int .i64))], outs := [.val (.int .i64)], F := fun x => impl_sumOf N x.1 }
def impl_sumOf_T (_ : Nat) : Nat → List Ent := fun _ => []
def impl_sumOf_L : Nat → List (Nat × TK)
  | 3 => [(3, .v (.int .i64)), (8, .v (.int .i64))]
  | _ => []
theorem impl_sumOf_eq (N : Nat) : runF N tt (impl_sumOf_T N) impl_sumOf_L [(.sl (.int .i64))] [.val (.int .i64)] (bodyOf Try.f42) Try.f42.ntmps [2] = (impl_sumOf_e N).F := by
  funext x
  kernel_rfl
theorem impl_sumOf_sound (N : Nat) : SoundC Try.prog 42 (impl_sumOf_e N) := by
  have h := runF_sound (f := 42) (code := bodyOf Try.f42) (N := N) (T := impl_sumOf_T N) (L := impl_sumOf_L) (ins := [(.sl (.int .i64))]) (outs := [.val (.int .i64)]) (res := [2]) mixed tt_ok ?_ Try.func42 (by kernel_rfl) rfl (by kernel_rfl) (by kernel_rfl) (by decide +kernel)
  · rw [impl_sumOf_eq] at h
    exact h
  · intro f e he
    cases he

/- impl.areWithin -/
def impl_areWithin (N : Nat) (x0 : List Int) (x1 : Int) (x2 : Int) : Option (Bool × Unit) :=
  loopN (fun (s1 : Int × Unit) next2 =>
    cond (decide (s1.1 < (List.length x0 : Int)))
      (Option.bind (idx x0 s1.1) fun v3 =>
      Option.bind (impl_within N v3 x1 x2) fun r4 =>
      cond (!r4.1)
        (some (false, ()))
        (next2 ((w64 (s1.1 + 1)), ())))
      (some (true, ()))) N (0, ())
def impl_areWithin_e (N : Nat) : Ent := { ins := [(.sl (.int .i64)), (.int .i64), (.int .i64)], outs := [.val .bool], F := fun x => impl_areWithin N x.1 x.2.1 x.2.2.1 }
def impl_areWithin_T (N : Nat) : Nat → List Ent
  | 28 => [impl_within_e N]
  | _ => []
def impl_areWithin_L : Nat → List (Nat × TK)
  | 2 => [(11, .v (.int .i64))]
  | _ => []
theorem impl_areWithin_eq (N : Nat) : runF N tt (impl_areWithin_T N) impl_areWithin_L [(.sl (.int .i64)), (.int .i64), (.int .i64)] [.val .bool] (bodyOf Try.f43) Try.f43.ntmps [6] = (impl_areWithin_e N).F := by
  funext x
  kernel_rfl
theorem impl_areWithin_sound (N : Nat) : SoundC Try.prog 43 (impl_areWithin_e N) := by
  have h := runF_sound (f := 43) (code := bodyOf Try.f43) (N := N) (T := impl_areWithin_T N) (L := impl_areWithin_L) (ins := [(.sl (.int .i64)), (.int .i64), (.int .i64)]) (outs := [.val .bool]) (res := [6]) mixed tt_ok ?_ Try.func43 (by kernel_rfl) rfl (by kernel_rfl) (by kernel_rfl) (by decide +kernel)
  · rw [impl_areWithin_eq] at h
    exact h
  · intro f e he
    unfold impl_areWithin_T at he
    split at he
    · rw [List.mem_singleton.1 he]; exact impl_within_sound N
    · cases he

/- impl.areMany -/
def impl_areMany (N : Nat) (x0 : List Int) (x1 : Int) (x2 : Int) (x3 : Int) (x4 : Int) : Option (Bool × Unit) :=
  cond (decide ((List.length x0 : Int) ≥ x1))
    (cond (decide ((List.length x0 : Int) ≤ x2))
      (Option.bind (impl_areWithin N x0 x3 x4) fun r1 =>
      some (r1.1, ()))
      (some (false, ())))
    (some (false, ()))
def impl_areMany_e (N : Nat) : Ent := { ins := [(.sl (.int .i64)), (.int .i64), (.int .i64), (.int .i64), (.int .i64)], outs := [.val .bool], F := fun x => impl_areMany N x.1 x.2.1 x.2.2.1 x.2.2.2.1 x.2.2.2.2.1 }
def impl_areMany_T (N : Nat) : Nat → List Ent
  | 43 => [impl_areWithin_e N]
  | _ => []
def impl_areMany_L : Nat → List (Nat × TK) := fun _ => []
theorem impl_areMany_eq (N : Nat) : runF N tt (impl_areMany_T N) impl_areMany_L [(.sl (.int .i64)), (.int .i64), (.int .i64), (.int .i64), (.int .i64)] [.val .bool] (bodyOf Try.f55) Try.f55.ntmps [10] = (impl_areMany_e N).F := by
  funext x
  kernel_rfl
theorem impl_areMany_sound (N : Nat) : SoundC Try.prog 55 (impl_areMany_e N) := by
  have h := runF_sound (f := 55) (code := bodyOf Try.f55) (N := N) (T := impl_areMany_T N) (L := impl_areMany_L) (ins := [(.sl (.int .i64)), (.int .i64), (.int .i64), (.int .i64), (.int .i64)]) (outs := [.val .bool]) (res := [10]) mixed tt_ok ?_ Try.func55 (by kernel_rfl) rfl (by kernel_rfl) (by kernel_rfl) (by decide +kernel)
  · rw [impl_areMany_eq] at h
    exact h
  · intro f e he
    unfold impl_areMany_T at he
    split at he
    · rw [List.mem_singleton.1 he]; exact impl_areWithin_sound N
    · cases he

/- impl.areCounts -/
def impl_areCounts (N : Nat) (x0 : List Int) : Option (Bool × Unit) :=
  Option.bind (impl_areMany N x0 1 8 0 16) fun r1 =>
  cond r1.1
    (Option.bind (impl_sumOf N x0) fun r2 =>
    Option.bind (impl_within N r2.1 1 64) fun r3 =>
    some (r3.1, ()))
    (some (false, ()))
def impl_areCounts_e (N : Nat) : Ent := { ins := [(.sl (.int .i64))], outs := [.val .bool], F := fun x => impl_areCounts N x.1 }
def impl_areCounts_T (N : Nat) : Nat → List Ent
  | 28 => [impl_within_e N]
  | 42 => [impl_sumOf_e N]
  | 55 => [impl_areMany_e N]
  | _ => []
def impl_areCounts_L : Nat → List (Nat × TK) := fun _ => []
theorem impl_areCounts_eq (N : Nat) : runF N tt (impl_areCounts_T N) impl_areCounts_L [(.sl (.int .i64))] [.val .bool] (bodyOf Try.f41) Try.f41.ntmps [2] = (impl_areCounts_e N).F := by
  funext x
  kernel_rfl
theorem impl_areCounts_sound (N : Nat) : SoundC Try.prog 41 (impl_areCounts_e N) := by
  have h := runF_sound (f := 41) (code := bodyOf Try.f41) (N := N) (T := impl_areCounts_T N) (L := impl_areCounts_L) (ins := [(.sl (.int .i64))]) (outs := [.val .bool]) (res := [2]) mixed tt_ok ?_ Try.func41 (by kernel_rfl) rfl (by kernel_rfl) (by kernel_rfl) (by decide +kernel)
  · rw [impl_areCounts_eq] at h
    exact h
  · intro f e he
    unfold impl_areCounts_T at he
    split at he
    · rw [List.mem_singleton.1 he]; exact impl_within_sound N
    · rw [List.mem_singleton.1 he]; exact impl_sumOf_sound N
    · rw [List.mem_singleton.1 he]; exact impl_areMany_sound N
    · cases he

/- slices.Equal[[]int64,int64] -/
def slices_Equal_int64_int64 (N : Nat) (x0 : List Int) (x1 : List Int) : Option (Bool × Unit) :=
  cond ((List.length x0 : Int) != (List.length x1 : Int))
    (some (false, ()))
    (loopN (fun (s1 : Int × Unit) next2 =>
      cond (decide (s1.1 < (List.length x0 : Int)))
        (Option.bind (idx x0 s1.1) fun v3 =>
        Option.bind (idx x1 s1.1) fun v4 =>
        cond (v3 != v4)
          (some (false, ()))
          (next2 ((w64 (s1.1 + 1)), ())))
        (some (true, ()))) N (0, ()))
def slices_Equal_int64_int64_e (N : Nat) : Ent := { ins := [(.sl (.int .i64)), (.sl (.int .i64))], outs := [.val .bool], F := fun x => slices_Equal_int64_int64 N x.1 x.2.1 }
def slices_Equal_int64_int64_T (_ : Nat) : Nat → List Ent := fun _ => []
def slices_Equal_int64_int64_L : Nat → List (Nat × TK)
  | 4 => [(13, .v (.int .i64))]
  | _ => []
theorem slices_Equal_int64_int64_eq (N : Nat) : runF N tt (slices_Equal_int64_int64_T N) slices_Equal_int64_int64_L [(.sl (.int .i64)), (.sl (.int .i64))] [.val .bool] (bodyOf Try.f44) Try.f44.ntmps [4] = (slices_Equal_int64_int64_e N).F := by
  funext x
  kernel_rfl
theorem slices_Equal_int64_int64_sound (N : Nat) : SoundC Try.prog 44 (slices_Equal_int64_int64_e N) := by
  have h := runF_sound (f := 44) (code := bodyOf Try.f44) (N := N) (T := slices_Equal_int64_int64_T N) (L := slices_Equal_int64_int64_L) (ins := [(.sl (.int .i64)), (.sl (.int .i64))]) (outs := [.val .bool]) (res := [4]) mixed tt_ok ?_ Try.func44 (by kernel_rfl) rfl (by kernel_rfl) (by kernel_rfl) (by decide +kernel)
  · rw [slices_Equal_int64_int64_eq] at h
    exact h
  · intro f e he
    cases he

/- impl.MixedGap -/
def impl_MixedGap (N : Nat) (x0 : List Int) (x1 : List Int) : Option (Int × Bool × Unit) :=
  Option.bind (impl_areCounts N x0) fun r1 =>
  cond (!r1.1)
    (some (0, false, ()))
    (Option.bind (impl_sumOf N x0) fun r2 =>
    cond ((List.length x1 : Int) != r2.1)
      (some (0, false, ()))
      (Option.bind (impl_areWithin N x1 0 (w64 ((List.length x0 : Int) - 1))) fun r3 =>
      cond (!r3.1)
        (some (0, false, ()))
        (Option.bind (impl_sumOf N x0) fun r4 =>
        cond (mkOk (List.length x0 : Int) (List.length x0 : Int))
          (let xs5 := (List.replicate (Int.toNat (List.length x0 : Int)) (0 : Int) : List (Int))
          loopN (fun (s6 : List (Int) × Int × Int × Unit) next7 =>
            cond (decide (s6.2.2.1 < (List.length x1 : Int)))
              (Option.bind (idx x1 s6.2.2.1) fun v8 =>
              cond (inB v8 (List.length s6.1))
                (Option.bind (s6.1[(Int.toNat v8)]?) fun v9 =>
                cond (inB v8 (List.length s6.1))
                  (let xs10 := (List.set s6.1 (Int.toNat v8) (w64 (v9 + 1)))
                  loopN (fun (s11 : Int × Int × Unit) next12 =>
                    cond (decide (s11.2.1 < (List.length x0 : Int)))
                      (Option.bind (idx x0 s11.2.1) fun v13 =>
                      cond (inB s11.2.1 (List.length xs10))
                        (Option.bind (xs10[(Int.toNat s11.2.1)]?) fun v14 =>
                        next12 ((imax (imax s11.1 (w64 ((w64 ((w64 (s6.2.2.1 + 1)) * v13)) - (w64 (r4.1 * v14))))) (IntKind.wrap .i64 (0 - (w64 ((w64 ((w64 (s6.2.2.1 + 1)) * v13)) - (w64 (r4.1 * v14))))))), (w64 (s11.2.1 + 1)), ())) none)
                      (next7 (xs10, s11.1, (w64 (s6.2.2.1 + 1)), ()))) N (s6.2.1, 0, ())) none) none)
              (Option.bind (slices_Equal_int64_int64 N s6.1 x0) fun r15 =>
              cond (!r15.1)
                (some (0, false, ()))
                (some (s6.2.1, true, ())))) N (xs5, 0, 0, ())) none)))
def impl_MixedGap_e (N : Nat) : Ent := { ins := [(.sl (.int .i64)), (.sl (.int .i64))], outs := [.val (.int .i64), .val .bool], F := fun x => impl_MixedGap N x.1 x.2.1 }
def impl_MixedGap_T (N : Nat) : Nat → List Ent
  | 41 => [impl_areCounts_e N]
  | 42 => [impl_sumOf_e N]
  | 43 => [impl_areWithin_e N]
  | 44 => [slices_Equal_int64_int64_e N]
  | _ => []
def impl_MixedGap_L : Nat → List (Nat × TK)
  | 7 => [(7, .own (.int .i64)), (8, .v (.int .i64)), (39, .v (.int .i64))]
  | 11 => [(8, .v (.int .i64)), (52, .v (.int .i64))]
  | _ => []
theorem impl_MixedGap_eq (N : Nat) : runF N tt (impl_MixedGap_T N) impl_MixedGap_L [(.sl (.int .i64)), (.sl (.int .i64))] [.val (.int .i64), .val .bool] (bodyOf Try.f19) Try.f19.ntmps [4, 5] = (impl_MixedGap_e N).F := by
  funext x
  kernel_rfl
theorem impl_MixedGap_sound (N : Nat) : SoundC Try.prog 19 (impl_MixedGap_e N) := by
  have h := runF_sound (f := 19) (code := bodyOf Try.f19) (N := N) (T := impl_MixedGap_T N) (L := impl_MixedGap_L) (ins := [(.sl (.int .i64)), (.sl (.int .i64))]) (outs := [.val (.int .i64), .val .bool]) (res := [4, 5]) mixed tt_ok ?_ Try.func19 (by kernel_rfl) rfl (by kernel_rfl) (by kernel_rfl) (by decide +kernel)
  · rw [impl_MixedGap_eq] at h
    exact h
  · intro f e he
    unfold impl_MixedGap_T at he
    split at he
    · rw [List.mem_singleton.1 he]; exact impl_areCounts_sound N
    · rw [List.mem_singleton.1 he]; exact impl_sumOf_sound N
    · rw [List.mem_singleton.1 he]; exact impl_areWithin_sound N
    · rw [List.mem_singleton.1 he]; exact slices_Equal_int64_int64_sound N
    · cases he

/- laws.FnExactMixedGap -/
def laws_FnExactMixedGap (N : Nat) (x0 : List Int) (x1 : List Int) : Option (Bool × Unit) :=
  cond (decide ((List.length x0 : Int) > 1048576))
    (some (true, ()))
    (cond (decide ((List.length x1 : Int) > 1048576))
      (some (true, ()))
      (Option.bind (laws_toInt64S N x0) fun r1 =>
      Option.bind (laws_toInt64S N x1) fun r2 =>
      Option.bind (spec_MixedGap N r1.1 r2.1) fun r3 =>
      Option.bind (laws_toInt64S N x0) fun r4 =>
      Option.bind (laws_toInt64S N x1) fun r5 =>
      Option.bind (impl_MixedGap N r4.1 r5.1) fun r6 =>
      cond (r6.1 != r3.1)
        (some (false, ()))
        (cond (!(r6.2.1 == r3.2.1))
          (some (false, ()))
          (Option.bind (laws_toInt64S N x0) fun r7 =>
          Option.bind (laws_eqInt64S N r4.1 r7.1) fun r8 =>
          cond (!r8.1)
            (some (false, ()))
            (Option.bind (laws_toInt64S N x1) fun r9 =>
            Option.bind (laws_eqInt64S N r5.1 r9.1) fun r10 =>
            cond (!r10.1)
              (some (false, ()))
              (some (true, ())))))))
def laws_FnExactMixedGap_e (N : Nat) : Ent := { ins := [(.sl (.int .i64)), (.sl (.int .i64))], outs := [.val .bool], F := fun x => laws_FnExactMixedGap N x.1 x.2.1 }
def laws_FnExactMixedGap_T (N : Nat) : Nat → List Ent
  | 15 => [laws_toInt64S_e N]
  | 17 => [laws_eqInt64S_e N]
  | 18 => [spec_MixedGap_e N]
  | 19 => [impl_MixedGap_e N]
  | _ => []
def laws_FnExactMixedGap_L : Nat → List (Nat × TK) := fun _ => []
theorem laws_FnExactMixedGap_eq (N : Nat) : runF N tt (laws_FnExactMixedGap_T N) laws_FnExactMixedGap_L [(.sl (.int .i64)), (.sl (.int .i64))] [.val .bool] (bodyOf Try.f5) Try.f5.ntmps [4] = (laws_FnExactMixedGap_e N).F := by
  funext x
  kernel_rfl
theorem laws_FnExactMixedGap_sound (N : Nat) : SoundC Try.prog 5 (laws_FnExactMixedGap_e N) := by
  have h := runF_sound (f := 5) (code := bodyOf Try.f5) (N := N) (T := laws_FnExactMixedGap_T N) (L := laws_FnExactMixedGap_L) (ins := [(.sl (.int .i64)), (.sl (.int .i64))]) (outs := [.val .bool]) (res := [4]) mixed tt_ok ?_ Try.func5 (by kernel_rfl) rfl (by kernel_rfl) (by kernel_rfl) (by decide +kernel)
  · rw [laws_FnExactMixedGap_eq] at h
    exact h
  · intro f e he
    unfold laws_FnExactMixedGap_T at he
    split at he
    · rw [List.mem_singleton.1 he]; exact laws_toInt64S_sound N
    · rw [List.mem_singleton.1 he]; exact laws_eqInt64S_sound N
    · rw [List.mem_singleton.1 he]; exact spec_MixedGap_sound N
    · rw [List.mem_singleton.1 he]; exact impl_MixedGap_sound N
    · cases he

/- spec.l02Machines -/
def spec_l02Machines (N : Nat) (x0 : Int) : Option (Bool × Unit) :=
  Option.bind (spec_l00In N x0 1 8) fun r1 =>
  some (r1.1, ())
def spec_l02Machines_e (N : Nat) : Ent := { ins := [(.int .i64)], outs := [.val .bool], F := fun x => spec_l02Machines N x.1 }
def spec_l02Machines_T (N : Nat) : Nat → List Ent
  | 39 => [spec_l00In_e N]
  | _ => []
def spec_l02Machines_L : Nat → List (Nat × TK) := fun _ => []
theorem spec_l02Machines_eq (N : Nat) : runF N tt (spec_l02Machines_T N) spec_l02Machines_L [(.int .i64)] [.val .bool] (bodyOf Try.f61) Try.f61.ntmps [2] = (spec_l02Machines_e N).F := by
  funext x
  kernel_rfl
theorem spec_l02Machines_sound (N : Nat) : SoundC Try.prog 61 (spec_l02Machines_e N) := by
  have h := runF_sound (f := 61) (code := bodyOf Try.f61) (N := N) (T := spec_l02Machines_T N) (L := spec_l02Machines_L) (ins := [(.int .i64)]) (outs := [.val .bool]) (res := [2]) mixed tt_ok ?_ Try.func61 (by kernel_rfl) rfl (by kernel_rfl) (by kernel_rfl) (by decide +kernel)
  · rw [spec_l02Machines_eq] at h
    exact h
  · intro f e he
    unfold spec_l02Machines_T at he
    split at he
    · rw [List.mem_singleton.1 he]; exact spec_l00In_sound N
    · cases he

/- spec.l02Unlike -/
def spec_l02Unlike (N : Nat) (x0 : List Int) (x1 : Int) : Option (Bool × Unit) :=
  Option.bind (spec_l02Machines N x1) fun r1 =>
  cond (!r1.1)
    (some (false, ()))
    (cond (decide ((List.length x0 : Int) < 1))
      (some (false, ()))
      (cond (x1 == 0) none
        (cond ((Int.tmod (List.length x0 : Int) x1) != 0)
          (some (false, ()))
          (cond (x1 == 0) none
            (cond (decide ((w64 (Int.tdiv (List.length x0 : Int) x1)) > 24))
              (some (false, ()))
              (loopN (fun (s2 : Int × Unit) next3 =>
                cond (decide (s2.1 < (List.length x0 : Int)))
                  (Option.bind (idx x0 s2.1) fun v4 =>
                  Option.bind (spec_l00In N v4 1 10000) fun r5 =>
                  cond (!r5.1)
                    (some (false, ()))
                    (next3 ((w64 (s2.1 + 1)), ())))
                  (some (true, ()))) N (0, ())))))))
def spec_l02Unlike_e (N : Nat) : Ent := { ins := [(.sl (.int .i64)), (.int .i64)], outs := [.val .bool], F := fun x => spec_l02Unlike N x.1 x.2.1 }
def spec_l02Unlike_T (N : Nat) : Nat → List Ent
  | 39 => [spec_l00In_e N]
  | 61 => [spec_l02Machines_e N]
  | _ => []
def spec_l02Unlike_L : Nat → List (Nat × TK)
  | 5 => [(6, .v (.int .i64))]
  | _ => []
theorem spec_l02Unlike_eq (N : Nat) : runF N tt (spec_l02Unlike_T N) spec_l02Unlike_L [(.sl (.int .i64)), (.int .i64)] [.val .bool] (bodyOf Try.f53) Try.f53.ntmps [4] = (spec_l02Unlike_e N).F := by
  funext x
  kernel_rfl
theorem spec_l02Unlike_sound (N : Nat) : SoundC Try.prog 53 (spec_l02Unlike_e N) := by
  have h := runF_sound (f := 53) (code := bodyOf Try.f53) (N := N) (T := spec_l02Unlike_T N) (L := spec_l02Unlike_L) (ins := [(.sl (.int .i64)), (.int .i64)]) (outs := [.val .bool]) (res := [4]) mixed tt_ok ?_ Try.func53 (by kernel_rfl) rfl (by kernel_rfl) (by kernel_rfl) (by decide +kernel)
  · rw [spec_l02Unlike_eq] at h
    exact h
  · intro f e he
    unfold spec_l02Unlike_T at he
    split at he
    · rw [List.mem_singleton.1 he]; exact spec_l00In_sound N
    · rw [List.mem_singleton.1 he]; exact spec_l02Machines_sound N
    · cases he

/- spec.l04Can -/
def spec_l04Can (N : Nat) (x0 : List Int) (x1 : Int) : Option (Bool × Unit) :=
  Option.bind (spec_l02Unlike N x0 x1) fun r1 =>
  some (r1.1, ())
def spec_l04Can_e (N : Nat) : Ent := { ins := [(.sl (.int .i64)), (.int .i64)], outs := [.val .bool], F := fun x => spec_l04Can N x.1 x.2.1 }
def spec_l04Can_T (N : Nat) : Nat → List Ent
  | 53 => [spec_l02Unlike_e N]
  | _ => []
def spec_l04Can_L : Nat → List (Nat × TK) := fun _ => []
theorem spec_l04Can_eq (N : Nat) : runF N tt (spec_l04Can_T N) spec_l04Can_L [(.sl (.int .i64)), (.int .i64)] [.val .bool] (bodyOf Try.f31) Try.f31.ntmps [4] = (spec_l04Can_e N).F := by
  funext x
  kernel_rfl
theorem spec_l04Can_sound (N : Nat) : SoundC Try.prog 31 (spec_l04Can_e N) := by
  have h := runF_sound (f := 31) (code := bodyOf Try.f31) (N := N) (T := spec_l04Can_T N) (L := spec_l04Can_L) (ins := [(.sl (.int .i64)), (.int .i64)]) (outs := [.val .bool]) (res := [4]) mixed tt_ok ?_ Try.func31 (by kernel_rfl) rfl (by kernel_rfl) (by kernel_rfl) (by decide +kernel)
  · rw [spec_l04Can_eq] at h
    exact h
  · intro f e he
    unfold spec_l04Can_T at he
    split at he
    · rw [List.mem_singleton.1 he]; exact spec_l02Unlike_sound N
    · cases he

/- spec.l04Count -/
def spec_l04Count (_N : Nat) (x0 : List Int) (x1 : Int) : Option (Int × Unit) :=
  cond (x1 == 0) none
    (some ((w64 (Int.tdiv (List.length x0 : Int) x1)), ()))
def spec_l04Count_e (N : Nat) : Ent := { ins := [(.sl (.int .i64)), (.int .i64)], outs := [.val (.int .i64)], F := fun x => spec_l04Count N x.1 x.2.1 }
def spec_l04Count_T (_ : Nat) : Nat → List Ent := fun _ => []
def spec_l04Count_L : Nat → List (Nat × TK) := fun _ => []
theorem spec_l04Count_eq (N : Nat) : runF N tt (spec_l04Count_T N) spec_l04Count_L [(.sl (.int .i64)), (.int .i64)] [.val (.int .i64)] (bodyOf Try.f45) Try.f45.ntmps [4] = (spec_l04Count_e N).F := by
  funext x
  kernel_rfl
theorem spec_l04Count_sound (N : Nat) : SoundC Try.prog 45 (spec_l04Count_e N) := by
  have h := runF_sound (f := 45) (code := bodyOf Try.f45) (N := N) (T := spec_l04Count_T N) (L := spec_l04Count_L) (ins := [(.sl (.int .i64)), (.int .i64)]) (outs := [.val (.int .i64)]) (res := [4]) mixed tt_ok ?_ Try.func45 (by kernel_rfl) rfl (by kernel_rfl) (by kernel_rfl) (by decide +kernel)
  · rw [spec_l04Count_eq] at h
    exact h
  · intro f e he
    cases he

/- spec.FlowBound -/
def spec_FlowBound (N : Nat) (x0 : List Int) (x1 : Int) : Option (Int × Bool × Unit) :=
  Option.bind (spec_l04Can N x0 x1) fun r1 =>
  cond (!r1.1)
    (some (0, false, ()))
    (Option.bind (spec_l04Count N x0 x1) fun r2 =>
    loopN (fun (s3 : Int × Int × Unit) next4 =>
      cond (decide (s3.2.1 < x1))
        (loopN (fun (s5 : Int × Int × Int × Int × Unit) next6 =>
          cond (decide (s5.2.2.2.1 < r2.1))
            (Option.bind (idx x0 (w64 ((w64 (s5.2.2.2.1 * x1)) + s3.2.1))) fun v7 =>
            cond (decide (0 ≤ (w64 (s5.2.2.2.1 * x1))) && decide ((w64 (s5.2.2.2.1 * x1)) ≤ (w64 ((w64 (s5.2.2.2.1 * x1)) + s3.2.1))) && decide ((w64 ((w64 (s5.2.2.2.1 * x1)) + s3.2.1)) ≤ (List.length x0 : Int)))
              (Option.bind (spec_l02Sum N (List.drop (Int.toNat (w64 (s5.2.2.2.1 * x1))) (List.take (Int.toNat (w64 ((w64 (s5.2.2.2.1 * x1)) + s3.2.1))) x0))) fun r8 =>
              cond (decide (0 ≤ (w64 ((w64 ((w64 (s5.2.2.2.1 * x1)) + s3.2.1)) + 1))) && decide ((w64 ((w64 ((w64 (s5.2.2.2.1 * x1)) + s3.2.1)) + 1)) ≤ (w64 ((w64 (s5.2.2.2.1 + 1)) * x1))) && decide ((w64 ((w64 (s5.2.2.2.1 + 1)) * x1)) ≤ (List.length x0 : Int)))
                (Option.bind (spec_l02Sum N (List.drop (Int.toNat (w64 ((w64 ((w64 (s5.2.2.2.1 * x1)) + s3.2.1)) + 1))) (List.take (Int.toNat (w64 ((w64 (s5.2.2.2.1 + 1)) * x1))) x0))) fun r9 =>
                cond (decide (s5.2.1 < 0))
                  (cond (decide (s5.2.2.1 < 0))
                    (next6 ((w64 (s5.1 + v7)), r8.1, r9.1, (w64 (s5.2.2.2.1 + 1)), ()))
                    (cond (decide (r9.1 < s5.2.2.1))
                      (next6 ((w64 (s5.1 + v7)), r8.1, r9.1, (w64 (s5.2.2.2.1 + 1)), ()))
                      (next6 ((w64 (s5.1 + v7)), r8.1, s5.2.2.1, (w64 (s5.2.2.2.1 + 1)), ()))))
                  (cond (decide (r8.1 < s5.2.1))
                    (cond (decide (s5.2.2.1 < 0))
                      (next6 ((w64 (s5.1 + v7)), r8.1, r9.1, (w64 (s5.2.2.2.1 + 1)), ()))
                      (cond (decide (r9.1 < s5.2.2.1))
                        (next6 ((w64 (s5.1 + v7)), r8.1, r9.1, (w64 (s5.2.2.2.1 + 1)), ()))
                        (next6 ((w64 (s5.1 + v7)), r8.1, s5.2.2.1, (w64 (s5.2.2.2.1 + 1)), ()))))
                    (cond (decide (s5.2.2.1 < 0))
                      (next6 ((w64 (s5.1 + v7)), s5.2.1, r9.1, (w64 (s5.2.2.2.1 + 1)), ()))
                      (cond (decide (r9.1 < s5.2.2.1))
                        (next6 ((w64 (s5.1 + v7)), s5.2.1, r9.1, (w64 (s5.2.2.2.1 + 1)), ()))
                        (next6 ((w64 (s5.1 + v7)), s5.2.1, s5.2.2.1, (w64 (s5.2.2.2.1 + 1)), ())))))) none) none)
            (Option.bind (spec_l00Max N s3.1 (w64 ((w64 (s5.2.1 + s5.1)) + s5.2.2.1))) fun r10 =>
            next4 (r10.1, (w64 (s3.2.1 + 1)), ()))) N (0, (-1), (-1), 0, ()))
        (some (s3.1, true, ()))) N (0, 0, ()))
def spec_FlowBound_e (N : Nat) : Ent := { ins := [(.sl (.int .i64)), (.int .i64)], outs := [.val (.int .i64), .val .bool], F := fun x => spec_FlowBound N x.1 x.2.1 }
def spec_FlowBound_T (N : Nat) : Nat → List Ent
  | 31 => [spec_l04Can_e N]
  | 38 => [spec_l02Sum_e N]
  | 40 => [spec_l00Max_e N]
  | 45 => [spec_l04Count_e N]
  | _ => []
def spec_FlowBound_L : Nat → List (Nat × TK)
  | 6 => [(7, .v (.int .i64)), (8, .v (.int .i64))]
  | 12 => [(9, .v (.int .i64)), (10, .v (.int .i64)), (11, .v (.int .i64)), (12, .v (.int .i64))]
  | _ => []
theorem spec_FlowBound_eq (N : Nat) : runF N tt (spec_FlowBound_T N) spec_FlowBound_L [(.sl (.int .i64)), (.int .i64)] [.val (.int .i64), .val .bool] (bodyOf Try.f20) Try.f20.ntmps [4, 5] = (spec_FlowBound_e N).F := by
  funext x
  kernel_rfl
theorem spec_FlowBound_sound (N : Nat) : SoundC Try.prog 20 (spec_FlowBound_e N) := by
  have h := runF_sound (f := 20) (code := bodyOf Try.f20) (N := N) (T := spec_FlowBound_T N) (L := spec_FlowBound_L) (ins := [(.sl (.int .i64)), (.int .i64)]) (outs := [.val (.int .i64), .val .bool]) (res := [4, 5]) mixed tt_ok ?_ Try.func20 (by kernel_rfl) rfl (by kernel_rfl) (by kernel_rfl) (by decide +kernel)
  · rw [spec_FlowBound_eq] at h
    exact h
  · intro f e he
    unfold spec_FlowBound_T at he
    split at he
    · rw [List.mem_singleton.1 he]; exact spec_l04Can_sound N
    · rw [List.mem_singleton.1 he]; exact spec_l02Sum_sound N
    · rw [List.mem_singleton.1 he]; exact spec_l00Max_sound N
    · rw [List.mem_singleton.1 he]; exact spec_l04Count_sound N
    · cases he

/- impl.areMachines -/
def impl_areMachines (N : Nat) (x0 : Int) : Option (Bool × Unit) :=
  Option.bind (impl_within N x0 1 8) fun r1 =>
  some (r1.1, ())
def impl_areMachines_e (N : Nat) : Ent := { ins := [(.int .i64)], outs := [.val .bool], F := fun x => impl_areMachines N x.1 }
def impl_areMachines_T (N : Nat) : Nat → List Ent
  | 28 => [impl_within_e N]
  | _ => []
def impl_areMachines_L : Nat → List (Nat × TK) := fun _ => []
theorem impl_areMachines_eq (N : Nat) : runF N tt (impl_areMachines_T N) impl_areMachines_L [(.int .i64)] [.val .bool] (bodyOf Try.f62) Try.f62.ntmps [2] = (impl_areMachines_e N).F := by
  funext x
  kernel_rfl
theorem impl_areMachines_sound (N : Nat) : SoundC Try.prog 62 (impl_areMachines_e N) := by
  have h := runF_sound (f := 62) (code := bodyOf Try.f62) (N := N) (T := impl_areMachines_T N) (L := impl_areMachines_L) (ins := [(.int .i64)]) (outs := [.val .bool]) (res := [2]) mixed tt_ok ?_ Try.func62 (by kernel_rfl) rfl (by kernel_rfl) (by kernel_rfl) (by decide +kernel)
  · rw [impl_areMachines_eq] at h
    exact h
  · intro f e he
    unfold impl_areMachines_T at he
    split at he
    · rw [List.mem_singleton.1 he]; exact impl_within_sound N
    · cases he

/- impl.unlikeJobs -/
def impl_unlikeJobs (N : Nat) (x0 : List Int) (x1 : Int) : Option (Int × Bool × Unit) :=
  Option.bind (impl_areMachines N x1) fun r1 =>
  cond (!r1.1)
    (some (0, false, ()))
    (cond (x1 == 0) none
      (cond ((Int.tmod (List.length x0 : Int) x1) != 0)
        (some (0, false, ()))
        (Option.bind (impl_areWithin N x0 1 10000) fun r2 =>
        cond (!r2.1)
          (some (0, false, ()))
          (cond (x1 == 0) none
            (cond (decide ((w64 (Int.tdiv (List.length x0 : Int) x1)) ≥ 1))
              (some ((w64 (Int.tdiv (List.length x0 : Int) x1)), (decide ((w64 (Int.tdiv (List.length x0 : Int) x1)) ≤ 24)), ()))
              (some ((w64 (Int.tdiv (List.length x0 : Int) x1)), false, ())))))))
def impl_unlikeJobs_e (N : Nat) : Ent := { ins := [(.sl (.int .i64)), (.int .i64)], outs := [.val (.int .i64), .val .bool], F := fun x => impl_unlikeJobs N x.1 x.2.1 }
def impl_unlikeJobs_T (N : Nat) : Nat → List Ent
  | 43 => [impl_areWithin_e N]
  | 62 => [impl_areMachines_e N]
  | _ => []
def impl_unlikeJobs_L : Nat → List (Nat × TK) := fun _ => []
theorem impl_unlikeJobs_eq (N : Nat) : runF N tt (impl_unlikeJobs_T N) impl_unlikeJobs_L [(.sl (.int .i64)), (.int .i64)] [.val (.int .i64), .val .bool] (bodyOf Try.f54) Try.f54.ntmps [4, 5] = (impl_unlikeJobs_e N).F := by
  funext x
  kernel_rfl
theorem impl_unlikeJobs_sound (N : Nat) : SoundC Try.prog 54 (impl_unlikeJobs_e N) := by
  have h := runF_sound (f := 54) (code := bodyOf Try.f54) (N := N) (T := impl_unlikeJobs_T N) (L := impl_unlikeJobs_L) (ins := [(.sl (.int .i64)), (.int .i64)]) (outs := [.val (.int .i64), .val .bool]) (res := [4, 5]) mixed tt_ok ?_ Try.func54 (by kernel_rfl) rfl (by kernel_rfl) (by kernel_rfl) (by decide +kernel)
  · rw [impl_unlikeJobs_eq] at h
    exact h
  · intro f e he
    unfold impl_unlikeJobs_T at he
    split at he
    · rw [List.mem_singleton.1 he]; exact impl_areWithin_sound N
    · rw [List.mem_singleton.1 he]; exact impl_areMachines_sound N
    · cases he

/- impl.asShop -/
def impl_asShop (N : Nat) (x0 : List Int) (x1 : Int) : Option ((List Int × Int × Int) × Bool × Unit) :=
  Option.bind (impl_unlikeJobs N x0 x1) fun r1 =>
  some ((x0, (r1.1, x1)), r1.2.1, ())
def impl_asShop_e (N : Nat) : Ent := { ins := [(.sl (.int .i64)), (.int .i64)], outs := [.val (.pair (.sl (.int .i64)) (.pair (.int .i64) (.int .i64))), .val .bool], F := fun x => impl_asShop N x.1 x.2.1 }
def impl_asShop_T (N : Nat) : Nat → List Ent
  | 54 => [impl_unlikeJobs_e N]
  | _ => []
def impl_asShop_L : Nat → List (Nat × TK) := fun _ => []
theorem impl_asShop_eq (N : Nat) : runC N tt (impl_asShop_T N) impl_asShop_L [(.sl (.int .i64)), (.int .i64)] [.val (.pair (.sl (.int .i64)) (.pair (.int .i64) (.int .i64))), .val .bool] (bodyOf Try.f34) Try.f34.ntmps [4, 5] [(4, 49)] = (impl_asShop_e N).F := by
  funext x
  kernel_rfl
theorem impl_asShop_sound (N : Nat) : SoundC Try.prog 34 (impl_asShop_e N) := by
  have h := runC_sound (f := 34) (code := bodyOf Try.f34) (N := N) (T := impl_asShop_T N) (L := impl_asShop_L) (ins := [(.sl (.int .i64)), (.int .i64)]) (outs := [.val (.pair (.sl (.int .i64)) (.pair (.int .i64) (.int .i64))), .val .bool]) (res := [4, 5]) (rs := [.cell 4 49, .tmp 5]) (cells := [(4, 49)]) mixed tt_ok ?_ Try.func34 (by kernel_rfl) rfl (by kernel_rfl) (by kernel_rfl) rfl rfl (by decide) (by decide +kernel) (by decide +kernel)
  · rw [impl_asShop_eq] at h
    exact h
  · intro f e he
    unfold impl_asShop_T at he
    split at he
    · rw [List.mem_singleton.1 he]; exact impl_unlikeJobs_sound N
    · cases he

/- (impl.shop).at -/
def impl_shop_at (_N : Nat) (x0 : List Int × Int × Int) (x1 : Int) (x2 : Int) : Option (Int × Unit) :=
  Option.bind (idx x0.1 (w64 ((w64 (x1 * x0.2.2)) + x2))) fun v1 =>
  some (v1, ())
def impl_shop_at_e (N : Nat) : Ent := { ins := [(.pair (.sl (.int .i64)) (.pair (.int .i64) (.int .i64))), (.int .i64), (.int .i64)], outs := [.val (.int .i64)], F := fun x => impl_shop_at N x.1 x.2.1 x.2.2.1 }
def impl_shop_at_T (_ : Nat) : Nat → List Ent := fun _ => []
def impl_shop_at_L : Nat → List (Nat × TK) := fun _ => []
theorem impl_shop_at_eq (N : Nat) : runF N tt (impl_shop_at_T N) impl_shop_at_L [(.pair (.sl (.int .i64)) (.pair (.int .i64) (.int .i64))), (.int .i64), (.int .i64)] [.val (.int .i64)] (bodyOf Try.f51) Try.f51.ntmps [6] = (impl_shop_at_e N).F := by
  funext x
  kernel_rfl
theorem impl_shop_at_sound (N : Nat) : SoundC Try.prog 51 (impl_shop_at_e N) := by
  have h := runF_sound (f := 51) (code := bodyOf Try.f51) (N := N) (T := impl_shop_at_T N) (L := impl_shop_at_L) (ins := [(.pair (.sl (.int .i64)) (.pair (.int .i64) (.int .i64))), (.int .i64), (.int .i64)]) (outs := [.val (.int .i64)]) (res := [6]) mixed tt_ok ?_ Try.func51 (by kernel_rfl) rfl (by kernel_rfl) (by kernel_rfl) (by decide +kernel)
  · rw [impl_shop_at_eq] at h
    exact h
  · intro f e he
    cases he

/- (impl.shop).on -/
def impl_shop_on (N : Nat) (x0 : List Int × Int × Int) (x1 : Int) : Option (Int × Unit) :=
  loopN (fun (s1 : Int × Int × Unit) next2 =>
    cond (decide (s1.2.1 < x0.2.1))
      (Option.bind (impl_shop_at N (x0.1, (x0.2.1, x0.2.2)) s1.2.1 x1) fun r3 =>
      next2 ((w64 (s1.1 + r3.1)), (w64 (s1.2.1 + 1)), ()))
      (some (s1.1, ()))) N (0, 0, ())
def impl_shop_on_e (N : Nat) : Ent := { ins := [(.pair (.sl (.int .i64)) (.pair (.int .i64) (.int .i64))), (.int .i64)], outs := [.val (.int .i64)], F := fun x => impl_shop_on N x.1 x.2.1 }
def impl_shop_on_T (N : Nat) : Nat → List Ent
  | 51 => [impl_shop_at_e N]
  | _ => []
def impl_shop_on_L : Nat → List (Nat × TK)
  | 3 => [(5, .v (.int .i64)), (9, .v (.int .i64))]
  | _ => []
theorem impl_shop_on_eq (N : Nat) : runF N tt (impl_shop_on_T N) impl_shop_on_L [(.pair (.sl (.int .i64)) (.pair (.int .i64) (.int .i64))), (.int .i64)] [.val (.int .i64)] (bodyOf Try.f46) Try.f46.ntmps [4] = (impl_shop_on_e N).F := by
  funext x
  kernel_rfl
theorem impl_shop_on_sound (N : Nat) : SoundC Try.prog 46 (impl_shop_on_e N) := by
  have h := runF_sound (f := 46) (code := bodyOf Try.f46) (N := N) (T := impl_shop_on_T N) (L := impl_shop_on_L) (ins := [(.pair (.sl (.int .i64)) (.pair (.int .i64) (.int .i64))), (.int .i64)]) (outs := [.val (.int .i64)]) (res := [4]) mixed tt_ok ?_ Try.func46 (by kernel_rfl) rfl (by kernel_rfl) (by kernel_rfl) (by decide +kernel)
  · rw [impl_shop_on_eq] at h
    exact h
  · intro f e he
    unfold impl_shop_on_T at he
    split at he
    · rw [List.mem_singleton.1 he]; exact impl_shop_at_sound N
    · cases he

/- impl.FlowBound -/
def impl_FlowBound (N : Nat) (x0 : List Int) (x1 : Int) : Option (Int × Bool × Unit) :=
  Option.bind (impl_asShop N x0 x1) fun r1 =>
  cond (!r1.2.1)
    (some (0, false, ()))
    (loopN (fun (s2 : Int × Int × Unit) next3 =>
      cond (decide (s2.2.1 < r1.1.2.2))
        (loopN (fun (s4 : Int × Int × Int × Unit) next5 =>
          cond (decide (s4.2.2.1 < r1.1.2.1))
            (cond (decide (0 ≤ (w64 (s4.2.2.1 * r1.1.2.2))) && decide ((w64 (s4.2.2.1 * r1.1.2.2)) ≤ (w64 ((w64 (s4.2.2.1 + 1)) * r1.1.2.2))) && decide ((w64 ((w64 (s4.2.2.1 + 1)) * r1.1.2.2)) ≤ (List.length r1.1.1 : Int)))
              (cond (decide (0 ≤ s2.2.1) && decide (s2.2.1 ≤ (List.length (List.drop (Int.toNat (w64 (s4.2.2.1 * r1.1.2.2))) (List.take (Int.toNat (w64 ((w64 (s4.2.2.1 + 1)) * r1.1.2.2))) r1.1.1)) : Int)))
                (Option.bind (impl_sumOf N (List.take (Int.toNat s2.2.1) (List.drop (Int.toNat (w64 (s4.2.2.1 * r1.1.2.2))) (List.take (Int.toNat (w64 ((w64 (s4.2.2.1 + 1)) * r1.1.2.2))) r1.1.1)))) fun r6 =>
                cond (decide (s4.1 < 0))
                  (cond (decide (0 ≤ (w64 (s2.2.1 + 1))) && decide ((w64 (s2.2.1 + 1)) ≤ (List.length (List.drop (Int.toNat (w64 (s4.2.2.1 * r1.1.2.2))) (List.take (Int.toNat (w64 ((w64 (s4.2.2.1 + 1)) * r1.1.2.2))) r1.1.1)) : Int)))
                    (Option.bind (impl_sumOf N (List.drop (Int.toNat (w64 (s2.2.1 + 1))) (List.drop (Int.toNat (w64 (s4.2.2.1 * r1.1.2.2))) (List.take (Int.toNat (w64 ((w64 (s4.2.2.1 + 1)) * r1.1.2.2))) r1.1.1)))) fun r7 =>
                    cond (decide (s4.2.1 < 0))
                      (next5 (r6.1, r7.1, (w64 (s4.2.2.1 + 1)), ()))
                      (cond (decide (r7.1 < s4.2.1))
                        (next5 (r6.1, r7.1, (w64 (s4.2.2.1 + 1)), ()))
                        (next5 (r6.1, s4.2.1, (w64 (s4.2.2.1 + 1)), ())))) none)
                  (cond (decide (r6.1 < s4.1))
                    (cond (decide (0 ≤ (w64 (s2.2.1 + 1))) && decide ((w64 (s2.2.1 + 1)) ≤ (List.length (List.drop (Int.toNat (w64 (s4.2.2.1 * r1.1.2.2))) (List.take (Int.toNat (w64 ((w64 (s4.2.2.1 + 1)) * r1.1.2.2))) r1.1.1)) : Int)))
                      (Option.bind (impl_sumOf N (List.drop (Int.toNat (w64 (s2.2.1 + 1))) (List.drop (Int.toNat (w64 (s4.2.2.1 * r1.1.2.2))) (List.take (Int.toNat (w64 ((w64 (s4.2.2.1 + 1)) * r1.1.2.2))) r1.1.1)))) fun r8 =>
                      cond (decide (s4.2.1 < 0))
                        (next5 (r6.1, r8.1, (w64 (s4.2.2.1 + 1)), ()))
                        (cond (decide (r8.1 < s4.2.1))
                          (next5 (r6.1, r8.1, (w64 (s4.2.2.1 + 1)), ()))
                          (next5 (r6.1, s4.2.1, (w64 (s4.2.2.1 + 1)), ())))) none)
                    (cond (decide (0 ≤ (w64 (s2.2.1 + 1))) && decide ((w64 (s2.2.1 + 1)) ≤ (List.length (List.drop (Int.toNat (w64 (s4.2.2.1 * r1.1.2.2))) (List.take (Int.toNat (w64 ((w64 (s4.2.2.1 + 1)) * r1.1.2.2))) r1.1.1)) : Int)))
                      (Option.bind (impl_sumOf N (List.drop (Int.toNat (w64 (s2.2.1 + 1))) (List.drop (Int.toNat (w64 (s4.2.2.1 * r1.1.2.2))) (List.take (Int.toNat (w64 ((w64 (s4.2.2.1 + 1)) * r1.1.2.2))) r1.1.1)))) fun r9 =>
                      cond (decide (s4.2.1 < 0))
                        (next5 (s4.1, r9.1, (w64 (s4.2.2.1 + 1)), ()))
                        (cond (decide (r9.1 < s4.2.1))
                          (next5 (s4.1, r9.1, (w64 (s4.2.2.1 + 1)), ()))
                          (next5 (s4.1, s4.2.1, (w64 (s4.2.2.1 + 1)), ())))) none))) none) none)
            (Option.bind (impl_shop_on N (r1.1.1, (r1.1.2.1, r1.1.2.2)) s2.2.1) fun r10 =>
            next3 ((imax s2.1 (w64 ((w64 (r10.1 + s4.1)) + s4.2.1))), (w64 (s2.2.1 + 1)), ()))) N ((-1), (-1), 0, ()))
        (some (s2.1, true, ()))) N (0, 0, ()))
def impl_FlowBound_e (N : Nat) : Ent := { ins := [(.sl (.int .i64)), (.int .i64)], outs := [.val (.int .i64), .val .bool], F := fun x => impl_FlowBound N x.1 x.2.1 }
def impl_FlowBound_T (N : Nat) : Nat → List Ent
  | 34 => [impl_asShop_e N]
  | 42 => [impl_sumOf_e N]
  | 46 => [impl_shop_on_e N]
  | _ => []
def impl_FlowBound_L : Nat → List (Nat × TK)
  | 6 => [(8, .v (.int .i64)), (26, .v (.int .i64))]
  | 10 => [(10, .v (.int .i64)), (11, .v (.int .i64)), (31, .v (.int .i64))]
  | _ => []
theorem impl_FlowBound_eq (N : Nat) : runF N tt (impl_FlowBound_T N) impl_FlowBound_L [(.sl (.int .i64)), (.int .i64)] [.val (.int .i64), .val .bool] (bodyOf Try.f21) Try.f21.ntmps [4, 5] = (impl_FlowBound_e N).F := by
  funext x
  kernel_rfl
theorem impl_FlowBound_sound (N : Nat) : SoundC Try.prog 21 (impl_FlowBound_e N) := by
  have h := runF_sound (f := 21) (code := bodyOf Try.f21) (N := N) (T := impl_FlowBound_T N) (L := impl_FlowBound_L) (ins := [(.sl (.int .i64)), (.int .i64)]) (outs := [.val (.int .i64), .val .bool]) (res := [4, 5]) mixed tt_ok ?_ Try.func21 (by kernel_rfl) rfl (by kernel_rfl) (by kernel_rfl) (by decide +kernel)
  · rw [impl_FlowBound_eq] at h
    exact h
  · intro f e he
    unfold impl_FlowBound_T at he
    split at he
    · rw [List.mem_singleton.1 he]; exact impl_asShop_sound N
    · rw [List.mem_singleton.1 he]; exact impl_sumOf_sound N
    · rw [List.mem_singleton.1 he]; exact impl_shop_on_sound N
    · cases he

/- laws.FnExactFlowBound -/
def laws_FnExactFlowBound (N : Nat) (x0 : List Int) (x1 : Int) : Option (Bool × Unit) :=
  cond (decide ((List.length x0 : Int) > 1048576))
    (some (true, ()))
    (Option.bind (laws_toInt64S N x0) fun r1 =>
    Option.bind (spec_FlowBound N r1.1 x1) fun r2 =>
    Option.bind (laws_toInt64S N x0) fun r3 =>
    Option.bind (impl_FlowBound N r3.1 x1) fun r4 =>
    cond (r4.1 != r2.1)
      (some (false, ()))
      (cond (!(r4.2.1 == r2.2.1))
        (some (false, ()))
        (Option.bind (laws_toInt64S N x0) fun r5 =>
        Option.bind (laws_eqInt64S N r3.1 r5.1) fun r6 =>
        cond (!r6.1)
          (some (false, ()))
          (some (true, ())))))
def laws_FnExactFlowBound_e (N : Nat) : Ent := { ins := [(.sl (.int .i64)), (.int .i64)], outs := [.val .bool], F := fun x => laws_FnExactFlowBound N x.1 x.2.1 }
def laws_FnExactFlowBound_T (N : Nat) : Nat → List Ent
  | 15 => [laws_toInt64S_e N]
  | 17 => [laws_eqInt64S_e N]
  | 20 => [spec_FlowBound_e N]
  | 21 => [impl_FlowBound_e N]
  | _ => []
def laws_FnExactFlowBound_L : Nat → List (Nat × TK) := fun _ => []
theorem laws_FnExactFlowBound_eq (N : Nat) : runF N tt (laws_FnExactFlowBound_T N) laws_FnExactFlowBound_L [(.sl (.int .i64)), (.int .i64)] [.val .bool] (bodyOf Try.f6) Try.f6.ntmps [4] = (laws_FnExactFlowBound_e N).F := by
  funext x
  kernel_rfl
theorem laws_FnExactFlowBound_sound (N : Nat) : SoundC Try.prog 6 (laws_FnExactFlowBound_e N) := by
  have h := runF_sound (f := 6) (code := bodyOf Try.f6) (N := N) (T := laws_FnExactFlowBound_T N) (L := laws_FnExactFlowBound_L) (ins := [(.sl (.int .i64)), (.int .i64)]) (outs := [.val .bool]) (res := [4]) mixed tt_ok ?_ Try.func6 (by kernel_rfl) rfl (by kernel_rfl) (by kernel_rfl) (by decide +kernel)
  · rw [laws_FnExactFlowBound_eq] at h
    exact h
  · intro f e he
    unfold laws_FnExactFlowBound_T at he
    split at he
    · rw [List.mem_singleton.1 he]; exact laws_toInt64S_sound N
    · rw [List.mem_singleton.1 he]; exact laws_eqInt64S_sound N
    · rw [List.mem_singleton.1 he]; exact spec_FlowBound_sound N
    · rw [List.mem_singleton.1 he]; exact impl_FlowBound_sound N
    · cases he

/- laws.szArcS -/
def laws_szArcS (_N : Nat) (x0 : List (Int × Int × Int × Int)) (x1 : Int) : Option (Int × Unit) :=
  cond (decide ((w64 (x1 - (List.length x0 : Int))) < 0))
    (some ((-1), ()))
    (some ((w64 (x1 - (List.length x0 : Int))), ()))
def laws_szArcS_e (N : Nat) : Ent := { ins := [(.sl (.pair (.int .i64) (.pair (.int .i64) (.pair (.int .i64) (.int .i64))))), (.int .i64)], outs := [.val (.int .i64)], F := fun x => laws_szArcS N x.1 x.2.1 }
def laws_szArcS_T (_ : Nat) : Nat → List Ent := fun _ => []
def laws_szArcS_L : Nat → List (Nat × TK) := fun _ => []
theorem laws_szArcS_eq (N : Nat) : runF N tt (laws_szArcS_T N) laws_szArcS_L [(.sl (.pair (.int .i64) (.pair (.int .i64) (.pair (.int .i64) (.int .i64))))), (.int .i64)] [.val (.int .i64)] (bodyOf Try.f9) Try.f9.ntmps [4] = (laws_szArcS_e N).F := by
  funext x
  kernel_rfl
theorem laws_szArcS_sound (N : Nat) : SoundC Try.prog 9 (laws_szArcS_e N) := by
  have h := runF_sound (f := 9) (code := bodyOf Try.f9) (N := N) (T := laws_szArcS_T N) (L := laws_szArcS_L) (ins := [(.sl (.pair (.int .i64) (.pair (.int .i64) (.pair (.int .i64) (.int .i64))))), (.int .i64)]) (outs := [.val (.int .i64)]) (res := [4]) mixed tt_ok ?_ Try.func9 (by kernel_rfl) rfl (by kernel_rfl) (by kernel_rfl) (by decide +kernel)
  · rw [laws_szArcS_eq] at h
    exact h
  · intro f e he
    cases he

/- spec.l05Nodes -/
def spec_l05Nodes (N : Nat) (x0 : Int) : Option (Bool × Unit) :=
  Option.bind (spec_l00In N x0 1 12) fun r1 =>
  some (r1.1, ())
def spec_l05Nodes_e (N : Nat) : Ent := { ins := [(.int .i64)], outs := [.val .bool], F := fun x => spec_l05Nodes N x.1 }
def spec_l05Nodes_T (N : Nat) : Nat → List Ent
  | 39 => [spec_l00In_e N]
  | _ => []
def spec_l05Nodes_L : Nat → List (Nat × TK) := fun _ => []
theorem spec_l05Nodes_eq (N : Nat) : runF N tt (spec_l05Nodes_T N) spec_l05Nodes_L [(.int .i64)] [.val .bool] (bodyOf Try.f52) Try.f52.ntmps [2] = (spec_l05Nodes_e N).F := by
  funext x
  kernel_rfl
theorem spec_l05Nodes_sound (N : Nat) : SoundC Try.prog 52 (spec_l05Nodes_e N) := by
  have h := runF_sound (f := 52) (code := bodyOf Try.f52) (N := N) (T := spec_l05Nodes_T N) (L := spec_l05Nodes_L) (ins := [(.int .i64)]) (outs := [.val .bool]) (res := [2]) mixed tt_ok ?_ Try.func52 (by kernel_rfl) rfl (by kernel_rfl) (by kernel_rfl) (by decide +kernel)
  · rw [spec_l05Nodes_eq] at h
    exact h
  · intro f e he
    unfold spec_l05Nodes_T at he
    split at he
    · rw [List.mem_singleton.1 he]; exact spec_l00In_sound N
    · cases he

/- spec.l05Arcs -/
def spec_l05Arcs (N : Nat) (x0 : Int) (x1 : List (Int × Int × Int × Int)) : Option (Bool × Unit) :=
  Option.bind (spec_l05Nodes N x0) fun r1 =>
  cond (!r1.1)
    (some (false, ()))
    (cond (decide ((List.length x1 : Int) < 1))
      (some (false, ()))
      (cond (decide ((List.length x1 : Int) > 32))
        (some (false, ()))
        (loopN (fun (s2 : Int × Unit) next3 =>
          cond (decide (s2.1 < (List.length x1 : Int)))
            (Option.bind (idx x1 s2.1) fun v4 =>
            Option.bind (spec_l00In N v4.1 0 (w64 (x0 - 1))) fun r5 =>
            cond (!r5.1)
              (some (false, ()))
              (Option.bind (spec_l00In N v4.2.1 0 (w64 (x0 - 1))) fun r6 =>
              cond (!r6.1)
                (some (false, ()))
                (Option.bind (spec_l00In N v4.2.2.1 0 1000) fun r7 =>
                cond (!r7.1)
                  (some (false, ()))
                  (Option.bind (spec_l00In N v4.2.2.2 0 10) fun r8 =>
                  cond (!r8.1)
                    (some (false, ()))
                    (next3 ((w64 (s2.1 + 1)), ()))))))
            (some (true, ()))) N (0, ()))))
def spec_l05Arcs_e (N : Nat) : Ent := { ins := [(.int .i64), (.sl (.pair (.int .i64) (.pair (.int .i64) (.pair (.int .i64) (.int .i64)))))], outs := [.val .bool], F := fun x => spec_l05Arcs N x.1 x.2.1 }
def spec_l05Arcs_T (N : Nat) : Nat → List Ent
  | 39 => [spec_l00In_e N]
  | 52 => [spec_l05Nodes_e N]
  | _ => []
def spec_l05Arcs_L : Nat → List (Nat × TK)
  | 4 => [(22, .v (.int .i64))]
  | _ => []
theorem spec_l05Arcs_eq (N : Nat) : runF N tt (spec_l05Arcs_T N) spec_l05Arcs_L [(.int .i64), (.sl (.pair (.int .i64) (.pair (.int .i64) (.pair (.int .i64) (.int .i64)))))] [.val .bool] (bodyOf Try.f26) Try.f26.ntmps [4] = (spec_l05Arcs_e N).F := by
  funext x
  kernel_rfl
theorem spec_l05Arcs_sound (N : Nat) : SoundC Try.prog 26 (spec_l05Arcs_e N) := by
  have h := runF_sound (f := 26) (code := bodyOf Try.f26) (N := N) (T := spec_l05Arcs_T N) (L := spec_l05Arcs_L) (ins := [(.int .i64), (.sl (.pair (.int .i64) (.pair (.int .i64) (.pair (.int .i64) (.int .i64)))))]) (outs := [.val .bool]) (res := [4]) mixed tt_ok ?_ Try.func26 (by kernel_rfl) rfl (by kernel_rfl) (by kernel_rfl) (by decide +kernel)
  · rw [spec_l05Arcs_eq] at h
    exact h
  · intro f e he
    unfold spec_l05Arcs_T at he
    split at he
    · rw [List.mem_singleton.1 he]; exact spec_l00In_sound N
    · rw [List.mem_singleton.1 he]; exact spec_l05Nodes_sound N
    · cases he

/- spec.AreArcs -/
def spec_AreArcs (N : Nat) (x0 : Int) (x1 : List (Int × Int × Int × Int)) : Option (Bool × Unit) :=
  Option.bind (spec_l05Arcs N x0 x1) fun r1 =>
  some (r1.1, ())
def spec_AreArcs_e (N : Nat) : Ent := { ins := [(.int .i64), (.sl (.pair (.int .i64) (.pair (.int .i64) (.pair (.int .i64) (.int .i64)))))], outs := [.val .bool], F := fun x => spec_AreArcs N x.1 x.2.1 }
def spec_AreArcs_T (N : Nat) : Nat → List Ent
  | 26 => [spec_l05Arcs_e N]
  | _ => []
def spec_AreArcs_L : Nat → List (Nat × TK) := fun _ => []
theorem spec_AreArcs_eq (N : Nat) : runF N tt (spec_AreArcs_T N) spec_AreArcs_L [(.int .i64), (.sl (.pair (.int .i64) (.pair (.int .i64) (.pair (.int .i64) (.int .i64)))))] [.val .bool] (bodyOf Try.f10) Try.f10.ntmps [4] = (spec_AreArcs_e N).F := by
  funext x
  kernel_rfl
theorem spec_AreArcs_sound (N : Nat) : SoundC Try.prog 10 (spec_AreArcs_e N) := by
  have h := runF_sound (f := 10) (code := bodyOf Try.f10) (N := N) (T := spec_AreArcs_T N) (L := spec_AreArcs_L) (ins := [(.int .i64), (.sl (.pair (.int .i64) (.pair (.int .i64) (.pair (.int .i64) (.int .i64)))))]) (outs := [.val .bool]) (res := [4]) mixed tt_ok ?_ Try.func10 (by kernel_rfl) rfl (by kernel_rfl) (by kernel_rfl) (by decide +kernel)
  · rw [spec_AreArcs_eq] at h
    exact h
  · intro f e he
    unfold spec_AreArcs_T at he
    split at he
    · rw [List.mem_singleton.1 he]; exact spec_l05Arcs_sound N
    · cases he

/- laws.toArc -/
def laws_toArc (_N : Nat) (x0 : Int × Int × Int × Int) : Option ((Int × Int × Int × Int) × Unit) :=
  some ((x0.1, (x0.2.1, (x0.2.2.1, x0.2.2.2))), ())
def laws_toArc_e (N : Nat) : Ent := { ins := [(.pair (.int .i64) (.pair (.int .i64) (.pair (.int .i64) (.int .i64))))], outs := [.val (.pair (.int .i64) (.pair (.int .i64) (.pair (.int .i64) (.int .i64))))], F := fun x => laws_toArc N x.1 }
def laws_toArc_T (_ : Nat) : Nat → List Ent := fun _ => []
def laws_toArc_L : Nat → List (Nat × TK) := fun _ => []
theorem laws_toArc_eq (N : Nat) : runC N tt (laws_toArc_T N) laws_toArc_L [(.pair (.int .i64) (.pair (.int .i64) (.pair (.int .i64) (.int .i64))))] [.val (.pair (.int .i64) (.pair (.int .i64) (.pair (.int .i64) (.int .i64))))] (bodyOf Try.f27) Try.f27.ntmps [2] [(2, 41)] = (laws_toArc_e N).F := by
  funext x
  kernel_rfl
theorem laws_toArc_sound (N : Nat) : SoundC Try.prog 27 (laws_toArc_e N) := by
  have h := runC_sound (f := 27) (code := bodyOf Try.f27) (N := N) (T := laws_toArc_T N) (L := laws_toArc_L) (ins := [(.pair (.int .i64) (.pair (.int .i64) (.pair (.int .i64) (.int .i64))))]) (outs := [.val (.pair (.int .i64) (.pair (.int .i64) (.pair (.int .i64) (.int .i64))))]) (res := [2]) (rs := [.cell 2 41]) (cells := [(2, 41)]) mixed tt_ok ?_ Try.func27 (by kernel_rfl) rfl (by kernel_rfl) (by kernel_rfl) rfl rfl (by decide) (by decide +kernel) (by decide +kernel)
  · rw [laws_toArc_eq] at h
    exact h
  · intro f e he
    cases he

/- laws.toArcS -/
def laws_toArcS (N : Nat) (x0 : List (Int × Int × Int × Int)) : Option (List (Int × Int × Int × Int) × Unit) :=
  cond (mkOk (List.length x0 : Int) (List.length x0 : Int))
    (let xs1 := (List.replicate (Int.toNat (List.length x0 : Int)) ((0 : Int), ((0 : Int), ((0 : Int), (0 : Int)))) : List (Int × Int × Int × Int))
    loopN (fun (s2 : List (Int × Int × Int × Int) × Int × Unit) next3 =>
      cond (decide (s2.2.1 < (List.length x0 : Int)))
        (Option.bind (idx x0 s2.2.1) fun v4 =>
        Option.bind (laws_toArc N v4) fun r5 =>
        cond (inB s2.2.1 (List.length s2.1))
          (let xs6 := (List.set s2.1 (Int.toNat s2.2.1) r5.1)
          next3 (xs6, (w64 (s2.2.1 + 1)), ())) none)
        (some (s2.1, ()))) N (xs1, 0, ())) none
def laws_toArcS_e (N : Nat) : Ent := { ins := [(.sl (.pair (.int .i64) (.pair (.int .i64) (.pair (.int .i64) (.int .i64)))))], outs := [.own (.pair (.int .i64) (.pair (.int .i64) (.pair (.int .i64) (.int .i64))))], F := fun x => laws_toArcS N x.1 }
def laws_toArcS_T (N : Nat) : Nat → List Ent
  | 27 => [laws_toArc_e N]
  | _ => []
def laws_toArcS_L : Nat → List (Nat × TK)
  | 3 => [(3, .own (.pair (.int .i64) (.pair (.int .i64) (.pair (.int .i64) (.int .i64))))), (4, .v (.int .i64))]
  | _ => []
theorem laws_toArcS_eq (N : Nat) : runF N tt (laws_toArcS_T N) laws_toArcS_L [(.sl (.pair (.int .i64) (.pair (.int .i64) (.pair (.int .i64) (.int .i64)))))] [.own (.pair (.int .i64) (.pair (.int .i64) (.pair (.int .i64) (.int .i64))))] (bodyOf Try.f11) Try.f11.ntmps [2] = (laws_toArcS_e N).F := by
  funext x
  kernel_rfl
theorem laws_toArcS_sound (N : Nat) : SoundC Try.prog 11 (laws_toArcS_e N) := by
  have h := runF_sound (f := 11) (code := bodyOf Try.f11) (N := N) (T := laws_toArcS_T N) (L := laws_toArcS_L) (ins := [(.sl (.pair (.int .i64) (.pair (.int .i64) (.pair (.int .i64) (.int .i64)))))]) (outs := [.own (.pair (.int .i64) (.pair (.int .i64) (.pair (.int .i64) (.int .i64))))]) (res := [2]) mixed tt_ok ?_ Try.func11 (by kernel_rfl) rfl (by kernel_rfl) (by kernel_rfl) (by decide +kernel)
  · rw [laws_toArcS_eq] at h
    exact h
  · intro f e he
    unfold laws_toArcS_T at he
    split at he
    · rw [List.mem_singleton.1 he]; exact laws_toArc_sound N
    · cases he

/- impl.areEvents -/
def impl_areEvents (N : Nat) (x0 : Int) : Option (Bool × Unit) :=
  Option.bind (impl_within N x0 1 12) fun r1 =>
  some (r1.1, ())
def impl_areEvents_e (N : Nat) : Ent := { ins := [(.int .i64)], outs := [.val .bool], F := fun x => impl_areEvents N x.1 }
def impl_areEvents_T (N : Nat) : Nat → List Ent
  | 28 => [impl_within_e N]
  | _ => []
def impl_areEvents_L : Nat → List (Nat × TK) := fun _ => []
theorem impl_areEvents_eq (N : Nat) : runF N tt (impl_areEvents_T N) impl_areEvents_L [(.int .i64)] [.val .bool] (bodyOf Try.f29) Try.f29.ntmps [2] = (impl_areEvents_e N).F := by
  funext x
  kernel_rfl
theorem impl_areEvents_sound (N : Nat) : SoundC Try.prog 29 (impl_areEvents_e N) := by
  have h := runF_sound (f := 29) (code := bodyOf Try.f29) (N := N) (T := impl_areEvents_T N) (L := impl_areEvents_L) (ins := [(.int .i64)]) (outs := [.val .bool]) (res := [2]) mixed tt_ok ?_ Try.func29 (by kernel_rfl) rfl (by kernel_rfl) (by kernel_rfl) (by decide +kernel)
  · rw [impl_areEvents_eq] at h
    exact h
  · intro f e he
    unfold impl_areEvents_T at he
    split at he
    · rw [List.mem_singleton.1 he]; exact impl_within_sound N
    · cases he

/- impl.AreArcs -/
def impl_AreArcs (N : Nat) (x0 : Int) (x1 : List (Int × Int × Int × Int)) : Option (Bool × Unit) :=
  loopN (fun (s1 : Int × Unit) next2 =>
    cond (decide (s1.1 < (List.length x1 : Int)))
      (Option.bind (idx x1 s1.1) fun v3 =>
      Option.bind (impl_within N v3.1 0 (w64 (x0 - 1))) fun r4 =>
      cond (!r4.1)
        (some (false, ()))
        (Option.bind (impl_within N v3.2.1 0 (w64 (x0 - 1))) fun r5 =>
        cond (!r5.1)
          (some (false, ()))
          (Option.bind (impl_within N v3.2.2.1 0 1000) fun r6 =>
          cond (!r6.1)
            (some (false, ()))
            (Option.bind (impl_within N v3.2.2.2 0 10) fun r7 =>
            cond (!r7.1)
              (some (false, ()))
              (next2 ((w64 (s1.1 + 1)), ()))))))
      (Option.bind (impl_areEvents N x0) fun r8 =>
      cond r8.1
        (cond (decide ((List.length x1 : Int) ≥ 1))
          (some ((decide ((List.length x1 : Int) ≤ 32)), ()))
          (some (false, ())))
        (some (false, ())))) N (0, ())
def impl_AreArcs_e (N : Nat) : Ent := { ins := [(.int .i64), (.sl (.pair (.int .i64) (.pair (.int .i64) (.pair (.int .i64) (.int .i64)))))], outs := [.val .bool], F := fun x => impl_AreArcs N x.1 x.2.1 }
def impl_AreArcs_T (N : Nat) : Nat → List Ent
  | 28 => [impl_within_e N]
  | 29 => [impl_areEvents_e N]
  | _ => []
def impl_AreArcs_L : Nat → List (Nat × TK)
  | 2 => [(9, .v (.int .i64))]
  | _ => []
theorem impl_AreArcs_eq (N : Nat) : runF N tt (impl_AreArcs_T N) impl_AreArcs_L [(.int .i64), (.sl (.pair (.int .i64) (.pair (.int .i64) (.pair (.int .i64) (.int .i64)))))] [.val .bool] (bodyOf Try.f12) Try.f12.ntmps [4] = (impl_AreArcs_e N).F := by
  funext x
  kernel_rfl
theorem impl_AreArcs_sound (N : Nat) : SoundC Try.prog 12 (impl_AreArcs_e N) := by
  have h := runF_sound (f := 12) (code := bodyOf Try.f12) (N := N) (T := impl_AreArcs_T N) (L := impl_AreArcs_L) (ins := [(.int .i64), (.sl (.pair (.int .i64) (.pair (.int .i64) (.pair (.int .i64) (.int .i64)))))]) (outs := [.val .bool]) (res := [4]) mixed tt_ok ?_ Try.func12 (by kernel_rfl) rfl (by kernel_rfl) (by kernel_rfl) (by decide +kernel)
  · rw [impl_AreArcs_eq] at h
    exact h
  · intro f e he
    unfold impl_AreArcs_T at he
    split at he
    · rw [List.mem_singleton.1 he]; exact impl_within_sound N
    · rw [List.mem_singleton.1 he]; exact impl_areEvents_sound N
    · cases he

/- laws.eqArc -/
def laws_eqArc (_N : Nat) (x0 : Int × Int × Int × Int) (x1 : Int × Int × Int × Int) : Option (Bool × Unit) :=
  cond (x0.1 != x1.1)
    (some (false, ()))
    (cond (x0.2.1 != x1.2.1)
      (some (false, ()))
      (cond (x0.2.2.1 != x1.2.2.1)
        (some (false, ()))
        (cond (x0.2.2.2 != x1.2.2.2)
          (some (false, ()))
          (some (true, ())))))
def laws_eqArc_e (N : Nat) : Ent := { ins := [(.pair (.int .i64) (.pair (.int .i64) (.pair (.int .i64) (.int .i64)))), (.pair (.int .i64) (.pair (.int .i64) (.pair (.int .i64) (.int .i64))))], outs := [.val .bool], F := fun x => laws_eqArc N x.1 x.2.1 }
def laws_eqArc_T (_ : Nat) : Nat → List Ent := fun _ => []
def laws_eqArc_L : Nat → List (Nat × TK) := fun _ => []
theorem laws_eqArc_eq (N : Nat) : runF N tt (laws_eqArc_T N) laws_eqArc_L [(.pair (.int .i64) (.pair (.int .i64) (.pair (.int .i64) (.int .i64)))), (.pair (.int .i64) (.pair (.int .i64) (.pair (.int .i64) (.int .i64))))] [.val .bool] (bodyOf Try.f30) Try.f30.ntmps [4] = (laws_eqArc_e N).F := by
  funext x
  kernel_rfl
theorem laws_eqArc_sound (N : Nat) : SoundC Try.prog 30 (laws_eqArc_e N) := by
  have h := runF_sound (f := 30) (code := bodyOf Try.f30) (N := N) (T := laws_eqArc_T N) (L := laws_eqArc_L) (ins := [(.pair (.int .i64) (.pair (.int .i64) (.pair (.int .i64) (.int .i64)))), (.pair (.int .i64) (.pair (.int .i64) (.pair (.int .i64) (.int .i64))))]) (outs := [.val .bool]) (res := [4]) mixed tt_ok ?_ Try.func30 (by kernel_rfl) rfl (by kernel_rfl) (by kernel_rfl) (by decide +kernel)
  · rw [laws_eqArc_eq] at h
    exact h
  · intro f e he
    cases he

/- laws.eqArcS -/
def laws_eqArcS (N : Nat) (x0 : List (Int × Int × Int × Int)) (x1 : List (Int × Int × Int × Int)) : Option (Bool × Unit) :=
  cond ((List.length x0 : Int) != (List.length x1 : Int))
    (some (false, ()))
    (loopN (fun (s1 : Int × Unit) next2 =>
      cond (decide (s1.1 < (List.length x0 : Int)))
        (Option.bind (idx x0 s1.1) fun v3 =>
        Option.bind (idx x1 s1.1) fun v4 =>
        Option.bind (laws_eqArc N v3 v4) fun r5 =>
        cond (!r5.1)
          (some (false, ()))
          (next2 ((w64 (s1.1 + 1)), ())))
        (some (true, ()))) N (0, ()))
def laws_eqArcS_e (N : Nat) : Ent := { ins := [(.sl (.pair (.int .i64) (.pair (.int .i64) (.pair (.int .i64) (.int .i64))))), (.sl (.pair (.int .i64) (.pair (.int .i64) (.pair (.int .i64) (.int .i64)))))], outs := [.val .bool], F := fun x => laws_eqArcS N x.1 x.2.1 }
def laws_eqArcS_T (N : Nat) : Nat → List Ent
  | 30 => [laws_eqArc_e N]
  | _ => []
def laws_eqArcS_L : Nat → List (Nat × TK)
  | 4 => [(5, .v (.int .i64))]
  | _ => []
theorem laws_eqArcS_eq (N : Nat) : runF N tt (laws_eqArcS_T N) laws_eqArcS_L [(.sl (.pair (.int .i64) (.pair (.int .i64) (.pair (.int .i64) (.int .i64))))), (.sl (.pair (.int .i64) (.pair (.int .i64) (.pair (.int .i64) (.int .i64)))))] [.val .bool] (bodyOf Try.f13) Try.f13.ntmps [4] = (laws_eqArcS_e N).F := by
  funext x
  kernel_rfl
theorem laws_eqArcS_sound (N : Nat) : SoundC Try.prog 13 (laws_eqArcS_e N) := by
  have h := runF_sound (f := 13) (code := bodyOf Try.f13) (N := N) (T := laws_eqArcS_T N) (L := laws_eqArcS_L) (ins := [(.sl (.pair (.int .i64) (.pair (.int .i64) (.pair (.int .i64) (.int .i64))))), (.sl (.pair (.int .i64) (.pair (.int .i64) (.pair (.int .i64) (.int .i64)))))]) (outs := [.val .bool]) (res := [4]) mixed tt_ok ?_ Try.func13 (by kernel_rfl) rfl (by kernel_rfl) (by kernel_rfl) (by decide +kernel)
  · rw [laws_eqArcS_eq] at h
    exact h
  · intro f e he
    unfold laws_eqArcS_T at he
    split at he
    · rw [List.mem_singleton.1 he]; exact laws_eqArc_sound N
    · cases he

/- laws.FnExactAreArcs -/
def laws_FnExactAreArcs (N : Nat) (x0 : Int) (x1 : List (Int × Int × Int × Int)) : Option (Bool × Unit) :=
  Option.bind (laws_szArcS N x1 1048576) fun r1 =>
  cond (decide (r1.1 < 0))
    (some (true, ()))
    (Option.bind (laws_toArcS N x1) fun r2 =>
    Option.bind (spec_AreArcs N x0 r2.1) fun r3 =>
    Option.bind (laws_toArcS N x1) fun r4 =>
    Option.bind (impl_AreArcs N x0 r4.1) fun r5 =>
    cond (!(r5.1 == r3.1))
      (some (false, ()))
      (Option.bind (laws_toArcS N x1) fun r6 =>
      Option.bind (laws_eqArcS N r4.1 r6.1) fun r7 =>
      cond (!r7.1)
        (some (false, ()))
        (some (true, ()))))
def laws_FnExactAreArcs_e (N : Nat) : Ent := { ins := [(.int .i64), (.sl (.pair (.int .i64) (.pair (.int .i64) (.pair (.int .i64) (.int .i64)))))], outs := [.val .bool], F := fun x => laws_FnExactAreArcs N x.1 x.2.1 }
def laws_FnExactAreArcs_T (N : Nat) : Nat → List Ent
  | 9 => [laws_szArcS_e N]
  | 10 => [spec_AreArcs_e N]
  | 11 => [laws_toArcS_e N]
  | 12 => [impl_AreArcs_e N]
  | 13 => [laws_eqArcS_e N]
  | _ => []
def laws_FnExactAreArcs_L : Nat → List (Nat × TK) := fun _ => []
theorem laws_FnExactAreArcs_eq (N : Nat) : runF N tt (laws_FnExactAreArcs_T N) laws_FnExactAreArcs_L [(.int .i64), (.sl (.pair (.int .i64) (.pair (.int .i64) (.pair (.int .i64) (.int .i64)))))] [.val .bool] (bodyOf Try.f3) Try.f3.ntmps [4] = (laws_FnExactAreArcs_e N).F := by
  funext x
  kernel_rfl
theorem laws_FnExactAreArcs_sound (N : Nat) : SoundC Try.prog 3 (laws_FnExactAreArcs_e N) := by
  have h := runF_sound (f := 3) (code := bodyOf Try.f3) (N := N) (T := laws_FnExactAreArcs_T N) (L := laws_FnExactAreArcs_L) (ins := [(.int .i64), (.sl (.pair (.int .i64) (.pair (.int .i64) (.pair (.int .i64) (.int .i64)))))]) (outs := [.val .bool]) (res := [4]) mixed tt_ok ?_ Try.func3 (by kernel_rfl) rfl (by kernel_rfl) (by kernel_rfl) (by decide +kernel)
  · rw [laws_FnExactAreArcs_eq] at h
    exact h
  · intro f e he
    unfold laws_FnExactAreArcs_T at he
    split at he
    · rw [List.mem_singleton.1 he]; exact laws_szArcS_sound N
    · rw [List.mem_singleton.1 he]; exact spec_AreArcs_sound N
    · rw [List.mem_singleton.1 he]; exact laws_toArcS_sound N
    · rw [List.mem_singleton.1 he]; exact impl_AreArcs_sound N
    · rw [List.mem_singleton.1 he]; exact laws_eqArcS_sound N
    · cases he

/- spec.l04Starts -/
def spec_l04Starts (N : Nat) (x0 : List Int) (x1 : List Int) : Option (Bool × Unit) :=
  loopN (fun (s1 : Int × Unit) next2 =>
    cond (decide (s1.1 < (List.length x1 : Int)))
      (Option.bind (idx x1 s1.1) fun v3 =>
      Option.bind (spec_l00In N v3 0 1000000) fun r4 =>
      cond (!r4.1)
        (some (false, ()))
        (next2 ((w64 (s1.1 + 1)), ())))
      (some (((List.length x1 : Int) == (List.length x0 : Int)), ()))) N (0, ())
def spec_l04Starts_e (N : Nat) : Ent := { ins := [(.sl (.int .i64)), (.sl (.int .i64))], outs := [.val .bool], F := fun x => spec_l04Starts N x.1 x.2.1 }
def spec_l04Starts_T (N : Nat) : Nat → List Ent
  | 39 => [spec_l00In_e N]
  | _ => []
def spec_l04Starts_L : Nat → List (Nat × TK)
  | 2 => [(5, .v (.int .i64))]
  | _ => []
theorem spec_l04Starts_eq (N : Nat) : runF N tt (spec_l04Starts_T N) spec_l04Starts_L [(.sl (.int .i64)), (.sl (.int .i64))] [.val .bool] (bodyOf Try.f32) Try.f32.ntmps [4] = (spec_l04Starts_e N).F := by
  funext x
  kernel_rfl
theorem spec_l04Starts_sound (N : Nat) : SoundC Try.prog 32 (spec_l04Starts_e N) := by
  have h := runF_sound (f := 32) (code := bodyOf Try.f32) (N := N) (T := spec_l04Starts_T N) (L := spec_l04Starts_L) (ins := [(.sl (.int .i64)), (.sl (.int .i64))]) (outs := [.val .bool]) (res := [4]) mixed tt_ok ?_ Try.func32 (by kernel_rfl) rfl (by kernel_rfl) (by kernel_rfl) (by decide +kernel)
  · rw [spec_l04Starts_eq] at h
    exact h
  · intro f e he
    unfold spec_l04Starts_T at he
    split at he
    · rw [List.mem_singleton.1 he]; exact spec_l00In_sound N
    · cases he

/- spec.l04Over -/
def spec_l04Over (_N : Nat) (x0 : List Int) (x1 : List Int) (x2 : Int) (x3 : Int) : Option (Bool × Unit) :=
  Option.bind (idx x1 x2) fun v1 =>
  Option.bind (idx x1 x3) fun v2 =>
  Option.bind (idx x0 x3) fun v3 =>
  cond (decide (v1 < (w64 (v2 + v3))))
    (Option.bind (idx x1 x3) fun v4 =>
    Option.bind (idx x1 x2) fun v5 =>
    Option.bind (idx x0 x2) fun v6 =>
    some ((decide (v4 < (w64 (v5 + v6)))), ()))
    (some (false, ()))
def spec_l04Over_e (N : Nat) : Ent := { ins := [(.sl (.int .i64)), (.sl (.int .i64)), (.int .i64), (.int .i64)], outs := [.val .bool], F := fun x => spec_l04Over N x.1 x.2.1 x.2.2.1 x.2.2.2.1 }
def spec_l04Over_T (_ : Nat) : Nat → List Ent := fun _ => []
def spec_l04Over_L : Nat → List (Nat × TK) := fun _ => []
theorem spec_l04Over_eq (N : Nat) : runF N tt (spec_l04Over_T N) spec_l04Over_L [(.sl (.int .i64)), (.sl (.int .i64)), (.int .i64), (.int .i64)] [.val .bool] (bodyOf Try.f33) Try.f33.ntmps [8] = (spec_l04Over_e N).F := by
  funext x
  kernel_rfl
theorem spec_l04Over_sound (N : Nat) : SoundC Try.prog 33 (spec_l04Over_e N) := by
  have h := runF_sound (f := 33) (code := bodyOf Try.f33) (N := N) (T := spec_l04Over_T N) (L := spec_l04Over_L) (ins := [(.sl (.int .i64)), (.sl (.int .i64)), (.int .i64), (.int .i64)]) (outs := [.val .bool]) (res := [8]) mixed tt_ok ?_ Try.func33 (by kernel_rfl) rfl (by kernel_rfl) (by kernel_rfl) (by decide +kernel)
  · rw [spec_l04Over_eq] at h
    exact h
  · intro f e he
    cases he

/- spec.IsOpenPlan -/
def spec_IsOpenPlan (N : Nat) (x0 : List Int) (x1 : Int) (x2 : List Int) : Option (Bool × Bool × Unit) :=
  Option.bind (spec_l04Can N x0 x1) fun r1 =>
  cond (!r1.1)
    (some (false, false, ()))
    (Option.bind (spec_l04Starts N x0 x2) fun r2 =>
    cond (!r2.1)
      (some (false, false, ()))
      (loopN (fun (s3 : Int × Unit) next4 =>
        cond (decide (s3.1 < (List.length x0 : Int)))
          (loopN (fun (s5 : Int × Unit) next6 =>
            cond (decide (s5.1 < s3.1))
              (cond (x1 == 0) none
                (cond (x1 == 0) none
                  (cond ((w64 (Int.tdiv s3.1 x1)) == (w64 (Int.tdiv s5.1 x1)))
                    (Option.bind (spec_l04Over N x0 x2 s3.1 s5.1) fun r7 =>
                    cond r7.1
                      (some (false, true, ()))
                      (next6 ((w64 (s5.1 + 1)), ())))
                    (cond (x1 == 0) none
                      (cond (x1 == 0) none
                        (cond ((Int.tmod s3.1 x1) == (Int.tmod s5.1 x1))
                          (Option.bind (spec_l04Over N x0 x2 s3.1 s5.1) fun r8 =>
                          cond r8.1
                            (some (false, true, ()))
                            (next6 ((w64 (s5.1 + 1)), ())))
                          (next6 ((w64 (s5.1 + 1)), ()))))))))
              (next4 ((w64 (s3.1 + 1)), ()))) N (0, ()))
          (some (true, true, ()))) N (0, ())))
def spec_IsOpenPlan_e (N : Nat) : Ent := { ins := [(.sl (.int .i64)), (.int .i64), (.sl (.int .i64))], outs := [.val .bool, .val .bool], F := fun x => spec_IsOpenPlan N x.1 x.2.1 x.2.2.1 }
def spec_IsOpenPlan_T (N : Nat) : Nat → List Ent
  | 31 => [spec_l04Can_e N]
  | 32 => [spec_l04Starts_e N]
  | 33 => [spec_l04Over_e N]
  | _ => []
def spec_IsOpenPlan_L : Nat → List (Nat × TK)
  | 4 => [(8, .v (.int .i64))]
  | 7 => [(9, .v (.int .i64))]
  | _ => []
theorem spec_IsOpenPlan_eq (N : Nat) : runF N tt (spec_IsOpenPlan_T N) spec_IsOpenPlan_L [(.sl (.int .i64)), (.int .i64), (.sl (.int .i64))] [.val .bool, .val .bool] (bodyOf Try.f14) Try.f14.ntmps [6, 7] = (spec_IsOpenPlan_e N).F := by
  funext x
  kernel_rfl
theorem spec_IsOpenPlan_sound (N : Nat) : SoundC Try.prog 14 (spec_IsOpenPlan_e N) := by
  have h := runF_sound (f := 14) (code := bodyOf Try.f14) (N := N) (T := spec_IsOpenPlan_T N) (L := spec_IsOpenPlan_L) (ins := [(.sl (.int .i64)), (.int .i64), (.sl (.int .i64))]) (outs := [.val .bool, .val .bool]) (res := [6, 7]) mixed tt_ok ?_ Try.func14 (by kernel_rfl) rfl (by kernel_rfl) (by kernel_rfl) (by decide +kernel)
  · rw [spec_IsOpenPlan_eq] at h
    exact h
  · intro f e he
    unfold spec_IsOpenPlan_T at he
    split at he
    · rw [List.mem_singleton.1 he]; exact spec_l04Can_sound N
    · rw [List.mem_singleton.1 he]; exact spec_l04Starts_sound N
    · rw [List.mem_singleton.1 he]; exact spec_l04Over_sound N
    · cases he

/- impl.areStarts -/
def impl_areStarts (N : Nat) (x0 : List Int) (x1 : Int) : Option (Bool × Unit) :=
  Option.bind (impl_areMany N x0 x1 x1 0 1000000) fun r1 =>
  some (r1.1, ())
def impl_areStarts_e (N : Nat) : Ent := { ins := [(.sl (.int .i64)), (.int .i64)], outs := [.val .bool], F := fun x => impl_areStarts N x.1 x.2.1 }
def impl_areStarts_T (N : Nat) : Nat → List Ent
  | 55 => [impl_areMany_e N]
  | _ => []
def impl_areStarts_L : Nat → List (Nat × TK) := fun _ => []
theorem impl_areStarts_eq (N : Nat) : runF N tt (impl_areStarts_T N) impl_areStarts_L [(.sl (.int .i64)), (.int .i64)] [.val .bool] (bodyOf Try.f35) Try.f35.ntmps [4] = (impl_areStarts_e N).F := by
  funext x
  kernel_rfl
theorem impl_areStarts_sound (N : Nat) : SoundC Try.prog 35 (impl_areStarts_e N) := by
  have h := runF_sound (f := 35) (code := bodyOf Try.f35) (N := N) (T := impl_areStarts_T N) (L := impl_areStarts_L) (ins := [(.sl (.int .i64)), (.int .i64)]) (outs := [.val .bool]) (res := [4]) mixed tt_ok ?_ Try.func35 (by kernel_rfl) rfl (by kernel_rfl) (by kernel_rfl) (by decide +kernel)
  · rw [impl_areStarts_eq] at h
    exact h
  · intro f e he
    unfold impl_areStarts_T at he
    split at he
    · rw [List.mem_singleton.1 he]; exact impl_areMany_sound N
    · cases he

/- impl.apart -/
def impl_apart (_N : Nat) (x0 : Int) (x1 : Int) (x2 : Int) (x3 : Int) : Option (Bool × Unit) :=
  cond (decide ((w64 (x0 + x1)) ≤ x2))
    (some (true, ()))
    (some ((decide ((w64 (x2 + x3)) ≤ x0)), ()))
def impl_apart_e (N : Nat) : Ent := { ins := [(.int .i64), (.int .i64), (.int .i64), (.int .i64)], outs := [.val .bool], F := fun x => impl_apart N x.1 x.2.1 x.2.2.1 x.2.2.2.1 }
def impl_apart_T (_ : Nat) : Nat → List Ent := fun _ => []
def impl_apart_L : Nat → List (Nat × TK) := fun _ => []
theorem impl_apart_eq (N : Nat) : runF N tt (impl_apart_T N) impl_apart_L [(.int .i64), (.int .i64), (.int .i64), (.int .i64)] [.val .bool] (bodyOf Try.f36) Try.f36.ntmps [8] = (impl_apart_e N).F := by
  funext x
  kernel_rfl
theorem impl_apart_sound (N : Nat) : SoundC Try.prog 36 (impl_apart_e N) := by
  have h := runF_sound (f := 36) (code := bodyOf Try.f36) (N := N) (T := impl_apart_T N) (L := impl_apart_L) (ins := [(.int .i64), (.int .i64), (.int .i64), (.int .i64)]) (outs := [.val .bool]) (res := [8]) mixed tt_ok ?_ Try.func36 (by kernel_rfl) rfl (by kernel_rfl) (by kernel_rfl) (by decide +kernel)
  · rw [impl_apart_eq] at h
    exact h
  · intro f e he
    cases he

/- impl.IsOpenPlan -/
def impl_IsOpenPlan (N : Nat) (x0 : List Int) (x1 : Int) (x2 : List Int) : Option (Bool × Bool × Unit) :=
  Option.bind (impl_asShop N x0 x1) fun r1 =>
  cond (!r1.2.1)
    (some (false, false, ()))
    (Option.bind (impl_areStarts N x2 (List.length x0 : Int)) fun r2 =>
    cond (!r2.1)
      (some (false, false, ()))
      (loopN (fun (s3 : Int × Unit) next4 =>
        cond (decide (s3.1 < (List.length x0 : Int)))
          (loopN (fun (s5 : Int × Unit) next6 =>
            cond (decide (s5.1 < s3.1))
              (cond (r1.1.2.2 == 0) none
                (cond (r1.1.2.2 == 0) none
                  (cond ((w64 (Int.tdiv s3.1 r1.1.2.2)) == (w64 (Int.tdiv s5.1 r1.1.2.2)))
                    (Option.bind (idx x2 s3.1) fun v7 =>
                    Option.bind (idx x0 s3.1) fun v8 =>
                    Option.bind (idx x2 s5.1) fun v9 =>
                    Option.bind (idx x0 s5.1) fun v10 =>
                    Option.bind (impl_apart N v7 v8 v9 v10) fun r11 =>
                    cond (!r11.1)
                      (some (false, true, ()))
                      (next6 ((w64 (s5.1 + 1)), ())))
                    (cond (r1.1.2.2 == 0) none
                      (cond (r1.1.2.2 == 0) none
                        (cond ((Int.tmod s3.1 r1.1.2.2) == (Int.tmod s5.1 r1.1.2.2))
                          (Option.bind (idx x2 s3.1) fun v12 =>
                          Option.bind (idx x0 s3.1) fun v13 =>
                          Option.bind (idx x2 s5.1) fun v14 =>
                          Option.bind (idx x0 s5.1) fun v15 =>
                          Option.bind (impl_apart N v12 v13 v14 v15) fun r16 =>
                          cond (!r16.1)
                            (some (false, true, ()))
                            (next6 ((w64 (s5.1 + 1)), ())))
                          (next6 ((w64 (s5.1 + 1)), ()))))))))
              (next4 ((w64 (s3.1 + 1)), ()))) N (0, ()))
          (some (true, true, ()))) N (0, ())))
def impl_IsOpenPlan_e (N : Nat) : Ent := { ins := [(.sl (.int .i64)), (.int .i64), (.sl (.int .i64))], outs := [.val .bool, .val .bool], F := fun x => impl_IsOpenPlan N x.1 x.2.1 x.2.2.1 }
def impl_IsOpenPlan_T (N : Nat) : Nat → List Ent
  | 34 => [impl_asShop_e N]
  | 35 => [impl_areStarts_e N]
  | 36 => [impl_apart_e N]
  | _ => []
def impl_IsOpenPlan_L : Nat → List (Nat × TK)
  | 5 => [(29, .v (.int .i64))]
  | 8 => [(33, .v (.int .i64))]
  | _ => []
theorem impl_IsOpenPlan_eq (N : Nat) : runF N tt (impl_IsOpenPlan_T N) impl_IsOpenPlan_L [(.sl (.int .i64)), (.int .i64), (.sl (.int .i64))] [.val .bool, .val .bool] (bodyOf Try.f16) Try.f16.ntmps [6, 7] = (impl_IsOpenPlan_e N).F := by
  funext x
  kernel_rfl
theorem impl_IsOpenPlan_sound (N : Nat) : SoundC Try.prog 16 (impl_IsOpenPlan_e N) := by
  have h := runF_sound (f := 16) (code := bodyOf Try.f16) (N := N) (T := impl_IsOpenPlan_T N) (L := impl_IsOpenPlan_L) (ins := [(.sl (.int .i64)), (.int .i64), (.sl (.int .i64))]) (outs := [.val .bool, .val .bool]) (res := [6, 7]) mixed tt_ok ?_ Try.func16 (by kernel_rfl) rfl (by kernel_rfl) (by kernel_rfl) (by decide +kernel)
  · rw [impl_IsOpenPlan_eq] at h
    exact h
  · intro f e he
    unfold impl_IsOpenPlan_T at he
    split at he
    · rw [List.mem_singleton.1 he]; exact impl_asShop_sound N
    · rw [List.mem_singleton.1 he]; exact impl_areStarts_sound N
    · rw [List.mem_singleton.1 he]; exact impl_apart_sound N
    · cases he

/- laws.FnExactIsOpenPlan -/
def laws_FnExactIsOpenPlan (N : Nat) (x0 : List Int) (x1 : Int) (x2 : List Int) : Option (Bool × Unit) :=
  cond (decide ((List.length x0 : Int) > 1048576))
    (some (true, ()))
    (cond (decide ((List.length x2 : Int) > 1048576))
      (some (true, ()))
      (Option.bind (laws_toInt64S N x0) fun r1 =>
      Option.bind (laws_toInt64S N x2) fun r2 =>
      Option.bind (spec_IsOpenPlan N r1.1 x1 r2.1) fun r3 =>
      Option.bind (laws_toInt64S N x0) fun r4 =>
      Option.bind (laws_toInt64S N x2) fun r5 =>
      Option.bind (impl_IsOpenPlan N r4.1 x1 r5.1) fun r6 =>
      cond (!(r6.1 == r3.1))
        (some (false, ()))
        (cond (!(r6.2.1 == r3.2.1))
          (some (false, ()))
          (Option.bind (laws_toInt64S N x0) fun r7 =>
          Option.bind (laws_eqInt64S N r4.1 r7.1) fun r8 =>
          cond (!r8.1)
            (some (false, ()))
            (Option.bind (laws_toInt64S N x2) fun r9 =>
            Option.bind (laws_eqInt64S N r5.1 r9.1) fun r10 =>
            cond (!r10.1)
              (some (false, ()))
              (some (true, ())))))))
def laws_FnExactIsOpenPlan_e (N : Nat) : Ent := { ins := [(.sl (.int .i64)), (.int .i64), (.sl (.int .i64))], outs := [.val .bool], F := fun x => laws_FnExactIsOpenPlan N x.1 x.2.1 x.2.2.1 }
def laws_FnExactIsOpenPlan_T (N : Nat) : Nat → List Ent
  | 14 => [spec_IsOpenPlan_e N]
  | 15 => [laws_toInt64S_e N]
  | 16 => [impl_IsOpenPlan_e N]
  | 17 => [laws_eqInt64S_e N]
  | _ => []
def laws_FnExactIsOpenPlan_L : Nat → List (Nat × TK) := fun _ => []
theorem laws_FnExactIsOpenPlan_eq (N : Nat) : runF N tt (laws_FnExactIsOpenPlan_T N) laws_FnExactIsOpenPlan_L [(.sl (.int .i64)), (.int .i64), (.sl (.int .i64))] [.val .bool] (bodyOf Try.f4) Try.f4.ntmps [6] = (laws_FnExactIsOpenPlan_e N).F := by
  funext x
  kernel_rfl
theorem laws_FnExactIsOpenPlan_sound (N : Nat) : SoundC Try.prog 4 (laws_FnExactIsOpenPlan_e N) := by
  have h := runF_sound (f := 4) (code := bodyOf Try.f4) (N := N) (T := laws_FnExactIsOpenPlan_T N) (L := laws_FnExactIsOpenPlan_L) (ins := [(.sl (.int .i64)), (.int .i64), (.sl (.int .i64))]) (outs := [.val .bool]) (res := [6]) mixed tt_ok ?_ Try.func4 (by kernel_rfl) rfl (by kernel_rfl) (by kernel_rfl) (by decide +kernel)
  · rw [laws_FnExactIsOpenPlan_eq] at h
    exact h
  · intro f e he
    unfold laws_FnExactIsOpenPlan_T at he
    split at he
    · rw [List.mem_singleton.1 he]; exact spec_IsOpenPlan_sound N
    · rw [List.mem_singleton.1 he]; exact laws_toInt64S_sound N
    · rw [List.mem_singleton.1 he]; exact impl_IsOpenPlan_sound N
    · rw [List.mem_singleton.1 he]; exact laws_eqInt64S_sound N
    · cases he

end Go.Proofs.Ytgbahgkfjghidaa
