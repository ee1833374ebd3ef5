/-
  The plain functions of this seat, printed by a program, each equal to the evaluator's run, with its contract. No condition.
-/
import Derived.Test.YtgcmklniacjcfaaFwV
import Derived.Test.YtgcmklniacjcfaaChecked
import Derived.Test.YtgcmklniacjcfaaLs3
import Derived.Test.YtgcmklniacjcfaaLs5
namespace Go.Proofs.Ytgcmklniacjcfaa
open Go Go.Proofs.Ytgcmklniacjcfaa.Fw
set_option maxRecDepth 100000
set_option linter.unusedVariables false

theorem mixed : Try.prog.follows .mixedOrders = true := Try.checked.mixed
def tt : Nat → TD
  | 2 => tdInt .i64
  | 3 => tdInt .i64
  | 4 => tdBool
  | 22 => tdSl (.int .i64) 8
  | 86 => tdInt .u64
  | 87 => tdSl (.pair (.int .i64) (.int .i64)) 16
  | 88 => tdSl .bool 1
  | 90 => tdSt 2 [(0, 1, false), (1, 1, false)] [.g (.int .i64) (0 : Int), .g (.int .i64) (0 : Int)]
  | 96 => tdInt .u32
  | 99 => tdInt .u64
  | _ => tdNone
theorem tt_2 : TDok Try.prog 2 (tdInt .i64) := tdok_int (b := 8) (by kernel_rfl) (by kernel_rfl)
theorem tt_3 : TDok Try.prog 3 (tdInt .i64) := tdok_int (b := 8) (by kernel_rfl) (by kernel_rfl)
theorem tt_4 : TDok Try.prog 4 (tdBool) := tdok_bool (b := 1) (by kernel_rfl) (by kernel_rfl)
theorem tt_22 : TDok Try.prog 22 (tdSl (.int .i64) 8) := tdok_sl (b := 24) (e := 2) (z := (.int .i64 0)) (by kernel_rfl) (by kernel_rfl) (by kernel_rfl) (by decide) (fun _ => by kernel_rfl)
theorem tt_86 : TDok Try.prog 86 (tdInt .u64) := tdok_int (b := 8) (by kernel_rfl) (by kernel_rfl)
theorem tt_87 : TDok Try.prog 87 (tdSl (.pair (.int .i64) (.int .i64)) 16) := tdok_sl (b := 24) (e := 90) (z := (.agg #[(.int .i64 0), (.int .i64 0)])) (by kernel_rfl) (by kernel_rfl) (by kernel_rfl) (by decide) (fun _ => by kernel_rfl)
theorem tt_88 : TDok Try.prog 88 (tdSl .bool 1) := tdok_sl (b := 24) (e := 4) (z := (.bool false)) (by kernel_rfl) (by kernel_rfl) (by kernel_rfl) (by decide) (fun _ => by kernel_rfl)
theorem tt_90 : TDok Try.prog 90 (tdSt 2 [(0, 1, false), (1, 1, false)] [.g (.int .i64) (0 : Int), .g (.int .i64) (0 : Int)]) := tdok_st (b := 16) (z := (.agg #[(.int .i64 0), (.int .i64 0)])) (by kernel_rfl) (by kernel_rfl) (by kernel_rfl) (by kernel_rfl) (by kernel_rfl)
theorem tt_96 : TDok Try.prog 96 (tdInt .u32) := tdok_int (b := 4) (by kernel_rfl) (by kernel_rfl)
theorem tt_99 : TDok Try.prog 99 (tdInt .u64) := tdok_int (b := 8) (by kernel_rfl) (by kernel_rfl)
theorem tt_ok (t : Nat) : TDok Try.prog t (tt t) := by
  unfold tt
  split
  · exact tt_2
  · exact tt_3
  · exact tt_4
  · exact tt_22
  · exact tt_86
  · exact tt_87
  · exact tt_88
  · exact tt_90
  · exact tt_96
  · exact tt_99
  · exact tdok_none

/- laws.toInt64S -/
def laws_toInt64S (N : Nat) (x0 : List Int) : Option (List (Int) × Unit) :=
  cond (mkOk (List.length x0 : Int) (List.length x0 : Int))
    (let xs1 := (List.replicate (Int.toNat (List.length x0 : Int)) (0 : Int) : List (Int))
    loopN (fun (s2 : List (Int) × Int × Unit) next3 =>
      cond (decide (s2.2.1 < (List.length x0 : Int)))
        (Option.bind (idx x0 s2.2.1) fun v4 =>
        cond (inB s2.2.1 (List.length s2.1))
          (let xs5 := (List.set s2.1 (Int.toNat s2.2.1) v4)
          next3 (xs5, (w64 (s2.2.1 + 1)), ())) none)
        (some (s2.1, ()))) N (xs1, 0, ())) none
def laws_toInt64S_e (N : Nat) : Ent := { ins := [(.sl (.int .i64))], outs := [.own (.int .i64)], F := fun x => laws_toInt64S N x.1 }
def laws_toInt64S_T (_ : Nat) : Nat → List EntX := fun _ => []
def laws_toInt64S_L : Nat → List (Nat × TK)
  | 3 => [(3, .own (.int .i64)), (4, .v (.int .i64))]
  | _ => []
theorem laws_toInt64S_eq (N : Nat) : runF N tt (laws_toInt64S_T N) laws_toInt64S_L [(.sl (.int .i64))] [.own (.int .i64)] (bodyOf Try.f9) Try.f9.ntmps [2] = (laws_toInt64S_e N).F := by
  funext x
  kernel_rfl
theorem laws_toInt64S_sound (N : Nat) : SoundC Try.prog 9 (laws_toInt64S_e N) := by
  have h := runF_sound (f := 9) (code := bodyOf Try.f9) (N := N) (T := (laws_toInt64S_T N)) (L := laws_toInt64S_L) (ins := [(.sl (.int .i64))]) (outs := [.own (.int .i64)]) (res := [2]) mixed tt_ok ?_ Try.func9 (by kernel_rfl) rfl (by kernel_rfl) (by kernel_rfl) (by decide +kernel)
  · rw [laws_toInt64S_eq] at h
    exact h
  · intro f e he
    cases he

/- laws.eqInt64S -/
def laws_eqInt64S (N : Nat) (x0 : List Int) (x1 : List Int) : Option (Bool × Unit) :=
  cond ((List.length x0 : Int) != (List.length x1 : Int))
    (some (false, ()))
    (loopN (fun (s1 : Int × Unit) next2 =>
      cond (decide (s1.1 < (List.length x0 : Int)))
        (Option.bind (idx x0 s1.1) fun v3 =>
        Option.bind (idx x1 s1.1) fun v4 =>
        cond (v3 != v4)
          (some (false, ()))
          (next2 ((w64 (s1.1 + 1)), ())))
        (some (true, ()))) N (0, ()))
def laws_eqInt64S_e (N : Nat) : Ent := { ins := [(.sl (.int .i64)), (.sl (.int .i64))], outs := [.val .bool], F := fun x => laws_eqInt64S N x.1 x.2.1 }
def laws_eqInt64S_T (_ : Nat) : Nat → List EntX := fun _ => []
def laws_eqInt64S_L : Nat → List (Nat × TK)
  | 4 => [(5, .v (.int .i64))]
  | _ => []
theorem laws_eqInt64S_eq (N : Nat) : runF N tt (laws_eqInt64S_T N) laws_eqInt64S_L [(.sl (.int .i64)), (.sl (.int .i64))] [.val .bool] (bodyOf Try.f11) Try.f11.ntmps [4] = (laws_eqInt64S_e N).F := by
  funext x
  kernel_rfl
theorem laws_eqInt64S_sound (N : Nat) : SoundC Try.prog 11 (laws_eqInt64S_e N) := by
  have h := runF_sound (f := 11) (code := bodyOf Try.f11) (N := N) (T := (laws_eqInt64S_T N)) (L := laws_eqInt64S_L) (ins := [(.sl (.int .i64)), (.sl (.int .i64))]) (outs := [.val .bool]) (res := [4]) mixed tt_ok ?_ Try.func11 (by kernel_rfl) rfl (by kernel_rfl) (by kernel_rfl) (by decide +kernel)
  · rw [laws_eqInt64S_eq] at h
    exact h
  · intro f e he
    cases he

/- laws.markInt64S -/
def laws_markInt64S (N : Nat) (x0 : List Int) (x1 : Int) : Option (List (Int) × (Int × Unit)) :=
  loopN (fun (s1 : List (Int) × Int × Int × Unit) next2 =>
    cond (decide (s1.2.2.1 < (List.length s1.1 : Int)))
      (cond (inB s1.2.2.1 (List.length s1.1))
        (let xs3 := (List.set s1.1 (Int.toNat s1.2.2.1) s1.2.1)
        next2 (xs3, (w64 (s1.2.1 + 1)), (w64 (s1.2.2.1 + 1)), ())) none)
      (some (s1.1, (s1.2.1, ())))) N (x0, x1, 0, ())
def laws_markInt64S_e (N : Nat) : EntM := { io := (.int .i64), ins := [(.int .i64)], outs := [.val (.int .i64)], F := fun xs x => laws_markInt64S N xs x.1 }
def laws_markInt64S_T (_ : Nat) : Nat → List EntX := fun _ => []
def laws_markInt64S_L : Nat → List (Nat × TK)
  | 2 => [(0, .own (.int .i64)), (1, .v (.int .i64)), (5, .v (.int .i64))]
  | _ => []
theorem laws_markInt64S_eq (N : Nat) : runM N tt (laws_markInt64S_T N) laws_markInt64S_L (.int .i64) [(.int .i64)] [.val (.int .i64)] (bodyOf Try.f12) Try.f12.ntmps [4] = (laws_markInt64S_e N).F := by
  funext xs x
  kernel_rfl
theorem laws_markInt64S_sound (N : Nat) : SoundM Try.prog 12 (laws_markInt64S_e N) := by
  have h := runM_sound (f := 12) (code := bodyOf Try.f12) (N := N) (T := (laws_markInt64S_T N)) (L := laws_markInt64S_L) (io := (.int .i64)) (ins := [(.int .i64)]) (outs := [.val (.int .i64)]) (res := [4]) mixed tt_ok ?_ Try.func12 (by kernel_rfl) rfl (by kernel_rfl) (by kernel_rfl) (by decide +kernel)
  · rw [laws_markInt64S_eq] at h
    exact h
  · intro f e he
    cases he

/- laws.heldInt64S -/
def laws_heldInt64S (N : Nat) (x0 : List Int) (x1 : Int) : Option (Int × Unit) :=
  loopN (fun (s1 : Int × Int × Unit) next2 =>
    cond (decide (s1.2.1 < (List.length x0 : Int)))
      (Option.bind (idx x0 s1.2.1) fun v3 =>
      cond (v3 != s1.1)
        (some ((-1), ()))
        (next2 ((w64 (s1.1 + 1)), (w64 (s1.2.1 + 1)), ())))
      (some (s1.1, ()))) N (x1, 0, ())
def laws_heldInt64S_e (N : Nat) : Ent := { ins := [(.sl (.int .i64)), (.int .i64)], outs := [.val (.int .i64)], F := fun x => laws_heldInt64S N x.1 x.2.1 }
def laws_heldInt64S_T (_ : Nat) : Nat → List EntX := fun _ => []
def laws_heldInt64S_L : Nat → List (Nat × TK)
  | 2 => [(1, .v (.int .i64)), (5, .v (.int .i64))]
  | _ => []
theorem laws_heldInt64S_eq (N : Nat) : runF N tt (laws_heldInt64S_T N) laws_heldInt64S_L [(.sl (.int .i64)), (.int .i64)] [.val (.int .i64)] (bodyOf Try.f13) Try.f13.ntmps [4] = (laws_heldInt64S_e N).F := by
  funext x
  kernel_rfl
theorem laws_heldInt64S_sound (N : Nat) : SoundC Try.prog 13 (laws_heldInt64S_e N) := by
  have h := runF_sound (f := 13) (code := bodyOf Try.f13) (N := N) (T := (laws_heldInt64S_T N)) (L := laws_heldInt64S_L) (ins := [(.sl (.int .i64)), (.int .i64)]) (outs := [.val (.int .i64)]) (res := [4]) mixed tt_ok ?_ Try.func13 (by kernel_rfl) rfl (by kernel_rfl) (by kernel_rfl) (by decide +kernel)
  · rw [laws_heldInt64S_eq] at h
    exact h
  · intro f e he
    cases he

/- spec.l00In -/
def spec_l00In (_N : Nat) (x0 : Int) (x1 : Int) (x2 : Int) : Option (Bool × Unit) :=
  cond (decide (x0 ≥ x1))
    (some ((decide (x0 ≤ x2)), ()))
    (some (false, ()))
def spec_l00In_e (N : Nat) : Ent := { ins := [(.int .i64), (.int .i64), (.int .i64)], outs := [.val .bool], F := fun x => spec_l00In N x.1 x.2.1 x.2.2.1 }
def spec_l00In_T (_ : Nat) : Nat → List EntX := fun _ => []
def spec_l00In_L : Nat → List (Nat × TK) := fun _ => []
theorem spec_l00In_eq (N : Nat) : runF N tt (spec_l00In_T N) spec_l00In_L [(.int .i64), (.int .i64), (.int .i64)] [.val .bool] (bodyOf Try.f45) Try.f45.ntmps [6] = (spec_l00In_e N).F := by
  funext x
  kernel_rfl
theorem spec_l00In_sound (N : Nat) : SoundC Try.prog 45 (spec_l00In_e N) := by
  have h := runF_sound (f := 45) (code := bodyOf Try.f45) (N := N) (T := (spec_l00In_T N)) (L := spec_l00In_L) (ins := [(.int .i64), (.int .i64), (.int .i64)]) (outs := [.val .bool]) (res := [6]) mixed tt_ok ?_ Try.func45 (by kernel_rfl) rfl (by kernel_rfl) (by kernel_rfl) (by decide +kernel)
  · rw [spec_l00In_eq] at h
    exact h
  · intro f e he
    cases he

/- spec.l02Times -/
def spec_l02Times (N : Nat) (x0 : List Int) : Option (Bool × Unit) :=
  loopN (fun (s1 : Int × Unit) next2 =>
    cond (decide (s1.1 < (List.length x0 : Int)))
      (Option.bind (idx x0 s1.1) fun v3 =>
      Option.bind (spec_l00In N v3 1 10000) fun r4 =>
      cond (!r4.1)
        (some (false, ()))
        (next2 ((w64 (s1.1 + 1)), ())))
      (cond (decide ((List.length x0 : Int) ≥ 1))
        (some ((decide ((List.length x0 : Int) ≤ 24)), ()))
        (some (false, ())))) N (0, ())
def spec_l02Times_e (N : Nat) : Ent := { ins := [(.sl (.int .i64))], outs := [.val .bool], F := fun x => spec_l02Times N x.1 }
def spec_l02Times_T (N : Nat) : Nat → List EntX
  | 45 => [.pl (spec_l00In_e N)]
  | _ => []
def spec_l02Times_L : Nat → List (Nat × TK)
  | 2 => [(3, .v (.int .i64))]
  | _ => []
theorem spec_l02Times_eq (N : Nat) : runF N tt (spec_l02Times_T N) spec_l02Times_L [(.sl (.int .i64))] [.val .bool] (bodyOf Try.f86) Try.f86.ntmps [2] = (spec_l02Times_e N).F := by
  funext x
  kernel_rfl
theorem spec_l02Times_sound (N : Nat) : SoundC Try.prog 86 (spec_l02Times_e N) := by
  have h := runF_sound (f := 86) (code := bodyOf Try.f86) (N := N) (T := (spec_l02Times_T N)) (L := spec_l02Times_L) (ins := [(.sl (.int .i64))]) (outs := [.val .bool]) (res := [2]) mixed tt_ok ?_ Try.func86 (by kernel_rfl) rfl (by kernel_rfl) (by kernel_rfl) (by decide +kernel)
  · rw [spec_l02Times_eq] at h
    exact h
  · intro f e he
    unfold spec_l02Times_T at he
    split at he
    · rw [List.mem_singleton.1 he]; exact spec_l00In_sound N
    · cases he

/- spec.l04Tasks -/
def spec_l04Tasks (N : Nat) (x0 : List Int) : Option (Bool × Unit) :=
  Option.bind (spec_l02Times N x0) fun r1 =>
  cond r1.1
    (some ((decide ((List.length x0 : Int) ≤ 12)), ()))
    (some (false, ()))
def spec_l04Tasks_e (N : Nat) : Ent := { ins := [(.sl (.int .i64))], outs := [.val .bool], F := fun x => spec_l04Tasks N x.1 }
def spec_l04Tasks_T (N : Nat) : Nat → List EntX
  | 86 => [.pl (spec_l02Times_e N)]
  | _ => []
def spec_l04Tasks_L : Nat → List (Nat × TK) := fun _ => []
theorem spec_l04Tasks_eq (N : Nat) : runF N tt (spec_l04Tasks_T N) spec_l04Tasks_L [(.sl (.int .i64))] [.val .bool] (bodyOf Try.f76) Try.f76.ntmps [2] = (spec_l04Tasks_e N).F := by
  funext x
  kernel_rfl
theorem spec_l04Tasks_sound (N : Nat) : SoundC Try.prog 76 (spec_l04Tasks_e N) := by
  have h := runF_sound (f := 76) (code := bodyOf Try.f76) (N := N) (T := (spec_l04Tasks_T N)) (L := spec_l04Tasks_L) (ins := [(.sl (.int .i64))]) (outs := [.val .bool]) (res := [2]) mixed tt_ok ?_ Try.func76 (by kernel_rfl) rfl (by kernel_rfl) (by kernel_rfl) (by decide +kernel)
  · rw [spec_l04Tasks_eq] at h
    exact h
  · intro f e he
    unfold spec_l04Tasks_T at he
    split at he
    · rw [List.mem_singleton.1 he]; exact spec_l02Times_sound N
    · cases he

/- spec.l04Line -/
def spec_l04Line (N : Nat) (x0 : List Int) (x1 : List Int) : Option (Bool × Unit) :=
  Option.bind (spec_l04Tasks N x0) fun r1 =>
  cond (!r1.1)
    (some (false, ()))
    (cond ((List.length x1 : Int) != (List.length x0 : Int))
      (some (false, ()))
      (loopN (fun (s2 : Int × Unit) next3 =>
        cond (decide (s2.1 < (List.length x1 : Int)))
          (Option.bind (idx x1 s2.1) fun v4 =>
          cond (decide ((IntKind.wrap .u64 s2.1) < 0)) none
            (Option.bind (spec_l00In N v4 0 (w64 ((ishl .i64 1 (IntKind.wrap .u64 s2.1)) - 1))) fun r5 =>
            cond (!r5.1)
              (some (false, ()))
              (next3 ((w64 (s2.1 + 1)), ()))))
          (some (true, ()))) N (0, ())))
def spec_l04Line_e (N : Nat) : Ent := { ins := [(.sl (.int .i64)), (.sl (.int .i64))], outs := [.val .bool], F := fun x => spec_l04Line N x.1 x.2.1 }
def spec_l04Line_T (N : Nat) : Nat → List EntX
  | 45 => [.pl (spec_l00In_e N)]
  | 76 => [.pl (spec_l04Tasks_e N)]
  | _ => []
def spec_l04Line_L : Nat → List (Nat × TK)
  | 4 => [(5, .v (.int .i64))]
  | _ => []
theorem spec_l04Line_eq (N : Nat) : runF N tt (spec_l04Line_T N) spec_l04Line_L [(.sl (.int .i64)), (.sl (.int .i64))] [.val .bool] (bodyOf Try.f58) Try.f58.ntmps [4] = (spec_l04Line_e N).F := by
  funext x
  kernel_rfl
theorem spec_l04Line_sound (N : Nat) : SoundC Try.prog 58 (spec_l04Line_e N) := by
  have h := runF_sound (f := 58) (code := bodyOf Try.f58) (N := N) (T := (spec_l04Line_T N)) (L := spec_l04Line_L) (ins := [(.sl (.int .i64)), (.sl (.int .i64))]) (outs := [.val .bool]) (res := [4]) mixed tt_ok ?_ Try.func58 (by kernel_rfl) rfl (by kernel_rfl) (by kernel_rfl) (by decide +kernel)
  · rw [spec_l04Line_eq] at h
    exact h
  · intro f e he
    unfold spec_l04Line_T at he
    split at he
    · rw [List.mem_singleton.1 he]; exact spec_l00In_sound N
    · rw [List.mem_singleton.1 he]; exact spec_l04Tasks_sound N
    · cases he

/- spec.l00Max -/
def spec_l00Max (_N : Nat) (x0 : Int) (x1 : Int) : Option (Int × Unit) :=
  cond (decide (x0 > x1))
    (some (x0, ()))
    (some (x1, ()))
def spec_l00Max_e (N : Nat) : Ent := { ins := [(.int .i64), (.int .i64)], outs := [.val (.int .i64)], F := fun x => spec_l00Max N x.1 x.2.1 }
def spec_l00Max_T (_ : Nat) : Nat → List EntX := fun _ => []
def spec_l00Max_L : Nat → List (Nat × TK) := fun _ => []
theorem spec_l00Max_eq (N : Nat) : runF N tt (spec_l00Max_T N) spec_l00Max_L [(.int .i64), (.int .i64)] [.val (.int .i64)] (bodyOf Try.f28) Try.f28.ntmps [4] = (spec_l00Max_e N).F := by
  funext x
  kernel_rfl
theorem spec_l00Max_sound (N : Nat) : SoundC Try.prog 28 (spec_l00Max_e N) := by
  have h := runF_sound (f := 28) (code := bodyOf Try.f28) (N := N) (T := (spec_l00Max_T N)) (L := spec_l00Max_L) (ins := [(.int .i64), (.int .i64)]) (outs := [.val (.int .i64)]) (res := [4]) mixed tt_ok ?_ Try.func28 (by kernel_rfl) rfl (by kernel_rfl) (by kernel_rfl) (by decide +kernel)
  · rw [spec_l00Max_eq] at h
    exact h
  · intro f e he
    cases he

/- spec.l02Greatest -/
def spec_l02Greatest (N : Nat) (x0 : List Int) : Option (Int × Unit) :=
  Option.bind (idx x0 0) fun v1 =>
  loopN (fun (s2 : Int × Int × Unit) next3 =>
    cond (decide (s2.2.1 < (List.length x0 : Int)))
      (Option.bind (idx x0 s2.2.1) fun v4 =>
      Option.bind (spec_l00Max N s2.1 v4) fun r5 =>
      next3 (r5.1, (w64 (s2.2.1 + 1)), ()))
      (some (s2.1, ()))) N (v1, 1, ())
def spec_l02Greatest_e (N : Nat) : Ent := { ins := [(.sl (.int .i64))], outs := [.val (.int .i64)], F := fun x => spec_l02Greatest N x.1 }
def spec_l02Greatest_T (N : Nat) : Nat → List EntX
  | 28 => [.pl (spec_l00Max_e N)]
  | _ => []
def spec_l02Greatest_L : Nat → List (Nat × TK)
  | 3 => [(3, .v (.int .i64)), (4, .v (.int .i64))]
  | _ => []
theorem spec_l02Greatest_eq (N : Nat) : runF N tt (spec_l02Greatest_T N) spec_l02Greatest_L [(.sl (.int .i64))] [.val (.int .i64)] (bodyOf Try.f77) Try.f77.ntmps [2] = (spec_l02Greatest_e N).F := by
  funext x
  kernel_rfl
theorem spec_l02Greatest_sound (N : Nat) : SoundC Try.prog 77 (spec_l02Greatest_e N) := by
  have h := runF_sound (f := 77) (code := bodyOf Try.f77) (N := N) (T := (spec_l02Greatest_T N)) (L := spec_l02Greatest_L) (ins := [(.sl (.int .i64))]) (outs := [.val (.int .i64)]) (res := [2]) mixed tt_ok ?_ Try.func77 (by kernel_rfl) rfl (by kernel_rfl) (by kernel_rfl) (by decide +kernel)
  · rw [spec_l02Greatest_eq] at h
    exact h
  · intro f e he
    unfold spec_l02Greatest_T at he
    split at he
    · rw [List.mem_singleton.1 he]; exact spec_l00Max_sound N
    · cases he

/- spec.l04Cycle -/
def spec_l04Cycle (N : Nat) (x0 : List Int) (x1 : Int) : Option (Bool × Unit) :=
  Option.bind (spec_l00In N x1 1 10000) fun r1 =>
  cond r1.1
    (Option.bind (spec_l02Greatest N x0) fun r2 =>
    some ((decide (r2.1 ≤ x1)), ()))
    (some (false, ()))
def spec_l04Cycle_e (N : Nat) : Ent := { ins := [(.sl (.int .i64)), (.int .i64)], outs := [.val .bool], F := fun x => spec_l04Cycle N x.1 x.2.1 }
def spec_l04Cycle_T (N : Nat) : Nat → List EntX
  | 45 => [.pl (spec_l00In_e N)]
  | 77 => [.pl (spec_l02Greatest_e N)]
  | _ => []
def spec_l04Cycle_L : Nat → List (Nat × TK) := fun _ => []
theorem spec_l04Cycle_eq (N : Nat) : runF N tt (spec_l04Cycle_T N) spec_l04Cycle_L [(.sl (.int .i64)), (.int .i64)] [.val .bool] (bodyOf Try.f59) Try.f59.ntmps [4] = (spec_l04Cycle_e N).F := by
  funext x
  kernel_rfl
theorem spec_l04Cycle_sound (N : Nat) : SoundC Try.prog 59 (spec_l04Cycle_e N) := by
  have h := runF_sound (f := 59) (code := bodyOf Try.f59) (N := N) (T := (spec_l04Cycle_T N)) (L := spec_l04Cycle_L) (ins := [(.sl (.int .i64)), (.int .i64)]) (outs := [.val .bool]) (res := [4]) mixed tt_ok ?_ Try.func59 (by kernel_rfl) rfl (by kernel_rfl) (by kernel_rfl) (by decide +kernel)
  · rw [spec_l04Cycle_eq] at h
    exact h
  · intro f e he
    unfold spec_l04Cycle_T at he
    split at he
    · rw [List.mem_singleton.1 he]; exact spec_l00In_sound N
    · rw [List.mem_singleton.1 he]; exact spec_l02Greatest_sound N
    · cases he

/- spec.l02Sum -/
def spec_l02Sum (N : Nat) (x0 : List Int) : Option (Int × Unit) :=
  loopN (fun (s1 : Int × Int × Unit) next2 =>
    cond (decide (s1.2.1 < (List.length x0 : Int)))
      (Option.bind (idx x0 s1.2.1) fun v3 =>
      next2 ((w64 (s1.1 + v3)), (w64 (s1.2.1 + 1)), ()))
      (some (s1.1, ()))) N (0, 0, ())
def spec_l02Sum_e (N : Nat) : Ent := { ins := [(.sl (.int .i64))], outs := [.val (.int .i64)], F := fun x => spec_l02Sum N x.1 }
def spec_l02Sum_T (_ : Nat) : Nat → List EntX := fun _ => []
def spec_l02Sum_L : Nat → List (Nat × TK)
  | 3 => [(3, .v (.int .i64)), (4, .v (.int .i64))]
  | _ => []
theorem spec_l02Sum_eq (N : Nat) : runF N tt (spec_l02Sum_T N) spec_l02Sum_L [(.sl (.int .i64))] [.val (.int .i64)] (bodyOf Try.f78) Try.f78.ntmps [2] = (spec_l02Sum_e N).F := by
  funext x
  kernel_rfl
theorem spec_l02Sum_sound (N : Nat) : SoundC Try.prog 78 (spec_l02Sum_e N) := by
  have h := runF_sound (f := 78) (code := bodyOf Try.f78) (N := N) (T := (spec_l02Sum_T N)) (L := spec_l02Sum_L) (ins := [(.sl (.int .i64))]) (outs := [.val (.int .i64)]) (res := [2]) mixed tt_ok ?_ Try.func78 (by kernel_rfl) rfl (by kernel_rfl) (by kernel_rfl) (by decide +kernel)
  · rw [spec_l02Sum_eq] at h
    exact h
  · intro f e he
    cases he

/- spec.l04Fewest -/
def spec_l04Fewest (N : Nat) (x0 : List Int) (x1 : Int) : Option (Int × Unit) :=
  Option.bind (spec_l02Sum N x0) fun r1 =>
  cond (x1 == 0) none
    (some ((w64 (Int.tdiv (w64 ((w64 (r1.1 + x1)) - 1)) x1)), ()))
def spec_l04Fewest_e (N : Nat) : Ent := { ins := [(.sl (.int .i64)), (.int .i64)], outs := [.val (.int .i64)], F := fun x => spec_l04Fewest N x.1 x.2.1 }
def spec_l04Fewest_T (N : Nat) : Nat → List EntX
  | 78 => [.pl (spec_l02Sum_e N)]
  | _ => []
def spec_l04Fewest_L : Nat → List (Nat × TK) := fun _ => []
theorem spec_l04Fewest_eq (N : Nat) : runF N tt (spec_l04Fewest_T N) spec_l04Fewest_L [(.sl (.int .i64)), (.int .i64)] [.val (.int .i64)] (bodyOf Try.f60) Try.f60.ntmps [4] = (spec_l04Fewest_e N).F := by
  funext x
  kernel_rfl
theorem spec_l04Fewest_sound (N : Nat) : SoundC Try.prog 60 (spec_l04Fewest_e N) := by
  have h := runF_sound (f := 60) (code := bodyOf Try.f60) (N := N) (T := (spec_l04Fewest_T N)) (L := spec_l04Fewest_L) (ins := [(.sl (.int .i64)), (.int .i64)]) (outs := [.val (.int .i64)]) (res := [4]) mixed tt_ok ?_ Try.func60 (by kernel_rfl) rfl (by kernel_rfl) (by kernel_rfl) (by decide +kernel)
  · rw [spec_l04Fewest_eq] at h
    exact h
  · intro f e he
    unfold spec_l04Fewest_T at he
    split at he
    · rw [List.mem_singleton.1 he]; exact spec_l02Sum_sound N
    · cases he

/- spec.LeastStations -/
def spec_LeastStations (N : Nat) (x0 : List Int) (x1 : List Int) (x2 : Int) : Option (List (Int) × Int × Bool × Unit) :=
  Ls.leF (spec_l04Line N) (spec_l04Cycle N) (spec_l04Fewest N) (spec_l00Max N) x0 x1 x2
def spec_LeastStations_e (N : Nat) : Ent := { ins := [(.sl (.int .i64)), (.sl (.int .i64)), (.int .i64)], outs := [.own (.int .i64), .val (.int .i64), .val .bool], F := fun x => spec_LeastStations N x.1 x.2.1 x.2.2.1 }
theorem spec_LeastStations_sound (N : Nat) : SoundC Try.prog 24 (spec_LeastStations_e N) := Ls.le_sound (spec_l04Line_sound N) (spec_l04Cycle_sound N) (spec_l04Fewest_sound N) (spec_l00Max_sound N)

/- slices.Max[[]int64,int64] -/
def slices_Max_int64_int64 (N : Nat) (x0 : List Int) : Option (Int × Unit) :=
  cond (decide ((List.length x0 : Int) < 1))
    (none)
    (Option.bind (idx x0 0) fun v1 =>
    loopN (fun (s2 : Int × Int × Unit) next3 =>
      cond (decide (s2.2.1 < (List.length x0 : Int)))
        (Option.bind (idx x0 s2.2.1) fun v4 =>
        next3 ((imax s2.1 v4), (w64 (s2.2.1 + 1)), ()))
        (some (s2.1, ()))) N (v1, 1, ()))
def slices_Max_int64_int64_e (N : Nat) : Ent := { ins := [(.sl (.int .i64))], outs := [.val (.int .i64)], F := fun x => slices_Max_int64_int64 N x.1 }
def slices_Max_int64_int64_T (_ : Nat) : Nat → List EntX := fun _ => []
def slices_Max_int64_int64_L : Nat → List (Nat × TK)
  | 5 => [(3, .v (.int .i64)), (4, .v (.int .i64))]
  | _ => []
theorem slices_Max_int64_int64_eq (N : Nat) : runF N tt (slices_Max_int64_int64_T N) slices_Max_int64_int64_L [(.sl (.int .i64))] [.val (.int .i64)] (bodyOf Try.f31) Try.f31.ntmps [2] = (slices_Max_int64_int64_e N).F := by
  funext x
  kernel_rfl
theorem slices_Max_int64_int64_sound (N : Nat) : SoundC Try.prog 31 (slices_Max_int64_int64_e N) := by
  have h := runF_sound (f := 31) (code := bodyOf Try.f31) (N := N) (T := (slices_Max_int64_int64_T N)) (L := slices_Max_int64_int64_L) (ins := [(.sl (.int .i64))]) (outs := [.val (.int .i64)]) (res := [2]) mixed tt_ok ?_ Try.func31 (by kernel_rfl) rfl (by kernel_rfl) (by kernel_rfl) (by decide +kernel)
  · rw [slices_Max_int64_int64_eq] at h
    exact h
  · intro f e he
    cases he

/- impl.within -/
def impl_within (_N : Nat) (x0 : Int) (x1 : Int) (x2 : Int) : Option (Bool × Unit) :=
  cond (decide (x0 ≥ x1))
    (some ((decide (x0 ≤ x2)), ()))
    (some (false, ()))
def impl_within_e (N : Nat) : Ent := { ins := [(.int .i64), (.int .i64), (.int .i64)], outs := [.val .bool], F := fun x => impl_within N x.1 x.2.1 x.2.2.1 }
def impl_within_T (_ : Nat) : Nat → List EntX := fun _ => []
def impl_within_L : Nat → List (Nat × TK) := fun _ => []
theorem impl_within_eq (N : Nat) : runF N tt (impl_within_T N) impl_within_L [(.int .i64), (.int .i64), (.int .i64)] [.val .bool] (bodyOf Try.f52) Try.f52.ntmps [6] = (impl_within_e N).F := by
  funext x
  kernel_rfl
theorem impl_within_sound (N : Nat) : SoundC Try.prog 52 (impl_within_e N) := by
  have h := runF_sound (f := 52) (code := bodyOf Try.f52) (N := N) (T := (impl_within_T N)) (L := impl_within_L) (ins := [(.int .i64), (.int .i64), (.int .i64)]) (outs := [.val .bool]) (res := [6]) mixed tt_ok ?_ Try.func52 (by kernel_rfl) rfl (by kernel_rfl) (by kernel_rfl) (by decide +kernel)
  · rw [impl_within_eq] at h
    exact h
  · intro f e he
    cases he

/- impl.areWithin -/
def impl_areWithin (N : Nat) (x0 : List Int) (x1 : Int) (x2 : Int) : Option (Bool × Unit) :=
  loopN (fun (s1 : Int × Unit) next2 =>
    cond (decide (s1.1 < (List.length x0 : Int)))
      (Option.bind (idx x0 s1.1) fun v3 =>
      Option.bind (impl_within N v3 x1 x2) fun r4 =>
      cond (!r4.1)
        (some (false, ()))
        (next2 ((w64 (s1.1 + 1)), ())))
      (some (true, ()))) N (0, ())
def impl_areWithin_e (N : Nat) : Ent := { ins := [(.sl (.int .i64)), (.int .i64), (.int .i64)], outs := [.val .bool], F := fun x => impl_areWithin N x.1 x.2.1 x.2.2.1 }
def impl_areWithin_T (N : Nat) : Nat → List EntX
  | 52 => [.pl (impl_within_e N)]
  | _ => []
def impl_areWithin_L : Nat → List (Nat × TK)
  | 2 => [(11, .v (.int .i64))]
  | _ => []
theorem impl_areWithin_eq (N : Nat) : runF N tt (impl_areWithin_T N) impl_areWithin_L [(.sl (.int .i64)), (.int .i64), (.int .i64)] [.val .bool] (bodyOf Try.f36) Try.f36.ntmps [6] = (impl_areWithin_e N).F := by
  funext x
  kernel_rfl
theorem impl_areWithin_sound (N : Nat) : SoundC Try.prog 36 (impl_areWithin_e N) := by
  have h := runF_sound (f := 36) (code := bodyOf Try.f36) (N := N) (T := (impl_areWithin_T N)) (L := impl_areWithin_L) (ins := [(.sl (.int .i64)), (.int .i64), (.int .i64)]) (outs := [.val .bool]) (res := [6]) mixed tt_ok ?_ Try.func36 (by kernel_rfl) rfl (by kernel_rfl) (by kernel_rfl) (by decide +kernel)
  · rw [impl_areWithin_eq] at h
    exact h
  · intro f e he
    unfold impl_areWithin_T at he
    split at he
    · rw [List.mem_singleton.1 he]; exact impl_within_sound N
    · cases he

/- impl.areMany -/
def impl_areMany (N : Nat) (x0 : List Int) (x1 : Int) (x2 : Int) (x3 : Int) (x4 : Int) : Option (Bool × Unit) :=
  cond (decide ((List.length x0 : Int) ≥ x1))
    (cond (decide ((List.length x0 : Int) ≤ x2))
      (Option.bind (impl_areWithin N x0 x3 x4) fun r1 =>
      some (r1.1, ()))
      (some (false, ())))
    (some (false, ()))
def impl_areMany_e (N : Nat) : Ent := { ins := [(.sl (.int .i64)), (.int .i64), (.int .i64), (.int .i64), (.int .i64)], outs := [.val .bool], F := fun x => impl_areMany N x.1 x.2.1 x.2.2.1 x.2.2.2.1 x.2.2.2.2.1 }
def impl_areMany_T (N : Nat) : Nat → List EntX
  | 36 => [.pl (impl_areWithin_e N)]
  | _ => []
def impl_areMany_L : Nat → List (Nat × TK) := fun _ => []
theorem impl_areMany_eq (N : Nat) : runF N tt (impl_areMany_T N) impl_areMany_L [(.sl (.int .i64)), (.int .i64), (.int .i64), (.int .i64), (.int .i64)] [.val .bool] (bodyOf Try.f51) Try.f51.ntmps [10] = (impl_areMany_e N).F := by
  funext x
  kernel_rfl
theorem impl_areMany_sound (N : Nat) : SoundC Try.prog 51 (impl_areMany_e N) := by
  have h := runF_sound (f := 51) (code := bodyOf Try.f51) (N := N) (T := (impl_areMany_T N)) (L := impl_areMany_L) (ins := [(.sl (.int .i64)), (.int .i64), (.int .i64), (.int .i64), (.int .i64)]) (outs := [.val .bool]) (res := [10]) mixed tt_ok ?_ Try.func51 (by kernel_rfl) rfl (by kernel_rfl) (by kernel_rfl) (by decide +kernel)
  · rw [impl_areMany_eq] at h
    exact h
  · intro f e he
    unfold impl_areMany_T at he
    split at he
    · rw [List.mem_singleton.1 he]; exact impl_areWithin_sound N
    · cases he

/- impl.areLine -/
def impl_areLine (N : Nat) (x0 : List Int) : Option (Bool × Unit) :=
  Option.bind (impl_areMany N x0 1 12 1 10000) fun r1 =>
  some (r1.1, ())
def impl_areLine_e (N : Nat) : Ent := { ins := [(.sl (.int .i64))], outs := [.val .bool], F := fun x => impl_areLine N x.1 }
def impl_areLine_T (N : Nat) : Nat → List EntX
  | 51 => [.pl (impl_areMany_e N)]
  | _ => []
def impl_areLine_L : Nat → List (Nat × TK) := fun _ => []
theorem impl_areLine_eq (N : Nat) : runF N tt (impl_areLine_T N) impl_areLine_L [(.sl (.int .i64))] [.val .bool] (bodyOf Try.f79) Try.f79.ntmps [2] = (impl_areLine_e N).F := by
  funext x
  kernel_rfl
theorem impl_areLine_sound (N : Nat) : SoundC Try.prog 79 (impl_areLine_e N) := by
  have h := runF_sound (f := 79) (code := bodyOf Try.f79) (N := N) (T := (impl_areLine_T N)) (L := impl_areLine_L) (ins := [(.sl (.int .i64))]) (outs := [.val .bool]) (res := [2]) mixed tt_ok ?_ Try.func79 (by kernel_rfl) rfl (by kernel_rfl) (by kernel_rfl) (by decide +kernel)
  · rw [impl_areLine_eq] at h
    exact h
  · intro f e he
    unfold impl_areLine_T at he
    split at he
    · rw [List.mem_singleton.1 he]; exact impl_areMany_sound N
    · cases he

/- impl.IsLine -/
def impl_IsLine (N : Nat) (x0 : List Int) (x1 : List Int) : Option (Bool × Unit) :=
  Option.bind (impl_areLine N x0) fun r1 =>
  cond (!r1.1)
    (some (false, ()))
    (cond ((List.length x1 : Int) != (List.length x0 : Int))
      (some (false, ()))
      (loopN (fun (s2 : Int × Unit) next3 =>
        cond (decide (s2.1 < (List.length x1 : Int)))
          (Option.bind (idx x1 s2.1) fun v4 =>
          cond (decide (s2.1 < 0)) none
            (Option.bind (impl_within N v4 0 (w64 ((ishl .i64 1 s2.1) - 1))) fun r5 =>
            cond (!r5.1)
              (some (false, ()))
              (next3 ((w64 (s2.1 + 1)), ()))))
          (some (true, ()))) N (0, ())))
def impl_IsLine_e (N : Nat) : Ent := { ins := [(.sl (.int .i64)), (.sl (.int .i64))], outs := [.val .bool], F := fun x => impl_IsLine N x.1 x.2.1 }
def impl_IsLine_T (N : Nat) : Nat → List EntX
  | 52 => [.pl (impl_within_e N)]
  | 79 => [.pl (impl_areLine_e N)]
  | _ => []
def impl_IsLine_L : Nat → List (Nat × TK)
  | 4 => [(19, .v (.int .i64))]
  | _ => []
theorem impl_IsLine_eq (N : Nat) : runF N tt (impl_IsLine_T N) impl_IsLine_L [(.sl (.int .i64)), (.sl (.int .i64))] [.val .bool] (bodyOf Try.f62) Try.f62.ntmps [4] = (impl_IsLine_e N).F := by
  funext x
  kernel_rfl
theorem impl_IsLine_sound (N : Nat) : SoundC Try.prog 62 (impl_IsLine_e N) := by
  have h := runF_sound (f := 62) (code := bodyOf Try.f62) (N := N) (T := (impl_IsLine_T N)) (L := impl_IsLine_L) (ins := [(.sl (.int .i64)), (.sl (.int .i64))]) (outs := [.val .bool]) (res := [4]) mixed tt_ok ?_ Try.func62 (by kernel_rfl) rfl (by kernel_rfl) (by kernel_rfl) (by decide +kernel)
  · rw [impl_IsLine_eq] at h
    exact h
  · intro f e he
    unfold impl_IsLine_T at he
    split at he
    · rw [List.mem_singleton.1 he]; exact impl_within_sound N
    · rw [List.mem_singleton.1 he]; exact impl_areLine_sound N
    · cases he

/- impl.isCycle -/
def impl_isCycle (N : Nat) (x0 : Int) : Option (Bool × Unit) :=
  Option.bind (impl_within N x0 1 10000) fun r1 =>
  some (r1.1, ())
def impl_isCycle_e (N : Nat) : Ent := { ins := [(.int .i64)], outs := [.val .bool], F := fun x => impl_isCycle N x.1 }
def impl_isCycle_T (N : Nat) : Nat → List EntX
  | 52 => [.pl (impl_within_e N)]
  | _ => []
def impl_isCycle_L : Nat → List (Nat × TK) := fun _ => []
theorem impl_isCycle_eq (N : Nat) : runF N tt (impl_isCycle_T N) impl_isCycle_L [(.int .i64)] [.val .bool] (bodyOf Try.f63) Try.f63.ntmps [2] = (impl_isCycle_e N).F := by
  funext x
  kernel_rfl
theorem impl_isCycle_sound (N : Nat) : SoundC Try.prog 63 (impl_isCycle_e N) := by
  have h := runF_sound (f := 63) (code := bodyOf Try.f63) (N := N) (T := (impl_isCycle_T N)) (L := impl_isCycle_L) (ins := [(.int .i64)]) (outs := [.val .bool]) (res := [2]) mixed tt_ok ?_ Try.func63 (by kernel_rfl) rfl (by kernel_rfl) (by kernel_rfl) (by decide +kernel)
  · rw [impl_isCycle_eq] at h
    exact h
  · intro f e he
    unfold impl_isCycle_T at he
    split at he
    · rw [List.mem_singleton.1 he]; exact impl_within_sound N
    · cases he

/- math/bits.Mul32 -/
def math_bits_Mul32 (_N : Nat) (x0 : Int) (x1 : Int) : Option (Int × Int × Unit) :=
  some ((IntKind.wrap .u32 (ishr .u64 (IntKind.wrap .u64 ((IntKind.wrap .u64 x0) * (IntKind.wrap .u64 x1))) 32)), (IntKind.wrap .u32 (IntKind.wrap .u64 ((IntKind.wrap .u64 x0) * (IntKind.wrap .u64 x1)))), ())
def math_bits_Mul32_e (N : Nat) : Ent := { ins := [(.int .u32), (.int .u32)], outs := [.val (.int .u32), .val (.int .u32)], F := fun x => math_bits_Mul32 N x.1 x.2.1 }
def math_bits_Mul32_T (_ : Nat) : Nat → List EntX := fun _ => []
def math_bits_Mul32_L : Nat → List (Nat × TK) := fun _ => []
theorem math_bits_Mul32_eq (N : Nat) : runF N tt (math_bits_Mul32_T N) math_bits_Mul32_L [(.int .u32), (.int .u32)] [.val (.int .u32), .val (.int .u32)] (bodyOf Try.f87) Try.f87.ntmps [4, 5] = (math_bits_Mul32_e N).F := by
  funext x
  kernel_rfl
theorem math_bits_Mul32_sound (N : Nat) : SoundC Try.prog 87 (math_bits_Mul32_e N) := by
  have h := runF_sound (f := 87) (code := bodyOf Try.f87) (N := N) (T := (math_bits_Mul32_T N)) (L := math_bits_Mul32_L) (ins := [(.int .u32), (.int .u32)]) (outs := [.val (.int .u32), .val (.int .u32)]) (res := [4, 5]) mixed tt_ok ?_ Try.func87 (by kernel_rfl) rfl (by kernel_rfl) (by kernel_rfl) (by decide +kernel)
  · rw [math_bits_Mul32_eq] at h
    exact h
  · intro f e he
    cases he

/- math/bits.Mul64 -/
def math_bits_Mul64 (_N : Nat) (x0 : Int) (x1 : Int) : Option (Int × Int × Unit) :=
  some ((IntKind.wrap .u64 ((IntKind.wrap .u64 ((IntKind.wrap .u64 ((ishr .u64 x0 32) * (ishr .u64 x1 32))) + (ishr .u64 (IntKind.wrap .u64 ((IntKind.wrap .u64 ((ishr .u64 x0 32) * (ibits .and .u64 x1 4294967295))) + (ishr .u64 (IntKind.wrap .u64 ((ibits .and .u64 x0 4294967295) * (ibits .and .u64 x1 4294967295))) 32))) 32))) + (ishr .u64 (IntKind.wrap .u64 ((ibits .and .u64 (IntKind.wrap .u64 ((IntKind.wrap .u64 ((ishr .u64 x0 32) * (ibits .and .u64 x1 4294967295))) + (ishr .u64 (IntKind.wrap .u64 ((ibits .and .u64 x0 4294967295) * (ibits .and .u64 x1 4294967295))) 32))) 4294967295) + (IntKind.wrap .u64 ((ibits .and .u64 x0 4294967295) * (ishr .u64 x1 32))))) 32))), (IntKind.wrap .u64 (x0 * x1)), ())
def math_bits_Mul64_e (N : Nat) : Ent := { ins := [(.int .u64), (.int .u64)], outs := [.val (.int .u64), .val (.int .u64)], F := fun x => math_bits_Mul64 N x.1 x.2.1 }
def math_bits_Mul64_T (_ : Nat) : Nat → List EntX := fun _ => []
def math_bits_Mul64_L : Nat → List (Nat × TK) := fun _ => []
theorem math_bits_Mul64_eq (N : Nat) : runF N tt (math_bits_Mul64_T N) math_bits_Mul64_L [(.int .u64), (.int .u64)] [.val (.int .u64), .val (.int .u64)] (bodyOf Try.f88) Try.f88.ntmps [4, 5] = (math_bits_Mul64_e N).F := by
  funext x
  kernel_rfl
theorem math_bits_Mul64_sound (N : Nat) : SoundC Try.prog 88 (math_bits_Mul64_e N) := by
  have h := runF_sound (f := 88) (code := bodyOf Try.f88) (N := N) (T := (math_bits_Mul64_T N)) (L := math_bits_Mul64_L) (ins := [(.int .u64), (.int .u64)]) (outs := [.val (.int .u64), .val (.int .u64)]) (res := [4, 5]) mixed tt_ok ?_ Try.func88 (by kernel_rfl) rfl (by kernel_rfl) (by kernel_rfl) (by decide +kernel)
  · rw [math_bits_Mul64_eq] at h
    exact h
  · intro f e he
    cases he

/- math/bits.Mul -/
def math_bits_Mul (N : Nat) (x0 : Int) (x1 : Int) : Option (Int × Int × Unit) :=
  Option.bind (math_bits_Mul64 N x0 x1) fun r1 =>
  some (r1.1, r1.2.1, ())
def math_bits_Mul_e (N : Nat) : Ent := { ins := [(.int .u64), (.int .u64)], outs := [.val (.int .u64), .val (.int .u64)], F := fun x => math_bits_Mul N x.1 x.2.1 }
def math_bits_Mul_T (N : Nat) : Nat → List EntX
  | 88 => [.pl (math_bits_Mul64_e N)]
  | _ => []
def math_bits_Mul_L : Nat → List (Nat × TK) := fun _ => []
theorem math_bits_Mul_eq (N : Nat) : runF N tt (math_bits_Mul_T N) math_bits_Mul_L [(.int .u64), (.int .u64)] [.val (.int .u64), .val (.int .u64)] (bodyOf Try.f80) Try.f80.ntmps [4, 5] = (math_bits_Mul_e N).F := by
  funext x
  kernel_rfl
theorem math_bits_Mul_sound (N : Nat) : SoundC Try.prog 80 (math_bits_Mul_e N) := by
  have h := runF_sound (f := 80) (code := bodyOf Try.f80) (N := N) (T := (math_bits_Mul_T N)) (L := math_bits_Mul_L) (ins := [(.int .u64), (.int .u64)]) (outs := [.val (.int .u64), .val (.int .u64)]) (res := [4, 5]) mixed tt_ok ?_ Try.func80 (by kernel_rfl) rfl (by kernel_rfl) (by kernel_rfl) (by decide +kernel)
  · rw [math_bits_Mul_eq] at h
    exact h
  · intro f e he
    unfold math_bits_Mul_T at he
    split at he
    · rw [List.mem_singleton.1 he]; exact math_bits_Mul64_sound N
    · cases he

/- slices.Repeat[[]int64,int64] -/
def slices_Repeat_int64_int64 (N : Nat) (x0 : List Int) (x1 : Int) : Option (List (Int) × Unit) :=
  cond (decide (x1 < 0))
    (none)
    (Option.bind (math_bits_Mul N (IntKind.wrap .u64 (List.length x0 : Int)) (IntKind.wrap .u64 x1)) fun r1 =>
    cond (decide (r1.1 > 0))
      (none)
      (cond (decide (r1.2.1 > 9223372036854775807))
        (none)
        (cond (mkOk (IntKind.wrap .i64 r1.2.1) (IntKind.wrap .i64 r1.2.1))
          (let xs2 := (List.replicate (Int.toNat (IntKind.wrap .i64 r1.2.1)) (0 : Int) : List (Int))
          let xs3 := (copyL xs2 0 (copyN (List.length xs2) x0) x0)
          loopN (fun (s4 : List (Int) × Int × Unit) next5 =>
            cond (decide (s4.2.1 < (List.length s4.1 : Int)))
              (cond (decide (0 ≤ s4.2.1) && decide (s4.2.1 ≤ (List.length s4.1 : Int)) && decide ((List.length s4.1 : Int) ≤ (List.length s4.1 : Int)))
                (cond (decide (0 ≤ (0 : Int)) && decide ((0 : Int) ≤ s4.2.1) && decide (s4.2.1 ≤ (List.length s4.1 : Int)))
                  (let xs6 := (copyL s4.1 (Int.toNat s4.2.1) (copyN (Int.toNat (List.length s4.1 : Int) - Int.toNat s4.2.1) ((s4.1.drop (Int.toNat (0 : Int))).take (Int.toNat s4.2.1 - Int.toNat (0 : Int)))) ((s4.1.drop (Int.toNat (0 : Int))).take (Int.toNat s4.2.1 - Int.toNat (0 : Int))))
                  next5 (xs6, (w64 (s4.2.1 + ((copyN (Int.toNat (List.length s4.1 : Int) - Int.toNat s4.2.1) ((s4.1.drop (Int.toNat (0 : Int))).take (Int.toNat s4.2.1 - Int.toNat (0 : Int)))) : Int))), ())) none) none)
              (some (s4.1, ()))) N (xs3, ((copyN (List.length xs2) x0) : Int), ())) none)))
def slices_Repeat_int64_int64_e (N : Nat) : Ent := { ins := [(.sl (.int .i64)), (.int .i64)], outs := [.own (.int .i64)], F := fun x => slices_Repeat_int64_int64 N x.1 x.2.1 }
def slices_Repeat_int64_int64_T (N : Nat) : Nat → List EntX
  | 80 => [.pl (math_bits_Mul_e N)]
  | _ => []
def slices_Repeat_int64_int64_L : Nat → List (Nat × TK)
  | 8 => [(7, .own (.int .i64)), (8, .v (.int .i64))]
  | _ => []
theorem slices_Repeat_int64_int64_eq (N : Nat) : runF N tt (slices_Repeat_int64_int64_T N) slices_Repeat_int64_int64_L [(.sl (.int .i64)), (.int .i64)] [.own (.int .i64)] (bodyOf Try.f65) Try.f65.ntmps [4] = (slices_Repeat_int64_int64_e N).F := by
  funext x
  kernel_rfl
theorem slices_Repeat_int64_int64_sound (N : Nat) : SoundC Try.prog 65 (slices_Repeat_int64_int64_e N) := by
  have h := runF_sound (f := 65) (code := bodyOf Try.f65) (N := N) (T := (slices_Repeat_int64_int64_T N)) (L := slices_Repeat_int64_int64_L) (ins := [(.sl (.int .i64)), (.int .i64)]) (outs := [.own (.int .i64)]) (res := [4]) mixed tt_ok ?_ Try.func65 (by kernel_rfl) rfl (by kernel_rfl) (by kernel_rfl) (by decide +kernel)
  · rw [slices_Repeat_int64_int64_eq] at h
    exact h
  · intro f e he
    unfold slices_Repeat_int64_int64_T at he
    split at he
    · rw [List.mem_singleton.1 he]; exact math_bits_Mul_sound N
    · cases he

/- impl.sumOf -/
def impl_sumOf (N : Nat) (x0 : List Int) : Option (Int × Unit) :=
  loopN (fun (s1 : Int × Int × Unit) next2 =>
    cond (decide (s1.2.1 < (List.length x0 : Int)))
      (Option.bind (idx x0 s1.2.1) fun v3 =>
      next2 ((w64 (s1.1 + v3)), (w64 (s1.2.1 + 1)), ()))
      (some (s1.1, ()))) N (0, 0, ())
def impl_sumOf_e (N : Nat) : Ent := { ins := [(.sl (.int .i64))], outs := [.val (.int .i64)], F := fun x => impl_sumOf N x.1 }
def impl_sumOf_T (_ : Nat) : Nat → List EntX := fun _ => []
def impl_sumOf_L : Nat → List (Nat × TK)
  | 3 => [(3, .v (.int .i64)), (8, .v (.int .i64))]
  | _ => []
theorem impl_sumOf_eq (N : Nat) : runF N tt (impl_sumOf_T N) impl_sumOf_L [(.sl (.int .i64))] [.val (.int .i64)] (bodyOf Try.f66) Try.f66.ntmps [2] = (impl_sumOf_e N).F := by
  funext x
  kernel_rfl
theorem impl_sumOf_sound (N : Nat) : SoundC Try.prog 66 (impl_sumOf_e N) := by
  have h := runF_sound (f := 66) (code := bodyOf Try.f66) (N := N) (T := (impl_sumOf_T N)) (L := impl_sumOf_L) (ins := [(.sl (.int .i64))]) (outs := [.val (.int .i64)]) (res := [2]) mixed tt_ok ?_ Try.func66 (by kernel_rfl) rfl (by kernel_rfl) (by kernel_rfl) (by decide +kernel)
  · rw [impl_sumOf_eq] at h
    exact h
  · intro f e he
    cases he

/- impl.LeastStations -/
def impl_LeastStations (N : Nat) (x0 : List Int) (x1 : List Int) (x2 : Int) : Option (List (Int) × Int × Bool × Unit) :=
  Ls.lsF (impl_IsLine N) (impl_isCycle N) (slices_Max_int64_int64 N) (slices_Repeat_int64_int64 N) x0 x1 x2
def impl_LeastStations_e (N : Nat) : Ent := { ins := [(.sl (.int .i64)), (.sl (.int .i64)), (.int .i64)], outs := [.own (.int .i64), .val (.int .i64), .val .bool], F := fun x => impl_LeastStations N x.1 x.2.1 x.2.2.1 }
theorem impl_LeastStations_sound (N : Nat) : SoundC Try.prog 25 (impl_LeastStations_e N) := Ls.ls_sound (impl_IsLine_sound N) (impl_isCycle_sound N) (slices_Max_int64_int64_sound N) (slices_Repeat_int64_int64_sound N)

/- laws.FnExactLeastStations -/
def laws_FnExactLeastStations (N : Nat) (x0 : List Int) (x1 : List Int) (x2 : Int) : Option (Bool × Unit) :=
  cond (decide ((List.length x0 : Int) > 1048576))
    (some (true, ()))
    (cond (decide ((List.length x1 : Int) > 1048576))
      (some (true, ()))
      (Option.bind (laws_toInt64S N x0) fun r1 =>
      Option.bind (laws_toInt64S N x1) fun r2 =>
      Option.bind (spec_LeastStations N r1.1 r2.1 x2) fun r3 =>
      Option.bind (laws_toInt64S N x0) fun r4 =>
      Option.bind (laws_toInt64S N x1) fun r5 =>
      Option.bind (impl_LeastStations N r4.1 r5.1 x2) fun r6 =>
      Option.bind (laws_eqInt64S N r6.1 r3.1) fun r7 =>
      cond (!r7.1)
        (some (false, ()))
        (cond (r6.2.1 != r3.2.1)
          (some (false, ()))
          (cond (!(r6.2.2.1 == r3.2.2.1))
            (some (false, ()))
            (Option.bind (laws_toInt64S N x0) fun r8 =>
            Option.bind (laws_eqInt64S N r4.1 r8.1) fun r9 =>
            cond (!r9.1)
              (some (false, ()))
              (Option.bind (laws_toInt64S N x1) fun r10 =>
              Option.bind (laws_eqInt64S N r5.1 r10.1) fun r11 =>
              cond (!r11.1)
                (some (false, ()))
                (Option.bind (laws_markInt64S N r4.1 1) fun r12 =>
                cond (Nat.beq (List.length r12.1) (List.length r4.1))
                  (Option.bind (laws_markInt64S N r5.1 r12.2.1) fun r13 =>
                  cond (Nat.beq (List.length r13.1) (List.length r5.1))
                    (cond (decide (r13.2.1 < 0))
                      (some (false, ()))
                      (Option.bind (laws_eqInt64S N r6.1 r3.1) fun r14 =>
                      cond (!r14.1)
                        (some (false, ()))
                        (cond (r6.2.1 != r3.2.1)
                          (some (false, ()))
                          (cond (!(r6.2.2.1 == r3.2.2.1))
                            (some (false, ()))
                            (Option.bind (laws_markInt64S N r6.1 1) fun r15 =>
                            cond (Nat.beq (List.length r15.1) (List.length r6.1))
                              (Option.bind (laws_heldInt64S N r15.1 1) fun r16 =>
                              cond (decide (r16.1 < 0))
                                (some (false, ()))
                                (cond (r16.1 != r15.2.1)
                                  (some (false, ()))
                                  (Option.bind (laws_toInt64S N x0) fun r17 =>
                                  Option.bind (laws_toInt64S N x1) fun r18 =>
                                  Option.bind (impl_LeastStations N r17.1 r18.1 x2) fun r19 =>
                                  Option.bind (laws_eqInt64S N r19.1 r3.1) fun r20 =>
                                  cond (!r20.1)
                                    (some (false, ()))
                                    (cond (r19.2.1 != r3.2.1)
                                      (some (false, ()))
                                      (cond (!(r19.2.2.1 == r3.2.2.1))
                                        (some (false, ()))
                                        (Option.bind (laws_heldInt64S N r15.1 1) fun r21 =>
                                        cond (decide (r21.1 < 0))
                                          (some (false, ()))
                                          (cond (r21.1 != r15.2.1)
                                            (some (false, ()))
                                            (some (true, ()))))))))) none))))) none) none)))))))
def laws_FnExactLeastStations_e (N : Nat) : Ent := { ins := [(.sl (.int .i64)), (.sl (.int .i64)), (.int .i64)], outs := [.val .bool], F := fun x => laws_FnExactLeastStations N x.1 x.2.1 x.2.2.1 }
def laws_FnExactLeastStations_T (N : Nat) : Nat → List EntX
  | 9 => [.pl (laws_toInt64S_e N)]
  | 11 => [.pl (laws_eqInt64S_e N)]
  | 12 => [.mu (laws_markInt64S_e N)]
  | 13 => [.pl (laws_heldInt64S_e N)]
  | 24 => [.pl (spec_LeastStations_e N)]
  | 25 => [.pl (impl_LeastStations_e N)]
  | _ => []
def laws_FnExactLeastStations_L : Nat → List (Nat × TK) := fun _ => []
theorem laws_FnExactLeastStations_eq (N : Nat) : runF N tt (laws_FnExactLeastStations_T N) laws_FnExactLeastStations_L [(.sl (.int .i64)), (.sl (.int .i64)), (.int .i64)] [.val .bool] (bodyOf Try.f7) Try.f7.ntmps [6] = (laws_FnExactLeastStations_e N).F := by
  funext x
  kernel_rfl
theorem laws_FnExactLeastStations_sound (N : Nat) : SoundC Try.prog 7 (laws_FnExactLeastStations_e N) := by
  have h := runF_sound (f := 7) (code := bodyOf Try.f7) (N := N) (T := (laws_FnExactLeastStations_T N)) (L := laws_FnExactLeastStations_L) (ins := [(.sl (.int .i64)), (.sl (.int .i64)), (.int .i64)]) (outs := [.val .bool]) (res := [6]) mixed tt_ok ?_ Try.func7 (by kernel_rfl) rfl (by kernel_rfl) (by kernel_rfl) (by decide +kernel)
  · rw [laws_FnExactLeastStations_eq] at h
    exact h
  · intro f e he
    unfold laws_FnExactLeastStations_T at he
    split at he
    · rw [List.mem_singleton.1 he]; exact laws_toInt64S_sound N
    · rw [List.mem_singleton.1 he]; exact laws_eqInt64S_sound N
    · rw [List.mem_singleton.1 he]; exact laws_markInt64S_sound N
    · rw [List.mem_singleton.1 he]; exact laws_heldInt64S_sound N
    · rw [List.mem_singleton.1 he]; exact spec_LeastStations_sound N
    · rw [List.mem_singleton.1 he]; exact impl_LeastStations_sound N
    · cases he

end Go.Proofs.Ytgcmklniacjcfaa
