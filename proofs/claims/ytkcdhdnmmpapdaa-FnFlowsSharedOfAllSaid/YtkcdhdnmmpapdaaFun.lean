/-
  The plain functions of this seat, printed by a program, each equal to the evaluator's run, with its contract. No condition.
-/
import Derived.Test.YtkcdhdnmmpapdaaFwV
import Derived.Test.YtkcdhdnmmpapdaaChecked
import Derived.Test.YtkcdhdnmmpapdaaMark1
import Derived.Test.YtkcdhdnmmpapdaaMark3
import Derived.Test.YtkcdhdnmmpapdaaIns2
import Derived.Test.YtkcdhdnmmpapdaaClo
namespace Go.Proofs.Ytkcdhdnmmpapdaa
open Go Go.Proofs.Ytkcdhdnmmpapdaa.Fw
set_option maxRecDepth 100000
set_option linter.unusedVariables false

theorem mixed : Try.prog.follows .mixedOrders = true := Try.checked.mixed
def tt : Nat → TD
  | 2 => tdInt .i64
  | 3 => tdInt .i64
  | 4 => tdBool
  | 22 => tdSl (.int .i64) 8
  | 31 => tdSl (.sl (.int .i64)) 24
  | 56 => tdFn
  | 63 => tdSt 3 [(0, 1, false), (1, 1, false), (2, 1, false)] [.nil, .g (.int .i64) (0 : Int), .g (.int .i64) (0 : Int)]
  | 110 => tdInt .u64
  | _ => tdNone
theorem tt_2 : TDok Try.prog 2 (tdInt .i64) := tdok_int (b := 8) (by kernel_rfl) (by kernel_rfl)
theorem tt_3 : TDok Try.prog 3 (tdInt .i64) := tdok_int (b := 8) (by kernel_rfl) (by kernel_rfl)
theorem tt_4 : TDok Try.prog 4 (tdBool) := tdok_bool (b := 1) (by kernel_rfl) (by kernel_rfl)
theorem tt_22 : TDok Try.prog 22 (tdSl (.int .i64) 8) := tdok_sl (b := 24) (e := 2) (z := (.int .i64 0)) (by kernel_rfl) (by kernel_rfl) (by kernel_rfl) (by decide) (fun _ => by kernel_rfl)
theorem tt_31 : TDok Try.prog 31 (tdSl (.sl (.int .i64)) 24) := tdok_sl (b := 24) (e := 22) (z := (.slice none 0 0)) (by kernel_rfl) (by kernel_rfl) (by kernel_rfl) (by decide) (fun _ => by kernel_rfl)
theorem tt_56 : TDok Try.prog 56 (tdFn) := tdok_fn (by kernel_rfl) (by kernel_rfl)
theorem tt_63 : TDok Try.prog 63 (tdSt 3 [(0, 1, false), (1, 1, false), (2, 1, false)] [.nil, .g (.int .i64) (0 : Int), .g (.int .i64) (0 : Int)]) := tdok_st (b := 40) (z := (.agg #[(.slice none 0 0), (.int .i64 0), (.int .i64 0)])) (by kernel_rfl) (by kernel_rfl) (by kernel_rfl) (by kernel_rfl) (by kernel_rfl)
theorem tt_110 : TDok Try.prog 110 (tdInt .u64) := tdok_int (b := 8) (by kernel_rfl) (by kernel_rfl)
theorem tt_ok (t : Nat) : TDok Try.prog t (tt t) := by
  unfold tt
  split
  · exact tt_2
  · exact tt_3
  · exact tt_4
  · exact tt_22
  · exact tt_31
  · exact tt_56
  · exact tt_63
  · exact tt_110
  · exact tdok_none

/- laws.toInt64S -/
def laws_toInt64S (N : Nat) (x0 : List Int) : Option (List (Int) × Unit) :=
  cond (mkOk (List.length x0 : Int) (List.length x0 : Int))
    (let xs1 := (List.replicate (Int.toNat (List.length x0 : Int)) (0 : Int) : List (Int))
    loopN (fun (s2 : List (Int) × Int × Unit) next3 =>
      cond (decide (s2.2.1 < (List.length x0 : Int)))
        (Option.bind (idx x0 s2.2.1) fun v4 =>
        cond (inB s2.2.1 (List.length s2.1))
          (let xs5 := (List.set s2.1 (Int.toNat s2.2.1) v4)
          next3 (xs5, (w64 (s2.2.1 + 1)), ())) none)
        (some (s2.1, ()))) N (xs1, 0, ())) none
def laws_toInt64S_e (N : Nat) : Ent := { ins := [(.sl (.int .i64))], outs := [.own (.int .i64)], F := fun x => laws_toInt64S N x.1 }
def laws_toInt64S_T (_ : Nat) : Nat → List EntX := fun _ => []
def laws_toInt64S_L : Nat → List (Nat × TK)
  | 3 => [(3, .own (.int .i64)), (4, .v (.int .i64))]
  | _ => []
theorem laws_toInt64S_eq (N : Nat) : runF N tt (laws_toInt64S_T N) laws_toInt64S_L [(.sl (.int .i64))] [.own (.int .i64)] (bodyOf Try.f14) Try.f14.ntmps [2] = (laws_toInt64S_e N).F := by
  funext x
  kernel_rfl
theorem laws_toInt64S_sound (N : Nat) : SoundC Try.prog 14 (laws_toInt64S_e N) := by
  have h := runF_sound (f := 14) (code := bodyOf Try.f14) (N := N) (T := (laws_toInt64S_T N)) (L := laws_toInt64S_L) (ins := [(.sl (.int .i64))]) (outs := [.own (.int .i64)]) (res := [2]) mixed tt_ok ?_ Try.func14 (by kernel_rfl) rfl (by kernel_rfl) (by kernel_rfl) (by decide +kernel)
  · rw [laws_toInt64S_eq] at h
    exact h
  · intro f e he
    cases he

/- laws.eqInt64S -/
def laws_eqInt64S (N : Nat) (x0 : List Int) (x1 : List Int) : Option (Bool × Unit) :=
  cond ((List.length x0 : Int) != (List.length x1 : Int))
    (some (false, ()))
    (loopN (fun (s1 : Int × Unit) next2 =>
      cond (decide (s1.1 < (List.length x0 : Int)))
        (Option.bind (idx x0 s1.1) fun v3 =>
        Option.bind (idx x1 s1.1) fun v4 =>
        cond (v3 != v4)
          (some (false, ()))
          (next2 ((w64 (s1.1 + 1)), ())))
        (some (true, ()))) N (0, ()))
def laws_eqInt64S_e (N : Nat) : Ent := { ins := [(.sl (.int .i64)), (.sl (.int .i64))], outs := [.val .bool], F := fun x => laws_eqInt64S N x.1 x.2.1 }
def laws_eqInt64S_T (_ : Nat) : Nat → List EntX := fun _ => []
def laws_eqInt64S_L : Nat → List (Nat × TK)
  | 4 => [(5, .v (.int .i64))]
  | _ => []
theorem laws_eqInt64S_eq (N : Nat) : runF N tt (laws_eqInt64S_T N) laws_eqInt64S_L [(.sl (.int .i64)), (.sl (.int .i64))] [.val .bool] (bodyOf Try.f16) Try.f16.ntmps [4] = (laws_eqInt64S_e N).F := by
  funext x
  kernel_rfl
theorem laws_eqInt64S_sound (N : Nat) : SoundC Try.prog 16 (laws_eqInt64S_e N) := by
  have h := runF_sound (f := 16) (code := bodyOf Try.f16) (N := N) (T := (laws_eqInt64S_T N)) (L := laws_eqInt64S_L) (ins := [(.sl (.int .i64)), (.sl (.int .i64))]) (outs := [.val .bool]) (res := [4]) mixed tt_ok ?_ Try.func16 (by kernel_rfl) rfl (by kernel_rfl) (by kernel_rfl) (by decide +kernel)
  · rw [laws_eqInt64S_eq] at h
    exact h
  · intro f e he
    cases he

/- laws.markInt64S -/
def laws_markInt64S (N : Nat) (x0 : List Int) (x1 : Int) : Option (List (Int) × (Int × Unit)) :=
  loopN (fun (s1 : List (Int) × Int × Int × Unit) next2 =>
    cond (decide (s1.2.2.1 < (List.length s1.1 : Int)))
      (cond (inB s1.2.2.1 (List.length s1.1))
        (let xs3 := (List.set s1.1 (Int.toNat s1.2.2.1) s1.2.1)
        next2 (xs3, (w64 (s1.2.1 + 1)), (w64 (s1.2.2.1 + 1)), ())) none)
      (some (s1.1, (s1.2.1, ())))) N (x0, x1, 0, ())
def laws_markInt64S_e (N : Nat) : EntM := { io := (.int .i64), ins := [(.int .i64)], outs := [.val (.int .i64)], F := fun xs x => laws_markInt64S N xs x.1 }
def laws_markInt64S_T (_ : Nat) : Nat → List EntX := fun _ => []
def laws_markInt64S_L : Nat → List (Nat × TK)
  | 2 => [(0, .own (.int .i64)), (1, .v (.int .i64)), (5, .v (.int .i64))]
  | _ => []
theorem laws_markInt64S_eq (N : Nat) : runM N tt (laws_markInt64S_T N) laws_markInt64S_L (.int .i64) [(.int .i64)] [.val (.int .i64)] (bodyOf Try.f17) Try.f17.ntmps [4] = (laws_markInt64S_e N).F := by
  funext xs x
  kernel_rfl
theorem laws_markInt64S_sound (N : Nat) : SoundM Try.prog 17 (laws_markInt64S_e N) := by
  have h := runM_sound (f := 17) (code := bodyOf Try.f17) (N := N) (T := (laws_markInt64S_T N)) (L := laws_markInt64S_L) (io := (.int .i64)) (ins := [(.int .i64)]) (outs := [.val (.int .i64)]) (res := [4]) mixed tt_ok ?_ Try.func17 (by kernel_rfl) rfl (by kernel_rfl) (by kernel_rfl) (by decide +kernel)
  · rw [laws_markInt64S_eq] at h
    exact h
  · intro f e he
    cases he

/- laws.heldInt64S -/
def laws_heldInt64S (N : Nat) (x0 : List Int) (x1 : Int) : Option (Int × Unit) :=
  loopN (fun (s1 : Int × Int × Unit) next2 =>
    cond (decide (s1.2.1 < (List.length x0 : Int)))
      (Option.bind (idx x0 s1.2.1) fun v3 =>
      cond (v3 != s1.1)
        (some ((-1), ()))
        (next2 ((w64 (s1.1 + 1)), (w64 (s1.2.1 + 1)), ())))
      (some (s1.1, ()))) N (x1, 0, ())
def laws_heldInt64S_e (N : Nat) : Ent := { ins := [(.sl (.int .i64)), (.int .i64)], outs := [.val (.int .i64)], F := fun x => laws_heldInt64S N x.1 x.2.1 }
def laws_heldInt64S_T (_ : Nat) : Nat → List EntX := fun _ => []
def laws_heldInt64S_L : Nat → List (Nat × TK)
  | 2 => [(1, .v (.int .i64)), (5, .v (.int .i64))]
  | _ => []
theorem laws_heldInt64S_eq (N : Nat) : runF N tt (laws_heldInt64S_T N) laws_heldInt64S_L [(.sl (.int .i64)), (.int .i64)] [.val (.int .i64)] (bodyOf Try.f18) Try.f18.ntmps [4] = (laws_heldInt64S_e N).F := by
  funext x
  kernel_rfl
theorem laws_heldInt64S_sound (N : Nat) : SoundC Try.prog 18 (laws_heldInt64S_e N) := by
  have h := runF_sound (f := 18) (code := bodyOf Try.f18) (N := N) (T := (laws_heldInt64S_T N)) (L := laws_heldInt64S_L) (ins := [(.sl (.int .i64)), (.int .i64)]) (outs := [.val (.int .i64)]) (res := [4]) mixed tt_ok ?_ Try.func18 (by kernel_rfl) rfl (by kernel_rfl) (by kernel_rfl) (by decide +kernel)
  · rw [laws_heldInt64S_eq] at h
    exact h
  · intro f e he
    cases he

/- spec.l00In -/
def spec_l00In (_N : Nat) (x0 : Int) (x1 : Int) (x2 : Int) : Option (Bool × Unit) :=
  cond (decide (x0 ≥ x1))
    (some ((decide (x0 ≤ x2)), ()))
    (some (false, ()))
def spec_l00In_e (N : Nat) : Ent := { ins := [(.int .i64), (.int .i64), (.int .i64)], outs := [.val .bool], F := fun x => spec_l00In N x.1 x.2.1 x.2.2.1 }
def spec_l00In_T (_ : Nat) : Nat → List EntX := fun _ => []
def spec_l00In_L : Nat → List (Nat × TK) := fun _ => []
theorem spec_l00In_eq (N : Nat) : runF N tt (spec_l00In_T N) spec_l00In_L [(.int .i64), (.int .i64), (.int .i64)] [.val .bool] (bodyOf Try.f55) Try.f55.ntmps [6] = (spec_l00In_e N).F := by
  funext x
  kernel_rfl
theorem spec_l00In_sound (N : Nat) : SoundC Try.prog 55 (spec_l00In_e N) := by
  have h := runF_sound (f := 55) (code := bodyOf Try.f55) (N := N) (T := (spec_l00In_T N)) (L := spec_l00In_L) (ins := [(.int .i64), (.int .i64), (.int .i64)]) (outs := [.val .bool]) (res := [6]) mixed tt_ok ?_ Try.func55 (by kernel_rfl) rfl (by kernel_rfl) (by kernel_rfl) (by decide +kernel)
  · rw [spec_l00In_eq] at h
    exact h
  · intro f e he
    cases he

/- spec.l02Machines -/
def spec_l02Machines (N : Nat) (x0 : Int) : Option (Bool × Unit) :=
  Option.bind (spec_l00In N x0 1 8) fun r1 =>
  some (r1.1, ())
def spec_l02Machines_e (N : Nat) : Ent := { ins := [(.int .i64)], outs := [.val .bool], F := fun x => spec_l02Machines N x.1 }
def spec_l02Machines_T (N : Nat) : Nat → List EntX
  | 55 => [.pl (spec_l00In_e N)]
  | _ => []
def spec_l02Machines_L : Nat → List (Nat × TK) := fun _ => []
theorem spec_l02Machines_eq (N : Nat) : runF N tt (spec_l02Machines_T N) spec_l02Machines_L [(.int .i64)] [.val .bool] (bodyOf Try.f43) Try.f43.ntmps [2] = (spec_l02Machines_e N).F := by
  funext x
  kernel_rfl
theorem spec_l02Machines_sound (N : Nat) : SoundC Try.prog 43 (spec_l02Machines_e N) := by
  have h := runF_sound (f := 43) (code := bodyOf Try.f43) (N := N) (T := (spec_l02Machines_T N)) (L := spec_l02Machines_L) (ins := [(.int .i64)]) (outs := [.val .bool]) (res := [2]) mixed tt_ok ?_ Try.func43 (by kernel_rfl) rfl (by kernel_rfl) (by kernel_rfl) (by decide +kernel)
  · rw [spec_l02Machines_eq] at h
    exact h
  · intro f e he
    unfold spec_l02Machines_T at he
    split at he
    · rw [List.mem_singleton.1 he]; exact spec_l00In_sound N
    · cases he

/- spec.l02Unlike -/
def spec_l02Unlike (N : Nat) (x0 : List Int) (x1 : Int) : Option (Bool × Unit) :=
  Option.bind (spec_l02Machines N x1) fun r1 =>
  cond (!r1.1)
    (some (false, ()))
    (cond (decide ((List.length x0 : Int) < 1))
      (some (false, ()))
      (cond (x1 == 0) none
        (cond ((Int.tmod (List.length x0 : Int) x1) != 0)
          (some (false, ()))
          (cond (x1 == 0) none
            (cond (decide ((w64 (Int.tdiv (List.length x0 : Int) x1)) > 24))
              (some (false, ()))
              (loopN (fun (s2 : Int × Unit) next3 =>
                cond (decide (s2.1 < (List.length x0 : Int)))
                  (Option.bind (idx x0 s2.1) fun v4 =>
                  Option.bind (spec_l00In N v4 1 10000) fun r5 =>
                  cond (!r5.1)
                    (some (false, ()))
                    (next3 ((w64 (s2.1 + 1)), ())))
                  (some (true, ()))) N (0, ())))))))
def spec_l02Unlike_e (N : Nat) : Ent := { ins := [(.sl (.int .i64)), (.int .i64)], outs := [.val .bool], F := fun x => spec_l02Unlike N x.1 x.2.1 }
def spec_l02Unlike_T (N : Nat) : Nat → List EntX
  | 43 => [.pl (spec_l02Machines_e N)]
  | 55 => [.pl (spec_l00In_e N)]
  | _ => []
def spec_l02Unlike_L : Nat → List (Nat × TK)
  | 5 => [(6, .v (.int .i64))]
  | _ => []
theorem spec_l02Unlike_eq (N : Nat) : runF N tt (spec_l02Unlike_T N) spec_l02Unlike_L [(.sl (.int .i64)), (.int .i64)] [.val .bool] (bodyOf Try.f90) Try.f90.ntmps [4] = (spec_l02Unlike_e N).F := by
  funext x
  kernel_rfl
theorem spec_l02Unlike_sound (N : Nat) : SoundC Try.prog 90 (spec_l02Unlike_e N) := by
  have h := runF_sound (f := 90) (code := bodyOf Try.f90) (N := N) (T := (spec_l02Unlike_T N)) (L := spec_l02Unlike_L) (ins := [(.sl (.int .i64)), (.int .i64)]) (outs := [.val .bool]) (res := [4]) mixed tt_ok ?_ Try.func90 (by kernel_rfl) rfl (by kernel_rfl) (by kernel_rfl) (by decide +kernel)
  · rw [spec_l02Unlike_eq] at h
    exact h
  · intro f e he
    unfold spec_l02Unlike_T at he
    split at he
    · rw [List.mem_singleton.1 he]; exact spec_l02Machines_sound N
    · rw [List.mem_singleton.1 he]; exact spec_l00In_sound N
    · cases he

/- spec.l04Can -/
def spec_l04Can (N : Nat) (x0 : List Int) (x1 : Int) : Option (Bool × Unit) :=
  Option.bind (spec_l02Unlike N x0 x1) fun r1 =>
  some (r1.1, ())
def spec_l04Can_e (N : Nat) : Ent := { ins := [(.sl (.int .i64)), (.int .i64)], outs := [.val .bool], F := fun x => spec_l04Can N x.1 x.2.1 }
def spec_l04Can_T (N : Nat) : Nat → List EntX
  | 90 => [.pl (spec_l02Unlike_e N)]
  | _ => []
def spec_l04Can_L : Nat → List (Nat × TK) := fun _ => []
theorem spec_l04Can_eq (N : Nat) : runF N tt (spec_l04Can_T N) spec_l04Can_L [(.sl (.int .i64)), (.int .i64)] [.val .bool] (bodyOf Try.f57) Try.f57.ntmps [4] = (spec_l04Can_e N).F := by
  funext x
  kernel_rfl
theorem spec_l04Can_sound (N : Nat) : SoundC Try.prog 57 (spec_l04Can_e N) := by
  have h := runF_sound (f := 57) (code := bodyOf Try.f57) (N := N) (T := (spec_l04Can_T N)) (L := spec_l04Can_L) (ins := [(.sl (.int .i64)), (.int .i64)]) (outs := [.val .bool]) (res := [4]) mixed tt_ok ?_ Try.func57 (by kernel_rfl) rfl (by kernel_rfl) (by kernel_rfl) (by decide +kernel)
  · rw [spec_l04Can_eq] at h
    exact h
  · intro f e he
    unfold spec_l04Can_T at he
    split at he
    · rw [List.mem_singleton.1 he]; exact spec_l02Unlike_sound N
    · cases he

/- spec.l04Count -/
def spec_l04Count (_N : Nat) (x0 : List Int) (x1 : Int) : Option (Int × Unit) :=
  cond (x1 == 0) none
    (some ((w64 (Int.tdiv (List.length x0 : Int) x1)), ()))
def spec_l04Count_e (N : Nat) : Ent := { ins := [(.sl (.int .i64)), (.int .i64)], outs := [.val (.int .i64)], F := fun x => spec_l04Count N x.1 x.2.1 }
def spec_l04Count_T (_ : Nat) : Nat → List EntX := fun _ => []
def spec_l04Count_L : Nat → List (Nat × TK) := fun _ => []
theorem spec_l04Count_eq (N : Nat) : runF N tt (spec_l04Count_T N) spec_l04Count_L [(.sl (.int .i64)), (.int .i64)] [.val (.int .i64)] (bodyOf Try.f91) Try.f91.ntmps [4] = (spec_l04Count_e N).F := by
  funext x
  kernel_rfl
theorem spec_l04Count_sound (N : Nat) : SoundC Try.prog 91 (spec_l04Count_e N) := by
  have h := runF_sound (f := 91) (code := bodyOf Try.f91) (N := N) (T := (spec_l04Count_T N)) (L := spec_l04Count_L) (ins := [(.sl (.int .i64)), (.int .i64)]) (outs := [.val (.int .i64)]) (res := [4]) mixed tt_ok ?_ Try.func91 (by kernel_rfl) rfl (by kernel_rfl) (by kernel_rfl) (by decide +kernel)
  · rw [spec_l04Count_eq] at h
    exact h
  · intro f e he
    cases he

/- spec.l02Sum -/
def spec_l02Sum (N : Nat) (x0 : List Int) : Option (Int × Unit) :=
  loopN (fun (s1 : Int × Int × Unit) next2 =>
    cond (decide (s1.2.1 < (List.length x0 : Int)))
      (Option.bind (idx x0 s1.2.1) fun v3 =>
      next2 ((w64 (s1.1 + v3)), (w64 (s1.2.1 + 1)), ()))
      (some (s1.1, ()))) N (0, 0, ())
def spec_l02Sum_e (N : Nat) : Ent := { ins := [(.sl (.int .i64))], outs := [.val (.int .i64)], F := fun x => spec_l02Sum N x.1 }
def spec_l02Sum_T (_ : Nat) : Nat → List EntX := fun _ => []
def spec_l02Sum_L : Nat → List (Nat × TK)
  | 3 => [(3, .v (.int .i64)), (4, .v (.int .i64))]
  | _ => []
theorem spec_l02Sum_eq (N : Nat) : runF N tt (spec_l02Sum_T N) spec_l02Sum_L [(.sl (.int .i64))] [.val (.int .i64)] (bodyOf Try.f87) Try.f87.ntmps [2] = (spec_l02Sum_e N).F := by
  funext x
  kernel_rfl
theorem spec_l02Sum_sound (N : Nat) : SoundC Try.prog 87 (spec_l02Sum_e N) := by
  have h := runF_sound (f := 87) (code := bodyOf Try.f87) (N := N) (T := (spec_l02Sum_T N)) (L := spec_l02Sum_L) (ins := [(.sl (.int .i64))]) (outs := [.val (.int .i64)]) (res := [2]) mixed tt_ok ?_ Try.func87 (by kernel_rfl) rfl (by kernel_rfl) (by kernel_rfl) (by decide +kernel)
  · rw [spec_l02Sum_eq] at h
    exact h
  · intro f e he
    cases he

/- spec.l04Job -/
def spec_l04Job (N : Nat) (x0 : List Int) (x1 : Int) (x2 : Int) : Option (Int × Unit) :=
  cond (decide (0 ≤ (w64 (x2 * x1))) && decide ((w64 (x2 * x1)) ≤ (w64 ((w64 (x2 + 1)) * x1))) && decide ((w64 ((w64 (x2 + 1)) * x1)) ≤ (List.length x0 : Int)))
    (Option.bind (spec_l02Sum N (List.drop (Int.toNat (w64 (x2 * x1))) (List.take (Int.toNat (w64 ((w64 (x2 + 1)) * x1))) x0))) fun r1 =>
    some (r1.1, ())) none
def spec_l04Job_e (N : Nat) : Ent := { ins := [(.sl (.int .i64)), (.int .i64), (.int .i64)], outs := [.val (.int .i64)], F := fun x => spec_l04Job N x.1 x.2.1 x.2.2.1 }
def spec_l04Job_T (N : Nat) : Nat → List EntX
  | 87 => [.pl (spec_l02Sum_e N)]
  | _ => []
def spec_l04Job_L : Nat → List (Nat × TK) := fun _ => []
theorem spec_l04Job_eq (N : Nat) : runF N tt (spec_l04Job_T N) spec_l04Job_L [(.sl (.int .i64)), (.int .i64), (.int .i64)] [.val (.int .i64)] (bodyOf Try.f92) Try.f92.ntmps [6] = (spec_l04Job_e N).F := by
  funext x
  kernel_rfl
theorem spec_l04Job_sound (N : Nat) : SoundC Try.prog 92 (spec_l04Job_e N) := by
  have h := runF_sound (f := 92) (code := bodyOf Try.f92) (N := N) (T := (spec_l04Job_T N)) (L := spec_l04Job_L) (ins := [(.sl (.int .i64)), (.int .i64), (.int .i64)]) (outs := [.val (.int .i64)]) (res := [6]) mixed tt_ok ?_ Try.func92 (by kernel_rfl) rfl (by kernel_rfl) (by kernel_rfl) (by decide +kernel)
  · rw [spec_l04Job_eq] at h
    exact h
  · intro f e he
    unfold spec_l04Job_T at he
    split at he
    · rw [List.mem_singleton.1 he]; exact spec_l02Sum_sound N
    · cases he

/- spec.l00Max -/
def spec_l00Max (_N : Nat) (x0 : Int) (x1 : Int) : Option (Int × Unit) :=
  cond (decide (x0 > x1))
    (some (x0, ()))
    (some (x1, ()))
def spec_l00Max_e (N : Nat) : Ent := { ins := [(.int .i64), (.int .i64)], outs := [.val (.int .i64)], F := fun x => spec_l00Max N x.1 x.2.1 }
def spec_l00Max_T (_ : Nat) : Nat → List EntX := fun _ => []
def spec_l00Max_L : Nat → List (Nat × TK) := fun _ => []
theorem spec_l00Max_eq (N : Nat) : runF N tt (spec_l00Max_T N) spec_l00Max_L [(.int .i64), (.int .i64)] [.val (.int .i64)] (bodyOf Try.f85) Try.f85.ntmps [4] = (spec_l00Max_e N).F := by
  funext x
  kernel_rfl
theorem spec_l00Max_sound (N : Nat) : SoundC Try.prog 85 (spec_l00Max_e N) := by
  have h := runF_sound (f := 85) (code := bodyOf Try.f85) (N := N) (T := (spec_l00Max_T N)) (L := spec_l00Max_L) (ins := [(.int .i64), (.int .i64)]) (outs := [.val (.int .i64)]) (res := [4]) mixed tt_ok ?_ Try.func85 (by kernel_rfl) rfl (by kernel_rfl) (by kernel_rfl) (by decide +kernel)
  · rw [spec_l00Max_eq] at h
    exact h
  · intro f e he
    cases he

/- spec.l04Ends -/
def spec_l04Ends (N : Nat) (x0 : List Int) (x1 : Int) (x2 : List Int) : Option (List (Int) × Int × Unit) :=
  cond (mkOk (List.length x0 : Int) (List.length x0 : Int))
    (let xs1 := (List.replicate (Int.toNat (List.length x0 : Int)) (0 : Int) : List (Int))
    cond (mkOk x1 x1)
      (let xs2 := (List.replicate (Int.toNat x1) (0 : Int) : List (Int))
      loopN (fun (s3 : List (Int) × List (Int) × Int × Unit) next4 =>
        cond (decide (s3.2.2.1 < (List.length x2 : Int)))
          (loopN (fun (s5 : List (Int) × List (Int) × Int × Int × Unit) next6 =>
            cond (decide (s5.2.2.2.1 < x1))
              (cond (inB s5.2.2.2.1 (List.length s5.2.1))
                (Option.bind (s5.2.1[(Int.toNat s5.2.2.2.1)]?) fun v7 =>
                Option.bind (spec_l00Max N s5.2.2.1 v7) fun r8 =>
                Option.bind (idx x2 s3.2.2.1) fun v9 =>
                Option.bind (idx x0 (w64 ((w64 (v9 * x1)) + s5.2.2.2.1))) fun v10 =>
                cond (inB s5.2.2.2.1 (List.length s5.2.1))
                  (let xs11 := (List.set s5.2.1 (Int.toNat s5.2.2.2.1) (w64 (r8.1 + v10)))
                  Option.bind (idx x2 s3.2.2.1) fun v12 =>
                  cond (inB (w64 ((w64 (v12 * x1)) + s5.2.2.2.1)) (List.length s5.1))
                    (let xs13 := (List.set s5.1 (Int.toNat (w64 ((w64 (v12 * x1)) + s5.2.2.2.1))) (w64 (r8.1 + v10)))
                    next6 (xs13, xs11, (w64 (r8.1 + v10)), (w64 (s5.2.2.2.1 + 1)), ())) none) none) none)
              (next4 (s5.1, s5.2.1, (w64 (s3.2.2.1 + 1)), ()))) N (s3.1, s3.2.1, 0, 0, ()))
          (cond (inB (w64 (x1 - 1)) (List.length s3.2.1))
            (Option.bind (s3.2.1[(Int.toNat (w64 (x1 - 1)))]?) fun v14 =>
            some (s3.1, v14, ())) none)) N (xs1, xs2, 0, ())) none) none
def spec_l04Ends_e (N : Nat) : Ent := { ins := [(.sl (.int .i64)), (.int .i64), (.sl (.int .i64))], outs := [.own (.int .i64), .val (.int .i64)], F := fun x => spec_l04Ends N x.1 x.2.1 x.2.2.1 }
def spec_l04Ends_T (N : Nat) : Nat → List EntX
  | 85 => [.pl (spec_l00Max_e N)]
  | _ => []
def spec_l04Ends_L : Nat → List (Nat × TK)
  | 4 => [(8, .own (.int .i64)), (9, .own (.int .i64)), (10, .v (.int .i64))]
  | 8 => [(8, .own (.int .i64)), (9, .own (.int .i64)), (11, .v (.int .i64)), (12, .v (.int .i64))]
  | _ => []
theorem spec_l04Ends_eq (N : Nat) : runF N tt (spec_l04Ends_T N) spec_l04Ends_L [(.sl (.int .i64)), (.int .i64), (.sl (.int .i64))] [.own (.int .i64), .val (.int .i64)] (bodyOf Try.f93) Try.f93.ntmps [6, 7] = (spec_l04Ends_e N).F := by
  funext x
  kernel_rfl
theorem spec_l04Ends_sound (N : Nat) : SoundC Try.prog 93 (spec_l04Ends_e N) := by
  have h := runF_sound (f := 93) (code := bodyOf Try.f93) (N := N) (T := (spec_l04Ends_T N)) (L := spec_l04Ends_L) (ins := [(.sl (.int .i64)), (.int .i64), (.sl (.int .i64))]) (outs := [.own (.int .i64), .val (.int .i64)]) (res := [6, 7]) mixed tt_ok ?_ Try.func93 (by kernel_rfl) rfl (by kernel_rfl) (by kernel_rfl) (by decide +kernel)
  · rw [spec_l04Ends_eq] at h
    exact h
  · intro f e he
    unfold spec_l04Ends_T at he
    split at he
    · rw [List.mem_singleton.1 he]; exact spec_l00Max_sound N
    · cases he

/- spec.l04Insert -/
def spec_l04Insert (N : Nat) (x0 : List Int) (x1 : Int) : Option (List (Int) × Int × Unit) :=
  loopN (fun (s1 : List (Int) × Int × Unit) next2 =>
    Option.bind (spec_l04Count N x0 x1) fun r3 =>
    cond (decide (s1.2.1 < r3.1))
      (cond (appOk (List.length s1.1) (List.length ([s1.2.1] : List Int)))
        (let xs4 := (s1.1 ++ ([s1.2.1] : List Int))
        loopN (fun (s5 : List (Int) × Int × Unit) next6 =>
          cond (decide (s5.2.1 > 0))
            (cond (inB s5.2.1 (List.length s5.1))
              (Option.bind (s5.1[(Int.toNat s5.2.1)]?) fun v7 =>
              Option.bind (spec_l04Job N x0 x1 v7) fun r8 =>
              cond (inB (w64 (s5.2.1 - 1)) (List.length s5.1))
                (Option.bind (s5.1[(Int.toNat (w64 (s5.2.1 - 1)))]?) fun v9 =>
                Option.bind (spec_l04Job N x0 x1 v9) fun r10 =>
                cond (decide (r8.1 > r10.1))
                  (cond (inB s5.2.1 (List.length s5.1))
                    (Option.bind (s5.1[(Int.toNat s5.2.1)]?) fun v11 =>
                    cond (inB (w64 (s5.2.1 - 1)) (List.length s5.1))
                      (Option.bind (s5.1[(Int.toNat (w64 (s5.2.1 - 1)))]?) fun v12 =>
                      cond (inB s5.2.1 (List.length s5.1))
                        (let xs13 := (List.set s5.1 (Int.toNat s5.2.1) v12)
                        cond (inB (w64 (s5.2.1 - 1)) (List.length xs13))
                          (let xs14 := (List.set xs13 (Int.toNat (w64 (s5.2.1 - 1))) v11)
                          next6 (xs14, (w64 (s5.2.1 - 1)), ())) none) none) none) none)
                  (next2 (s5.1, (w64 (s1.2.1 + 1)), ()))) none) none)
            (next2 (s5.1, (w64 (s1.2.1 + 1)), ()))) N (xs4, s1.2.1, ())) none)
      (loopN (fun (s15 : List (Int) × Int × Int × Unit) next16 =>
        cond (decide (s15.2.2.1 < (List.length s1.1 : Int)))
          (loopN (fun (s17 : Int × List (Int) × Int × Unit) next18 =>
            cond (decide (s17.2.2.1 ≤ (List.length s15.1 : Int)))
              (cond (decide (0 ≤ (0 : Int)) && decide ((0 : Int) ≤ s17.2.2.1) && decide (s17.2.2.1 ≤ (List.length s15.1 : Int)))
                (cond (appOk (List.length ([] : List Int)) (List.length ((s15.1.drop (Int.toNat (0 : Int))).take (Int.toNat s17.2.2.1 - Int.toNat (0 : Int)))))
                  (let xs19 := (([] : List Int) ++ ((s15.1.drop (Int.toNat (0 : Int))).take (Int.toNat s17.2.2.1 - Int.toNat (0 : Int))))
                  cond (inB s15.2.2.1 (List.length s1.1))
                    (Option.bind (s1.1[(Int.toNat s15.2.2.1)]?) fun v20 =>
                    cond (appOk (List.length xs19) (List.length ([v20] : List Int)))
                      (let xs21 := (xs19 ++ ([v20] : List Int))
                      cond (decide (0 ≤ s17.2.2.1) && decide (s17.2.2.1 ≤ (List.length s15.1 : Int)) && decide ((List.length s15.1 : Int) ≤ (List.length s15.1 : Int)))
                        (cond (appOk (List.length xs21) (List.length ((s15.1.drop (Int.toNat s17.2.2.1)).take (Int.toNat (List.length s15.1 : Int) - Int.toNat s17.2.2.1))))
                          (let xs22 := (xs21 ++ ((s15.1.drop (Int.toNat s17.2.2.1)).take (Int.toNat (List.length s15.1 : Int) - Int.toNat s17.2.2.1)))
                          Option.bind (spec_l04Ends N x0 x1 xs22) fun r23 =>
                          cond (s17.2.2.1 == 0)
                            (next18 (r23.2.1, xs22, (w64 (s17.2.2.1 + 1)), ()))
                            (cond (decide (r23.2.1 < s17.1))
                              (next18 (r23.2.1, xs22, (w64 (s17.2.2.1 + 1)), ()))
                              (next18 (s17.1, s17.2.1, (w64 (s17.2.2.1 + 1)), ())))) none) none) none) none) none) none)
              (next16 (s17.2.1, s17.1, (w64 (s15.2.2.1 + 1)), ()))) N (s15.2.1, ([] : List Int), 0, ()))
          (some (s15.1, s15.2.1, ()))) N (([] : List Int), 0, 0, ()))) N (([] : List Int), 0, ())
def spec_l04Insert_e (N : Nat) : Ent := { ins := [(.sl (.int .i64)), (.int .i64)], outs := [.own (.int .i64), .val (.int .i64)], F := fun x => spec_l04Insert N x.1 x.2.1 }
def spec_l04Insert_T (N : Nat) : Nat → List EntX
  | 91 => [.pl (spec_l04Count_e N)]
  | 92 => [.pl (spec_l04Job_e N)]
  | 93 => [.pl (spec_l04Ends_e N)]
  | _ => []
def spec_l04Insert_L : Nat → List (Nat × TK)
  | 3 => [(6, .own (.int .i64)), (7, .v (.int .i64))]
  | 7 => [(6, .own (.int .i64)), (8, .v (.int .i64))]
  | 15 => [(10, .own (.int .i64)), (11, .v (.int .i64)), (12, .v (.int .i64))]
  | 19 => [(11, .v (.int .i64)), (13, .own (.int .i64)), (14, .v (.int .i64))]
  | _ => []
theorem spec_l04Insert_eq (N : Nat) : runF N tt (spec_l04Insert_T N) spec_l04Insert_L [(.sl (.int .i64)), (.int .i64)] [.own (.int .i64), .val (.int .i64)] (bodyOf Try.f58) Try.f58.ntmps [4, 5] = (spec_l04Insert_e N).F := by
  funext x
  kernel_rfl
theorem spec_l04Insert_sound (N : Nat) : SoundC Try.prog 58 (spec_l04Insert_e N) := by
  have h := runF_sound (f := 58) (code := bodyOf Try.f58) (N := N) (T := (spec_l04Insert_T N)) (L := spec_l04Insert_L) (ins := [(.sl (.int .i64)), (.int .i64)]) (outs := [.own (.int .i64), .val (.int .i64)]) (res := [4, 5]) mixed tt_ok ?_ Try.func58 (by kernel_rfl) rfl (by kernel_rfl) (by kernel_rfl) (by decide +kernel)
  · rw [spec_l04Insert_eq] at h
    exact h
  · intro f e he
    unfold spec_l04Insert_T at he
    split at he
    · rw [List.mem_singleton.1 he]; exact spec_l04Count_sound N
    · rw [List.mem_singleton.1 he]; exact spec_l04Job_sound N
    · rw [List.mem_singleton.1 he]; exact spec_l04Ends_sound N
    · cases he

/- spec.InsertOrder -/
def spec_InsertOrder (N : Nat) (x0 : List Int) (x1 : Int) : Option (List (Int) × Int × Bool × Unit) :=
  Option.bind (spec_l04Can N x0 x1) fun r1 =>
  cond (!r1.1)
    (some ([], 0, false, ()))
    (Option.bind (spec_l04Insert N x0 x1) fun r2 =>
    some (r2.1, r2.2.1, true, ()))
def spec_InsertOrder_e (N : Nat) : Ent := { ins := [(.sl (.int .i64)), (.int .i64)], outs := [.own (.int .i64), .val (.int .i64), .val .bool], F := fun x => spec_InsertOrder N x.1 x.2.1 }
def spec_InsertOrder_T (N : Nat) : Nat → List EntX
  | 57 => [.pl (spec_l04Can_e N)]
  | 58 => [.pl (spec_l04Insert_e N)]
  | _ => []
def spec_InsertOrder_L : Nat → List (Nat × TK) := fun _ => []
theorem spec_InsertOrder_eq (N : Nat) : runF N tt (spec_InsertOrder_T N) spec_InsertOrder_L [(.sl (.int .i64)), (.int .i64)] [.own (.int .i64), .val (.int .i64), .val .bool] (bodyOf Try.f28) Try.f28.ntmps [4, 5, 6] = (spec_InsertOrder_e N).F := by
  funext x
  kernel_rfl
theorem spec_InsertOrder_sound (N : Nat) : SoundC Try.prog 28 (spec_InsertOrder_e N) := by
  have h := runF_sound (f := 28) (code := bodyOf Try.f28) (N := N) (T := (spec_InsertOrder_T N)) (L := spec_InsertOrder_L) (ins := [(.sl (.int .i64)), (.int .i64)]) (outs := [.own (.int .i64), .val (.int .i64), .val .bool]) (res := [4, 5, 6]) mixed tt_ok ?_ Try.func28 (by kernel_rfl) rfl (by kernel_rfl) (by kernel_rfl) (by decide +kernel)
  · rw [spec_InsertOrder_eq] at h
    exact h
  · intro f e he
    unfold spec_InsertOrder_T at he
    split at he
    · rw [List.mem_singleton.1 he]; exact spec_l04Can_sound N
    · rw [List.mem_singleton.1 he]; exact spec_l04Insert_sound N
    · cases he

/- impl.within -/
def impl_within (_N : Nat) (x0 : Int) (x1 : Int) (x2 : Int) : Option (Bool × Unit) :=
  cond (decide (x0 ≥ x1))
    (some ((decide (x0 ≤ x2)), ()))
    (some (false, ()))
def impl_within_e (N : Nat) : Ent := { ins := [(.int .i64), (.int .i64), (.int .i64)], outs := [.val .bool], F := fun x => impl_within N x.1 x.2.1 x.2.2.1 }
def impl_within_T (_ : Nat) : Nat → List EntX := fun _ => []
def impl_within_L : Nat → List (Nat × TK) := fun _ => []
theorem impl_within_eq (N : Nat) : runF N tt (impl_within_T N) impl_within_L [(.int .i64), (.int .i64), (.int .i64)] [.val .bool] (bodyOf Try.f65) Try.f65.ntmps [6] = (impl_within_e N).F := by
  funext x
  kernel_rfl
theorem impl_within_sound (N : Nat) : SoundC Try.prog 65 (impl_within_e N) := by
  have h := runF_sound (f := 65) (code := bodyOf Try.f65) (N := N) (T := (impl_within_T N)) (L := impl_within_L) (ins := [(.int .i64), (.int .i64), (.int .i64)]) (outs := [.val .bool]) (res := [6]) mixed tt_ok ?_ Try.func65 (by kernel_rfl) rfl (by kernel_rfl) (by kernel_rfl) (by decide +kernel)
  · rw [impl_within_eq] at h
    exact h
  · intro f e he
    cases he

/- impl.areMachines -/
def impl_areMachines (N : Nat) (x0 : Int) : Option (Bool × Unit) :=
  Option.bind (impl_within N x0 1 8) fun r1 =>
  some (r1.1, ())
def impl_areMachines_e (N : Nat) : Ent := { ins := [(.int .i64)], outs := [.val .bool], F := fun x => impl_areMachines N x.1 }
def impl_areMachines_T (N : Nat) : Nat → List EntX
  | 65 => [.pl (impl_within_e N)]
  | _ => []
def impl_areMachines_L : Nat → List (Nat × TK) := fun _ => []
theorem impl_areMachines_eq (N : Nat) : runF N tt (impl_areMachines_T N) impl_areMachines_L [(.int .i64)] [.val .bool] (bodyOf Try.f46) Try.f46.ntmps [2] = (impl_areMachines_e N).F := by
  funext x
  kernel_rfl
theorem impl_areMachines_sound (N : Nat) : SoundC Try.prog 46 (impl_areMachines_e N) := by
  have h := runF_sound (f := 46) (code := bodyOf Try.f46) (N := N) (T := (impl_areMachines_T N)) (L := impl_areMachines_L) (ins := [(.int .i64)]) (outs := [.val .bool]) (res := [2]) mixed tt_ok ?_ Try.func46 (by kernel_rfl) rfl (by kernel_rfl) (by kernel_rfl) (by decide +kernel)
  · rw [impl_areMachines_eq] at h
    exact h
  · intro f e he
    unfold impl_areMachines_T at he
    split at he
    · rw [List.mem_singleton.1 he]; exact impl_within_sound N
    · cases he

/- impl.areWithin -/
def impl_areWithin (N : Nat) (x0 : List Int) (x1 : Int) (x2 : Int) : Option (Bool × Unit) :=
  loopN (fun (s1 : Int × Unit) next2 =>
    cond (decide (s1.1 < (List.length x0 : Int)))
      (Option.bind (idx x0 s1.1) fun v3 =>
      Option.bind (impl_within N v3 x1 x2) fun r4 =>
      cond (!r4.1)
        (some (false, ()))
        (next2 ((w64 (s1.1 + 1)), ())))
      (some (true, ()))) N (0, ())
def impl_areWithin_e (N : Nat) : Ent := { ins := [(.sl (.int .i64)), (.int .i64), (.int .i64)], outs := [.val .bool], F := fun x => impl_areWithin N x.1 x.2.1 x.2.2.1 }
def impl_areWithin_T (N : Nat) : Nat → List EntX
  | 65 => [.pl (impl_within_e N)]
  | _ => []
def impl_areWithin_L : Nat → List (Nat × TK)
  | 2 => [(11, .v (.int .i64))]
  | _ => []
theorem impl_areWithin_eq (N : Nat) : runF N tt (impl_areWithin_T N) impl_areWithin_L [(.sl (.int .i64)), (.int .i64), (.int .i64)] [.val .bool] (bodyOf Try.f102) Try.f102.ntmps [6] = (impl_areWithin_e N).F := by
  funext x
  kernel_rfl
theorem impl_areWithin_sound (N : Nat) : SoundC Try.prog 102 (impl_areWithin_e N) := by
  have h := runF_sound (f := 102) (code := bodyOf Try.f102) (N := N) (T := (impl_areWithin_T N)) (L := impl_areWithin_L) (ins := [(.sl (.int .i64)), (.int .i64), (.int .i64)]) (outs := [.val .bool]) (res := [6]) mixed tt_ok ?_ Try.func102 (by kernel_rfl) rfl (by kernel_rfl) (by kernel_rfl) (by decide +kernel)
  · rw [impl_areWithin_eq] at h
    exact h
  · intro f e he
    unfold impl_areWithin_T at he
    split at he
    · rw [List.mem_singleton.1 he]; exact impl_within_sound N
    · cases he

/- impl.unlikeJobs -/
def impl_unlikeJobs (N : Nat) (x0 : List Int) (x1 : Int) : Option (Int × Bool × Unit) :=
  Option.bind (impl_areMachines N x1) fun r1 =>
  cond (!r1.1)
    (some (0, false, ()))
    (cond (x1 == 0) none
      (cond ((Int.tmod (List.length x0 : Int) x1) != 0)
        (some (0, false, ()))
        (Option.bind (impl_areWithin N x0 1 10000) fun r2 =>
        cond (!r2.1)
          (some (0, false, ()))
          (cond (x1 == 0) none
            (cond (decide ((w64 (Int.tdiv (List.length x0 : Int) x1)) ≥ 1))
              (some ((w64 (Int.tdiv (List.length x0 : Int) x1)), (decide ((w64 (Int.tdiv (List.length x0 : Int) x1)) ≤ 24)), ()))
              (some ((w64 (Int.tdiv (List.length x0 : Int) x1)), false, ())))))))
def impl_unlikeJobs_e (N : Nat) : Ent := { ins := [(.sl (.int .i64)), (.int .i64)], outs := [.val (.int .i64), .val .bool], F := fun x => impl_unlikeJobs N x.1 x.2.1 }
def impl_unlikeJobs_T (N : Nat) : Nat → List EntX
  | 46 => [.pl (impl_areMachines_e N)]
  | 102 => [.pl (impl_areWithin_e N)]
  | _ => []
def impl_unlikeJobs_L : Nat → List (Nat × TK) := fun _ => []
theorem impl_unlikeJobs_eq (N : Nat) : runF N tt (impl_unlikeJobs_T N) impl_unlikeJobs_L [(.sl (.int .i64)), (.int .i64)] [.val (.int .i64), .val .bool] (bodyOf Try.f94) Try.f94.ntmps [4, 5] = (impl_unlikeJobs_e N).F := by
  funext x
  kernel_rfl
theorem impl_unlikeJobs_sound (N : Nat) : SoundC Try.prog 94 (impl_unlikeJobs_e N) := by
  have h := runF_sound (f := 94) (code := bodyOf Try.f94) (N := N) (T := (impl_unlikeJobs_T N)) (L := impl_unlikeJobs_L) (ins := [(.sl (.int .i64)), (.int .i64)]) (outs := [.val (.int .i64), .val .bool]) (res := [4, 5]) mixed tt_ok ?_ Try.func94 (by kernel_rfl) rfl (by kernel_rfl) (by kernel_rfl) (by decide +kernel)
  · rw [impl_unlikeJobs_eq] at h
    exact h
  · intro f e he
    unfold impl_unlikeJobs_T at he
    split at he
    · rw [List.mem_singleton.1 he]; exact impl_areMachines_sound N
    · rw [List.mem_singleton.1 he]; exact impl_areWithin_sound N
    · cases he

/- impl.asShop -/
def impl_asShop (N : Nat) (x0 : List Int) (x1 : Int) : Option (((List Int) × Int × Int) × Bool × Unit) :=
  Option.bind (impl_unlikeJobs N x0 x1) fun r1 =>
  some ((x0, (r1.1, x1)), r1.2.1, ())
def impl_asShop_e (N : Nat) : Ent := { ins := [(.sl (.int .i64)), (.int .i64)], outs := [.val (.pair (.sl (.int .i64)) (.pair (.int .i64) (.int .i64))), .val .bool], F := fun x => impl_asShop N x.1 x.2.1 }
def impl_asShop_T (N : Nat) : Nat → List EntX
  | 94 => [.pl (impl_unlikeJobs_e N)]
  | _ => []
def impl_asShop_L : Nat → List (Nat × TK) := fun _ => []
theorem impl_asShop_eq (N : Nat) : runC N tt (impl_asShop_T N) impl_asShop_L [(.sl (.int .i64)), (.int .i64)] [.val (.pair (.sl (.int .i64)) (.pair (.int .i64) (.int .i64))), .val .bool] (bodyOf Try.f59) Try.f59.ntmps [4, 5] [(4, 63)] = (impl_asShop_e N).F := by
  funext x
  kernel_rfl
theorem impl_asShop_sound (N : Nat) : SoundC Try.prog 59 (impl_asShop_e N) := by
  have h := runC_sound (f := 59) (code := bodyOf Try.f59) (N := N) (T := (impl_asShop_T N)) (L := impl_asShop_L) (ins := [(.sl (.int .i64)), (.int .i64)]) (outs := [.val (.pair (.sl (.int .i64)) (.pair (.int .i64) (.int .i64))), .val .bool]) (res := [4, 5]) (rs := [.cell 4 63, .tmp 5]) (cells := [(4, 63)]) mixed tt_ok ?_ Try.func59 (by kernel_rfl) rfl (by kernel_rfl) (by kernel_rfl) rfl rfl (by decide) (by decide +kernel) (by decide +kernel)
  · rw [impl_asShop_eq] at h
    exact h
  · intro f e he
    unfold impl_asShop_T at he
    split at he
    · rw [List.mem_singleton.1 he]; exact impl_unlikeJobs_sound N
    · cases he

/- impl.counting -/
def impl_counting (N : Nat) (x0 : Int) : Option (List (Int) × Unit) :=
  loopN (fun (s1 : List (Int) × Int × Unit) next2 =>
    cond (decide (s1.2.1 < x0))
      (cond (appOk (List.length s1.1) (List.length ([s1.2.1] : List Int)))
        (let xs3 := (s1.1 ++ ([s1.2.1] : List Int))
        next2 (xs3, (w64 (s1.2.1 + 1)), ())) none)
      (some (s1.1, ()))) N (([] : List Int), 0, ())
def impl_counting_e (N : Nat) : Ent := { ins := [(.int .i64)], outs := [.own (.int .i64)], F := fun x => impl_counting N x.1 }
def impl_counting_T (_ : Nat) : Nat → List EntX := fun _ => []
def impl_counting_L : Nat → List (Nat × TK)
  | 3 => [(3, .own (.int .i64)), (7, .v (.int .i64))]
  | _ => []
theorem impl_counting_eq (N : Nat) : runF N tt (impl_counting_T N) impl_counting_L [(.int .i64)] [.own (.int .i64)] (bodyOf Try.f81) Try.f81.ntmps [2] = (impl_counting_e N).F := by
  funext x
  kernel_rfl
theorem impl_counting_sound (N : Nat) : SoundC Try.prog 81 (impl_counting_e N) := by
  have h := runF_sound (f := 81) (code := bodyOf Try.f81) (N := N) (T := (impl_counting_T N)) (L := impl_counting_L) (ins := [(.int .i64)]) (outs := [.own (.int .i64)]) (res := [2]) mixed tt_ok ?_ Try.func81 (by kernel_rfl) rfl (by kernel_rfl) (by kernel_rfl) (by decide +kernel)
  · rw [impl_counting_eq] at h
    exact h
  · intro f e he
    cases he

/- slices.Reverse[[]int64,int64] -/
def slices_Reverse_int64_int64 (N : Nat) (x0 : List Int) : Option (List (Int) × (Unit)) :=
  loopN (fun (s1 : List (Int) × Int × Int × Unit) next2 =>
    cond (decide (s1.2.1 < s1.2.2.1))
      (cond (inB s1.2.2.1 (List.length s1.1))
        (Option.bind (s1.1[(Int.toNat s1.2.2.1)]?) fun v3 =>
        cond (inB s1.2.1 (List.length s1.1))
          (Option.bind (s1.1[(Int.toNat s1.2.1)]?) fun v4 =>
          cond (inB s1.2.1 (List.length s1.1))
            (let xs5 := (List.set s1.1 (Int.toNat s1.2.1) v3)
            cond (inB s1.2.2.1 (List.length xs5))
              (let xs6 := (List.set xs5 (Int.toNat s1.2.2.1) v4)
              next2 (xs6, (w64 (s1.2.1 + 1)), (w64 (s1.2.2.1 - 1)), ())) none) none) none) none)
      (some (s1.1, ()))) N (x0, 0, (w64 ((List.length x0 : Int) - 1)), ())
def slices_Reverse_int64_int64_e (N : Nat) : EntM := { io := (.int .i64), ins := [], outs := [], F := fun xs x => slices_Reverse_int64_int64 N xs }
def slices_Reverse_int64_int64_T (_ : Nat) : Nat → List EntX := fun _ => []
def slices_Reverse_int64_int64_L : Nat → List (Nat × TK)
  | 1 => [(0, .own (.int .i64)), (2, .v (.int .i64)), (3, .v (.int .i64))]
  | _ => []
theorem slices_Reverse_int64_int64_eq (N : Nat) : runM N tt (slices_Reverse_int64_int64_T N) slices_Reverse_int64_int64_L (.int .i64) [] [] (bodyOf Try.f135) Try.f135.ntmps [] = (slices_Reverse_int64_int64_e N).F := by
  funext xs x
  kernel_rfl
theorem slices_Reverse_int64_int64_sound (N : Nat) : SoundM Try.prog 135 (slices_Reverse_int64_int64_e N) := by
  have h := runM_sound (f := 135) (code := bodyOf Try.f135) (N := N) (T := (slices_Reverse_int64_int64_T N)) (L := slices_Reverse_int64_int64_L) (io := (.int .i64)) (ins := []) (outs := []) (res := []) mixed tt_ok ?_ Try.func135 (by kernel_rfl) rfl (by kernel_rfl) (by kernel_rfl) (by decide +kernel)
  · rw [slices_Reverse_int64_int64_eq] at h
    exact h
  · intro f e he
    cases he

/- slices.Insert[[]int64,int64] -/
def slices_Insert_int64_int64 (_N : Nat) (x0 : List Int) (x1 : Int) (x2 : List Int ⊕ Int) : Option (List Int) :=
  insF x0 x1 x2
def slices_Insert_int64_int64_e (N : Nat) : EntA := { F := fun x i y => slices_Insert_int64_int64 N x i y }
theorem slices_Insert_int64_int64_sound (N : Nat) : SoundA Try.prog 97 (slices_Insert_int64_int64_e N) := ins_sound

/- slices.Clone[[]int64,int64] -/
def slices_Clone_int64_int64_ne (_N : Nat) (x0 : List Int) : Option (List (Int) × Unit) :=
  cond (List.isEmpty x0) none
    (cond (appOk (List.length ([] : List Int)) (List.length x0))
      (let xs1 := (([] : List Int) ++ x0)
      some (xs1, ())) none)
def slices_Clone_int64_int64_ne_e (N : Nat) : Ent := { ins := [(.sl (.int .i64))], outs := [.own (.int .i64)], F := fun x => slices_Clone_int64_int64_ne N x.1 }
def slices_Clone_int64_int64_ne_T (_ : Nat) : Nat → List EntX := fun _ => []
def slices_Clone_int64_int64_ne_L : Nat → List (Nat × TK) := fun _ => []
theorem slices_Clone_int64_int64_ne_eq (N : Nat) : runF N tt (slices_Clone_int64_int64_ne_T N) slices_Clone_int64_int64_ne_L [(.sl (.int .i64))] [.own (.int .i64)] (bodyOf Try.f98) Try.f98.ntmps [2] = (slices_Clone_int64_int64_ne_e N).F := by
  funext x
  kernel_rfl
theorem slices_Clone_int64_int64_ne_sound (N : Nat) : SoundC Try.prog 98 (slices_Clone_int64_int64_ne_e N) := by
  have h := runF_sound (f := 98) (code := bodyOf Try.f98) (N := N) (T := (slices_Clone_int64_int64_ne_T N)) (L := slices_Clone_int64_int64_ne_L) (ins := [(.sl (.int .i64))]) (outs := [.own (.int .i64)]) (res := [2]) mixed tt_ok ?_ Try.func98 (by kernel_rfl) rfl (by kernel_rfl) (by kernel_rfl) (by decide +kernel)
  · rw [slices_Clone_int64_int64_ne_eq] at h
    exact h
  · intro f e he
    cases he

/- slices.Clone[[]int64,int64] -/
def slices_Clone_int64_int64 (_N : Nat) (x0 : List Int) : Option (List Int × Unit) := cond (appOk 0 (List.length x0)) (some (x0, ())) none
def slices_Clone_int64_int64_e (N : Nat) : Ent := { ins := [(.sl (.int .i64))], outs := [.own (.int .i64)], F := fun x => slices_Clone_int64_int64 N x.1 }
theorem slices_Clone_int64_int64_sound (N : Nat) : SoundC Try.prog 98 (slices_Clone_int64_int64_e N) := clone_sound (slices_Clone_int64_int64_ne_sound N) fun x h1 h2 => by
  show slices_Clone_int64_int64_ne N x.1 = _
  unfold slices_Clone_int64_int64_ne
  simp only [isEmpty_no h1, cond_false]
  exact congrArg (fun b => cond b _ _) h2

/- (impl.shop).at -/
def impl_shop_at (_N : Nat) (x0 : (List Int) × Int × Int) (x1 : Int) (x2 : Int) : Option (Int × Unit) :=
  Option.bind (idx x0.1 (w64 ((w64 (x1 * x0.2.2)) + x2))) fun v1 =>
  some (v1, ())
def impl_shop_at_e (N : Nat) : Ent := { ins := [(.pair (.sl (.int .i64)) (.pair (.int .i64) (.int .i64))), (.int .i64), (.int .i64)], outs := [.val (.int .i64)], F := fun x => impl_shop_at N x.1 x.2.1 x.2.2.1 }
def impl_shop_at_T (_ : Nat) : Nat → List EntX := fun _ => []
def impl_shop_at_L : Nat → List (Nat × TK) := fun _ => []
theorem impl_shop_at_eq (N : Nat) : runF N tt (impl_shop_at_T N) impl_shop_at_L [(.pair (.sl (.int .i64)) (.pair (.int .i64) (.int .i64))), (.int .i64), (.int .i64)] [.val (.int .i64)] (bodyOf Try.f123) Try.f123.ntmps [6] = (impl_shop_at_e N).F := by
  funext x
  kernel_rfl
theorem impl_shop_at_sound (N : Nat) : SoundC Try.prog 123 (impl_shop_at_e N) := by
  have h := runF_sound (f := 123) (code := bodyOf Try.f123) (N := N) (T := (impl_shop_at_T N)) (L := impl_shop_at_L) (ins := [(.pair (.sl (.int .i64)) (.pair (.int .i64) (.int .i64))), (.int .i64), (.int .i64)]) (outs := [.val (.int .i64)]) (res := [6]) mixed tt_ok ?_ Try.func123 (by kernel_rfl) rfl (by kernel_rfl) (by kernel_rfl) (by decide +kernel)
  · rw [impl_shop_at_eq] at h
    exact h
  · intro f e he
    cases he

/- (impl.shop).flow -/
def impl_shop_flow (N : Nat) (x0 : (List Int) × Int × Int) (x1 : List Int) : Option (List (Int) × Int × Unit) :=
  cond (mkOk (List.length x0.1 : Int) (List.length x0.1 : Int))
    (let xs1 := (List.replicate (Int.toNat (List.length x0.1 : Int)) (0 : Int) : List (Int))
    cond (mkOk x0.2.2 x0.2.2)
      (let xs2 := (List.replicate (Int.toNat x0.2.2) (0 : Int) : List (Int))
      loopN (fun (s3 : List (Int) × List (Int) × Int × Unit) next4 =>
        cond (decide (s3.2.2.1 < (List.length x1 : Int)))
          (Option.bind (idx x1 s3.2.2.1) fun v5 =>
          loopN (fun (s6 : List (Int) × List (Int) × Int × Int × Unit) next7 =>
            cond (decide (s6.2.2.2.1 < x0.2.2))
              (cond (inB s6.2.2.2.1 (List.length s6.2.1))
                (Option.bind (s6.2.1[(Int.toNat s6.2.2.2.1)]?) fun v8 =>
                Option.bind (impl_shop_at N (x0.1, (x0.2.1, x0.2.2)) v5 s6.2.2.2.1) fun r9 =>
                cond (inB s6.2.2.2.1 (List.length s6.2.1))
                  (let xs10 := (List.set s6.2.1 (Int.toNat s6.2.2.2.1) (w64 ((imax s6.2.2.1 v8) + r9.1)))
                  cond (inB (w64 ((w64 (v5 * x0.2.2)) + s6.2.2.2.1)) (List.length s6.1))
                    (let xs11 := (List.set s6.1 (Int.toNat (w64 ((w64 (v5 * x0.2.2)) + s6.2.2.2.1))) (w64 ((imax s6.2.2.1 v8) + r9.1)))
                    next7 (xs11, xs10, (w64 ((imax s6.2.2.1 v8) + r9.1)), (w64 (s6.2.2.2.1 + 1)), ())) none) none) none)
              (next4 (s6.1, s6.2.1, (w64 (s3.2.2.1 + 1)), ()))) N (s3.1, s3.2.1, 0, 0, ()))
          (cond (inB (w64 (x0.2.2 - 1)) (List.length s3.2.1))
            (Option.bind (s3.2.1[(Int.toNat (w64 (x0.2.2 - 1)))]?) fun v12 =>
            some (s3.1, v12, ())) none)) N (xs1, xs2, 0, ())) none) none
def impl_shop_flow_e (N : Nat) : Ent := { ins := [(.pair (.sl (.int .i64)) (.pair (.int .i64) (.int .i64))), (.sl (.int .i64))], outs := [.own (.int .i64), .val (.int .i64)], F := fun x => impl_shop_flow N x.1 x.2.1 }
def impl_shop_flow_T (N : Nat) : Nat → List EntX
  | 123 => [.pl (impl_shop_at_e N)]
  | _ => []
def impl_shop_flow_L : Nat → List (Nat × TK)
  | 4 => [(6, .own (.int .i64)), (7, .own (.int .i64)), (21, .v (.int .i64))]
  | 8 => [(6, .own (.int .i64)), (7, .own (.int .i64)), (10, .v (.int .i64)), (27, .v (.int .i64))]
  | _ => []
theorem impl_shop_flow_eq (N : Nat) : runF N tt (impl_shop_flow_T N) impl_shop_flow_L [(.pair (.sl (.int .i64)) (.pair (.int .i64) (.int .i64))), (.sl (.int .i64))] [.own (.int .i64), .val (.int .i64)] (bodyOf Try.f99) Try.f99.ntmps [4, 5] = (impl_shop_flow_e N).F := by
  funext x
  kernel_rfl
theorem impl_shop_flow_sound (N : Nat) : SoundC Try.prog 99 (impl_shop_flow_e N) := by
  have h := runF_sound (f := 99) (code := bodyOf Try.f99) (N := N) (T := (impl_shop_flow_T N)) (L := impl_shop_flow_L) (ins := [(.pair (.sl (.int .i64)) (.pair (.int .i64) (.int .i64))), (.sl (.int .i64))]) (outs := [.own (.int .i64), .val (.int .i64)]) (res := [4, 5]) mixed tt_ok ?_ Try.func99 (by kernel_rfl) rfl (by kernel_rfl) (by kernel_rfl) (by decide +kernel)
  · rw [impl_shop_flow_eq] at h
    exact h
  · intro f e he
    unfold impl_shop_flow_T at he
    split at he
    · rw [List.mem_singleton.1 he]; exact impl_shop_at_sound N
    · cases he

/- impl.sumOf -/
def impl_sumOf (N : Nat) (x0 : List Int) : Option (Int × Unit) :=
  loopN (fun (s1 : Int × Int × Unit) next2 =>
    cond (decide (s1.2.1 < (List.length x0 : Int)))
      (Option.bind (idx x0 s1.2.1) fun v3 =>
      next2 ((w64 (s1.1 + v3)), (w64 (s1.2.1 + 1)), ()))
      (some (s1.1, ()))) N (0, 0, ())
def impl_sumOf_e (N : Nat) : Ent := { ins := [(.sl (.int .i64))], outs := [.val (.int .i64)], F := fun x => impl_sumOf N x.1 }
def impl_sumOf_T (_ : Nat) : Nat → List EntX := fun _ => []
def impl_sumOf_L : Nat → List (Nat × TK)
  | 3 => [(3, .v (.int .i64)), (8, .v (.int .i64))]
  | _ => []
theorem impl_sumOf_eq (N : Nat) : runF N tt (impl_sumOf_T N) impl_sumOf_L [(.sl (.int .i64))] [.val (.int .i64)] (bodyOf Try.f89) Try.f89.ntmps [2] = (impl_sumOf_e N).F := by
  funext x
  kernel_rfl
theorem impl_sumOf_sound (N : Nat) : SoundC Try.prog 89 (impl_sumOf_e N) := by
  have h := runF_sound (f := 89) (code := bodyOf Try.f89) (N := N) (T := (impl_sumOf_T N)) (L := impl_sumOf_L) (ins := [(.sl (.int .i64))]) (outs := [.val (.int .i64)]) (res := [2]) mixed tt_ok ?_ Try.func89 (by kernel_rfl) rfl (by kernel_rfl) (by kernel_rfl) (by decide +kernel)
  · rw [impl_sumOf_eq] at h
    exact h
  · intro f e he
    cases he

/- (impl.shop).of -/
def impl_shop_of (N : Nat) (x0 : (List Int) × Int × Int) (x1 : Int) : Option (Int × Unit) :=
  cond (decide (0 ≤ (w64 (x1 * x0.2.2))) && decide ((w64 (x1 * x0.2.2)) ≤ (w64 ((w64 (x1 + 1)) * x0.2.2))) && decide ((w64 ((w64 (x1 + 1)) * x0.2.2)) ≤ (List.length x0.1 : Int)))
    (Option.bind (impl_sumOf N (List.drop (Int.toNat (w64 (x1 * x0.2.2))) (List.take (Int.toNat (w64 ((w64 (x1 + 1)) * x0.2.2))) x0.1))) fun r1 =>
    some (r1.1, ())) none
def impl_shop_of_e (N : Nat) : Ent := { ins := [(.pair (.sl (.int .i64)) (.pair (.int .i64) (.int .i64))), (.int .i64)], outs := [.val (.int .i64)], F := fun x => impl_shop_of N x.1 x.2.1 }
def impl_shop_of_T (N : Nat) : Nat → List EntX
  | 89 => [.pl (impl_sumOf_e N)]
  | _ => []
def impl_shop_of_L : Nat → List (Nat × TK) := fun _ => []
theorem impl_shop_of_eq (N : Nat) : runF N tt (impl_shop_of_T N) impl_shop_of_L [(.pair (.sl (.int .i64)) (.pair (.int .i64) (.int .i64))), (.int .i64)] [.val (.int .i64)] (bodyOf Try.f96) Try.f96.ntmps [4] = (impl_shop_of_e N).F := by
  funext x
  kernel_rfl
theorem impl_shop_of_sound (N : Nat) : SoundC Try.prog 96 (impl_shop_of_e N) := by
  have h := runF_sound (f := 96) (code := bodyOf Try.f96) (N := N) (T := (impl_shop_of_T N)) (L := impl_shop_of_L) (ins := [(.pair (.sl (.int .i64)) (.pair (.int .i64) (.int .i64))), (.int .i64)]) (outs := [.val (.int .i64)]) (res := [4]) mixed tt_ok ?_ Try.func96 (by kernel_rfl) rfl (by kernel_rfl) (by kernel_rfl) (by decide +kernel)
  · rw [impl_shop_of_eq] at h
    exact h
  · intro f e he
    unfold impl_shop_of_T at he
    split at he
    · rw [List.mem_singleton.1 he]; exact impl_sumOf_sound N
    · cases he

/- (impl.shop).insert$1 -/
def impl_shop_insert_1_c0 (N : Nat) (x0 : Int) (x1 : (List Int) × Int × Int) : Option (Int × Unit) :=
  Option.bind (impl_shop_of N x1 x0) fun r1 =>
  some ((IntKind.wrap .i64 (0 - r1.1)), ())
def impl_shop_insert_1_c0_e (N : Nat) : Ent := { ins := [(.int .i64), (.bx (.pair (.sl (.int .i64)) (.pair (.int .i64) (.int .i64))))], outs := [.val (.int .i64)], F := fun x => impl_shop_insert_1_c0 N x.1 x.2.1 }
def impl_shop_insert_1_c0_T (N : Nat) : Nat → List EntX
  | 96 => [.pl (impl_shop_of_e N)]
  | _ => []
def impl_shop_insert_1_c0_L : Nat → List (Nat × TK) := fun _ => []
theorem impl_shop_insert_1_c0_eq (N : Nat) : runF N tt (impl_shop_insert_1_c0_T N) impl_shop_insert_1_c0_L [(.int .i64), (.bx (.pair (.sl (.int .i64)) (.pair (.int .i64) (.int .i64))))] [.val (.int .i64)] (bodyOf Try.f95) Try.f95.ntmps [3] = (impl_shop_insert_1_c0_e N).F := by
  funext x
  kernel_rfl
theorem impl_shop_insert_1_c0_sound (N : Nat) : SoundC Try.prog 95 (impl_shop_insert_1_c0_e N) := by
  have h := runF_sound (f := 95) (code := bodyOf Try.f95) (N := N) (T := (impl_shop_insert_1_c0_T N)) (L := impl_shop_insert_1_c0_L) (ins := [(.int .i64), (.bx (.pair (.sl (.int .i64)) (.pair (.int .i64) (.int .i64))))]) (outs := [.val (.int .i64)]) (res := [3]) mixed tt_ok ?_ Try.func95 (by kernel_rfl) rfl (by kernel_rfl) (by kernel_rfl) (by decide +kernel)
  · rw [impl_shop_insert_1_c0_eq] at h
    exact h
  · intro f e he
    unfold impl_shop_insert_1_c0_T at he
    split at he
    · rw [List.mem_singleton.1 he]; exact impl_shop_of_sound N
    · cases he

/- cmp.isNaN[int64] -/
def cmp_isNaN_int64 (_N : Nat) (x0 : Int) : Option (Bool × Unit) :=
  some ((x0 != x0), ())
def cmp_isNaN_int64_e (N : Nat) : Ent := { ins := [(.int .i64)], outs := [.val .bool], F := fun x => cmp_isNaN_int64 N x.1 }
def cmp_isNaN_int64_T (_ : Nat) : Nat → List EntX := fun _ => []
def cmp_isNaN_int64_L : Nat → List (Nat × TK) := fun _ => []
theorem cmp_isNaN_int64_eq (N : Nat) : runF N tt (cmp_isNaN_int64_T N) cmp_isNaN_int64_L [(.int .i64)] [.val .bool] (bodyOf Try.f120) Try.f120.ntmps [2] = (cmp_isNaN_int64_e N).F := by
  funext x
  kernel_rfl
theorem cmp_isNaN_int64_sound (N : Nat) : SoundC Try.prog 120 (cmp_isNaN_int64_e N) := by
  have h := runF_sound (f := 120) (code := bodyOf Try.f120) (N := N) (T := (cmp_isNaN_int64_T N)) (L := cmp_isNaN_int64_L) (ins := [(.int .i64)]) (outs := [.val .bool]) (res := [2]) mixed tt_ok ?_ Try.func120 (by kernel_rfl) rfl (by kernel_rfl) (by kernel_rfl) (by decide +kernel)
  · rw [cmp_isNaN_int64_eq] at h
    exact h
  · intro f e he
    cases he

/- cmp.Compare[int64] -/
def cmp_Compare_int64 (N : Nat) (x0 : Int) (x1 : Int) : Option (Int × Unit) :=
  Option.bind (cmp_isNaN_int64 N x0) fun r1 =>
  Option.bind (cmp_isNaN_int64 N x1) fun r2 =>
  cond r1.1
    (cond r2.1
      (some (0, ()))
      (some ((-1), ())))
    (cond r2.1
      (some (1, ()))
      (cond (decide (x0 < x1))
        (some ((-1), ()))
        (cond (decide (x0 > x1))
          (some (1, ()))
          (some (0, ())))))
def cmp_Compare_int64_e (N : Nat) : Ent := { ins := [(.int .i64), (.int .i64)], outs := [.val (.int .i64)], F := fun x => cmp_Compare_int64 N x.1 x.2.1 }
def cmp_Compare_int64_T (N : Nat) : Nat → List EntX
  | 120 => [.pl (cmp_isNaN_int64_e N)]
  | _ => []
def cmp_Compare_int64_L : Nat → List (Nat × TK) := fun _ => []
theorem cmp_Compare_int64_eq (N : Nat) : runF N tt (cmp_Compare_int64_T N) cmp_Compare_int64_L [(.int .i64), (.int .i64)] [.val (.int .i64)] (bodyOf Try.f84) Try.f84.ntmps [4] = (cmp_Compare_int64_e N).F := by
  funext x
  kernel_rfl
theorem cmp_Compare_int64_sound (N : Nat) : SoundC Try.prog 84 (cmp_Compare_int64_e N) := by
  have h := runF_sound (f := 84) (code := bodyOf Try.f84) (N := N) (T := (cmp_Compare_int64_T N)) (L := cmp_Compare_int64_L) (ins := [(.int .i64), (.int .i64)]) (outs := [.val (.int .i64)]) (res := [4]) mixed tt_ok ?_ Try.func84 (by kernel_rfl) rfl (by kernel_rfl) (by kernel_rfl) (by decide +kernel)
  · rw [cmp_Compare_int64_eq] at h
    exact h
  · intro f e he
    unfold cmp_Compare_int64_T at he
    split at he
    · rw [List.mem_singleton.1 he]; exact cmp_isNaN_int64_sound N
    · cases he

/- impl.sortedBy$1 -/
def impl_sortedBy_1_c0 (N : Nat) (x0 : Int) (x1 : Int) (x2 : (List Int) × Int × Int) : Option (Int × Unit) :=
  Option.bind (impl_shop_insert_1_c0 N x0 x2) fun r1 =>
  Option.bind (impl_shop_insert_1_c0 N x1 x2) fun r2 =>
  Option.bind (cmp_Compare_int64 N r1.1 r2.1) fun r3 =>
  some (r3.1, ())
def impl_sortedBy_1_c0_e (N : Nat) : Ent := { ins := [(.int .i64), (.int .i64), (.bx (.clo 95 (.bx (.pair (.sl (.int .i64)) (.pair (.int .i64) (.int .i64))))))], outs := [.val (.int .i64)], F := fun x => impl_sortedBy_1_c0 N x.1 x.2.1 x.2.2.1 }
def impl_sortedBy_1_c0_T (N : Nat) : Nat → List EntX
  | 84 => [.pl (cmp_Compare_int64_e N)]
  | 95 => [.pl (impl_shop_insert_1_c0_e N)]
  | _ => []
def impl_sortedBy_1_c0_L : Nat → List (Nat × TK) := fun _ => []
theorem impl_sortedBy_1_c0_eq (N : Nat) : runF N tt (impl_sortedBy_1_c0_T N) impl_sortedBy_1_c0_L [(.int .i64), (.int .i64), (.bx (.clo 95 (.bx (.pair (.sl (.int .i64)) (.pair (.int .i64) (.int .i64))))))] [.val (.int .i64)] (bodyOf Try.f83) Try.f83.ntmps [5] = (impl_sortedBy_1_c0_e N).F := by
  funext x
  kernel_rfl
theorem impl_sortedBy_1_c0_sound (N : Nat) : SoundC Try.prog 83 (impl_sortedBy_1_c0_e N) := by
  have h := runF_sound (f := 83) (code := bodyOf Try.f83) (N := N) (T := (impl_sortedBy_1_c0_T N)) (L := impl_sortedBy_1_c0_L) (ins := [(.int .i64), (.int .i64), (.bx (.clo 95 (.bx (.pair (.sl (.int .i64)) (.pair (.int .i64) (.int .i64))))))]) (outs := [.val (.int .i64)]) (res := [5]) mixed tt_ok ?_ Try.func83 (by kernel_rfl) rfl (by kernel_rfl) (by kernel_rfl) (by decide +kernel)
  · rw [impl_sortedBy_1_c0_eq] at h
    exact h
  · intro f e he
    unfold impl_sortedBy_1_c0_T at he
    split at he
    · rw [List.mem_singleton.1 he]; exact cmp_Compare_int64_sound N
    · rw [List.mem_singleton.1 he]; exact impl_shop_insert_1_c0_sound N
    · cases he

/- slices.insertionSortCmpFunc[int64] -/
def slices_insertionSortCmpFunc_int64_impl_sortedBy_1 (N : Nat) (x0 : List Int) (x1 : Int) (x2 : Int) (x3 : (List Int) × Int × Int) : Option (List (Int) × (Unit)) :=
  loopN (fun (s1 : List (Int) × Int × Unit) next2 =>
    cond (decide (s1.2.1 < x2))
      (loopN (fun (s3 : List (Int) × Int × Unit) next4 =>
        cond (decide (s3.2.1 > x1))
          (cond (inB s3.2.1 (List.length s3.1))
            (Option.bind (s3.1[(Int.toNat s3.2.1)]?) fun v5 =>
            cond (inB (w64 (s3.2.1 - 1)) (List.length s3.1))
              (Option.bind (s3.1[(Int.toNat (w64 (s3.2.1 - 1)))]?) fun v6 =>
              Option.bind (impl_sortedBy_1_c0 N v5 v6 x3) fun r7 =>
              cond (decide (r7.1 < 0))
                (cond (inB (w64 (s3.2.1 - 1)) (List.length s3.1))
                  (Option.bind (s3.1[(Int.toNat (w64 (s3.2.1 - 1)))]?) fun v8 =>
                  cond (inB s3.2.1 (List.length s3.1))
                    (Option.bind (s3.1[(Int.toNat s3.2.1)]?) fun v9 =>
                    cond (inB s3.2.1 (List.length s3.1))
                      (let xs10 := (List.set s3.1 (Int.toNat s3.2.1) v8)
                      cond (inB (w64 (s3.2.1 - 1)) (List.length xs10))
                        (let xs11 := (List.set xs10 (Int.toNat (w64 (s3.2.1 - 1))) v9)
                        next4 (xs11, (w64 (s3.2.1 - 1)), ())) none) none) none) none)
                (next2 (s3.1, (w64 (s1.2.1 + 1)), ()))) none) none)
          (next2 (s3.1, (w64 (s1.2.1 + 1)), ()))) N (s1.1, s1.2.1, ()))
      (some (s1.1, ()))) N (x0, (w64 (x1 + 1)), ())
def slices_insertionSortCmpFunc_int64_impl_sortedBy_1_e (N : Nat) : EntM := { io := (.int .i64), ins := [(.int .i64), (.int .i64), (.clo 83 (.bx (.clo 95 (.bx (.pair (.sl (.int .i64)) (.pair (.int .i64) (.int .i64)))))))], outs := [], F := fun xs x => slices_insertionSortCmpFunc_int64_impl_sortedBy_1 N xs x.1 x.2.1 x.2.2.1 }
def slices_insertionSortCmpFunc_int64_impl_sortedBy_1_T (N : Nat) : Nat → List EntX
  | 83 => [.pl (impl_sortedBy_1_c0_e N)]
  | _ => []
def slices_insertionSortCmpFunc_int64_impl_sortedBy_1_L : Nat → List (Nat × TK)
  | 1 => [(0, .own (.int .i64)), (8, .v (.int .i64))]
  | 4 => [(0, .own (.int .i64)), (9, .v (.int .i64))]
  | _ => []
theorem slices_insertionSortCmpFunc_int64_impl_sortedBy_1_eq (N : Nat) : runM N tt (slices_insertionSortCmpFunc_int64_impl_sortedBy_1_T N) slices_insertionSortCmpFunc_int64_impl_sortedBy_1_L (.int .i64) [(.int .i64), (.int .i64), (.clo 83 (.bx (.clo 95 (.bx (.pair (.sl (.int .i64)) (.pair (.int .i64) (.int .i64)))))))] [] (bodyOf Try.f129) Try.f129.ntmps [] = (slices_insertionSortCmpFunc_int64_impl_sortedBy_1_e N).F := by
  funext xs x
  kernel_rfl
theorem slices_insertionSortCmpFunc_int64_impl_sortedBy_1_sound (N : Nat) : SoundM Try.prog 129 (slices_insertionSortCmpFunc_int64_impl_sortedBy_1_e N) := by
  have h := runM_sound (f := 129) (code := bodyOf Try.f129) (N := N) (T := (slices_insertionSortCmpFunc_int64_impl_sortedBy_1_T N)) (L := slices_insertionSortCmpFunc_int64_impl_sortedBy_1_L) (io := (.int .i64)) (ins := [(.int .i64), (.int .i64), (.clo 83 (.bx (.clo 95 (.bx (.pair (.sl (.int .i64)) (.pair (.int .i64) (.int .i64)))))))]) (outs := []) (res := []) mixed tt_ok ?_ Try.func129 (by kernel_rfl) rfl (by kernel_rfl) (by kernel_rfl) (by decide +kernel)
  · rw [slices_insertionSortCmpFunc_int64_impl_sortedBy_1_eq] at h
    exact h
  · intro f e he
    unfold slices_insertionSortCmpFunc_int64_impl_sortedBy_1_T at he
    split at he
    · rw [List.mem_singleton.1 he]; exact impl_sortedBy_1_c0_sound N
    · cases he

/- slices.swapRangeCmpFunc[int64] -/
def slices_swapRangeCmpFunc_int64_impl_sortedBy_1 (N : Nat) (x0 : List Int) (x1 : Int) (x2 : Int) (x3 : Int) (x4 : (List Int) × Int × Int) : Option (List (Int) × (Unit)) :=
  loopN (fun (s1 : List (Int) × Int × Unit) next2 =>
    cond (decide (s1.2.1 < x3))
      (cond (inB (w64 (x2 + s1.2.1)) (List.length s1.1))
        (Option.bind (s1.1[(Int.toNat (w64 (x2 + s1.2.1)))]?) fun v3 =>
        cond (inB (w64 (x1 + s1.2.1)) (List.length s1.1))
          (Option.bind (s1.1[(Int.toNat (w64 (x1 + s1.2.1)))]?) fun v4 =>
          cond (inB (w64 (x1 + s1.2.1)) (List.length s1.1))
            (let xs5 := (List.set s1.1 (Int.toNat (w64 (x1 + s1.2.1))) v3)
            cond (inB (w64 (x2 + s1.2.1)) (List.length xs5))
              (let xs6 := (List.set xs5 (Int.toNat (w64 (x2 + s1.2.1))) v4)
              next2 (xs6, (w64 (s1.2.1 + 1)), ())) none) none) none) none)
      (some (s1.1, ()))) N (x0, 0, ())
def slices_swapRangeCmpFunc_int64_impl_sortedBy_1_e (N : Nat) : EntM := { io := (.int .i64), ins := [(.int .i64), (.int .i64), (.int .i64), (.clo 83 (.bx (.clo 95 (.bx (.pair (.sl (.int .i64)) (.pair (.int .i64) (.int .i64)))))))], outs := [], F := fun xs x => slices_swapRangeCmpFunc_int64_impl_sortedBy_1 N xs x.1 x.2.1 x.2.2.1 x.2.2.2.1 }
def slices_swapRangeCmpFunc_int64_impl_sortedBy_1_T (_ : Nat) : Nat → List EntX := fun _ => []
def slices_swapRangeCmpFunc_int64_impl_sortedBy_1_L : Nat → List (Nat × TK)
  | 1 => [(0, .own (.int .i64)), (10, .v (.int .i64))]
  | _ => []
theorem slices_swapRangeCmpFunc_int64_impl_sortedBy_1_eq (N : Nat) : runM N tt (slices_swapRangeCmpFunc_int64_impl_sortedBy_1_T N) slices_swapRangeCmpFunc_int64_impl_sortedBy_1_L (.int .i64) [(.int .i64), (.int .i64), (.int .i64), (.clo 83 (.bx (.clo 95 (.bx (.pair (.sl (.int .i64)) (.pair (.int .i64) (.int .i64)))))))] [] (bodyOf Try.f136) Try.f136.ntmps [] = (slices_swapRangeCmpFunc_int64_impl_sortedBy_1_e N).F := by
  funext xs x
  kernel_rfl
theorem slices_swapRangeCmpFunc_int64_impl_sortedBy_1_sound (N : Nat) : SoundM Try.prog 136 (slices_swapRangeCmpFunc_int64_impl_sortedBy_1_e N) := by
  have h := runM_sound (f := 136) (code := bodyOf Try.f136) (N := N) (T := (slices_swapRangeCmpFunc_int64_impl_sortedBy_1_T N)) (L := slices_swapRangeCmpFunc_int64_impl_sortedBy_1_L) (io := (.int .i64)) (ins := [(.int .i64), (.int .i64), (.int .i64), (.clo 83 (.bx (.clo 95 (.bx (.pair (.sl (.int .i64)) (.pair (.int .i64) (.int .i64)))))))]) (outs := []) (res := []) mixed tt_ok ?_ Try.func136 (by kernel_rfl) rfl (by kernel_rfl) (by kernel_rfl) (by decide +kernel)
  · rw [slices_swapRangeCmpFunc_int64_impl_sortedBy_1_eq] at h
    exact h
  · intro f e he
    cases he

/- slices.rotateCmpFunc[int64] -/
def slices_rotateCmpFunc_int64_impl_sortedBy_1 (N : Nat) (x0 : List Int) (x1 : Int) (x2 : Int) (x3 : Int) (x4 : (List Int) × Int × Int) : Option (List (Int) × (Unit)) :=
  loopN (fun (s1 : List (Int) × Int × Int × Unit) next2 =>
    cond (s1.2.1 != s1.2.2.1)
      (cond (decide (s1.2.1 > s1.2.2.1))
        (Option.bind (slices_swapRangeCmpFunc_int64_impl_sortedBy_1 N s1.1 (w64 (x2 - s1.2.1)) x2 s1.2.2.1 x4) fun r3 =>
        cond (Nat.beq (List.length r3.1) (List.length s1.1))
          (next2 (r3.1, (w64 (s1.2.1 - s1.2.2.1)), s1.2.2.1, ())) none)
        (Option.bind (slices_swapRangeCmpFunc_int64_impl_sortedBy_1 N s1.1 (w64 (x2 - s1.2.1)) (w64 ((w64 (x2 + s1.2.2.1)) - s1.2.1)) s1.2.1 x4) fun r4 =>
        cond (Nat.beq (List.length r4.1) (List.length s1.1))
          (next2 (r4.1, s1.2.1, (w64 (s1.2.2.1 - s1.2.1)), ())) none))
      (Option.bind (slices_swapRangeCmpFunc_int64_impl_sortedBy_1 N s1.1 (w64 (x2 - s1.2.1)) x2 s1.2.1 x4) fun r5 =>
      cond (Nat.beq (List.length r5.1) (List.length s1.1))
        (some (r5.1, ())) none)) N (x0, (w64 (x2 - x1)), (w64 (x3 - x2)), ())
def slices_rotateCmpFunc_int64_impl_sortedBy_1_e (N : Nat) : EntM := { io := (.int .i64), ins := [(.int .i64), (.int .i64), (.int .i64), (.clo 83 (.bx (.clo 95 (.bx (.pair (.sl (.int .i64)) (.pair (.int .i64) (.int .i64)))))))], outs := [], F := fun xs x => slices_rotateCmpFunc_int64_impl_sortedBy_1 N xs x.1 x.2.1 x.2.2.1 x.2.2.2.1 }
def slices_rotateCmpFunc_int64_impl_sortedBy_1_T (N : Nat) : Nat → List EntX
  | 136 => [.mu (slices_swapRangeCmpFunc_int64_impl_sortedBy_1_e N)]
  | _ => []
def slices_rotateCmpFunc_int64_impl_sortedBy_1_L : Nat → List (Nat × TK)
  | 2 => [(0, .own (.int .i64)), (10, .v (.int .i64)), (11, .v (.int .i64))]
  | _ => []
theorem slices_rotateCmpFunc_int64_impl_sortedBy_1_eq (N : Nat) : runM N tt (slices_rotateCmpFunc_int64_impl_sortedBy_1_T N) slices_rotateCmpFunc_int64_impl_sortedBy_1_L (.int .i64) [(.int .i64), (.int .i64), (.int .i64), (.clo 83 (.bx (.clo 95 (.bx (.pair (.sl (.int .i64)) (.pair (.int .i64) (.int .i64)))))))] [] (bodyOf Try.f134) Try.f134.ntmps [] = (slices_rotateCmpFunc_int64_impl_sortedBy_1_e N).F := by
  funext xs x
  kernel_rfl
theorem slices_rotateCmpFunc_int64_impl_sortedBy_1_sound (N : Nat) : SoundM Try.prog 134 (slices_rotateCmpFunc_int64_impl_sortedBy_1_e N) := by
  have h := runM_sound (f := 134) (code := bodyOf Try.f134) (N := N) (T := (slices_rotateCmpFunc_int64_impl_sortedBy_1_T N)) (L := slices_rotateCmpFunc_int64_impl_sortedBy_1_L) (io := (.int .i64)) (ins := [(.int .i64), (.int .i64), (.int .i64), (.clo 83 (.bx (.clo 95 (.bx (.pair (.sl (.int .i64)) (.pair (.int .i64) (.int .i64)))))))]) (outs := []) (res := []) mixed tt_ok ?_ Try.func134 (by kernel_rfl) rfl (by kernel_rfl) (by kernel_rfl) (by decide +kernel)
  · rw [slices_rotateCmpFunc_int64_impl_sortedBy_1_eq] at h
    exact h
  · intro f e he
    unfold slices_rotateCmpFunc_int64_impl_sortedBy_1_T at he
    split at he
    · rw [List.mem_singleton.1 he]; exact slices_swapRangeCmpFunc_int64_impl_sortedBy_1_sound N
    · cases he

/- slices.symMergeCmpFunc[int64] -/
def slices_symMergeCmpFunc_int64_impl_sortedBy_1_step (N : Nat) (self : List (Int) → Int → Int → Int → (List Int) × Int × Int → Option (List (Int) × (Unit))) (x0 : List Int) (x1 : Int) (x2 : Int) (x3 : Int) (x4 : (List Int) × Int × Int) : Option (List (Int) × (Unit)) :=
  cond ((w64 (x2 - x1)) == 1)
    (loopN (fun (s1 : Int × Int × Unit) next2 =>
      cond (decide (s1.1 < s1.2.1))
        (cond (inB (IntKind.wrap .i64 (ishr .u64 (IntKind.wrap .u64 (w64 (s1.1 + s1.2.1))) 1)) (List.length x0))
          (Option.bind (x0[(Int.toNat (IntKind.wrap .i64 (ishr .u64 (IntKind.wrap .u64 (w64 (s1.1 + s1.2.1))) 1)))]?) fun v3 =>
          cond (inB x1 (List.length x0))
            (Option.bind (x0[(Int.toNat x1)]?) fun v4 =>
            Option.bind (impl_sortedBy_1_c0 N v3 v4 x4) fun r5 =>
            cond (decide (r5.1 < 0))
              (next2 ((w64 ((IntKind.wrap .i64 (ishr .u64 (IntKind.wrap .u64 (w64 (s1.1 + s1.2.1))) 1)) + 1)), s1.2.1, ()))
              (next2 (s1.1, (IntKind.wrap .i64 (ishr .u64 (IntKind.wrap .u64 (w64 (s1.1 + s1.2.1))) 1)), ()))) none) none)
        (loopN (fun (s6 : List (Int) × Int × Unit) next7 =>
          cond (decide (s6.2.1 < (w64 (s1.1 - 1))))
            (cond (inB (w64 (s6.2.1 + 1)) (List.length s6.1))
              (Option.bind (s6.1[(Int.toNat (w64 (s6.2.1 + 1)))]?) fun v8 =>
              cond (inB s6.2.1 (List.length s6.1))
                (Option.bind (s6.1[(Int.toNat s6.2.1)]?) fun v9 =>
                cond (inB s6.2.1 (List.length s6.1))
                  (let xs10 := (List.set s6.1 (Int.toNat s6.2.1) v8)
                  cond (inB (w64 (s6.2.1 + 1)) (List.length xs10))
                    (let xs11 := (List.set xs10 (Int.toNat (w64 (s6.2.1 + 1))) v9)
                    next7 (xs11, (w64 (s6.2.1 + 1)), ())) none) none) none) none)
            (some (s6.1, ()))) N (x0, x1, ()))) N (x2, x3, ()))
    (cond ((w64 (x3 - x2)) == 1)
      (loopN (fun (s12 : Int × Int × Unit) next13 =>
        cond (decide (s12.1 < s12.2.1))
          (cond (inB x2 (List.length x0))
            (Option.bind (x0[(Int.toNat x2)]?) fun v14 =>
            cond (inB (IntKind.wrap .i64 (ishr .u64 (IntKind.wrap .u64 (w64 (s12.1 + s12.2.1))) 1)) (List.length x0))
              (Option.bind (x0[(Int.toNat (IntKind.wrap .i64 (ishr .u64 (IntKind.wrap .u64 (w64 (s12.1 + s12.2.1))) 1)))]?) fun v15 =>
              Option.bind (impl_sortedBy_1_c0 N v14 v15 x4) fun r16 =>
              cond (!(decide (r16.1 < 0)))
                (next13 ((w64 ((IntKind.wrap .i64 (ishr .u64 (IntKind.wrap .u64 (w64 (s12.1 + s12.2.1))) 1)) + 1)), s12.2.1, ()))
                (next13 (s12.1, (IntKind.wrap .i64 (ishr .u64 (IntKind.wrap .u64 (w64 (s12.1 + s12.2.1))) 1)), ()))) none) none)
          (loopN (fun (s17 : List (Int) × Int × Unit) next18 =>
            cond (decide (s17.2.1 > s12.1))
              (cond (inB (w64 (s17.2.1 - 1)) (List.length s17.1))
                (Option.bind (s17.1[(Int.toNat (w64 (s17.2.1 - 1)))]?) fun v19 =>
                cond (inB s17.2.1 (List.length s17.1))
                  (Option.bind (s17.1[(Int.toNat s17.2.1)]?) fun v20 =>
                  cond (inB s17.2.1 (List.length s17.1))
                    (let xs21 := (List.set s17.1 (Int.toNat s17.2.1) v19)
                    cond (inB (w64 (s17.2.1 - 1)) (List.length xs21))
                      (let xs22 := (List.set xs21 (Int.toNat (w64 (s17.2.1 - 1))) v20)
                      next18 (xs22, (w64 (s17.2.1 - 1)), ())) none) none) none) none)
              (some (s17.1, ()))) N (x0, x2, ()))) N (x1, x2, ()))
      (cond (decide (x2 > (IntKind.wrap .i64 (ishr .u64 (IntKind.wrap .u64 (w64 (x1 + x3))) 1))))
        (loopN (fun (s23 : Int × Int × Unit) next24 =>
          cond (decide (s23.1 < s23.2.1))
            (cond (inB (w64 ((w64 ((w64 ((IntKind.wrap .i64 (ishr .u64 (IntKind.wrap .u64 (w64 (x1 + x3))) 1)) + x2)) - 1)) - (IntKind.wrap .i64 (ishr .u64 (IntKind.wrap .u64 (w64 (s23.1 + s23.2.1))) 1)))) (List.length x0))
              (Option.bind (x0[(Int.toNat (w64 ((w64 ((w64 ((IntKind.wrap .i64 (ishr .u64 (IntKind.wrap .u64 (w64 (x1 + x3))) 1)) + x2)) - 1)) - (IntKind.wrap .i64 (ishr .u64 (IntKind.wrap .u64 (w64 (s23.1 + s23.2.1))) 1)))))]?) fun v25 =>
              cond (inB (IntKind.wrap .i64 (ishr .u64 (IntKind.wrap .u64 (w64 (s23.1 + s23.2.1))) 1)) (List.length x0))
                (Option.bind (x0[(Int.toNat (IntKind.wrap .i64 (ishr .u64 (IntKind.wrap .u64 (w64 (s23.1 + s23.2.1))) 1)))]?) fun v26 =>
                Option.bind (impl_sortedBy_1_c0 N v25 v26 x4) fun r27 =>
                cond (!(decide (r27.1 < 0)))
                  (next24 ((w64 ((IntKind.wrap .i64 (ishr .u64 (IntKind.wrap .u64 (w64 (s23.1 + s23.2.1))) 1)) + 1)), s23.2.1, ()))
                  (next24 (s23.1, (IntKind.wrap .i64 (ishr .u64 (IntKind.wrap .u64 (w64 (s23.1 + s23.2.1))) 1)), ()))) none) none)
            (cond (decide (s23.1 < x2))
              (cond (decide (x2 < (w64 ((w64 ((IntKind.wrap .i64 (ishr .u64 (IntKind.wrap .u64 (w64 (x1 + x3))) 1)) + x2)) - s23.1))))
                (Option.bind (slices_rotateCmpFunc_int64_impl_sortedBy_1 N x0 s23.1 x2 (w64 ((w64 ((IntKind.wrap .i64 (ishr .u64 (IntKind.wrap .u64 (w64 (x1 + x3))) 1)) + x2)) - s23.1)) x4) fun r28 =>
                cond (Nat.beq (List.length r28.1) (List.length x0))
                  (cond (decide (x1 < s23.1))
                    (cond (decide (s23.1 < (IntKind.wrap .i64 (ishr .u64 (IntKind.wrap .u64 (w64 (x1 + x3))) 1))))
                      (Option.bind (self r28.1 x1 s23.1 (IntKind.wrap .i64 (ishr .u64 (IntKind.wrap .u64 (w64 (x1 + x3))) 1)) x4) fun r29 =>
                      cond (Nat.beq (List.length r29.1) (List.length r28.1))
                        (cond (decide ((IntKind.wrap .i64 (ishr .u64 (IntKind.wrap .u64 (w64 (x1 + x3))) 1)) < (w64 ((w64 ((IntKind.wrap .i64 (ishr .u64 (IntKind.wrap .u64 (w64 (x1 + x3))) 1)) + x2)) - s23.1))))
                          (cond (decide ((w64 ((w64 ((IntKind.wrap .i64 (ishr .u64 (IntKind.wrap .u64 (w64 (x1 + x3))) 1)) + x2)) - s23.1)) < x3))
                            (Option.bind (self r29.1 (IntKind.wrap .i64 (ishr .u64 (IntKind.wrap .u64 (w64 (x1 + x3))) 1)) (w64 ((w64 ((IntKind.wrap .i64 (ishr .u64 (IntKind.wrap .u64 (w64 (x1 + x3))) 1)) + x2)) - s23.1)) x3 x4) fun r30 =>
                            cond (Nat.beq (List.length r30.1) (List.length r29.1))
                              (some (r30.1, ())) none)
                            (some (r29.1, ())))
                          (some (r29.1, ()))) none)
                      (cond (decide ((IntKind.wrap .i64 (ishr .u64 (IntKind.wrap .u64 (w64 (x1 + x3))) 1)) < (w64 ((w64 ((IntKind.wrap .i64 (ishr .u64 (IntKind.wrap .u64 (w64 (x1 + x3))) 1)) + x2)) - s23.1))))
                        (cond (decide ((w64 ((w64 ((IntKind.wrap .i64 (ishr .u64 (IntKind.wrap .u64 (w64 (x1 + x3))) 1)) + x2)) - s23.1)) < x3))
                          (Option.bind (self r28.1 (IntKind.wrap .i64 (ishr .u64 (IntKind.wrap .u64 (w64 (x1 + x3))) 1)) (w64 ((w64 ((IntKind.wrap .i64 (ishr .u64 (IntKind.wrap .u64 (w64 (x1 + x3))) 1)) + x2)) - s23.1)) x3 x4) fun r31 =>
                          cond (Nat.beq (List.length r31.1) (List.length r28.1))
                            (some (r31.1, ())) none)
                          (some (r28.1, ())))
                        (some (r28.1, ()))))
                    (cond (decide ((IntKind.wrap .i64 (ishr .u64 (IntKind.wrap .u64 (w64 (x1 + x3))) 1)) < (w64 ((w64 ((IntKind.wrap .i64 (ishr .u64 (IntKind.wrap .u64 (w64 (x1 + x3))) 1)) + x2)) - s23.1))))
                      (cond (decide ((w64 ((w64 ((IntKind.wrap .i64 (ishr .u64 (IntKind.wrap .u64 (w64 (x1 + x3))) 1)) + x2)) - s23.1)) < x3))
                        (Option.bind (self r28.1 (IntKind.wrap .i64 (ishr .u64 (IntKind.wrap .u64 (w64 (x1 + x3))) 1)) (w64 ((w64 ((IntKind.wrap .i64 (ishr .u64 (IntKind.wrap .u64 (w64 (x1 + x3))) 1)) + x2)) - s23.1)) x3 x4) fun r32 =>
                        cond (Nat.beq (List.length r32.1) (List.length r28.1))
                          (some (r32.1, ())) none)
                        (some (r28.1, ())))
                      (some (r28.1, ())))) none)
                (cond (decide (x1 < s23.1))
                  (cond (decide (s23.1 < (IntKind.wrap .i64 (ishr .u64 (IntKind.wrap .u64 (w64 (x1 + x3))) 1))))
                    (Option.bind (self x0 x1 s23.1 (IntKind.wrap .i64 (ishr .u64 (IntKind.wrap .u64 (w64 (x1 + x3))) 1)) x4) fun r33 =>
                    cond (Nat.beq (List.length r33.1) (List.length x0))
                      (cond (decide ((IntKind.wrap .i64 (ishr .u64 (IntKind.wrap .u64 (w64 (x1 + x3))) 1)) < (w64 ((w64 ((IntKind.wrap .i64 (ishr .u64 (IntKind.wrap .u64 (w64 (x1 + x3))) 1)) + x2)) - s23.1))))
                        (cond (decide ((w64 ((w64 ((IntKind.wrap .i64 (ishr .u64 (IntKind.wrap .u64 (w64 (x1 + x3))) 1)) + x2)) - s23.1)) < x3))
                          (Option.bind (self r33.1 (IntKind.wrap .i64 (ishr .u64 (IntKind.wrap .u64 (w64 (x1 + x3))) 1)) (w64 ((w64 ((IntKind.wrap .i64 (ishr .u64 (IntKind.wrap .u64 (w64 (x1 + x3))) 1)) + x2)) - s23.1)) x3 x4) fun r34 =>
                          cond (Nat.beq (List.length r34.1) (List.length r33.1))
                            (some (r34.1, ())) none)
                          (some (r33.1, ())))
                        (some (r33.1, ()))) none)
                    (cond (decide ((IntKind.wrap .i64 (ishr .u64 (IntKind.wrap .u64 (w64 (x1 + x3))) 1)) < (w64 ((w64 ((IntKind.wrap .i64 (ishr .u64 (IntKind.wrap .u64 (w64 (x1 + x3))) 1)) + x2)) - s23.1))))
                      (cond (decide ((w64 ((w64 ((IntKind.wrap .i64 (ishr .u64 (IntKind.wrap .u64 (w64 (x1 + x3))) 1)) + x2)) - s23.1)) < x3))
                        (Option.bind (self x0 (IntKind.wrap .i64 (ishr .u64 (IntKind.wrap .u64 (w64 (x1 + x3))) 1)) (w64 ((w64 ((IntKind.wrap .i64 (ishr .u64 (IntKind.wrap .u64 (w64 (x1 + x3))) 1)) + x2)) - s23.1)) x3 x4) fun r35 =>
                        cond (Nat.beq (List.length r35.1) (List.length x0))
                          (some (r35.1, ())) none)
                        (some (x0, ())))
                      (some (x0, ()))))
                  (cond (decide ((IntKind.wrap .i64 (ishr .u64 (IntKind.wrap .u64 (w64 (x1 + x3))) 1)) < (w64 ((w64 ((IntKind.wrap .i64 (ishr .u64 (IntKind.wrap .u64 (w64 (x1 + x3))) 1)) + x2)) - s23.1))))
                    (cond (decide ((w64 ((w64 ((IntKind.wrap .i64 (ishr .u64 (IntKind.wrap .u64 (w64 (x1 + x3))) 1)) + x2)) - s23.1)) < x3))
                      (Option.bind (self x0 (IntKind.wrap .i64 (ishr .u64 (IntKind.wrap .u64 (w64 (x1 + x3))) 1)) (w64 ((w64 ((IntKind.wrap .i64 (ishr .u64 (IntKind.wrap .u64 (w64 (x1 + x3))) 1)) + x2)) - s23.1)) x3 x4) fun r36 =>
                      cond (Nat.beq (List.length r36.1) (List.length x0))
                        (some (r36.1, ())) none)
                      (some (x0, ())))
                    (some (x0, ())))))
              (cond (decide (x1 < s23.1))
                (cond (decide (s23.1 < (IntKind.wrap .i64 (ishr .u64 (IntKind.wrap .u64 (w64 (x1 + x3))) 1))))
                  (Option.bind (self x0 x1 s23.1 (IntKind.wrap .i64 (ishr .u64 (IntKind.wrap .u64 (w64 (x1 + x3))) 1)) x4) fun r37 =>
                  cond (Nat.beq (List.length r37.1) (List.length x0))
                    (cond (decide ((IntKind.wrap .i64 (ishr .u64 (IntKind.wrap .u64 (w64 (x1 + x3))) 1)) < (w64 ((w64 ((IntKind.wrap .i64 (ishr .u64 (IntKind.wrap .u64 (w64 (x1 + x3))) 1)) + x2)) - s23.1))))
                      (cond (decide ((w64 ((w64 ((IntKind.wrap .i64 (ishr .u64 (IntKind.wrap .u64 (w64 (x1 + x3))) 1)) + x2)) - s23.1)) < x3))
                        (Option.bind (self r37.1 (IntKind.wrap .i64 (ishr .u64 (IntKind.wrap .u64 (w64 (x1 + x3))) 1)) (w64 ((w64 ((IntKind.wrap .i64 (ishr .u64 (IntKind.wrap .u64 (w64 (x1 + x3))) 1)) + x2)) - s23.1)) x3 x4) fun r38 =>
                        cond (Nat.beq (List.length r38.1) (List.length r37.1))
                          (some (r38.1, ())) none)
                        (some (r37.1, ())))
                      (some (r37.1, ()))) none)
                  (cond (decide ((IntKind.wrap .i64 (ishr .u64 (IntKind.wrap .u64 (w64 (x1 + x3))) 1)) < (w64 ((w64 ((IntKind.wrap .i64 (ishr .u64 (IntKind.wrap .u64 (w64 (x1 + x3))) 1)) + x2)) - s23.1))))
                    (cond (decide ((w64 ((w64 ((IntKind.wrap .i64 (ishr .u64 (IntKind.wrap .u64 (w64 (x1 + x3))) 1)) + x2)) - s23.1)) < x3))
                      (Option.bind (self x0 (IntKind.wrap .i64 (ishr .u64 (IntKind.wrap .u64 (w64 (x1 + x3))) 1)) (w64 ((w64 ((IntKind.wrap .i64 (ishr .u64 (IntKind.wrap .u64 (w64 (x1 + x3))) 1)) + x2)) - s23.1)) x3 x4) fun r39 =>
                      cond (Nat.beq (List.length r39.1) (List.length x0))
                        (some (r39.1, ())) none)
                      (some (x0, ())))
                    (some (x0, ()))))
                (cond (decide ((IntKind.wrap .i64 (ishr .u64 (IntKind.wrap .u64 (w64 (x1 + x3))) 1)) < (w64 ((w64 ((IntKind.wrap .i64 (ishr .u64 (IntKind.wrap .u64 (w64 (x1 + x3))) 1)) + x2)) - s23.1))))
                  (cond (decide ((w64 ((w64 ((IntKind.wrap .i64 (ishr .u64 (IntKind.wrap .u64 (w64 (x1 + x3))) 1)) + x2)) - s23.1)) < x3))
                    (Option.bind (self x0 (IntKind.wrap .i64 (ishr .u64 (IntKind.wrap .u64 (w64 (x1 + x3))) 1)) (w64 ((w64 ((IntKind.wrap .i64 (ishr .u64 (IntKind.wrap .u64 (w64 (x1 + x3))) 1)) + x2)) - s23.1)) x3 x4) fun r40 =>
                    cond (Nat.beq (List.length r40.1) (List.length x0))
                      (some (r40.1, ())) none)
                    (some (x0, ())))
                  (some (x0, ())))))) N ((w64 ((w64 ((IntKind.wrap .i64 (ishr .u64 (IntKind.wrap .u64 (w64 (x1 + x3))) 1)) + x2)) - x3)), (IntKind.wrap .i64 (ishr .u64 (IntKind.wrap .u64 (w64 (x1 + x3))) 1)), ()))
        (loopN (fun (s41 : Int × Int × Unit) next42 =>
          cond (decide (s41.1 < s41.2.1))
            (cond (inB (w64 ((w64 ((w64 ((IntKind.wrap .i64 (ishr .u64 (IntKind.wrap .u64 (w64 (x1 + x3))) 1)) + x2)) - 1)) - (IntKind.wrap .i64 (ishr .u64 (IntKind.wrap .u64 (w64 (s41.1 + s41.2.1))) 1)))) (List.length x0))
              (Option.bind (x0[(Int.toNat (w64 ((w64 ((w64 ((IntKind.wrap .i64 (ishr .u64 (IntKind.wrap .u64 (w64 (x1 + x3))) 1)) + x2)) - 1)) - (IntKind.wrap .i64 (ishr .u64 (IntKind.wrap .u64 (w64 (s41.1 + s41.2.1))) 1)))))]?) fun v43 =>
              cond (inB (IntKind.wrap .i64 (ishr .u64 (IntKind.wrap .u64 (w64 (s41.1 + s41.2.1))) 1)) (List.length x0))
                (Option.bind (x0[(Int.toNat (IntKind.wrap .i64 (ishr .u64 (IntKind.wrap .u64 (w64 (s41.1 + s41.2.1))) 1)))]?) fun v44 =>
                Option.bind (impl_sortedBy_1_c0 N v43 v44 x4) fun r45 =>
                cond (!(decide (r45.1 < 0)))
                  (next42 ((w64 ((IntKind.wrap .i64 (ishr .u64 (IntKind.wrap .u64 (w64 (s41.1 + s41.2.1))) 1)) + 1)), s41.2.1, ()))
                  (next42 (s41.1, (IntKind.wrap .i64 (ishr .u64 (IntKind.wrap .u64 (w64 (s41.1 + s41.2.1))) 1)), ()))) none) none)
            (cond (decide (s41.1 < x2))
              (cond (decide (x2 < (w64 ((w64 ((IntKind.wrap .i64 (ishr .u64 (IntKind.wrap .u64 (w64 (x1 + x3))) 1)) + x2)) - s41.1))))
                (Option.bind (slices_rotateCmpFunc_int64_impl_sortedBy_1 N x0 s41.1 x2 (w64 ((w64 ((IntKind.wrap .i64 (ishr .u64 (IntKind.wrap .u64 (w64 (x1 + x3))) 1)) + x2)) - s41.1)) x4) fun r46 =>
                cond (Nat.beq (List.length r46.1) (List.length x0))
                  (cond (decide (x1 < s41.1))
                    (cond (decide (s41.1 < (IntKind.wrap .i64 (ishr .u64 (IntKind.wrap .u64 (w64 (x1 + x3))) 1))))
                      (Option.bind (self r46.1 x1 s41.1 (IntKind.wrap .i64 (ishr .u64 (IntKind.wrap .u64 (w64 (x1 + x3))) 1)) x4) fun r47 =>
                      cond (Nat.beq (List.length r47.1) (List.length r46.1))
                        (cond (decide ((IntKind.wrap .i64 (ishr .u64 (IntKind.wrap .u64 (w64 (x1 + x3))) 1)) < (w64 ((w64 ((IntKind.wrap .i64 (ishr .u64 (IntKind.wrap .u64 (w64 (x1 + x3))) 1)) + x2)) - s41.1))))
                          (cond (decide ((w64 ((w64 ((IntKind.wrap .i64 (ishr .u64 (IntKind.wrap .u64 (w64 (x1 + x3))) 1)) + x2)) - s41.1)) < x3))
                            (Option.bind (self r47.1 (IntKind.wrap .i64 (ishr .u64 (IntKind.wrap .u64 (w64 (x1 + x3))) 1)) (w64 ((w64 ((IntKind.wrap .i64 (ishr .u64 (IntKind.wrap .u64 (w64 (x1 + x3))) 1)) + x2)) - s41.1)) x3 x4) fun r48 =>
                            cond (Nat.beq (List.length r48.1) (List.length r47.1))
                              (some (r48.1, ())) none)
                            (some (r47.1, ())))
                          (some (r47.1, ()))) none)
                      (cond (decide ((IntKind.wrap .i64 (ishr .u64 (IntKind.wrap .u64 (w64 (x1 + x3))) 1)) < (w64 ((w64 ((IntKind.wrap .i64 (ishr .u64 (IntKind.wrap .u64 (w64 (x1 + x3))) 1)) + x2)) - s41.1))))
                        (cond (decide ((w64 ((w64 ((IntKind.wrap .i64 (ishr .u64 (IntKind.wrap .u64 (w64 (x1 + x3))) 1)) + x2)) - s41.1)) < x3))
                          (Option.bind (self r46.1 (IntKind.wrap .i64 (ishr .u64 (IntKind.wrap .u64 (w64 (x1 + x3))) 1)) (w64 ((w64 ((IntKind.wrap .i64 (ishr .u64 (IntKind.wrap .u64 (w64 (x1 + x3))) 1)) + x2)) - s41.1)) x3 x4) fun r49 =>
                          cond (Nat.beq (List.length r49.1) (List.length r46.1))
                            (some (r49.1, ())) none)
                          (some (r46.1, ())))
                        (some (r46.1, ()))))
                    (cond (decide ((IntKind.wrap .i64 (ishr .u64 (IntKind.wrap .u64 (w64 (x1 + x3))) 1)) < (w64 ((w64 ((IntKind.wrap .i64 (ishr .u64 (IntKind.wrap .u64 (w64 (x1 + x3))) 1)) + x2)) - s41.1))))
                      (cond (decide ((w64 ((w64 ((IntKind.wrap .i64 (ishr .u64 (IntKind.wrap .u64 (w64 (x1 + x3))) 1)) + x2)) - s41.1)) < x3))
                        (Option.bind (self r46.1 (IntKind.wrap .i64 (ishr .u64 (IntKind.wrap .u64 (w64 (x1 + x3))) 1)) (w64 ((w64 ((IntKind.wrap .i64 (ishr .u64 (IntKind.wrap .u64 (w64 (x1 + x3))) 1)) + x2)) - s41.1)) x3 x4) fun r50 =>
                        cond (Nat.beq (List.length r50.1) (List.length r46.1))
                          (some (r50.1, ())) none)
                        (some (r46.1, ())))
                      (some (r46.1, ())))) none)
                (cond (decide (x1 < s41.1))
                  (cond (decide (s41.1 < (IntKind.wrap .i64 (ishr .u64 (IntKind.wrap .u64 (w64 (x1 + x3))) 1))))
                    (Option.bind (self x0 x1 s41.1 (IntKind.wrap .i64 (ishr .u64 (IntKind.wrap .u64 (w64 (x1 + x3))) 1)) x4) fun r51 =>
                    cond (Nat.beq (List.length r51.1) (List.length x0))
                      (cond (decide ((IntKind.wrap .i64 (ishr .u64 (IntKind.wrap .u64 (w64 (x1 + x3))) 1)) < (w64 ((w64 ((IntKind.wrap .i64 (ishr .u64 (IntKind.wrap .u64 (w64 (x1 + x3))) 1)) + x2)) - s41.1))))
                        (cond (decide ((w64 ((w64 ((IntKind.wrap .i64 (ishr .u64 (IntKind.wrap .u64 (w64 (x1 + x3))) 1)) + x2)) - s41.1)) < x3))
                          (Option.bind (self r51.1 (IntKind.wrap .i64 (ishr .u64 (IntKind.wrap .u64 (w64 (x1 + x3))) 1)) (w64 ((w64 ((IntKind.wrap .i64 (ishr .u64 (IntKind.wrap .u64 (w64 (x1 + x3))) 1)) + x2)) - s41.1)) x3 x4) fun r52 =>
                          cond (Nat.beq (List.length r52.1) (List.length r51.1))
                            (some (r52.1, ())) none)
                          (some (r51.1, ())))
                        (some (r51.1, ()))) none)
                    (cond (decide ((IntKind.wrap .i64 (ishr .u64 (IntKind.wrap .u64 (w64 (x1 + x3))) 1)) < (w64 ((w64 ((IntKind.wrap .i64 (ishr .u64 (IntKind.wrap .u64 (w64 (x1 + x3))) 1)) + x2)) - s41.1))))
                      (cond (decide ((w64 ((w64 ((IntKind.wrap .i64 (ishr .u64 (IntKind.wrap .u64 (w64 (x1 + x3))) 1)) + x2)) - s41.1)) < x3))
                        (Option.bind (self x0 (IntKind.wrap .i64 (ishr .u64 (IntKind.wrap .u64 (w64 (x1 + x3))) 1)) (w64 ((w64 ((IntKind.wrap .i64 (ishr .u64 (IntKind.wrap .u64 (w64 (x1 + x3))) 1)) + x2)) - s41.1)) x3 x4) fun r53 =>
                        cond (Nat.beq (List.length r53.1) (List.length x0))
                          (some (r53.1, ())) none)
                        (some (x0, ())))
                      (some (x0, ()))))
                  (cond (decide ((IntKind.wrap .i64 (ishr .u64 (IntKind.wrap .u64 (w64 (x1 + x3))) 1)) < (w64 ((w64 ((IntKind.wrap .i64 (ishr .u64 (IntKind.wrap .u64 (w64 (x1 + x3))) 1)) + x2)) - s41.1))))
                    (cond (decide ((w64 ((w64 ((IntKind.wrap .i64 (ishr .u64 (IntKind.wrap .u64 (w64 (x1 + x3))) 1)) + x2)) - s41.1)) < x3))
                      (Option.bind (self x0 (IntKind.wrap .i64 (ishr .u64 (IntKind.wrap .u64 (w64 (x1 + x3))) 1)) (w64 ((w64 ((IntKind.wrap .i64 (ishr .u64 (IntKind.wrap .u64 (w64 (x1 + x3))) 1)) + x2)) - s41.1)) x3 x4) fun r54 =>
                      cond (Nat.beq (List.length r54.1) (List.length x0))
                        (some (r54.1, ())) none)
                      (some (x0, ())))
                    (some (x0, ())))))
              (cond (decide (x1 < s41.1))
                (cond (decide (s41.1 < (IntKind.wrap .i64 (ishr .u64 (IntKind.wrap .u64 (w64 (x1 + x3))) 1))))
                  (Option.bind (self x0 x1 s41.1 (IntKind.wrap .i64 (ishr .u64 (IntKind.wrap .u64 (w64 (x1 + x3))) 1)) x4) fun r55 =>
                  cond (Nat.beq (List.length r55.1) (List.length x0))
                    (cond (decide ((IntKind.wrap .i64 (ishr .u64 (IntKind.wrap .u64 (w64 (x1 + x3))) 1)) < (w64 ((w64 ((IntKind.wrap .i64 (ishr .u64 (IntKind.wrap .u64 (w64 (x1 + x3))) 1)) + x2)) - s41.1))))
                      (cond (decide ((w64 ((w64 ((IntKind.wrap .i64 (ishr .u64 (IntKind.wrap .u64 (w64 (x1 + x3))) 1)) + x2)) - s41.1)) < x3))
                        (Option.bind (self r55.1 (IntKind.wrap .i64 (ishr .u64 (IntKind.wrap .u64 (w64 (x1 + x3))) 1)) (w64 ((w64 ((IntKind.wrap .i64 (ishr .u64 (IntKind.wrap .u64 (w64 (x1 + x3))) 1)) + x2)) - s41.1)) x3 x4) fun r56 =>
                        cond (Nat.beq (List.length r56.1) (List.length r55.1))
                          (some (r56.1, ())) none)
                        (some (r55.1, ())))
                      (some (r55.1, ()))) none)
                  (cond (decide ((IntKind.wrap .i64 (ishr .u64 (IntKind.wrap .u64 (w64 (x1 + x3))) 1)) < (w64 ((w64 ((IntKind.wrap .i64 (ishr .u64 (IntKind.wrap .u64 (w64 (x1 + x3))) 1)) + x2)) - s41.1))))
                    (cond (decide ((w64 ((w64 ((IntKind.wrap .i64 (ishr .u64 (IntKind.wrap .u64 (w64 (x1 + x3))) 1)) + x2)) - s41.1)) < x3))
                      (Option.bind (self x0 (IntKind.wrap .i64 (ishr .u64 (IntKind.wrap .u64 (w64 (x1 + x3))) 1)) (w64 ((w64 ((IntKind.wrap .i64 (ishr .u64 (IntKind.wrap .u64 (w64 (x1 + x3))) 1)) + x2)) - s41.1)) x3 x4) fun r57 =>
                      cond (Nat.beq (List.length r57.1) (List.length x0))
                        (some (r57.1, ())) none)
                      (some (x0, ())))
                    (some (x0, ()))))
                (cond (decide ((IntKind.wrap .i64 (ishr .u64 (IntKind.wrap .u64 (w64 (x1 + x3))) 1)) < (w64 ((w64 ((IntKind.wrap .i64 (ishr .u64 (IntKind.wrap .u64 (w64 (x1 + x3))) 1)) + x2)) - s41.1))))
                  (cond (decide ((w64 ((w64 ((IntKind.wrap .i64 (ishr .u64 (IntKind.wrap .u64 (w64 (x1 + x3))) 1)) + x2)) - s41.1)) < x3))
                    (Option.bind (self x0 (IntKind.wrap .i64 (ishr .u64 (IntKind.wrap .u64 (w64 (x1 + x3))) 1)) (w64 ((w64 ((IntKind.wrap .i64 (ishr .u64 (IntKind.wrap .u64 (w64 (x1 + x3))) 1)) + x2)) - s41.1)) x3 x4) fun r58 =>
                    cond (Nat.beq (List.length r58.1) (List.length x0))
                      (some (r58.1, ())) none)
                    (some (x0, ())))
                  (some (x0, ())))))) N (x1, x2, ()))))
def slices_symMergeCmpFunc_int64_impl_sortedBy_1_r (N : Nat) : Nat → List (Int) → Int → Int → Int → (List Int) × Int × Int → Option (List (Int) × (Unit))
  | 0 => fun _ _ _ _ _ => none
  | F + 1 => slices_symMergeCmpFunc_int64_impl_sortedBy_1_step N (slices_symMergeCmpFunc_int64_impl_sortedBy_1_r N F)
def slices_symMergeCmpFunc_int64_impl_sortedBy_1 (N : Nat) (x0 : List Int) (x1 : Int) (x2 : Int) (x3 : Int) (x4 : (List Int) × Int × Int) : Option (List (Int) × (Unit)) := slices_symMergeCmpFunc_int64_impl_sortedBy_1_r N N x0 x1 x2 x3 x4
def slices_symMergeCmpFunc_int64_impl_sortedBy_1_ef (N F : Nat) : EntM := { io := (.int .i64), ins := [(.int .i64), (.int .i64), (.int .i64), (.clo 83 (.bx (.clo 95 (.bx (.pair (.sl (.int .i64)) (.pair (.int .i64) (.int .i64)))))))], outs := [], F := fun xs x => slices_symMergeCmpFunc_int64_impl_sortedBy_1_r N F xs x.1 x.2.1 x.2.2.1 x.2.2.2.1 }
def slices_symMergeCmpFunc_int64_impl_sortedBy_1_e (N : Nat) : EntM := slices_symMergeCmpFunc_int64_impl_sortedBy_1_ef N N
def slices_symMergeCmpFunc_int64_impl_sortedBy_1_T (N F : Nat) : Nat → List EntX
  | 83 => [.pl (impl_sortedBy_1_c0_e N)]
  | 130 => [.mu (slices_symMergeCmpFunc_int64_impl_sortedBy_1_ef N F)]
  | 134 => [.mu (slices_rotateCmpFunc_int64_impl_sortedBy_1_e N)]
  | _ => []
def slices_symMergeCmpFunc_int64_impl_sortedBy_1_L : Nat → List (Nat × TK)
  | 3 => [(10, .v (.int .i64)), (11, .v (.int .i64))]
  | 9 => [(0, .own (.int .i64)), (13, .v (.int .i64))]
  | 15 => [(14, .v (.int .i64)), (15, .v (.int .i64))]
  | 21 => [(0, .own (.int .i64)), (17, .v (.int .i64))]
  | 33 => [(20, .v (.int .i64)), (21, .v (.int .i64))]
  | _ => []
theorem slices_symMergeCmpFunc_int64_impl_sortedBy_1_eq (N F : Nat) : runM N tt (slices_symMergeCmpFunc_int64_impl_sortedBy_1_T N F) slices_symMergeCmpFunc_int64_impl_sortedBy_1_L (.int .i64) [(.int .i64), (.int .i64), (.int .i64), (.clo 83 (.bx (.clo 95 (.bx (.pair (.sl (.int .i64)) (.pair (.int .i64) (.int .i64)))))))] [] (bodyOf Try.f130) Try.f130.ntmps [] = (fun xs x => slices_symMergeCmpFunc_int64_impl_sortedBy_1_step N (slices_symMergeCmpFunc_int64_impl_sortedBy_1_r N F) xs x.1 x.2.1 x.2.2.1 x.2.2.2.1) := by
  funext xs x
  kernel_rfl
theorem slices_symMergeCmpFunc_int64_impl_sortedBy_1_soundf (N F : Nat) : SoundM Try.prog 130 (slices_symMergeCmpFunc_int64_impl_sortedBy_1_ef N F) := by
  induction F with
  | zero =>
    intro p w v ob vals xs x z _ _ _ _ _ hF
    exact absurd (show none = some _ from hF) (by simp)
  | succ F ih =>
    have h := runM_sound (f := 130) (code := bodyOf Try.f130) (N := N) (T := (slices_symMergeCmpFunc_int64_impl_sortedBy_1_T N F)) (L := slices_symMergeCmpFunc_int64_impl_sortedBy_1_L) (io := (.int .i64)) (ins := [(.int .i64), (.int .i64), (.int .i64), (.clo 83 (.bx (.clo 95 (.bx (.pair (.sl (.int .i64)) (.pair (.int .i64) (.int .i64)))))))]) (outs := []) (res := []) mixed tt_ok ?_ Try.func130 (by kernel_rfl) rfl (by kernel_rfl) (by kernel_rfl) (by decide +kernel)
    · rw [slices_symMergeCmpFunc_int64_impl_sortedBy_1_eq] at h
      exact h
    · intro f e he
      unfold slices_symMergeCmpFunc_int64_impl_sortedBy_1_T at he
      split at he
      · rw [List.mem_singleton.1 he]; exact impl_sortedBy_1_c0_sound N
      · rw [List.mem_singleton.1 he]; exact ih
      · rw [List.mem_singleton.1 he]; exact slices_rotateCmpFunc_int64_impl_sortedBy_1_sound N
      · cases he
theorem slices_symMergeCmpFunc_int64_impl_sortedBy_1_sound (N : Nat) : SoundM Try.prog 130 (slices_symMergeCmpFunc_int64_impl_sortedBy_1_e N) := slices_symMergeCmpFunc_int64_impl_sortedBy_1_soundf N N

/- slices.stableCmpFunc[int64] -/
def slices_stableCmpFunc_int64_impl_sortedBy_1 (N : Nat) (x0 : List Int) (x1 : Int) (x2 : (List Int) × Int × Int) : Option (List (Int) × (Unit)) :=
  loopN (fun (s1 : List (Int) × Int × Int × Unit) next2 =>
    cond (decide (s1.2.2.1 ≤ x1))
      (Option.bind (slices_insertionSortCmpFunc_int64_impl_sortedBy_1 N s1.1 s1.2.1 s1.2.2.1 x2) fun r3 =>
      cond (Nat.beq (List.length r3.1) (List.length s1.1))
        (next2 (r3.1, s1.2.2.1, (w64 (s1.2.2.1 + 20)), ())) none)
      (Option.bind (slices_insertionSortCmpFunc_int64_impl_sortedBy_1 N s1.1 s1.2.1 x1 x2) fun r4 =>
      cond (Nat.beq (List.length r4.1) (List.length s1.1))
        (loopN (fun (s5 : List (Int) × Int × Unit) next6 =>
          cond (decide (s5.2.1 < x1))
            (loopN (fun (s7 : List (Int) × Int × Int × Unit) next8 =>
              cond (decide (s7.2.2.1 ≤ x1))
                (Option.bind (slices_symMergeCmpFunc_int64_impl_sortedBy_1 N s7.1 s7.2.1 (w64 (s7.2.1 + s5.2.1)) s7.2.2.1 x2) fun r9 =>
                cond (Nat.beq (List.length r9.1) (List.length s7.1))
                  (next8 (r9.1, s7.2.2.1, (w64 (s7.2.2.1 + (w64 (2 * s5.2.1)))), ())) none)
                (cond (decide ((w64 (s7.2.1 + s5.2.1)) < x1))
                  (Option.bind (slices_symMergeCmpFunc_int64_impl_sortedBy_1 N s7.1 s7.2.1 (w64 (s7.2.1 + s5.2.1)) x1 x2) fun r10 =>
                  cond (Nat.beq (List.length r10.1) (List.length s7.1))
                    (next6 (r10.1, (w64 (s5.2.1 * 2)), ())) none)
                  (next6 (s7.1, (w64 (s5.2.1 * 2)), ())))) N (s5.1, 0, (w64 (2 * s5.2.1)), ()))
            (some (s5.1, ()))) N (r4.1, 20, ())) none)) N (x0, 0, 20, ())
def slices_stableCmpFunc_int64_impl_sortedBy_1_e (N : Nat) : EntM := { io := (.int .i64), ins := [(.int .i64), (.clo 83 (.bx (.clo 95 (.bx (.pair (.sl (.int .i64)) (.pair (.int .i64) (.int .i64)))))))], outs := [], F := fun xs x => slices_stableCmpFunc_int64_impl_sortedBy_1 N xs x.1 x.2.1 }
def slices_stableCmpFunc_int64_impl_sortedBy_1_T (N : Nat) : Nat → List EntX
  | 129 => [.mu (slices_insertionSortCmpFunc_int64_impl_sortedBy_1_e N)]
  | 130 => [.mu (slices_symMergeCmpFunc_int64_impl_sortedBy_1_e N)]
  | _ => []
def slices_stableCmpFunc_int64_impl_sortedBy_1_L : Nat → List (Nat × TK)
  | 2 => [(0, .own (.int .i64)), (7, .v (.int .i64)), (8, .v (.int .i64))]
  | 7 => [(0, .own (.int .i64)), (6, .v (.int .i64))]
  | 9 => [(0, .own (.int .i64)), (7, .v (.int .i64)), (8, .v (.int .i64))]
  | _ => []
theorem slices_stableCmpFunc_int64_impl_sortedBy_1_eq (N : Nat) : runM N tt (slices_stableCmpFunc_int64_impl_sortedBy_1_T N) slices_stableCmpFunc_int64_impl_sortedBy_1_L (.int .i64) [(.int .i64), (.clo 83 (.bx (.clo 95 (.bx (.pair (.sl (.int .i64)) (.pair (.int .i64) (.int .i64)))))))] [] (bodyOf Try.f119) Try.f119.ntmps [] = (slices_stableCmpFunc_int64_impl_sortedBy_1_e N).F := by
  funext xs x
  kernel_rfl
theorem slices_stableCmpFunc_int64_impl_sortedBy_1_sound (N : Nat) : SoundM Try.prog 119 (slices_stableCmpFunc_int64_impl_sortedBy_1_e N) := by
  have h := runM_sound (f := 119) (code := bodyOf Try.f119) (N := N) (T := (slices_stableCmpFunc_int64_impl_sortedBy_1_T N)) (L := slices_stableCmpFunc_int64_impl_sortedBy_1_L) (io := (.int .i64)) (ins := [(.int .i64), (.clo 83 (.bx (.clo 95 (.bx (.pair (.sl (.int .i64)) (.pair (.int .i64) (.int .i64)))))))]) (outs := []) (res := []) mixed tt_ok ?_ Try.func119 (by kernel_rfl) rfl (by kernel_rfl) (by kernel_rfl) (by decide +kernel)
  · rw [slices_stableCmpFunc_int64_impl_sortedBy_1_eq] at h
    exact h
  · intro f e he
    unfold slices_stableCmpFunc_int64_impl_sortedBy_1_T at he
    split at he
    · rw [List.mem_singleton.1 he]; exact slices_insertionSortCmpFunc_int64_impl_sortedBy_1_sound N
    · rw [List.mem_singleton.1 he]; exact slices_symMergeCmpFunc_int64_impl_sortedBy_1_sound N
    · cases he

/- slices.SortStableFunc[[]int64,int64] -/
def slices_SortStableFunc_int64_int64_impl_sortedBy_1 (N : Nat) (x0 : List Int) (x1 : (List Int) × Int × Int) : Option (List (Int) × (Unit)) :=
  Option.bind (slices_stableCmpFunc_int64_impl_sortedBy_1 N x0 (List.length x0 : Int) x1) fun r1 =>
  cond (Nat.beq (List.length r1.1) (List.length x0))
    (some (r1.1, ())) none
def slices_SortStableFunc_int64_int64_impl_sortedBy_1_e (N : Nat) : EntM := { io := (.int .i64), ins := [(.clo 83 (.bx (.clo 95 (.bx (.pair (.sl (.int .i64)) (.pair (.int .i64) (.int .i64)))))))], outs := [], F := fun xs x => slices_SortStableFunc_int64_int64_impl_sortedBy_1 N xs x.1 }
def slices_SortStableFunc_int64_int64_impl_sortedBy_1_T (N : Nat) : Nat → List EntX
  | 119 => [.mu (slices_stableCmpFunc_int64_impl_sortedBy_1_e N)]
  | _ => []
def slices_SortStableFunc_int64_int64_impl_sortedBy_1_L : Nat → List (Nat × TK) := fun _ => []
theorem slices_SortStableFunc_int64_int64_impl_sortedBy_1_eq (N : Nat) : runM N tt (slices_SortStableFunc_int64_int64_impl_sortedBy_1_T N) slices_SortStableFunc_int64_int64_impl_sortedBy_1_L (.int .i64) [(.clo 83 (.bx (.clo 95 (.bx (.pair (.sl (.int .i64)) (.pair (.int .i64) (.int .i64)))))))] [] (bodyOf Try.f82) Try.f82.ntmps [] = (slices_SortStableFunc_int64_int64_impl_sortedBy_1_e N).F := by
  funext xs x
  kernel_rfl
theorem slices_SortStableFunc_int64_int64_impl_sortedBy_1_sound (N : Nat) : SoundM Try.prog 82 (slices_SortStableFunc_int64_int64_impl_sortedBy_1_e N) := by
  have h := runM_sound (f := 82) (code := bodyOf Try.f82) (N := N) (T := (slices_SortStableFunc_int64_int64_impl_sortedBy_1_T N)) (L := slices_SortStableFunc_int64_int64_impl_sortedBy_1_L) (io := (.int .i64)) (ins := [(.clo 83 (.bx (.clo 95 (.bx (.pair (.sl (.int .i64)) (.pair (.int .i64) (.int .i64)))))))]) (outs := []) (res := []) mixed tt_ok ?_ Try.func82 (by kernel_rfl) rfl (by kernel_rfl) (by kernel_rfl) (by decide +kernel)
  · rw [slices_SortStableFunc_int64_int64_impl_sortedBy_1_eq] at h
    exact h
  · intro f e he
    unfold slices_SortStableFunc_int64_int64_impl_sortedBy_1_T at he
    split at he
    · rw [List.mem_singleton.1 he]; exact slices_stableCmpFunc_int64_impl_sortedBy_1_sound N
    · cases he

/- impl.sortedBy -/
def impl_sortedBy_impl_shop_insert_1 (N : Nat) (x0 : Int) (x1 : (List Int) × Int × Int) : Option (List (Int) × Unit) :=
  Option.bind (impl_counting N x0) fun r1 =>
  Option.bind (slices_SortStableFunc_int64_int64_impl_sortedBy_1 N r1.1 x1) fun r2 =>
  cond (Nat.beq (List.length r2.1) (List.length r1.1))
    (some (r2.1, ())) none
def impl_sortedBy_impl_shop_insert_1_e (N : Nat) : Ent := { ins := [(.int .i64), (.clo 95 (.bx (.pair (.sl (.int .i64)) (.pair (.int .i64) (.int .i64)))))], outs := [.own (.int .i64)], F := fun x => impl_sortedBy_impl_shop_insert_1 N x.1 x.2.1 }
def impl_sortedBy_impl_shop_insert_1_T (N : Nat) : Nat → List EntX
  | 81 => [.pl (impl_counting_e N)]
  | 82 => [.mu (slices_SortStableFunc_int64_int64_impl_sortedBy_1_e N)]
  | _ => []
def impl_sortedBy_impl_shop_insert_1_L : Nat → List (Nat × TK) := fun _ => []
theorem impl_sortedBy_impl_shop_insert_1_eq (N : Nat) : runF N tt (impl_sortedBy_impl_shop_insert_1_T N) impl_sortedBy_impl_shop_insert_1_L [(.int .i64), (.clo 95 (.bx (.pair (.sl (.int .i64)) (.pair (.int .i64) (.int .i64)))))] [.own (.int .i64)] (bodyOf Try.f48) Try.f48.ntmps [4] = (impl_sortedBy_impl_shop_insert_1_e N).F := by
  funext x
  kernel_rfl
theorem impl_sortedBy_impl_shop_insert_1_sound (N : Nat) : SoundC Try.prog 48 (impl_sortedBy_impl_shop_insert_1_e N) := by
  have h := runF_sound (f := 48) (code := bodyOf Try.f48) (N := N) (T := (impl_sortedBy_impl_shop_insert_1_T N)) (L := impl_sortedBy_impl_shop_insert_1_L) (ins := [(.int .i64), (.clo 95 (.bx (.pair (.sl (.int .i64)) (.pair (.int .i64) (.int .i64)))))]) (outs := [.own (.int .i64)]) (res := [4]) mixed tt_ok ?_ Try.func48 (by kernel_rfl) rfl (by kernel_rfl) (by kernel_rfl) (by decide +kernel)
  · rw [impl_sortedBy_impl_shop_insert_1_eq] at h
    exact h
  · intro f e he
    unfold impl_sortedBy_impl_shop_insert_1_T at he
    split at he
    · rw [List.mem_singleton.1 he]; exact impl_counting_sound N
    · rw [List.mem_singleton.1 he]; exact slices_SortStableFunc_int64_int64_impl_sortedBy_1_sound N
    · cases he

/- (impl.shop).insert -/
def impl_shop_insert (N : Nat) (x0 : (List Int) × Int × Int) : Option (List (Int) × Int × Unit) :=
  Option.bind (impl_sortedBy_impl_shop_insert_1 N x0.2.1 (x0.1, (x0.2.1, x0.2.2))) fun r1 =>
  loopN (fun (s2 : List (Int) × Int × Int × Unit) next3 =>
    cond (decide (s2.2.2.1 < (List.length r1.1 : Int)))
      (cond (inB s2.2.2.1 (List.length r1.1))
        (Option.bind (r1.1[(Int.toNat s2.2.2.1)]?) fun v4 =>
        loopN (fun (s5 : Int × List (Int) × Int × Unit) next6 =>
          cond (List.isEmpty s5.2.1)
            (cond (decide (s5.2.2.1 < (w64 ((List.length s2.1 : Int) + 1))))
              (Option.bind (slices_Clone_int64_int64 N s2.1) fun r7 =>
              Option.bind (slices_Insert_int64_int64 N r7.1 s5.2.2.1 (.inl ([v4] : List Int))) fun r8 =>
              Option.bind (impl_shop_flow N (x0.1, (x0.2.1, x0.2.2)) r8) fun r9 =>
              cond (List.isEmpty r8) none
                (next6 (r9.2.1, r8, (w64 (s5.2.2.1 + 1)), ())))
              (next3 ([], s5.1, (w64 (s2.2.2.1 + 1)), ())))
            (cond (decide (s5.2.2.1 < (w64 ((List.length s2.1 : Int) + 1))))
              (Option.bind (slices_Clone_int64_int64 N s2.1) fun r10 =>
              Option.bind (slices_Insert_int64_int64 N r10.1 s5.2.2.1 (.inl ([v4] : List Int))) fun r11 =>
              Option.bind (impl_shop_flow N (x0.1, (x0.2.1, x0.2.2)) r11) fun r12 =>
              cond (List.isEmpty s5.2.1) none
                (cond (decide (r12.2.1 < s5.1))
                  (cond (List.isEmpty r11) none
                    (next6 (r12.2.1, r11, (w64 (s5.2.2.1 + 1)), ())))
                  (cond (List.isEmpty s5.2.1) none
                    (next6 (s5.1, s5.2.1, (w64 (s5.2.2.1 + 1)), ())))))
              (next3 (s5.2.1, s5.1, (w64 (s2.2.2.1 + 1)), ())))) N (s2.2.1, [], 0, ())) none)
      (some (s2.1, s2.2.1, ()))) N (([] : List Int), 0, 0, ())
def impl_shop_insert_e (N : Nat) : Ent := { ins := [(.pair (.sl (.int .i64)) (.pair (.int .i64) (.int .i64)))], outs := [.own (.int .i64), .val (.int .i64)], F := fun x => impl_shop_insert N x.1 }
def impl_shop_insert_T (N : Nat) : Nat → List EntX
  | 48 => [.pl (impl_sortedBy_impl_shop_insert_1_e N)]
  | 97 => [.ap (slices_Insert_int64_int64_e N)]
  | 98 => [.pl (slices_Clone_int64_int64_e N)]
  | 99 => [.pl (impl_shop_flow_e N)]
  | _ => []
def impl_shop_insert_L : Nat → List (Nat × TK)
  | 4 => [(4, .own (.int .i64)), (5, .v (.int .i64)), (19, .v (.int .i64))]
  | 8 => [(5, .v (.int .i64)), (8, .ownN (.int .i64)), (26, .v (.int .i64))]
  | _ => []
theorem impl_shop_insert_eq (N : Nat) : runF N tt (impl_shop_insert_T N) impl_shop_insert_L [(.pair (.sl (.int .i64)) (.pair (.int .i64) (.int .i64)))] [.own (.int .i64), .val (.int .i64)] (bodyOf Try.f60) Try.f60.ntmps [2, 3] = (impl_shop_insert_e N).F := by
  funext x
  kernel_rfl
theorem impl_shop_insert_sound (N : Nat) : SoundC Try.prog 60 (impl_shop_insert_e N) := by
  have h := runF_sound (f := 60) (code := bodyOf Try.f60) (N := N) (T := (impl_shop_insert_T N)) (L := impl_shop_insert_L) (ins := [(.pair (.sl (.int .i64)) (.pair (.int .i64) (.int .i64)))]) (outs := [.own (.int .i64), .val (.int .i64)]) (res := [2, 3]) mixed tt_ok ?_ Try.func60 (by kernel_rfl) rfl (by kernel_rfl) (by kernel_rfl) (by decide +kernel)
  · rw [impl_shop_insert_eq] at h
    exact h
  · intro f e he
    unfold impl_shop_insert_T at he
    split at he
    · rw [List.mem_singleton.1 he]; exact impl_sortedBy_impl_shop_insert_1_sound N
    · rw [List.mem_singleton.1 he]; exact slices_Insert_int64_int64_sound N
    · rw [List.mem_singleton.1 he]; exact slices_Clone_int64_int64_sound N
    · rw [List.mem_singleton.1 he]; exact impl_shop_flow_sound N
    · cases he

/- impl.InsertOrder -/
def impl_InsertOrder (N : Nat) (x0 : List Int) (x1 : Int) : Option (List (Int) × Int × Bool × Unit) :=
  Option.bind (impl_asShop N x0 x1) fun r1 =>
  cond (!r1.2.1)
    (some ([], 0, false, ()))
    (Option.bind (impl_shop_insert N (r1.1.1, (r1.1.2.1, r1.1.2.2))) fun r2 =>
    some (r2.1, r2.2.1, true, ()))
def impl_InsertOrder_e (N : Nat) : Ent := { ins := [(.sl (.int .i64)), (.int .i64)], outs := [.own (.int .i64), .val (.int .i64), .val .bool], F := fun x => impl_InsertOrder N x.1 x.2.1 }
def impl_InsertOrder_T (N : Nat) : Nat → List EntX
  | 59 => [.pl (impl_asShop_e N)]
  | 60 => [.pl (impl_shop_insert_e N)]
  | _ => []
def impl_InsertOrder_L : Nat → List (Nat × TK) := fun _ => []
theorem impl_InsertOrder_eq (N : Nat) : runF N tt (impl_InsertOrder_T N) impl_InsertOrder_L [(.sl (.int .i64)), (.int .i64)] [.own (.int .i64), .val (.int .i64), .val .bool] (bodyOf Try.f29) Try.f29.ntmps [4, 5, 6] = (impl_InsertOrder_e N).F := by
  funext x
  kernel_rfl
theorem impl_InsertOrder_sound (N : Nat) : SoundC Try.prog 29 (impl_InsertOrder_e N) := by
  have h := runF_sound (f := 29) (code := bodyOf Try.f29) (N := N) (T := (impl_InsertOrder_T N)) (L := impl_InsertOrder_L) (ins := [(.sl (.int .i64)), (.int .i64)]) (outs := [.own (.int .i64), .val (.int .i64), .val .bool]) (res := [4, 5, 6]) mixed tt_ok ?_ Try.func29 (by kernel_rfl) rfl (by kernel_rfl) (by kernel_rfl) (by decide +kernel)
  · rw [impl_InsertOrder_eq] at h
    exact h
  · intro f e he
    unfold impl_InsertOrder_T at he
    split at he
    · rw [List.mem_singleton.1 he]; exact impl_asShop_sound N
    · rw [List.mem_singleton.1 he]; exact impl_shop_insert_sound N
    · cases he

/- laws.FnExactInsertOrder -/
def laws_FnExactInsertOrder (N : Nat) (x0 : List Int) (x1 : Int) : Option (Bool × Unit) :=
  cond (decide ((List.length x0 : Int) > 1048576))
    (some (true, ()))
    (Option.bind (laws_toInt64S N x0) fun r1 =>
    Option.bind (spec_InsertOrder N r1.1 x1) fun r2 =>
    Option.bind (laws_toInt64S N x0) fun r3 =>
    Option.bind (impl_InsertOrder N r3.1 x1) fun r4 =>
    Option.bind (laws_eqInt64S N r4.1 r2.1) fun r5 =>
    cond (!r5.1)
      (some (false, ()))
      (cond (r4.2.1 != r2.2.1)
        (some (false, ()))
        (cond (!(r4.2.2.1 == r2.2.2.1))
          (some (false, ()))
          (Option.bind (laws_toInt64S N x0) fun r6 =>
          Option.bind (laws_eqInt64S N r3.1 r6.1) fun r7 =>
          cond (!r7.1)
            (some (false, ()))
            (Option.bind (laws_markInt64S N r3.1 1) fun r8 =>
            cond (Nat.beq (List.length r8.1) (List.length r3.1))
              (cond (decide (r8.2.1 < 0))
                (some (false, ()))
                (Option.bind (laws_eqInt64S N r4.1 r2.1) fun r9 =>
                cond (!r9.1)
                  (some (false, ()))
                  (cond (r4.2.1 != r2.2.1)
                    (some (false, ()))
                    (cond (!(r4.2.2.1 == r2.2.2.1))
                      (some (false, ()))
                      (Option.bind (laws_markInt64S N r4.1 1) fun r10 =>
                      cond (Nat.beq (List.length r10.1) (List.length r4.1))
                        (Option.bind (laws_heldInt64S N r10.1 1) fun r11 =>
                        cond (decide (r11.1 < 0))
                          (some (false, ()))
                          (cond (r11.1 != r10.2.1)
                            (some (false, ()))
                            (Option.bind (laws_toInt64S N x0) fun r12 =>
                            Option.bind (impl_InsertOrder N r12.1 x1) fun r13 =>
                            Option.bind (laws_eqInt64S N r13.1 r2.1) fun r14 =>
                            cond (!r14.1)
                              (some (false, ()))
                              (cond (r13.2.1 != r2.2.1)
                                (some (false, ()))
                                (cond (!(r13.2.2.1 == r2.2.2.1))
                                  (some (false, ()))
                                  (Option.bind (laws_heldInt64S N r10.1 1) fun r15 =>
                                  cond (decide (r15.1 < 0))
                                    (some (false, ()))
                                    (cond (r15.1 != r10.2.1)
                                      (some (false, ()))
                                      (some (true, ()))))))))) none))))) none)))))
def laws_FnExactInsertOrder_e (N : Nat) : Ent := { ins := [(.sl (.int .i64)), (.int .i64)], outs := [.val .bool], F := fun x => laws_FnExactInsertOrder N x.1 x.2.1 }
def laws_FnExactInsertOrder_T (N : Nat) : Nat → List EntX
  | 14 => [.pl (laws_toInt64S_e N)]
  | 16 => [.pl (laws_eqInt64S_e N)]
  | 17 => [.mu (laws_markInt64S_e N)]
  | 18 => [.pl (laws_heldInt64S_e N)]
  | 28 => [.pl (spec_InsertOrder_e N)]
  | 29 => [.pl (impl_InsertOrder_e N)]
  | _ => []
def laws_FnExactInsertOrder_L : Nat → List (Nat × TK) := fun _ => []
theorem laws_FnExactInsertOrder_eq (N : Nat) : runF N tt (laws_FnExactInsertOrder_T N) laws_FnExactInsertOrder_L [(.sl (.int .i64)), (.int .i64)] [.val .bool] (bodyOf Try.f7) Try.f7.ntmps [4] = (laws_FnExactInsertOrder_e N).F := by
  funext x
  kernel_rfl
theorem laws_FnExactInsertOrder_sound (N : Nat) : SoundC Try.prog 7 (laws_FnExactInsertOrder_e N) := by
  have h := runF_sound (f := 7) (code := bodyOf Try.f7) (N := N) (T := (laws_FnExactInsertOrder_T N)) (L := laws_FnExactInsertOrder_L) (ins := [(.sl (.int .i64)), (.int .i64)]) (outs := [.val .bool]) (res := [4]) mixed tt_ok ?_ Try.func7 (by kernel_rfl) rfl (by kernel_rfl) (by kernel_rfl) (by decide +kernel)
  · rw [laws_FnExactInsertOrder_eq] at h
    exact h
  · intro f e he
    unfold laws_FnExactInsertOrder_T at he
    split at he
    · rw [List.mem_singleton.1 he]; exact laws_toInt64S_sound N
    · rw [List.mem_singleton.1 he]; exact laws_eqInt64S_sound N
    · rw [List.mem_singleton.1 he]; exact laws_markInt64S_sound N
    · rw [List.mem_singleton.1 he]; exact laws_heldInt64S_sound N
    · rw [List.mem_singleton.1 he]; exact spec_InsertOrder_sound N
    · rw [List.mem_singleton.1 he]; exact impl_InsertOrder_sound N
    · cases he

/- laws.szInt64S -/
def laws_szInt64S (_N : Nat) (x0 : List Int) (x1 : Int) : Option (Int × Unit) :=
  cond (decide ((w64 (x1 - (List.length x0 : Int))) < 0))
    (some ((-1), ()))
    (some ((w64 (x1 - (List.length x0 : Int))), ()))
def laws_szInt64S_e (N : Nat) : Ent := { ins := [(.sl (.int .i64)), (.int .i64)], outs := [.val (.int .i64)], F := fun x => laws_szInt64S N x.1 x.2.1 }
def laws_szInt64S_T (_ : Nat) : Nat → List EntX := fun _ => []
def laws_szInt64S_L : Nat → List (Nat × TK) := fun _ => []
theorem laws_szInt64S_eq (N : Nat) : runF N tt (laws_szInt64S_T N) laws_szInt64S_L [(.sl (.int .i64)), (.int .i64)] [.val (.int .i64)] (bodyOf Try.f54) Try.f54.ntmps [4] = (laws_szInt64S_e N).F := by
  funext x
  kernel_rfl
theorem laws_szInt64S_sound (N : Nat) : SoundC Try.prog 54 (laws_szInt64S_e N) := by
  have h := runF_sound (f := 54) (code := bodyOf Try.f54) (N := N) (T := (laws_szInt64S_T N)) (L := laws_szInt64S_L) (ins := [(.sl (.int .i64)), (.int .i64)]) (outs := [.val (.int .i64)]) (res := [4]) mixed tt_ok ?_ Try.func54 (by kernel_rfl) rfl (by kernel_rfl) (by kernel_rfl) (by decide +kernel)
  · rw [laws_szInt64S_eq] at h
    exact h
  · intro f e he
    cases he

/- laws.szInt64SS -/
def laws_szInt64SS (N : Nat) (x0 : List (List Int)) (x1 : Int) : Option (Int × Unit) :=
  cond (decide ((w64 (x1 - (List.length x0 : Int))) < 0))
    (some ((-1), ()))
    (loopN (fun (s1 : Int × Int × Unit) next2 =>
      cond (decide (s1.2.1 < (List.length x0 : Int)))
        (Option.bind (idx x0 s1.2.1) fun v3 =>
        Option.bind (laws_szInt64S N v3 s1.1) fun r4 =>
        cond (decide (r4.1 < 0))
          (some ((-1), ()))
          (next2 (r4.1, (w64 (s1.2.1 + 1)), ())))
        (some (s1.1, ()))) N ((w64 (x1 - (List.length x0 : Int))), 0, ()))
def laws_szInt64SS_e (N : Nat) : Ent := { ins := [(.sl (.sl (.int .i64))), (.int .i64)], outs := [.val (.int .i64)], F := fun x => laws_szInt64SS N x.1 x.2.1 }
def laws_szInt64SS_T (N : Nat) : Nat → List EntX
  | 54 => [.pl (laws_szInt64S_e N)]
  | _ => []
def laws_szInt64SS_L : Nat → List (Nat × TK)
  | 5 => [(1, .v (.int .i64)), (5, .v (.int .i64))]
  | _ => []
theorem laws_szInt64SS_eq (N : Nat) : runF N tt (laws_szInt64SS_T N) laws_szInt64SS_L [(.sl (.sl (.int .i64))), (.int .i64)] [.val (.int .i64)] (bodyOf Try.f21) Try.f21.ntmps [4] = (laws_szInt64SS_e N).F := by
  funext x
  kernel_rfl
theorem laws_szInt64SS_sound (N : Nat) : SoundC Try.prog 21 (laws_szInt64SS_e N) := by
  have h := runF_sound (f := 21) (code := bodyOf Try.f21) (N := N) (T := (laws_szInt64SS_T N)) (L := laws_szInt64SS_L) (ins := [(.sl (.sl (.int .i64))), (.int .i64)]) (outs := [.val (.int .i64)]) (res := [4]) mixed tt_ok ?_ Try.func21 (by kernel_rfl) rfl (by kernel_rfl) (by kernel_rfl) (by decide +kernel)
  · rw [laws_szInt64SS_eq] at h
    exact h
  · intro f e he
    unfold laws_szInt64SS_T at he
    split at he
    · rw [List.mem_singleton.1 he]; exact laws_szInt64S_sound N
    · cases he

/- laws.toInt64SS -/
def laws_toInt64SS (N : Nat) (x0 : List (List Int)) : Option (List (List Int) × Unit) :=
  cond (mkOk (List.length x0 : Int) (List.length x0 : Int))
    (let xs1 := (List.replicate (Int.toNat (List.length x0 : Int)) [] : List (List Int))
    loopN (fun (s2 : List (List Int) × Int × Unit) next3 =>
      cond (decide (s2.2.1 < (List.length x0 : Int)))
        (Option.bind (idx x0 s2.2.1) fun v4 =>
        Option.bind (laws_toInt64S N v4) fun r5 =>
        cond (inB s2.2.1 (List.length s2.1))
          (let xs6 := (List.set s2.1 (Int.toNat s2.2.1) r5.1)
          next3 (xs6, (w64 (s2.2.1 + 1)), ())) none)
        (some (s2.1, ()))) N (xs1, 0, ())) none
def laws_toInt64SS_e (N : Nat) : Ent := { ins := [(.sl (.sl (.int .i64)))], outs := [.own (.nw (.sl (.int .i64)))], F := fun x => laws_toInt64SS N x.1 }
def laws_toInt64SS_T (N : Nat) : Nat → List EntX
  | 14 => [.pl (laws_toInt64S_e N)]
  | _ => []
def laws_toInt64SS_L : Nat → List (Nat × TK)
  | 3 => [(3, .own (.nw (.sl (.int .i64)))), (4, .v (.int .i64))]
  | _ => []
theorem laws_toInt64SS_eq (N : Nat) : runF N tt (laws_toInt64SS_T N) laws_toInt64SS_L [(.sl (.sl (.int .i64)))] [.own (.nw (.sl (.int .i64)))] (bodyOf Try.f23) Try.f23.ntmps [2] = (laws_toInt64SS_e N).F := by
  funext x
  kernel_rfl
theorem laws_toInt64SS_sound (N : Nat) : SoundC Try.prog 23 (laws_toInt64SS_e N) := by
  have h := runF_sound (f := 23) (code := bodyOf Try.f23) (N := N) (T := (laws_toInt64SS_T N)) (L := laws_toInt64SS_L) (ins := [(.sl (.sl (.int .i64)))]) (outs := [.own (.nw (.sl (.int .i64)))]) (res := [2]) mixed tt_ok ?_ Try.func23 (by kernel_rfl) rfl (by kernel_rfl) (by kernel_rfl) (by decide +kernel)
  · rw [laws_toInt64SS_eq] at h
    exact h
  · intro f e he
    unfold laws_toInt64SS_T at he
    split at he
    · rw [List.mem_singleton.1 he]; exact laws_toInt64S_sound N
    · cases he

/- laws.eqInt64SS -/
def laws_eqInt64SS (N : Nat) (x0 : List (List Int)) (x1 : List (List Int)) : Option (Bool × Unit) :=
  cond ((List.length x0 : Int) != (List.length x1 : Int))
    (some (false, ()))
    (loopN (fun (s1 : Int × Unit) next2 =>
      cond (decide (s1.1 < (List.length x0 : Int)))
        (Option.bind (idx x0 s1.1) fun v3 =>
        Option.bind (idx x1 s1.1) fun v4 =>
        Option.bind (laws_eqInt64S N v3 v4) fun r5 =>
        cond (!r5.1)
          (some (false, ()))
          (next2 ((w64 (s1.1 + 1)), ())))
        (some (true, ()))) N (0, ()))
def laws_eqInt64SS_e (N : Nat) : Ent := { ins := [(.sl (.sl (.int .i64))), (.sl (.sl (.int .i64)))], outs := [.val .bool], F := fun x => laws_eqInt64SS N x.1 x.2.1 }
def laws_eqInt64SS_T (N : Nat) : Nat → List EntX
  | 16 => [.pl (laws_eqInt64S_e N)]
  | _ => []
def laws_eqInt64SS_L : Nat → List (Nat × TK)
  | 4 => [(5, .v (.int .i64))]
  | _ => []
theorem laws_eqInt64SS_eq (N : Nat) : runF N tt (laws_eqInt64SS_T N) laws_eqInt64SS_L [(.sl (.sl (.int .i64))), (.sl (.sl (.int .i64)))] [.val .bool] (bodyOf Try.f25) Try.f25.ntmps [4] = (laws_eqInt64SS_e N).F := by
  funext x
  kernel_rfl
theorem laws_eqInt64SS_sound (N : Nat) : SoundC Try.prog 25 (laws_eqInt64SS_e N) := by
  have h := runF_sound (f := 25) (code := bodyOf Try.f25) (N := N) (T := (laws_eqInt64SS_T N)) (L := laws_eqInt64SS_L) (ins := [(.sl (.sl (.int .i64))), (.sl (.sl (.int .i64)))]) (outs := [.val .bool]) (res := [4]) mixed tt_ok ?_ Try.func25 (by kernel_rfl) rfl (by kernel_rfl) (by kernel_rfl) (by decide +kernel)
  · rw [laws_eqInt64SS_eq] at h
    exact h
  · intro f e he
    unfold laws_eqInt64SS_T at he
    split at he
    · rw [List.mem_singleton.1 he]; exact laws_eqInt64S_sound N
    · cases he

/- spec.FlowsShared -/
def spec_FlowsShared (N : Nat) (x0 : List (List Int)) (x1 : Int) (x2 : Int) : Option (List (Int) × Bool × Unit) :=
  cond (decide ((List.length x0 : Int) < 1))
    (some ([], false, ()))
    (cond (decide ((List.length x0 : Int) > 16))
      (some ([], false, ()))
      (Option.bind (spec_l00In N x2 1 8) fun r1 =>
      cond (!r1.1)
        (some ([], false, ()))
        (loopN (fun (s2 : List (Int) × Int × Unit) next3 =>
          cond (decide (s2.2.1 < (List.length x0 : Int)))
            (Option.bind (idx x0 s2.2.1) fun v4 =>
            Option.bind (spec_l04Can N v4 x1) fun r5 =>
            cond (!r5.1)
              (some ([], false, ()))
              (Option.bind (idx x0 s2.2.1) fun v6 =>
              Option.bind (spec_l04Insert N v6 x1) fun r7 =>
              cond (appOk (List.length s2.1) (List.length ([r7.2.1] : List Int)))
                (let xs8 := (s2.1 ++ ([r7.2.1] : List Int))
                next3 (xs8, (w64 (s2.2.1 + 1)), ())) none))
            (some (s2.1, true, ()))) N (([] : List Int), 0, ()))))
def spec_FlowsShared_e (N : Nat) : Ent := { ins := [(.sl (.sl (.int .i64))), (.int .i64), (.int .i64)], outs := [.own (.int .i64), .val .bool], F := fun x => spec_FlowsShared N x.1 x.2.1 x.2.2.1 }
def spec_FlowsShared_T (N : Nat) : Nat → List EntX
  | 55 => [.pl (spec_l00In_e N)]
  | 57 => [.pl (spec_l04Can_e N)]
  | 58 => [.pl (spec_l04Insert_e N)]
  | _ => []
def spec_FlowsShared_L : Nat → List (Nat × TK)
  | 5 => [(8, .own (.int .i64)), (9, .v (.int .i64))]
  | _ => []
theorem spec_FlowsShared_eq (N : Nat) : runF N tt (spec_FlowsShared_T N) spec_FlowsShared_L [(.sl (.sl (.int .i64))), (.int .i64), (.int .i64)] [.own (.int .i64), .val .bool] (bodyOf Try.f30) Try.f30.ntmps [6, 7] = (spec_FlowsShared_e N).F := by
  funext x
  kernel_rfl
theorem spec_FlowsShared_sound (N : Nat) : SoundC Try.prog 30 (spec_FlowsShared_e N) := by
  have h := runF_sound (f := 30) (code := bodyOf Try.f30) (N := N) (T := (spec_FlowsShared_T N)) (L := spec_FlowsShared_L) (ins := [(.sl (.sl (.int .i64))), (.int .i64), (.int .i64)]) (outs := [.own (.int .i64), .val .bool]) (res := [6, 7]) mixed tt_ok ?_ Try.func30 (by kernel_rfl) rfl (by kernel_rfl) (by kernel_rfl) (by decide +kernel)
  · rw [spec_FlowsShared_eq] at h
    exact h
  · intro f e he
    unfold spec_FlowsShared_T at he
    split at he
    · rw [List.mem_singleton.1 he]; exact spec_l00In_sound N
    · rw [List.mem_singleton.1 he]; exact spec_l04Can_sound N
    · rw [List.mem_singleton.1 he]; exact spec_l04Insert_sound N
    · cases he

/- impl.areWorkers -/
def impl_areWorkers (N : Nat) (x0 : Int) : Option (Bool × Unit) :=
  Option.bind (impl_within N x0 1 8) fun r1 =>
  some (r1.1, ())
def impl_areWorkers_e (N : Nat) : Ent := { ins := [(.int .i64)], outs := [.val .bool], F := fun x => impl_areWorkers N x.1 }
def impl_areWorkers_T (N : Nat) : Nat → List EntX
  | 65 => [.pl (impl_within_e N)]
  | _ => []
def impl_areWorkers_L : Nat → List (Nat × TK) := fun _ => []
theorem impl_areWorkers_eq (N : Nat) : runF N tt (impl_areWorkers_T N) impl_areWorkers_L [(.int .i64)] [.val .bool] (bodyOf Try.f56) Try.f56.ntmps [2] = (impl_areWorkers_e N).F := by
  funext x
  kernel_rfl
theorem impl_areWorkers_sound (N : Nat) : SoundC Try.prog 56 (impl_areWorkers_e N) := by
  have h := runF_sound (f := 56) (code := bodyOf Try.f56) (N := N) (T := (impl_areWorkers_T N)) (L := impl_areWorkers_L) (ins := [(.int .i64)]) (outs := [.val .bool]) (res := [2]) mixed tt_ok ?_ Try.func56 (by kernel_rfl) rfl (by kernel_rfl) (by kernel_rfl) (by decide +kernel)
  · rw [impl_areWorkers_eq] at h
    exact h
  · intro f e he
    unfold impl_areWorkers_T at he
    split at he
    · rw [List.mem_singleton.1 he]; exact impl_within_sound N
    · cases he

/- impl.FlowsShared -/
def impl_FlowsShared (N : Nat) (x0 : List (List Int)) (x1 : Int) (x2 : Int) : Option (List (Int) × Bool × Unit) :=
  cond (decide ((List.length x0 : Int) < 1))
    (some ([], false, ()))
    (cond (decide ((List.length x0 : Int) > 16))
      (some ([], false, ()))
      (Option.bind (impl_areWorkers N x2) fun r1 =>
      cond (!r1.1)
        (some ([], false, ()))
        (loopN (fun (s2 : List (Int) × Int × Unit) next3 =>
          cond (decide (s2.2.1 < (List.length x0 : Int)))
            (Option.bind (idx x0 s2.2.1) fun v4 =>
            Option.bind (impl_InsertOrder N v4 x1) fun r5 =>
            cond (!r5.2.2.1)
              (some ([], false, ()))
              (cond (appOk (List.length s2.1) (List.length ([r5.2.1] : List Int)))
                (let xs6 := (s2.1 ++ ([r5.2.1] : List Int))
                next3 (xs6, (w64 (s2.2.1 + 1)), ())) none))
            (some (s2.1, true, ()))) N (([] : List Int), 0, ()))))
def impl_FlowsShared_e (N : Nat) : Ent := { ins := [(.sl (.sl (.int .i64))), (.int .i64), (.int .i64)], outs := [.own (.int .i64), .val .bool], F := fun x => impl_FlowsShared N x.1 x.2.1 x.2.2.1 }
def impl_FlowsShared_T (N : Nat) : Nat → List EntX
  | 29 => [.pl (impl_InsertOrder_e N)]
  | 56 => [.pl (impl_areWorkers_e N)]
  | _ => []
def impl_FlowsShared_L : Nat → List (Nat × TK)
  | 5 => [(8, .own (.int .i64)), (30, .v (.int .i64))]
  | _ => []
theorem impl_FlowsShared_eq (N : Nat) : runF N tt (impl_FlowsShared_T N) impl_FlowsShared_L [(.sl (.sl (.int .i64))), (.int .i64), (.int .i64)] [.own (.int .i64), .val .bool] (bodyOf Try.f31) Try.f31.ntmps [6, 7] = (impl_FlowsShared_e N).F := by
  funext x
  kernel_rfl
theorem impl_FlowsShared_sound (N : Nat) : SoundC Try.prog 31 (impl_FlowsShared_e N) := by
  have h := runF_sound (f := 31) (code := bodyOf Try.f31) (N := N) (T := (impl_FlowsShared_T N)) (L := impl_FlowsShared_L) (ins := [(.sl (.sl (.int .i64))), (.int .i64), (.int .i64)]) (outs := [.own (.int .i64), .val .bool]) (res := [6, 7]) mixed tt_ok ?_ Try.func31 (by kernel_rfl) rfl (by kernel_rfl) (by kernel_rfl) (by decide +kernel)
  · rw [impl_FlowsShared_eq] at h
    exact h
  · intro f e he
    unfold impl_FlowsShared_T at he
    split at he
    · rw [List.mem_singleton.1 he]; exact impl_InsertOrder_sound N
    · rw [List.mem_singleton.1 he]; exact impl_areWorkers_sound N
    · cases he

/- laws.FnExactFlowsShared -/
def laws_FnExactFlowsShared (N : Nat) (x0 : List (List Int)) (x1 : Int) (x2 : Int) : Option (Bool × Unit) :=
  Option.bind (laws_szInt64SS N x0 1048576) fun r1 =>
  cond (decide (r1.1 < 0))
    (some (true, ()))
    (Option.bind (laws_toInt64SS N x0) fun r2 =>
    Option.bind (spec_FlowsShared N r2.1 x1 x2) fun r3 =>
    Option.bind (laws_toInt64SS N x0) fun r4 =>
    Option.bind (impl_FlowsShared N r4.1 x1 x2) fun r5 =>
    Option.bind (laws_eqInt64S N r5.1 r3.1) fun r6 =>
    cond (!r6.1)
      (some (false, ()))
      (cond (!(r5.2.1 == r3.2.1))
        (some (false, ()))
        (Option.bind (laws_toInt64SS N x0) fun r7 =>
        Option.bind (laws_eqInt64SS N r4.1 r7.1) fun r8 =>
        cond (!r8.1)
          (some (false, ()))
          (Option.bind (laws_markInt64SS_d r4.1 1) fun r9 =>
          cond (decide (r9 < 0))
            (some (false, ()))
            (Option.bind (laws_eqInt64S N r5.1 r3.1) fun r10 =>
            cond (!r10.1)
              (some (false, ()))
              (cond (!(r5.2.1 == r3.2.1))
                (some (false, ()))
                (Option.bind (laws_markInt64S N r5.1 1) fun r11 =>
                cond (Nat.beq (List.length r11.1) (List.length r5.1))
                  (Option.bind (laws_heldInt64S N r11.1 1) fun r12 =>
                  cond (decide (r12.1 < 0))
                    (some (false, ()))
                    (cond (r12.1 != r11.2.1)
                      (some (false, ()))
                      (Option.bind (laws_toInt64SS N x0) fun r13 =>
                      Option.bind (impl_FlowsShared N r13.1 x1 x2) fun r14 =>
                      Option.bind (laws_eqInt64S N r14.1 r3.1) fun r15 =>
                      cond (!r15.1)
                        (some (false, ()))
                        (cond (!(r14.2.1 == r3.2.1))
                          (some (false, ()))
                          (Option.bind (laws_heldInt64S N r11.1 1) fun r16 =>
                          cond (decide (r16.1 < 0))
                            (some (false, ()))
                            (cond (r16.1 != r11.2.1)
                              (some (false, ()))
                              (some (true, ())))))))) none)))))))
def laws_FnExactFlowsShared_e (N : Nat) : Ent := { ins := [(.sl (.sl (.int .i64))), (.int .i64), (.int .i64)], outs := [.val .bool], F := fun x => laws_FnExactFlowsShared N x.1 x.2.1 x.2.2.1 }
def laws_FnExactFlowsShared_T (N : Nat) : Nat → List EntX
  | 16 => [.pl (laws_eqInt64S_e N)]
  | 17 => [.mu (laws_markInt64S_e N)]
  | 18 => [.pl (laws_heldInt64S_e N)]
  | 21 => [.pl (laws_szInt64SS_e N)]
  | 23 => [.pl (laws_toInt64SS_e N)]
  | 25 => [.pl (laws_eqInt64SS_e N)]
  | 26 => [.dp (laws_markInt64SS_d_e N)]
  | 30 => [.pl (spec_FlowsShared_e N)]
  | 31 => [.pl (impl_FlowsShared_e N)]
  | _ => []
def laws_FnExactFlowsShared_L : Nat → List (Nat × TK) := fun _ => []
theorem laws_FnExactFlowsShared_eq (N : Nat) : runL N tt (laws_FnExactFlowsShared_T N) laws_FnExactFlowsShared_L [(.sl (.sl (.int .i64))), (.int .i64), (.int .i64)] [.val .bool] (bodyOf Try.f8) Try.f8.ntmps [6] = (laws_FnExactFlowsShared_e N).F := by
  funext x
  kernel_rfl
theorem laws_FnExactFlowsShared_sound (N : Nat) : SoundC Try.prog 8 (laws_FnExactFlowsShared_e N) := by
  have h := runL_sound (f := 8) (code := bodyOf Try.f8) (N := N) (T := (laws_FnExactFlowsShared_T N)) (L := laws_FnExactFlowsShared_L) (ins := [(.sl (.sl (.int .i64))), (.int .i64), (.int .i64)]) (outs := [.val .bool]) (res := [6]) mixed tt_ok ?_ Try.func8 (by kernel_rfl) rfl (by kernel_rfl) (by kernel_rfl) (by decide +kernel)
  · rw [laws_FnExactFlowsShared_eq] at h
    exact h
  · intro f e he
    unfold laws_FnExactFlowsShared_T at he
    split at he
    · rw [List.mem_singleton.1 he]; exact laws_eqInt64S_sound N
    · rw [List.mem_singleton.1 he]; exact laws_markInt64S_sound N
    · rw [List.mem_singleton.1 he]; exact laws_heldInt64S_sound N
    · rw [List.mem_singleton.1 he]; exact laws_szInt64SS_sound N
    · rw [List.mem_singleton.1 he]; exact laws_toInt64SS_sound N
    · rw [List.mem_singleton.1 he]; exact laws_eqInt64SS_sound N
    · rw [List.mem_singleton.1 he]; exact laws_markInt64SS_d_sound N
    · rw [List.mem_singleton.1 he]; exact spec_FlowsShared_sound N
    · rw [List.mem_singleton.1 he]; exact impl_FlowsShared_sound N
    · cases he

/- laws.sameInts -/
def laws_sameInts (N : Nat) (x0 : List Int) (x1 : List Int) : Option (Bool × Unit) :=
  cond ((List.length x0 : Int) != (List.length x1 : Int))
    (some (false, ()))
    (loopN (fun (s1 : Int × Unit) next2 =>
      cond (decide (s1.1 < (List.length x0 : Int)))
        (Option.bind (idx x0 s1.1) fun v3 =>
        Option.bind (idx x1 s1.1) fun v4 =>
        cond (v3 != v4)
          (some (false, ()))
          (next2 ((w64 (s1.1 + 1)), ())))
        (some (true, ()))) N (0, ()))
def laws_sameInts_e (N : Nat) : Ent := { ins := [(.sl (.int .i64)), (.sl (.int .i64))], outs := [.val .bool], F := fun x => laws_sameInts N x.1 x.2.1 }
def laws_sameInts_T (_ : Nat) : Nat → List EntX := fun _ => []
def laws_sameInts_L : Nat → List (Nat × TK)
  | 4 => [(5, .v (.int .i64))]
  | _ => []
theorem laws_sameInts_eq (N : Nat) : runF N tt (laws_sameInts_T N) laws_sameInts_L [(.sl (.int .i64)), (.sl (.int .i64))] [.val .bool] (bodyOf Try.f27) Try.f27.ntmps [4] = (laws_sameInts_e N).F := by
  funext x
  kernel_rfl
theorem laws_sameInts_sound (N : Nat) : SoundC Try.prog 27 (laws_sameInts_e N) := by
  have h := runF_sound (f := 27) (code := bodyOf Try.f27) (N := N) (T := (laws_sameInts_T N)) (L := laws_sameInts_L) (ins := [(.sl (.int .i64)), (.sl (.int .i64))]) (outs := [.val .bool]) (res := [4]) mixed tt_ok ?_ Try.func27 (by kernel_rfl) rfl (by kernel_rfl) (by kernel_rfl) (by decide +kernel)
  · rw [laws_sameInts_eq] at h
    exact h
  · intro f e he
    cases he

/- laws.FnFlowsSharedOfAll -/
def laws_FnFlowsSharedOfAll (N : Nat) (x0 : List (List Int)) (x1 : Int) (x2 : Int) (x3 : Int) : Option (Bool × Unit) :=
  cond (decide ((List.length x0 : Int) > 10000))
    (some (true, ()))
    (Option.bind (impl_FlowsShared N x0 x1 x2) fun r1 =>
    Option.bind (impl_FlowsShared N x0 x1 x3) fun r2 =>
    Option.bind (spec_FlowsShared N x0 x1 x2) fun r3 =>
    cond (!(r1.2.1 == r3.2.1))
      (some (false, ()))
      (cond r1.2.1
        (Option.bind (laws_sameInts N r1.1 r3.1) fun r4 =>
        cond (!r4.1)
          (some (false, ()))
          (cond (decide (x2 < 1))
            (some (true, ()))
            (cond (decide (x2 > 8))
              (some (true, ()))
              (cond (decide (x3 < 1))
                (some (true, ()))
                (cond (decide (x3 > 8))
                  (some (true, ()))
                  (cond (r1.2.1 == r2.2.1)
                    (cond (!r1.2.1)
                      (some (true, ()))
                      (Option.bind (laws_sameInts N r1.1 r2.1) fun r5 =>
                      some (r5.1, ())))
                    (some (false, ()))))))))
        (cond (decide (x2 < 1))
          (some (true, ()))
          (cond (decide (x2 > 8))
            (some (true, ()))
            (cond (decide (x3 < 1))
              (some (true, ()))
              (cond (decide (x3 > 8))
                (some (true, ()))
                (cond (r1.2.1 == r2.2.1)
                  (cond (!r1.2.1)
                    (some (true, ()))
                    (Option.bind (laws_sameInts N r1.1 r2.1) fun r6 =>
                    some (r6.1, ())))
                  (some (false, ())))))))))
def laws_FnFlowsSharedOfAll_e (N : Nat) : Ent := { ins := [(.sl (.sl (.int .i64))), (.int .i64), (.int .i64), (.int .i64)], outs := [.val .bool], F := fun x => laws_FnFlowsSharedOfAll N x.1 x.2.1 x.2.2.1 x.2.2.2.1 }
def laws_FnFlowsSharedOfAll_T (N : Nat) : Nat → List EntX
  | 27 => [.pl (laws_sameInts_e N)]
  | 30 => [.pl (spec_FlowsShared_e N)]
  | 31 => [.pl (impl_FlowsShared_e N)]
  | _ => []
def laws_FnFlowsSharedOfAll_L : Nat → List (Nat × TK) := fun _ => []
theorem laws_FnFlowsSharedOfAll_eq (N : Nat) : runF N tt (laws_FnFlowsSharedOfAll_T N) laws_FnFlowsSharedOfAll_L [(.sl (.sl (.int .i64))), (.int .i64), (.int .i64), (.int .i64)] [.val .bool] (bodyOf Try.f9) Try.f9.ntmps [8] = (laws_FnFlowsSharedOfAll_e N).F := by
  funext x
  kernel_rfl
theorem laws_FnFlowsSharedOfAll_sound (N : Nat) : SoundC Try.prog 9 (laws_FnFlowsSharedOfAll_e N) := by
  have h := runF_sound (f := 9) (code := bodyOf Try.f9) (N := N) (T := (laws_FnFlowsSharedOfAll_T N)) (L := laws_FnFlowsSharedOfAll_L) (ins := [(.sl (.sl (.int .i64))), (.int .i64), (.int .i64), (.int .i64)]) (outs := [.val .bool]) (res := [8]) mixed tt_ok ?_ Try.func9 (by kernel_rfl) rfl (by kernel_rfl) (by kernel_rfl) (by decide +kernel)
  · rw [laws_FnFlowsSharedOfAll_eq] at h
    exact h
  · intro f e he
    unfold laws_FnFlowsSharedOfAll_T at he
    split at he
    · rw [List.mem_singleton.1 he]; exact laws_sameInts_sound N
    · rw [List.mem_singleton.1 he]; exact spec_FlowsShared_sound N
    · rw [List.mem_singleton.1 he]; exact impl_FlowsShared_sound N
    · cases he

end Go.Proofs.Ytkcdhdnmmpapdaa
