/-
  The plain functions of this seat, printed by a program, each equal to the evaluator's run, with its contract. No condition.
-/
import Derived.Test.YtblmginpolckoaaFwV
import Derived.Test.YtblmginpolckoaaChecked
import Derived.Test.YtblmginpolckoaaRo3
namespace Go.Proofs.Ytblmginpolckoaa
open Go Go.Proofs.Ytblmginpolckoaa.Fw
set_option maxRecDepth 100000
set_option linter.unusedVariables false

theorem mixed : Try.prog.follows .mixedOrders = true := Try.checked.mixed
def tt : Nat → TD
  | 2 => tdInt .i64
  | 3 => tdInt .i64
  | 4 => tdBool
  | 22 => tdSl (.int .i64) 8
  | 60 => tdSt 3 [(0, 1, false), (1, 1, false), (2, 1, false)] [.nil, .g (.int .i64) (0 : Int), .g (.int .i64) (0 : Int)]
  | 63 => tdFn
  | 74 => tdInt .u64
  | 111 => tdSl .bool 1
  | 122 => tdInt .u32
  | 125 => tdInt .u64
  | _ => tdNone
theorem tt_2 : TDok Try.prog 2 (tdInt .i64) := tdok_int (b := 8) (by kernel_rfl) (by kernel_rfl)
theorem tt_3 : TDok Try.prog 3 (tdInt .i64) := tdok_int (b := 8) (by kernel_rfl) (by kernel_rfl)
theorem tt_4 : TDok Try.prog 4 (tdBool) := tdok_bool (b := 1) (by kernel_rfl) (by kernel_rfl)
theorem tt_22 : TDok Try.prog 22 (tdSl (.int .i64) 8) := tdok_sl (b := 24) (e := 2) (z := (.int .i64 0)) (by kernel_rfl) (by kernel_rfl) (by kernel_rfl) (by decide) (fun _ => by kernel_rfl)
theorem tt_60 : TDok Try.prog 60 (tdSt 3 [(0, 1, false), (1, 1, false), (2, 1, false)] [.nil, .g (.int .i64) (0 : Int), .g (.int .i64) (0 : Int)]) := tdok_st (b := 40) (z := (.agg #[(.slice none 0 0), (.int .i64 0), (.int .i64 0)])) (by kernel_rfl) (by kernel_rfl) (by kernel_rfl) (by kernel_rfl) (by kernel_rfl)
theorem tt_63 : TDok Try.prog 63 (tdFn) := tdok_fn (by kernel_rfl) (by kernel_rfl)
theorem tt_74 : TDok Try.prog 74 (tdInt .u64) := tdok_int (b := 8) (by kernel_rfl) (by kernel_rfl)
theorem tt_111 : TDok Try.prog 111 (tdSl .bool 1) := tdok_sl (b := 24) (e := 4) (z := (.bool false)) (by kernel_rfl) (by kernel_rfl) (by kernel_rfl) (by decide) (fun _ => by kernel_rfl)
theorem tt_122 : TDok Try.prog 122 (tdInt .u32) := tdok_int (b := 4) (by kernel_rfl) (by kernel_rfl)
theorem tt_125 : TDok Try.prog 125 (tdInt .u64) := tdok_int (b := 8) (by kernel_rfl) (by kernel_rfl)
theorem tt_ok (t : Nat) : TDok Try.prog t (tt t) := by
  unfold tt
  split
  · exact tt_2
  · exact tt_3
  · exact tt_4
  · exact tt_22
  · exact tt_60
  · exact tt_63
  · exact tt_74
  · exact tt_111
  · exact tt_122
  · exact tt_125
  · exact tdok_none

/- spec.l00In -/
def spec_l00In (_N : Nat) (x0 : Int) (x1 : Int) (x2 : Int) : Option (Bool × Unit) :=
  cond (decide (x0 ≥ x1))
    (some ((decide (x0 ≤ x2)), ()))
    (some (false, ()))
def spec_l00In_e (N : Nat) : Ent := { ins := [(.int .i64), (.int .i64), (.int .i64)], outs := [.val .bool], F := fun x => spec_l00In N x.1 x.2.1 x.2.2.1 }
def spec_l00In_T (_ : Nat) : Nat → List EntX := fun _ => []
def spec_l00In_L : Nat → List (Nat × TK) := fun _ => []
theorem spec_l00In_eq (N : Nat) : runF N tt (spec_l00In_T N) spec_l00In_L [(.int .i64), (.int .i64), (.int .i64)] [.val .bool] (bodyOf Try.f114) Try.f114.ntmps [6] = (spec_l00In_e N).F := by
  funext x
  kernel_rfl
theorem spec_l00In_sound (N : Nat) : SoundC Try.prog 114 (spec_l00In_e N) := by
  have h := runF_sound (f := 114) (code := bodyOf Try.f114) (N := N) (T := (spec_l00In_T N)) (L := spec_l00In_L) (ins := [(.int .i64), (.int .i64), (.int .i64)]) (outs := [.val .bool]) (res := [6]) mixed tt_ok ?_ Try.func114 (by kernel_rfl) rfl (by kernel_rfl) (by kernel_rfl) (by decide +kernel)
  · rw [spec_l00In_eq] at h
    exact h
  · intro f e he
    cases he

/- spec.l02Machines -/
def spec_l02Machines (N : Nat) (x0 : Int) : Option (Bool × Unit) :=
  Option.bind (spec_l00In N x0 1 8) fun r1 =>
  some (r1.1, ())
def spec_l02Machines_e (N : Nat) : Ent := { ins := [(.int .i64)], outs := [.val .bool], F := fun x => spec_l02Machines N x.1 }
def spec_l02Machines_T (N : Nat) : Nat → List EntX
  | 114 => [.pl (spec_l00In_e N)]
  | _ => []
def spec_l02Machines_L : Nat → List (Nat × TK) := fun _ => []
theorem spec_l02Machines_eq (N : Nat) : runF N tt (spec_l02Machines_T N) spec_l02Machines_L [(.int .i64)] [.val .bool] (bodyOf Try.f122) Try.f122.ntmps [2] = (spec_l02Machines_e N).F := by
  funext x
  kernel_rfl
theorem spec_l02Machines_sound (N : Nat) : SoundC Try.prog 122 (spec_l02Machines_e N) := by
  have h := runF_sound (f := 122) (code := bodyOf Try.f122) (N := N) (T := (spec_l02Machines_T N)) (L := spec_l02Machines_L) (ins := [(.int .i64)]) (outs := [.val .bool]) (res := [2]) mixed tt_ok ?_ Try.func122 (by kernel_rfl) rfl (by kernel_rfl) (by kernel_rfl) (by decide +kernel)
  · rw [spec_l02Machines_eq] at h
    exact h
  · intro f e he
    unfold spec_l02Machines_T at he
    split at he
    · rw [List.mem_singleton.1 he]; exact spec_l00In_sound N
    · cases he

/- spec.l02Unlike -/
def spec_l02Unlike (N : Nat) (x0 : List Int) (x1 : Int) : Option (Bool × Unit) :=
  Option.bind (spec_l02Machines N x1) fun r1 =>
  cond (!r1.1)
    (some (false, ()))
    (cond (decide ((List.length x0 : Int) < 1))
      (some (false, ()))
      (cond (x1 == 0) none
        (cond ((Int.tmod (List.length x0 : Int) x1) != 0)
          (some (false, ()))
          (cond (x1 == 0) none
            (cond (decide ((w64 (Int.tdiv (List.length x0 : Int) x1)) > 24))
              (some (false, ()))
              (loopN (fun (s2 : Int × Unit) next3 =>
                cond (decide (s2.1 < (List.length x0 : Int)))
                  (Option.bind (idx x0 s2.1) fun v4 =>
                  Option.bind (spec_l00In N v4 1 10000) fun r5 =>
                  cond (!r5.1)
                    (some (false, ()))
                    (next3 ((w64 (s2.1 + 1)), ())))
                  (some (true, ()))) N (0, ())))))))
def spec_l02Unlike_e (N : Nat) : Ent := { ins := [(.sl (.int .i64)), (.int .i64)], outs := [.val .bool], F := fun x => spec_l02Unlike N x.1 x.2.1 }
def spec_l02Unlike_T (N : Nat) : Nat → List EntX
  | 114 => [.pl (spec_l00In_e N)]
  | 122 => [.pl (spec_l02Machines_e N)]
  | _ => []
def spec_l02Unlike_L : Nat → List (Nat × TK)
  | 5 => [(6, .v (.int .i64))]
  | _ => []
theorem spec_l02Unlike_eq (N : Nat) : runF N tt (spec_l02Unlike_T N) spec_l02Unlike_L [(.sl (.int .i64)), (.int .i64)] [.val .bool] (bodyOf Try.f107) Try.f107.ntmps [4] = (spec_l02Unlike_e N).F := by
  funext x
  kernel_rfl
theorem spec_l02Unlike_sound (N : Nat) : SoundC Try.prog 107 (spec_l02Unlike_e N) := by
  have h := runF_sound (f := 107) (code := bodyOf Try.f107) (N := N) (T := (spec_l02Unlike_T N)) (L := spec_l02Unlike_L) (ins := [(.sl (.int .i64)), (.int .i64)]) (outs := [.val .bool]) (res := [4]) mixed tt_ok ?_ Try.func107 (by kernel_rfl) rfl (by kernel_rfl) (by kernel_rfl) (by decide +kernel)
  · rw [spec_l02Unlike_eq] at h
    exact h
  · intro f e he
    unfold spec_l02Unlike_T at he
    split at he
    · rw [List.mem_singleton.1 he]; exact spec_l00In_sound N
    · rw [List.mem_singleton.1 he]; exact spec_l02Machines_sound N
    · cases he

/- spec.l04Can -/
def spec_l04Can (N : Nat) (x0 : List Int) (x1 : Int) : Option (Bool × Unit) :=
  Option.bind (spec_l02Unlike N x0 x1) fun r1 =>
  some (r1.1, ())
def spec_l04Can_e (N : Nat) : Ent := { ins := [(.sl (.int .i64)), (.int .i64)], outs := [.val .bool], F := fun x => spec_l04Can N x.1 x.2.1 }
def spec_l04Can_T (N : Nat) : Nat → List EntX
  | 107 => [.pl (spec_l02Unlike_e N)]
  | _ => []
def spec_l04Can_L : Nat → List (Nat × TK) := fun _ => []
theorem spec_l04Can_eq (N : Nat) : runF N tt (spec_l04Can_T N) spec_l04Can_L [(.sl (.int .i64)), (.int .i64)] [.val .bool] (bodyOf Try.f52) Try.f52.ntmps [4] = (spec_l04Can_e N).F := by
  funext x
  kernel_rfl
theorem spec_l04Can_sound (N : Nat) : SoundC Try.prog 52 (spec_l04Can_e N) := by
  have h := runF_sound (f := 52) (code := bodyOf Try.f52) (N := N) (T := (spec_l04Can_T N)) (L := spec_l04Can_L) (ins := [(.sl (.int .i64)), (.int .i64)]) (outs := [.val .bool]) (res := [4]) mixed tt_ok ?_ Try.func52 (by kernel_rfl) rfl (by kernel_rfl) (by kernel_rfl) (by decide +kernel)
  · rw [spec_l04Can_eq] at h
    exact h
  · intro f e he
    unfold spec_l04Can_T at he
    split at he
    · rw [List.mem_singleton.1 he]; exact spec_l02Unlike_sound N
    · cases he

/- spec.l04Count -/
def spec_l04Count (_N : Nat) (x0 : List Int) (x1 : Int) : Option (Int × Unit) :=
  cond (x1 == 0) none
    (some ((w64 (Int.tdiv (List.length x0 : Int) x1)), ()))
def spec_l04Count_e (N : Nat) : Ent := { ins := [(.sl (.int .i64)), (.int .i64)], outs := [.val (.int .i64)], F := fun x => spec_l04Count N x.1 x.2.1 }
def spec_l04Count_T (_ : Nat) : Nat → List EntX := fun _ => []
def spec_l04Count_L : Nat → List (Nat × TK) := fun _ => []
theorem spec_l04Count_eq (N : Nat) : runF N tt (spec_l04Count_T N) spec_l04Count_L [(.sl (.int .i64)), (.int .i64)] [.val (.int .i64)] (bodyOf Try.f53) Try.f53.ntmps [4] = (spec_l04Count_e N).F := by
  funext x
  kernel_rfl
theorem spec_l04Count_sound (N : Nat) : SoundC Try.prog 53 (spec_l04Count_e N) := by
  have h := runF_sound (f := 53) (code := bodyOf Try.f53) (N := N) (T := (spec_l04Count_T N)) (L := spec_l04Count_L) (ins := [(.sl (.int .i64)), (.int .i64)]) (outs := [.val (.int .i64)]) (res := [4]) mixed tt_ok ?_ Try.func53 (by kernel_rfl) rfl (by kernel_rfl) (by kernel_rfl) (by decide +kernel)
  · rw [spec_l04Count_eq] at h
    exact h
  · intro f e he
    cases he

/- spec.l02Has -/
def spec_l02Has (N : Nat) (x0 : List Int) (x1 : Int) : Option (Bool × Unit) :=
  loopN (fun (s1 : Int × Unit) next2 =>
    cond (decide (s1.1 < (List.length x0 : Int)))
      (Option.bind (idx x0 s1.1) fun v3 =>
      cond (v3 == x1)
        (some (true, ()))
        (next2 ((w64 (s1.1 + 1)), ())))
      (some (false, ()))) N (0, ())
def spec_l02Has_e (N : Nat) : Ent := { ins := [(.sl (.int .i64)), (.int .i64)], outs := [.val .bool], F := fun x => spec_l02Has N x.1 x.2.1 }
def spec_l02Has_T (_ : Nat) : Nat → List EntX := fun _ => []
def spec_l02Has_L : Nat → List (Nat × TK)
  | 2 => [(5, .v (.int .i64))]
  | _ => []
theorem spec_l02Has_eq (N : Nat) : runF N tt (spec_l02Has_T N) spec_l02Has_L [(.sl (.int .i64)), (.int .i64)] [.val .bool] (bodyOf Try.f131) Try.f131.ntmps [4] = (spec_l02Has_e N).F := by
  funext x
  kernel_rfl
theorem spec_l02Has_sound (N : Nat) : SoundC Try.prog 131 (spec_l02Has_e N) := by
  have h := runF_sound (f := 131) (code := bodyOf Try.f131) (N := N) (T := (spec_l02Has_T N)) (L := spec_l02Has_L) (ins := [(.sl (.int .i64)), (.int .i64)]) (outs := [.val .bool]) (res := [4]) mixed tt_ok ?_ Try.func131 (by kernel_rfl) rfl (by kernel_rfl) (by kernel_rfl) (by decide +kernel)
  · rw [spec_l02Has_eq] at h
    exact h
  · intro f e he
    cases he

/- spec.l02Orders -/
def spec_l02Orders (N : Nat) (x0 : List Int) (x1 : Int) : Option (Bool × Unit) :=
  loopN (fun (s1 : Int × Unit) next2 =>
    cond (decide (s1.1 < (List.length x0 : Int)))
      (Option.bind (idx x0 s1.1) fun v3 =>
      Option.bind (spec_l00In N v3 0 (w64 (x1 - 1))) fun r4 =>
      cond (!r4.1)
        (some (false, ()))
        (cond (decide (0 ≤ s1.1) && decide (s1.1 ≤ (List.length x0 : Int)))
          (Option.bind (idx x0 s1.1) fun v5 =>
          Option.bind (spec_l02Has N (List.take (Int.toNat s1.1) x0) v5) fun r6 =>
          cond r6.1
            (some (false, ()))
            (next2 ((w64 (s1.1 + 1)), ()))) none))
      (some (((List.length x0 : Int) == x1), ()))) N (0, ())
def spec_l02Orders_e (N : Nat) : Ent := { ins := [(.sl (.int .i64)), (.int .i64)], outs := [.val .bool], F := fun x => spec_l02Orders N x.1 x.2.1 }
def spec_l02Orders_T (N : Nat) : Nat → List EntX
  | 114 => [.pl (spec_l00In_e N)]
  | 131 => [.pl (spec_l02Has_e N)]
  | _ => []
def spec_l02Orders_L : Nat → List (Nat × TK)
  | 2 => [(5, .v (.int .i64))]
  | _ => []
theorem spec_l02Orders_eq (N : Nat) : runF N tt (spec_l02Orders_T N) spec_l02Orders_L [(.sl (.int .i64)), (.int .i64)] [.val .bool] (bodyOf Try.f103) Try.f103.ntmps [4] = (spec_l02Orders_e N).F := by
  funext x
  kernel_rfl
theorem spec_l02Orders_sound (N : Nat) : SoundC Try.prog 103 (spec_l02Orders_e N) := by
  have h := runF_sound (f := 103) (code := bodyOf Try.f103) (N := N) (T := (spec_l02Orders_T N)) (L := spec_l02Orders_L) (ins := [(.sl (.int .i64)), (.int .i64)]) (outs := [.val .bool]) (res := [4]) mixed tt_ok ?_ Try.func103 (by kernel_rfl) rfl (by kernel_rfl) (by kernel_rfl) (by decide +kernel)
  · rw [spec_l02Orders_eq] at h
    exact h
  · intro f e he
    unfold spec_l02Orders_T at he
    split at he
    · rw [List.mem_singleton.1 he]; exact spec_l00In_sound N
    · rw [List.mem_singleton.1 he]; exact spec_l02Has_sound N
    · cases he

/- spec.l04Flow -/
def spec_l04Flow (N : Nat) (x0 : List Int) (x1 : Int) (x2 : List Int) : Option (Bool × Unit) :=
  Option.bind (spec_l04Can N x0 x1) fun r1 =>
  cond r1.1
    (Option.bind (spec_l04Count N x0 x1) fun r2 =>
    Option.bind (spec_l02Orders N x2 r2.1) fun r3 =>
    some (r3.1, ()))
    (some (false, ()))
def spec_l04Flow_e (N : Nat) : Ent := { ins := [(.sl (.int .i64)), (.int .i64), (.sl (.int .i64))], outs := [.val .bool], F := fun x => spec_l04Flow N x.1 x.2.1 x.2.2.1 }
def spec_l04Flow_T (N : Nat) : Nat → List EntX
  | 52 => [.pl (spec_l04Can_e N)]
  | 53 => [.pl (spec_l04Count_e N)]
  | 103 => [.pl (spec_l02Orders_e N)]
  | _ => []
def spec_l04Flow_L : Nat → List (Nat × TK) := fun _ => []
theorem spec_l04Flow_eq (N : Nat) : runF N tt (spec_l04Flow_T N) spec_l04Flow_L [(.sl (.int .i64)), (.int .i64), (.sl (.int .i64))] [.val .bool] (bodyOf Try.f46) Try.f46.ntmps [6] = (spec_l04Flow_e N).F := by
  funext x
  kernel_rfl
theorem spec_l04Flow_sound (N : Nat) : SoundC Try.prog 46 (spec_l04Flow_e N) := by
  have h := runF_sound (f := 46) (code := bodyOf Try.f46) (N := N) (T := (spec_l04Flow_T N)) (L := spec_l04Flow_L) (ins := [(.sl (.int .i64)), (.int .i64), (.sl (.int .i64))]) (outs := [.val .bool]) (res := [6]) mixed tt_ok ?_ Try.func46 (by kernel_rfl) rfl (by kernel_rfl) (by kernel_rfl) (by decide +kernel)
  · rw [spec_l04Flow_eq] at h
    exact h
  · intro f e he
    unfold spec_l04Flow_T at he
    split at he
    · rw [List.mem_singleton.1 he]; exact spec_l04Can_sound N
    · rw [List.mem_singleton.1 he]; exact spec_l04Count_sound N
    · rw [List.mem_singleton.1 he]; exact spec_l02Orders_sound N
    · cases he

/- spec.l02Sum -/
def spec_l02Sum (N : Nat) (x0 : List Int) : Option (Int × Unit) :=
  loopN (fun (s1 : Int × Int × Unit) next2 =>
    cond (decide (s1.2.1 < (List.length x0 : Int)))
      (Option.bind (idx x0 s1.2.1) fun v3 =>
      next2 ((w64 (s1.1 + v3)), (w64 (s1.2.1 + 1)), ()))
      (some (s1.1, ()))) N (0, 0, ())
def spec_l02Sum_e (N : Nat) : Ent := { ins := [(.sl (.int .i64))], outs := [.val (.int .i64)], F := fun x => spec_l02Sum N x.1 }
def spec_l02Sum_T (_ : Nat) : Nat → List EntX := fun _ => []
def spec_l02Sum_L : Nat → List (Nat × TK)
  | 3 => [(3, .v (.int .i64)), (4, .v (.int .i64))]
  | _ => []
theorem spec_l02Sum_eq (N : Nat) : runF N tt (spec_l02Sum_T N) spec_l02Sum_L [(.sl (.int .i64))] [.val (.int .i64)] (bodyOf Try.f104) Try.f104.ntmps [2] = (spec_l02Sum_e N).F := by
  funext x
  kernel_rfl
theorem spec_l02Sum_sound (N : Nat) : SoundC Try.prog 104 (spec_l02Sum_e N) := by
  have h := runF_sound (f := 104) (code := bodyOf Try.f104) (N := N) (T := (spec_l02Sum_T N)) (L := spec_l02Sum_L) (ins := [(.sl (.int .i64))]) (outs := [.val (.int .i64)]) (res := [2]) mixed tt_ok ?_ Try.func104 (by kernel_rfl) rfl (by kernel_rfl) (by kernel_rfl) (by decide +kernel)
  · rw [spec_l02Sum_eq] at h
    exact h
  · intro f e he
    cases he

/- spec.l04Job -/
def spec_l04Job (N : Nat) (x0 : List Int) (x1 : Int) (x2 : Int) : Option (Int × Unit) :=
  cond (decide (0 ≤ (w64 (x2 * x1))) && decide ((w64 (x2 * x1)) ≤ (w64 ((w64 (x2 + 1)) * x1))) && decide ((w64 ((w64 (x2 + 1)) * x1)) ≤ (List.length x0 : Int)))
    (Option.bind (spec_l02Sum N (List.drop (Int.toNat (w64 (x2 * x1))) (List.take (Int.toNat (w64 ((w64 (x2 + 1)) * x1))) x0))) fun r1 =>
    some (r1.1, ())) none
def spec_l04Job_e (N : Nat) : Ent := { ins := [(.sl (.int .i64)), (.int .i64), (.int .i64)], outs := [.val (.int .i64)], F := fun x => spec_l04Job N x.1 x.2.1 x.2.2.1 }
def spec_l04Job_T (N : Nat) : Nat → List EntX
  | 104 => [.pl (spec_l02Sum_e N)]
  | _ => []
def spec_l04Job_L : Nat → List (Nat × TK) := fun _ => []
theorem spec_l04Job_eq (N : Nat) : runF N tt (spec_l04Job_T N) spec_l04Job_L [(.sl (.int .i64)), (.int .i64), (.int .i64)] [.val (.int .i64)] (bodyOf Try.f47) Try.f47.ntmps [6] = (spec_l04Job_e N).F := by
  funext x
  kernel_rfl
theorem spec_l04Job_sound (N : Nat) : SoundC Try.prog 47 (spec_l04Job_e N) := by
  have h := runF_sound (f := 47) (code := bodyOf Try.f47) (N := N) (T := (spec_l04Job_T N)) (L := spec_l04Job_L) (ins := [(.sl (.int .i64)), (.int .i64), (.int .i64)]) (outs := [.val (.int .i64)]) (res := [6]) mixed tt_ok ?_ Try.func47 (by kernel_rfl) rfl (by kernel_rfl) (by kernel_rfl) (by decide +kernel)
  · rw [spec_l04Job_eq] at h
    exact h
  · intro f e he
    unfold spec_l04Job_T at he
    split at he
    · rw [List.mem_singleton.1 he]; exact spec_l02Sum_sound N
    · cases he

/- spec.l00Max -/
def spec_l00Max (_N : Nat) (x0 : Int) (x1 : Int) : Option (Int × Unit) :=
  cond (decide (x0 > x1))
    (some (x0, ()))
    (some (x1, ()))
def spec_l00Max_e (N : Nat) : Ent := { ins := [(.int .i64), (.int .i64)], outs := [.val (.int .i64)], F := fun x => spec_l00Max N x.1 x.2.1 }
def spec_l00Max_T (_ : Nat) : Nat → List EntX := fun _ => []
def spec_l00Max_L : Nat → List (Nat × TK) := fun _ => []
theorem spec_l00Max_eq (N : Nat) : runF N tt (spec_l00Max_T N) spec_l00Max_L [(.int .i64), (.int .i64)] [.val (.int .i64)] (bodyOf Try.f61) Try.f61.ntmps [4] = (spec_l00Max_e N).F := by
  funext x
  kernel_rfl
theorem spec_l00Max_sound (N : Nat) : SoundC Try.prog 61 (spec_l00Max_e N) := by
  have h := runF_sound (f := 61) (code := bodyOf Try.f61) (N := N) (T := (spec_l00Max_T N)) (L := spec_l00Max_L) (ins := [(.int .i64), (.int .i64)]) (outs := [.val (.int .i64)]) (res := [4]) mixed tt_ok ?_ Try.func61 (by kernel_rfl) rfl (by kernel_rfl) (by kernel_rfl) (by decide +kernel)
  · rw [spec_l00Max_eq] at h
    exact h
  · intro f e he
    cases he

/- spec.l04Gap -/
def spec_l04Gap (N : Nat) (x0 : List Int) (x1 : Int) (x2 : Int) (x3 : Int) : Option (Int × Unit) :=
  loopN (fun (s1 : Int × Int × Int × Int × Unit) next2 =>
    cond (decide (s1.2.2.2.1 < x1))
      (Option.bind (idx x0 (w64 ((w64 (x2 * x1)) + s1.2.2.2.1))) fun v3 =>
      Option.bind (spec_l00Max N s1.1 (w64 ((w64 (s1.2.1 + v3)) - s1.2.2.1))) fun r4 =>
      Option.bind (idx x0 (w64 ((w64 (x3 * x1)) + s1.2.2.2.1))) fun v5 =>
      next2 (r4.1, (w64 (s1.2.1 + v3)), (w64 (s1.2.2.1 + v5)), (w64 (s1.2.2.2.1 + 1)), ()))
      (some (s1.1, ()))) N (0, 0, 0, 0, ())
def spec_l04Gap_e (N : Nat) : Ent := { ins := [(.sl (.int .i64)), (.int .i64), (.int .i64), (.int .i64)], outs := [.val (.int .i64)], F := fun x => spec_l04Gap N x.1 x.2.1 x.2.2.1 x.2.2.2.1 }
def spec_l04Gap_T (N : Nat) : Nat → List EntX
  | 61 => [.pl (spec_l00Max_e N)]
  | _ => []
def spec_l04Gap_L : Nat → List (Nat × TK)
  | 5 => [(9, .v (.int .i64)), (10, .v (.int .i64)), (11, .v (.int .i64)), (12, .v (.int .i64))]
  | _ => []
theorem spec_l04Gap_eq (N : Nat) : runF N tt (spec_l04Gap_T N) spec_l04Gap_L [(.sl (.int .i64)), (.int .i64), (.int .i64), (.int .i64)] [.val (.int .i64)] (bodyOf Try.f48) Try.f48.ntmps [8] = (spec_l04Gap_e N).F := by
  funext x
  kernel_rfl
theorem spec_l04Gap_sound (N : Nat) : SoundC Try.prog 48 (spec_l04Gap_e N) := by
  have h := runF_sound (f := 48) (code := bodyOf Try.f48) (N := N) (T := (spec_l04Gap_T N)) (L := spec_l04Gap_L) (ins := [(.sl (.int .i64)), (.int .i64), (.int .i64), (.int .i64)]) (outs := [.val (.int .i64)]) (res := [8]) mixed tt_ok ?_ Try.func48 (by kernel_rfl) rfl (by kernel_rfl) (by kernel_rfl) (by decide +kernel)
  · rw [spec_l04Gap_eq] at h
    exact h
  · intro f e he
    unfold spec_l04Gap_T at he
    split at he
    · rw [List.mem_singleton.1 he]; exact spec_l00Max_sound N
    · cases he

/- spec.NoWaitLast -/
def spec_NoWaitLast (N : Nat) (x0 : List Int) (x1 : Int) (x2 : List Int) : Option (Int × Bool × Unit) :=
  Option.bind (spec_l04Flow N x0 x1 x2) fun r1 =>
  cond (!r1.1)
    (some (0, false, ()))
    (Option.bind (idx x2 (w64 ((List.length x2 : Int) - 1))) fun v2 =>
    Option.bind (spec_l04Job N x0 x1 v2) fun r3 =>
    loopN (fun (s4 : Int × Int × Unit) next5 =>
      cond (decide (s4.2.1 < (List.length x2 : Int)))
        (Option.bind (idx x2 (w64 (s4.2.1 - 1))) fun v6 =>
        Option.bind (idx x2 s4.2.1) fun v7 =>
        Option.bind (spec_l04Gap N x0 x1 v6 v7) fun r8 =>
        next5 ((w64 (s4.1 + r8.1)), (w64 (s4.2.1 + 1)), ()))
        (some (s4.1, true, ()))) N (r3.1, 1, ()))
def spec_NoWaitLast_e (N : Nat) : Ent := { ins := [(.sl (.int .i64)), (.int .i64), (.sl (.int .i64))], outs := [.val (.int .i64), .val .bool], F := fun x => spec_NoWaitLast N x.1 x.2.1 x.2.2.1 }
def spec_NoWaitLast_T (N : Nat) : Nat → List EntX
  | 46 => [.pl (spec_l04Flow_e N)]
  | 47 => [.pl (spec_l04Job_e N)]
  | 48 => [.pl (spec_l04Gap_e N)]
  | _ => []
def spec_NoWaitLast_L : Nat → List (Nat × TK)
  | 5 => [(8, .v (.int .i64)), (9, .v (.int .i64))]
  | _ => []
theorem spec_NoWaitLast_eq (N : Nat) : runF N tt (spec_NoWaitLast_T N) spec_NoWaitLast_L [(.sl (.int .i64)), (.int .i64), (.sl (.int .i64))] [.val (.int .i64), .val .bool] (bodyOf Try.f15) Try.f15.ntmps [6, 7] = (spec_NoWaitLast_e N).F := by
  funext x
  kernel_rfl
theorem spec_NoWaitLast_sound (N : Nat) : SoundC Try.prog 15 (spec_NoWaitLast_e N) := by
  have h := runF_sound (f := 15) (code := bodyOf Try.f15) (N := N) (T := (spec_NoWaitLast_T N)) (L := spec_NoWaitLast_L) (ins := [(.sl (.int .i64)), (.int .i64), (.sl (.int .i64))]) (outs := [.val (.int .i64), .val .bool]) (res := [6, 7]) mixed tt_ok ?_ Try.func15 (by kernel_rfl) rfl (by kernel_rfl) (by kernel_rfl) (by decide +kernel)
  · rw [spec_NoWaitLast_eq] at h
    exact h
  · intro f e he
    unfold spec_NoWaitLast_T at he
    split at he
    · rw [List.mem_singleton.1 he]; exact spec_l04Flow_sound N
    · rw [List.mem_singleton.1 he]; exact spec_l04Job_sound N
    · rw [List.mem_singleton.1 he]; exact spec_l04Gap_sound N
    · cases he

/- laws.toInt64S -/
def laws_toInt64S (N : Nat) (x0 : List Int) : Option (List (Int) × Unit) :=
  cond (mkOk (List.length x0 : Int) (List.length x0 : Int))
    (let xs1 := (List.replicate (Int.toNat (List.length x0 : Int)) (0 : Int) : List (Int))
    loopN (fun (s2 : List (Int) × Int × Unit) next3 =>
      cond (decide (s2.2.1 < (List.length x0 : Int)))
        (Option.bind (idx x0 s2.2.1) fun v4 =>
        cond (inB s2.2.1 (List.length s2.1))
          (let xs5 := (List.set s2.1 (Int.toNat s2.2.1) v4)
          next3 (xs5, (w64 (s2.2.1 + 1)), ())) none)
        (some (s2.1, ()))) N (xs1, 0, ())) none
def laws_toInt64S_e (N : Nat) : Ent := { ins := [(.sl (.int .i64))], outs := [.own (.int .i64)], F := fun x => laws_toInt64S N x.1 }
def laws_toInt64S_T (_ : Nat) : Nat → List EntX := fun _ => []
def laws_toInt64S_L : Nat → List (Nat × TK)
  | 3 => [(3, .own (.int .i64)), (4, .v (.int .i64))]
  | _ => []
theorem laws_toInt64S_eq (N : Nat) : runF N tt (laws_toInt64S_T N) laws_toInt64S_L [(.sl (.int .i64))] [.own (.int .i64)] (bodyOf Try.f16) Try.f16.ntmps [2] = (laws_toInt64S_e N).F := by
  funext x
  kernel_rfl
theorem laws_toInt64S_sound (N : Nat) : SoundC Try.prog 16 (laws_toInt64S_e N) := by
  have h := runF_sound (f := 16) (code := bodyOf Try.f16) (N := N) (T := (laws_toInt64S_T N)) (L := laws_toInt64S_L) (ins := [(.sl (.int .i64))]) (outs := [.own (.int .i64)]) (res := [2]) mixed tt_ok ?_ Try.func16 (by kernel_rfl) rfl (by kernel_rfl) (by kernel_rfl) (by decide +kernel)
  · rw [laws_toInt64S_eq] at h
    exact h
  · intro f e he
    cases he

/- impl.within -/
def impl_within (_N : Nat) (x0 : Int) (x1 : Int) (x2 : Int) : Option (Bool × Unit) :=
  cond (decide (x0 ≥ x1))
    (some ((decide (x0 ≤ x2)), ()))
    (some (false, ()))
def impl_within_e (N : Nat) : Ent := { ins := [(.int .i64), (.int .i64), (.int .i64)], outs := [.val .bool], F := fun x => impl_within N x.1 x.2.1 x.2.2.1 }
def impl_within_T (_ : Nat) : Nat → List EntX := fun _ => []
def impl_within_L : Nat → List (Nat × TK) := fun _ => []
theorem impl_within_eq (N : Nat) : runF N tt (impl_within_T N) impl_within_L [(.int .i64), (.int .i64), (.int .i64)] [.val .bool] (bodyOf Try.f117) Try.f117.ntmps [6] = (impl_within_e N).F := by
  funext x
  kernel_rfl
theorem impl_within_sound (N : Nat) : SoundC Try.prog 117 (impl_within_e N) := by
  have h := runF_sound (f := 117) (code := bodyOf Try.f117) (N := N) (T := (impl_within_T N)) (L := impl_within_L) (ins := [(.int .i64), (.int .i64), (.int .i64)]) (outs := [.val .bool]) (res := [6]) mixed tt_ok ?_ Try.func117 (by kernel_rfl) rfl (by kernel_rfl) (by kernel_rfl) (by decide +kernel)
  · rw [impl_within_eq] at h
    exact h
  · intro f e he
    cases he

/- impl.areMachines -/
def impl_areMachines (N : Nat) (x0 : Int) : Option (Bool × Unit) :=
  Option.bind (impl_within N x0 1 8) fun r1 =>
  some (r1.1, ())
def impl_areMachines_e (N : Nat) : Ent := { ins := [(.int .i64)], outs := [.val .bool], F := fun x => impl_areMachines N x.1 }
def impl_areMachines_T (N : Nat) : Nat → List EntX
  | 117 => [.pl (impl_within_e N)]
  | _ => []
def impl_areMachines_L : Nat → List (Nat × TK) := fun _ => []
theorem impl_areMachines_eq (N : Nat) : runF N tt (impl_areMachines_T N) impl_areMachines_L [(.int .i64)] [.val .bool] (bodyOf Try.f74) Try.f74.ntmps [2] = (impl_areMachines_e N).F := by
  funext x
  kernel_rfl
theorem impl_areMachines_sound (N : Nat) : SoundC Try.prog 74 (impl_areMachines_e N) := by
  have h := runF_sound (f := 74) (code := bodyOf Try.f74) (N := N) (T := (impl_areMachines_T N)) (L := impl_areMachines_L) (ins := [(.int .i64)]) (outs := [.val .bool]) (res := [2]) mixed tt_ok ?_ Try.func74 (by kernel_rfl) rfl (by kernel_rfl) (by kernel_rfl) (by decide +kernel)
  · rw [impl_areMachines_eq] at h
    exact h
  · intro f e he
    unfold impl_areMachines_T at he
    split at he
    · rw [List.mem_singleton.1 he]; exact impl_within_sound N
    · cases he

/- impl.areWithin -/
def impl_areWithin (N : Nat) (x0 : List Int) (x1 : Int) (x2 : Int) : Option (Bool × Unit) :=
  loopN (fun (s1 : Int × Unit) next2 =>
    cond (decide (s1.1 < (List.length x0 : Int)))
      (Option.bind (idx x0 s1.1) fun v3 =>
      Option.bind (impl_within N v3 x1 x2) fun r4 =>
      cond (!r4.1)
        (some (false, ()))
        (next2 ((w64 (s1.1 + 1)), ())))
      (some (true, ()))) N (0, ())
def impl_areWithin_e (N : Nat) : Ent := { ins := [(.sl (.int .i64)), (.int .i64), (.int .i64)], outs := [.val .bool], F := fun x => impl_areWithin N x.1 x.2.1 x.2.2.1 }
def impl_areWithin_T (N : Nat) : Nat → List EntX
  | 117 => [.pl (impl_within_e N)]
  | _ => []
def impl_areWithin_L : Nat → List (Nat × TK)
  | 2 => [(11, .v (.int .i64))]
  | _ => []
theorem impl_areWithin_eq (N : Nat) : runF N tt (impl_areWithin_T N) impl_areWithin_L [(.sl (.int .i64)), (.int .i64), (.int .i64)] [.val .bool] (bodyOf Try.f86) Try.f86.ntmps [6] = (impl_areWithin_e N).F := by
  funext x
  kernel_rfl
theorem impl_areWithin_sound (N : Nat) : SoundC Try.prog 86 (impl_areWithin_e N) := by
  have h := runF_sound (f := 86) (code := bodyOf Try.f86) (N := N) (T := (impl_areWithin_T N)) (L := impl_areWithin_L) (ins := [(.sl (.int .i64)), (.int .i64), (.int .i64)]) (outs := [.val .bool]) (res := [6]) mixed tt_ok ?_ Try.func86 (by kernel_rfl) rfl (by kernel_rfl) (by kernel_rfl) (by decide +kernel)
  · rw [impl_areWithin_eq] at h
    exact h
  · intro f e he
    unfold impl_areWithin_T at he
    split at he
    · rw [List.mem_singleton.1 he]; exact impl_within_sound N
    · cases he

/- impl.unlikeJobs -/
def impl_unlikeJobs (N : Nat) (x0 : List Int) (x1 : Int) : Option (Int × Bool × Unit) :=
  Option.bind (impl_areMachines N x1) fun r1 =>
  cond (!r1.1)
    (some (0, false, ()))
    (cond (x1 == 0) none
      (cond ((Int.tmod (List.length x0 : Int) x1) != 0)
        (some (0, false, ()))
        (Option.bind (impl_areWithin N x0 1 10000) fun r2 =>
        cond (!r2.1)
          (some (0, false, ()))
          (cond (x1 == 0) none
            (cond (decide ((w64 (Int.tdiv (List.length x0 : Int) x1)) ≥ 1))
              (some ((w64 (Int.tdiv (List.length x0 : Int) x1)), (decide ((w64 (Int.tdiv (List.length x0 : Int) x1)) ≤ 24)), ()))
              (some ((w64 (Int.tdiv (List.length x0 : Int) x1)), false, ())))))))
def impl_unlikeJobs_e (N : Nat) : Ent := { ins := [(.sl (.int .i64)), (.int .i64)], outs := [.val (.int .i64), .val .bool], F := fun x => impl_unlikeJobs N x.1 x.2.1 }
def impl_unlikeJobs_T (N : Nat) : Nat → List EntX
  | 74 => [.pl (impl_areMachines_e N)]
  | 86 => [.pl (impl_areWithin_e N)]
  | _ => []
def impl_unlikeJobs_L : Nat → List (Nat × TK) := fun _ => []
theorem impl_unlikeJobs_eq (N : Nat) : runF N tt (impl_unlikeJobs_T N) impl_unlikeJobs_L [(.sl (.int .i64)), (.int .i64)] [.val (.int .i64), .val .bool] (bodyOf Try.f108) Try.f108.ntmps [4, 5] = (impl_unlikeJobs_e N).F := by
  funext x
  kernel_rfl
theorem impl_unlikeJobs_sound (N : Nat) : SoundC Try.prog 108 (impl_unlikeJobs_e N) := by
  have h := runF_sound (f := 108) (code := bodyOf Try.f108) (N := N) (T := (impl_unlikeJobs_T N)) (L := impl_unlikeJobs_L) (ins := [(.sl (.int .i64)), (.int .i64)]) (outs := [.val (.int .i64), .val .bool]) (res := [4, 5]) mixed tt_ok ?_ Try.func108 (by kernel_rfl) rfl (by kernel_rfl) (by kernel_rfl) (by decide +kernel)
  · rw [impl_unlikeJobs_eq] at h
    exact h
  · intro f e he
    unfold impl_unlikeJobs_T at he
    split at he
    · rw [List.mem_singleton.1 he]; exact impl_areMachines_sound N
    · rw [List.mem_singleton.1 he]; exact impl_areWithin_sound N
    · cases he

/- impl.asShop -/
def impl_asShop (N : Nat) (x0 : List Int) (x1 : Int) : Option (((List Int) × Int × Int) × Bool × Unit) :=
  Option.bind (impl_unlikeJobs N x0 x1) fun r1 =>
  some ((x0, (r1.1, x1)), r1.2.1, ())
def impl_asShop_e (N : Nat) : Ent := { ins := [(.sl (.int .i64)), (.int .i64)], outs := [.val (.pair (.sl (.int .i64)) (.pair (.int .i64) (.int .i64))), .val .bool], F := fun x => impl_asShop N x.1 x.2.1 }
def impl_asShop_T (N : Nat) : Nat → List EntX
  | 108 => [.pl (impl_unlikeJobs_e N)]
  | _ => []
def impl_asShop_L : Nat → List (Nat × TK) := fun _ => []
theorem impl_asShop_eq (N : Nat) : runC N tt (impl_asShop_T N) impl_asShop_L [(.sl (.int .i64)), (.int .i64)] [.val (.pair (.sl (.int .i64)) (.pair (.int .i64) (.int .i64))), .val .bool] (bodyOf Try.f57) Try.f57.ntmps [4, 5] [(4, 60)] = (impl_asShop_e N).F := by
  funext x
  kernel_rfl
theorem impl_asShop_sound (N : Nat) : SoundC Try.prog 57 (impl_asShop_e N) := by
  have h := runC_sound (f := 57) (code := bodyOf Try.f57) (N := N) (T := (impl_asShop_T N)) (L := impl_asShop_L) (ins := [(.sl (.int .i64)), (.int .i64)]) (outs := [.val (.pair (.sl (.int .i64)) (.pair (.int .i64) (.int .i64))), .val .bool]) (res := [4, 5]) (rs := [.cell 4 60, .tmp 5]) (cells := [(4, 60)]) mixed tt_ok ?_ Try.func57 (by kernel_rfl) rfl (by kernel_rfl) (by kernel_rfl) rfl rfl (by decide) (by decide +kernel) (by decide +kernel)
  · rw [impl_asShop_eq] at h
    exact h
  · intro f e he
    unfold impl_asShop_T at he
    split at he
    · rw [List.mem_singleton.1 he]; exact impl_unlikeJobs_sound N
    · cases he

/- impl.isAll -/
def impl_isAll (N : Nat) (x0 : List Int) : Option (Bool × Unit) :=
  cond (mkOk (List.length x0 : Int) (List.length x0 : Int))
    (let xs1 := (List.replicate (Int.toNat (List.length x0 : Int)) false : List (Bool))
    loopN (fun (s2 : List (Bool) × Int × Unit) next3 =>
      cond (decide (s2.2.1 < (List.length x0 : Int)))
        (Option.bind (idx x0 s2.2.1) fun v4 =>
        Option.bind (impl_within N v4 0 (w64 ((List.length x0 : Int) - 1))) fun r5 =>
        cond (!r5.1)
          (some (false, ()))
          (cond (inB v4 (List.length s2.1))
            (Option.bind (s2.1[(Int.toNat v4)]?) fun v6 =>
            cond v6
              (some (false, ()))
              (cond (inB v4 (List.length s2.1))
                (let xs7 := (List.set s2.1 (Int.toNat v4) true)
                next3 (xs7, (w64 (s2.2.1 + 1)), ())) none)) none))
        (some (true, ()))) N (xs1, 0, ())) none
def impl_isAll_e (N : Nat) : Ent := { ins := [(.sl (.int .i64))], outs := [.val .bool], F := fun x => impl_isAll N x.1 }
def impl_isAll_T (N : Nat) : Nat → List EntX
  | 117 => [.pl (impl_within_e N)]
  | _ => []
def impl_isAll_L : Nat → List (Nat × TK)
  | 3 => [(3, .own .bool), (11, .v (.int .i64))]
  | _ => []
theorem impl_isAll_eq (N : Nat) : runF N tt (impl_isAll_T N) impl_isAll_L [(.sl (.int .i64))] [.val .bool] (bodyOf Try.f76) Try.f76.ntmps [2] = (impl_isAll_e N).F := by
  funext x
  kernel_rfl
theorem impl_isAll_sound (N : Nat) : SoundC Try.prog 76 (impl_isAll_e N) := by
  have h := runF_sound (f := 76) (code := bodyOf Try.f76) (N := N) (T := (impl_isAll_T N)) (L := impl_isAll_L) (ins := [(.sl (.int .i64))]) (outs := [.val .bool]) (res := [2]) mixed tt_ok ?_ Try.func76 (by kernel_rfl) rfl (by kernel_rfl) (by kernel_rfl) (by decide +kernel)
  · rw [impl_isAll_eq] at h
    exact h
  · intro f e he
    unfold impl_isAll_T at he
    split at he
    · rw [List.mem_singleton.1 he]; exact impl_within_sound N
    · cases he

/- impl.IsOrder -/
def impl_IsOrder (N : Nat) (x0 : List Int) (x1 : Int) : Option (Bool × Unit) :=
  Option.bind (impl_within N x1 1 24) fun r1 =>
  cond (!r1.1)
    (some (false, ()))
    (cond ((List.length x0 : Int) != x1)
      (some (false, ()))
      (Option.bind (impl_isAll N x0) fun r2 =>
      some (r2.1, ())))
def impl_IsOrder_e (N : Nat) : Ent := { ins := [(.sl (.int .i64)), (.int .i64)], outs := [.val .bool], F := fun x => impl_IsOrder N x.1 x.2.1 }
def impl_IsOrder_T (N : Nat) : Nat → List EntX
  | 76 => [.pl (impl_isAll_e N)]
  | 117 => [.pl (impl_within_e N)]
  | _ => []
def impl_IsOrder_L : Nat → List (Nat × TK) := fun _ => []
theorem impl_IsOrder_eq (N : Nat) : runF N tt (impl_IsOrder_T N) impl_IsOrder_L [(.sl (.int .i64)), (.int .i64)] [.val .bool] (bodyOf Try.f105) Try.f105.ntmps [4] = (impl_IsOrder_e N).F := by
  funext x
  kernel_rfl
theorem impl_IsOrder_sound (N : Nat) : SoundC Try.prog 105 (impl_IsOrder_e N) := by
  have h := runF_sound (f := 105) (code := bodyOf Try.f105) (N := N) (T := (impl_IsOrder_T N)) (L := impl_IsOrder_L) (ins := [(.sl (.int .i64)), (.int .i64)]) (outs := [.val .bool]) (res := [4]) mixed tt_ok ?_ Try.func105 (by kernel_rfl) rfl (by kernel_rfl) (by kernel_rfl) (by decide +kernel)
  · rw [impl_IsOrder_eq] at h
    exact h
  · intro f e he
    unfold impl_IsOrder_T at he
    split at he
    · rw [List.mem_singleton.1 he]; exact impl_isAll_sound N
    · rw [List.mem_singleton.1 he]; exact impl_within_sound N
    · cases he

/- impl.ordered -/
def impl_ordered (N : Nat) (x0 : List Int) (x1 : Int) (x2 : List Int) : Option (((List Int) × Int × Int) × Bool × Unit) :=
  Option.bind (impl_asShop N x0 x1) fun r1 =>
  cond r1.2.1
    (Option.bind (impl_IsOrder N x2 r1.1.2.1) fun r2 =>
    some ((r1.1.1, (r1.1.2.1, r1.1.2.2)), r2.1, ()))
    (some ((r1.1.1, (r1.1.2.1, r1.1.2.2)), false, ()))
def impl_ordered_e (N : Nat) : Ent := { ins := [(.sl (.int .i64)), (.int .i64), (.sl (.int .i64))], outs := [.val (.pair (.sl (.int .i64)) (.pair (.int .i64) (.int .i64))), .val .bool], F := fun x => impl_ordered N x.1 x.2.1 x.2.2.1 }
def impl_ordered_T (N : Nat) : Nat → List EntX
  | 57 => [.pl (impl_asShop_e N)]
  | 105 => [.pl (impl_IsOrder_e N)]
  | _ => []
def impl_ordered_L : Nat → List (Nat × TK) := fun _ => []
theorem impl_ordered_eq (N : Nat) : runC N tt (impl_ordered_T N) impl_ordered_L [(.sl (.int .i64)), (.int .i64), (.sl (.int .i64))] [.val (.pair (.sl (.int .i64)) (.pair (.int .i64) (.int .i64))), .val .bool] (bodyOf Try.f49) Try.f49.ntmps [6, 7] [(6, 60)] = (impl_ordered_e N).F := by
  funext x
  kernel_rfl
theorem impl_ordered_sound (N : Nat) : SoundC Try.prog 49 (impl_ordered_e N) := by
  have h := runC_sound (f := 49) (code := bodyOf Try.f49) (N := N) (T := (impl_ordered_T N)) (L := impl_ordered_L) (ins := [(.sl (.int .i64)), (.int .i64), (.sl (.int .i64))]) (outs := [.val (.pair (.sl (.int .i64)) (.pair (.int .i64) (.int .i64))), .val .bool]) (res := [6, 7]) (rs := [.cell 6 60, .tmp 7]) (cells := [(6, 60)]) mixed tt_ok ?_ Try.func49 (by kernel_rfl) rfl (by kernel_rfl) (by kernel_rfl) rfl rfl (by decide) (by decide +kernel) (by decide +kernel)
  · rw [impl_ordered_eq] at h
    exact h
  · intro f e he
    unfold impl_ordered_T at he
    split at he
    · rw [List.mem_singleton.1 he]; exact impl_asShop_sound N
    · rw [List.mem_singleton.1 he]; exact impl_IsOrder_sound N
    · cases he

/- impl.sumOf -/
def impl_sumOf (N : Nat) (x0 : List Int) : Option (Int × Unit) :=
  loopN (fun (s1 : Int × Int × Unit) next2 =>
    cond (decide (s1.2.1 < (List.length x0 : Int)))
      (Option.bind (idx x0 s1.2.1) fun v3 =>
      next2 ((w64 (s1.1 + v3)), (w64 (s1.2.1 + 1)), ()))
      (some (s1.1, ()))) N (0, 0, ())
def impl_sumOf_e (N : Nat) : Ent := { ins := [(.sl (.int .i64))], outs := [.val (.int .i64)], F := fun x => impl_sumOf N x.1 }
def impl_sumOf_T (_ : Nat) : Nat → List EntX := fun _ => []
def impl_sumOf_L : Nat → List (Nat × TK)
  | 3 => [(3, .v (.int .i64)), (8, .v (.int .i64))]
  | _ => []
theorem impl_sumOf_eq (N : Nat) : runF N tt (impl_sumOf_T N) impl_sumOf_L [(.sl (.int .i64))] [.val (.int .i64)] (bodyOf Try.f106) Try.f106.ntmps [2] = (impl_sumOf_e N).F := by
  funext x
  kernel_rfl
theorem impl_sumOf_sound (N : Nat) : SoundC Try.prog 106 (impl_sumOf_e N) := by
  have h := runF_sound (f := 106) (code := bodyOf Try.f106) (N := N) (T := (impl_sumOf_T N)) (L := impl_sumOf_L) (ins := [(.sl (.int .i64))]) (outs := [.val (.int .i64)]) (res := [2]) mixed tt_ok ?_ Try.func106 (by kernel_rfl) rfl (by kernel_rfl) (by kernel_rfl) (by decide +kernel)
  · rw [impl_sumOf_eq] at h
    exact h
  · intro f e he
    cases he

/- (impl.shop).of -/
def impl_shop_of (N : Nat) (x0 : (List Int) × Int × Int) (x1 : Int) : Option (Int × Unit) :=
  cond (decide (0 ≤ (w64 (x1 * x0.2.2))) && decide ((w64 (x1 * x0.2.2)) ≤ (w64 ((w64 (x1 + 1)) * x0.2.2))) && decide ((w64 ((w64 (x1 + 1)) * x0.2.2)) ≤ (List.length x0.1 : Int)))
    (Option.bind (impl_sumOf N (List.drop (Int.toNat (w64 (x1 * x0.2.2))) (List.take (Int.toNat (w64 ((w64 (x1 + 1)) * x0.2.2))) x0.1))) fun r1 =>
    some (r1.1, ())) none
def impl_shop_of_e (N : Nat) : Ent := { ins := [(.pair (.sl (.int .i64)) (.pair (.int .i64) (.int .i64))), (.int .i64)], outs := [.val (.int .i64)], F := fun x => impl_shop_of N x.1 x.2.1 }
def impl_shop_of_T (N : Nat) : Nat → List EntX
  | 106 => [.pl (impl_sumOf_e N)]
  | _ => []
def impl_shop_of_L : Nat → List (Nat × TK) := fun _ => []
theorem impl_shop_of_eq (N : Nat) : runF N tt (impl_shop_of_T N) impl_shop_of_L [(.pair (.sl (.int .i64)) (.pair (.int .i64) (.int .i64))), (.int .i64)] [.val (.int .i64)] (bodyOf Try.f50) Try.f50.ntmps [4] = (impl_shop_of_e N).F := by
  funext x
  kernel_rfl
theorem impl_shop_of_sound (N : Nat) : SoundC Try.prog 50 (impl_shop_of_e N) := by
  have h := runF_sound (f := 50) (code := bodyOf Try.f50) (N := N) (T := (impl_shop_of_T N)) (L := impl_shop_of_L) (ins := [(.pair (.sl (.int .i64)) (.pair (.int .i64) (.int .i64))), (.int .i64)]) (outs := [.val (.int .i64)]) (res := [4]) mixed tt_ok ?_ Try.func50 (by kernel_rfl) rfl (by kernel_rfl) (by kernel_rfl) (by decide +kernel)
  · rw [impl_shop_of_eq] at h
    exact h
  · intro f e he
    unfold impl_shop_of_T at he
    split at he
    · rw [List.mem_singleton.1 he]; exact impl_sumOf_sound N
    · cases he

/- (impl.shop).at -/
def impl_shop_at (_N : Nat) (x0 : (List Int) × Int × Int) (x1 : Int) (x2 : Int) : Option (Int × Unit) :=
  Option.bind (idx x0.1 (w64 ((w64 (x1 * x0.2.2)) + x2))) fun v1 =>
  some (v1, ())
def impl_shop_at_e (N : Nat) : Ent := { ins := [(.pair (.sl (.int .i64)) (.pair (.int .i64) (.int .i64))), (.int .i64), (.int .i64)], outs := [.val (.int .i64)], F := fun x => impl_shop_at N x.1 x.2.1 x.2.2.1 }
def impl_shop_at_T (_ : Nat) : Nat → List EntX := fun _ => []
def impl_shop_at_L : Nat → List (Nat × TK) := fun _ => []
theorem impl_shop_at_eq (N : Nat) : runF N tt (impl_shop_at_T N) impl_shop_at_L [(.pair (.sl (.int .i64)) (.pair (.int .i64) (.int .i64))), (.int .i64), (.int .i64)] [.val (.int .i64)] (bodyOf Try.f71) Try.f71.ntmps [6] = (impl_shop_at_e N).F := by
  funext x
  kernel_rfl
theorem impl_shop_at_sound (N : Nat) : SoundC Try.prog 71 (impl_shop_at_e N) := by
  have h := runF_sound (f := 71) (code := bodyOf Try.f71) (N := N) (T := (impl_shop_at_T N)) (L := impl_shop_at_L) (ins := [(.pair (.sl (.int .i64)) (.pair (.int .i64) (.int .i64))), (.int .i64), (.int .i64)]) (outs := [.val (.int .i64)]) (res := [6]) mixed tt_ok ?_ Try.func71 (by kernel_rfl) rfl (by kernel_rfl) (by kernel_rfl) (by decide +kernel)
  · rw [impl_shop_at_eq] at h
    exact h
  · intro f e he
    cases he

/- (impl.shop).gap -/
def impl_shop_gap (N : Nat) (x0 : (List Int) × Int × Int) (x1 : Int) (x2 : Int) : Option (Int × Unit) :=
  cond (x1 == x2)
    (some (0, ()))
    (loopN (fun (s1 : Int × Int × Int × Int × Unit) next2 =>
      cond (decide (s1.2.2.2.1 < x0.2.2))
        (Option.bind (impl_shop_at N (x0.1, (x0.2.1, x0.2.2)) x1 s1.2.2.2.1) fun r3 =>
        cond (s1.2.2.2.1 == 0)
          (Option.bind (impl_shop_at N (x0.1, (x0.2.1, x0.2.2)) x2 s1.2.2.2.1) fun r4 =>
          next2 ((w64 ((w64 (s1.2.1 + r3.1)) - s1.2.2.1)), (w64 (s1.2.1 + r3.1)), (w64 (s1.2.2.1 + r4.1)), (w64 (s1.2.2.2.1 + 1)), ()))
          (cond (decide ((w64 ((w64 (s1.2.1 + r3.1)) - s1.2.2.1)) > s1.1))
            (Option.bind (impl_shop_at N (x0.1, (x0.2.1, x0.2.2)) x2 s1.2.2.2.1) fun r5 =>
            next2 ((w64 ((w64 (s1.2.1 + r3.1)) - s1.2.2.1)), (w64 (s1.2.1 + r3.1)), (w64 (s1.2.2.1 + r5.1)), (w64 (s1.2.2.2.1 + 1)), ()))
            (Option.bind (impl_shop_at N (x0.1, (x0.2.1, x0.2.2)) x2 s1.2.2.2.1) fun r6 =>
            next2 (s1.1, (w64 (s1.2.1 + r3.1)), (w64 (s1.2.2.1 + r6.1)), (w64 (s1.2.2.2.1 + 1)), ()))))
        (some (s1.1, ()))) N (0, 0, 0, 0, ()))
def impl_shop_gap_e (N : Nat) : Ent := { ins := [(.pair (.sl (.int .i64)) (.pair (.int .i64) (.int .i64))), (.int .i64), (.int .i64)], outs := [.val (.int .i64)], F := fun x => impl_shop_gap N x.1 x.2.1 x.2.2.1 }
def impl_shop_gap_T (N : Nat) : Nat → List EntX
  | 71 => [.pl (impl_shop_at_e N)]
  | _ => []
def impl_shop_gap_L : Nat → List (Nat × TK)
  | 5 => [(7, .v (.int .i64)), (8, .v (.int .i64)), (9, .v (.int .i64)), (17, .v (.int .i64))]
  | _ => []
theorem impl_shop_gap_eq (N : Nat) : runF N tt (impl_shop_gap_T N) impl_shop_gap_L [(.pair (.sl (.int .i64)) (.pair (.int .i64) (.int .i64))), (.int .i64), (.int .i64)] [.val (.int .i64)] (bodyOf Try.f51) Try.f51.ntmps [6] = (impl_shop_gap_e N).F := by
  funext x
  kernel_rfl
theorem impl_shop_gap_sound (N : Nat) : SoundC Try.prog 51 (impl_shop_gap_e N) := by
  have h := runF_sound (f := 51) (code := bodyOf Try.f51) (N := N) (T := (impl_shop_gap_T N)) (L := impl_shop_gap_L) (ins := [(.pair (.sl (.int .i64)) (.pair (.int .i64) (.int .i64))), (.int .i64), (.int .i64)]) (outs := [.val (.int .i64)]) (res := [6]) mixed tt_ok ?_ Try.func51 (by kernel_rfl) rfl (by kernel_rfl) (by kernel_rfl) (by decide +kernel)
  · rw [impl_shop_gap_eq] at h
    exact h
  · intro f e he
    unfold impl_shop_gap_T at he
    split at he
    · rw [List.mem_singleton.1 he]; exact impl_shop_at_sound N
    · cases he

/- impl.NoWaitLast -/
def impl_NoWaitLast (N : Nat) (x0 : List Int) (x1 : Int) (x2 : List Int) : Option (Int × Bool × Unit) :=
  Option.bind (impl_ordered N x0 x1 x2) fun r1 =>
  cond (!r1.2.1)
    (some (0, false, ()))
    (Option.bind (idx x2 (w64 ((List.length x2 : Int) - 1))) fun v2 =>
    Option.bind (impl_shop_of N (r1.1.1, (r1.1.2.1, r1.1.2.2)) v2) fun r3 =>
    cond (decide (0 ≤ 1) && decide (1 ≤ (List.length x2 : Int)))
      (loopN (fun (s4 : Int × Int × Unit) next5 =>
        cond (decide (s4.2.1 < (List.length (List.drop (Int.toNat 1) x2) : Int)))
          (Option.bind (idx (List.drop (Int.toNat 1) x2) s4.2.1) fun v6 =>
          Option.bind (idx x2 s4.2.1) fun v7 =>
          Option.bind (impl_shop_gap N (r1.1.1, (r1.1.2.1, r1.1.2.2)) v7 v6) fun r8 =>
          next5 ((w64 (s4.1 + r8.1)), (w64 (s4.2.1 + 1)), ()))
          (some (s4.1, true, ()))) N (r3.1, 0, ())) none)
def impl_NoWaitLast_e (N : Nat) : Ent := { ins := [(.sl (.int .i64)), (.int .i64), (.sl (.int .i64))], outs := [.val (.int .i64), .val .bool], F := fun x => impl_NoWaitLast N x.1 x.2.1 x.2.2.1 }
def impl_NoWaitLast_T (N : Nat) : Nat → List EntX
  | 49 => [.pl (impl_ordered_e N)]
  | 50 => [.pl (impl_shop_of_e N)]
  | 51 => [.pl (impl_shop_gap_e N)]
  | _ => []
def impl_NoWaitLast_L : Nat → List (Nat × TK)
  | 6 => [(10, .v (.int .i64)), (33, .v (.int .i64))]
  | _ => []
theorem impl_NoWaitLast_eq (N : Nat) : runF N tt (impl_NoWaitLast_T N) impl_NoWaitLast_L [(.sl (.int .i64)), (.int .i64), (.sl (.int .i64))] [.val (.int .i64), .val .bool] (bodyOf Try.f17) Try.f17.ntmps [6, 7] = (impl_NoWaitLast_e N).F := by
  funext x
  kernel_rfl
theorem impl_NoWaitLast_sound (N : Nat) : SoundC Try.prog 17 (impl_NoWaitLast_e N) := by
  have h := runF_sound (f := 17) (code := bodyOf Try.f17) (N := N) (T := (impl_NoWaitLast_T N)) (L := impl_NoWaitLast_L) (ins := [(.sl (.int .i64)), (.int .i64), (.sl (.int .i64))]) (outs := [.val (.int .i64), .val .bool]) (res := [6, 7]) mixed tt_ok ?_ Try.func17 (by kernel_rfl) rfl (by kernel_rfl) (by kernel_rfl) (by decide +kernel)
  · rw [impl_NoWaitLast_eq] at h
    exact h
  · intro f e he
    unfold impl_NoWaitLast_T at he
    split at he
    · rw [List.mem_singleton.1 he]; exact impl_ordered_sound N
    · rw [List.mem_singleton.1 he]; exact impl_shop_of_sound N
    · rw [List.mem_singleton.1 he]; exact impl_shop_gap_sound N
    · cases he

/- laws.eqInt64S -/
def laws_eqInt64S (N : Nat) (x0 : List Int) (x1 : List Int) : Option (Bool × Unit) :=
  cond ((List.length x0 : Int) != (List.length x1 : Int))
    (some (false, ()))
    (loopN (fun (s1 : Int × Unit) next2 =>
      cond (decide (s1.1 < (List.length x0 : Int)))
        (Option.bind (idx x0 s1.1) fun v3 =>
        Option.bind (idx x1 s1.1) fun v4 =>
        cond (v3 != v4)
          (some (false, ()))
          (next2 ((w64 (s1.1 + 1)), ())))
        (some (true, ()))) N (0, ()))
def laws_eqInt64S_e (N : Nat) : Ent := { ins := [(.sl (.int .i64)), (.sl (.int .i64))], outs := [.val .bool], F := fun x => laws_eqInt64S N x.1 x.2.1 }
def laws_eqInt64S_T (_ : Nat) : Nat → List EntX := fun _ => []
def laws_eqInt64S_L : Nat → List (Nat × TK)
  | 4 => [(5, .v (.int .i64))]
  | _ => []
theorem laws_eqInt64S_eq (N : Nat) : runF N tt (laws_eqInt64S_T N) laws_eqInt64S_L [(.sl (.int .i64)), (.sl (.int .i64))] [.val .bool] (bodyOf Try.f18) Try.f18.ntmps [4] = (laws_eqInt64S_e N).F := by
  funext x
  kernel_rfl
theorem laws_eqInt64S_sound (N : Nat) : SoundC Try.prog 18 (laws_eqInt64S_e N) := by
  have h := runF_sound (f := 18) (code := bodyOf Try.f18) (N := N) (T := (laws_eqInt64S_T N)) (L := laws_eqInt64S_L) (ins := [(.sl (.int .i64)), (.sl (.int .i64))]) (outs := [.val .bool]) (res := [4]) mixed tt_ok ?_ Try.func18 (by kernel_rfl) rfl (by kernel_rfl) (by kernel_rfl) (by decide +kernel)
  · rw [laws_eqInt64S_eq] at h
    exact h
  · intro f e he
    cases he

/- laws.FnExactNoWaitLast -/
def laws_FnExactNoWaitLast (N : Nat) (x0 : List Int) (x1 : Int) (x2 : List Int) : Option (Bool × Unit) :=
  cond (decide ((List.length x0 : Int) > 1048576))
    (some (true, ()))
    (cond (decide ((List.length x2 : Int) > 1048576))
      (some (true, ()))
      (Option.bind (laws_toInt64S N x0) fun r1 =>
      Option.bind (laws_toInt64S N x2) fun r2 =>
      Option.bind (spec_NoWaitLast N r1.1 x1 r2.1) fun r3 =>
      Option.bind (laws_toInt64S N x0) fun r4 =>
      Option.bind (laws_toInt64S N x2) fun r5 =>
      Option.bind (impl_NoWaitLast N r4.1 x1 r5.1) fun r6 =>
      cond (r6.1 != r3.1)
        (some (false, ()))
        (cond (!(r6.2.1 == r3.2.1))
          (some (false, ()))
          (Option.bind (laws_toInt64S N x0) fun r7 =>
          Option.bind (laws_eqInt64S N r4.1 r7.1) fun r8 =>
          cond (!r8.1)
            (some (false, ()))
            (Option.bind (laws_toInt64S N x2) fun r9 =>
            Option.bind (laws_eqInt64S N r5.1 r9.1) fun r10 =>
            cond (!r10.1)
              (some (false, ()))
              (some (true, ())))))))
def laws_FnExactNoWaitLast_e (N : Nat) : Ent := { ins := [(.sl (.int .i64)), (.int .i64), (.sl (.int .i64))], outs := [.val .bool], F := fun x => laws_FnExactNoWaitLast N x.1 x.2.1 x.2.2.1 }
def laws_FnExactNoWaitLast_T (N : Nat) : Nat → List EntX
  | 15 => [.pl (spec_NoWaitLast_e N)]
  | 16 => [.pl (laws_toInt64S_e N)]
  | 17 => [.pl (impl_NoWaitLast_e N)]
  | 18 => [.pl (laws_eqInt64S_e N)]
  | _ => []
def laws_FnExactNoWaitLast_L : Nat → List (Nat × TK) := fun _ => []
theorem laws_FnExactNoWaitLast_eq (N : Nat) : runF N tt (laws_FnExactNoWaitLast_T N) laws_FnExactNoWaitLast_L [(.sl (.int .i64)), (.int .i64), (.sl (.int .i64))] [.val .bool] (bodyOf Try.f3) Try.f3.ntmps [6] = (laws_FnExactNoWaitLast_e N).F := by
  funext x
  kernel_rfl
theorem laws_FnExactNoWaitLast_sound (N : Nat) : SoundC Try.prog 3 (laws_FnExactNoWaitLast_e N) := by
  have h := runF_sound (f := 3) (code := bodyOf Try.f3) (N := N) (T := (laws_FnExactNoWaitLast_T N)) (L := laws_FnExactNoWaitLast_L) (ins := [(.sl (.int .i64)), (.int .i64), (.sl (.int .i64))]) (outs := [.val .bool]) (res := [6]) mixed tt_ok ?_ Try.func3 (by kernel_rfl) rfl (by kernel_rfl) (by kernel_rfl) (by decide +kernel)
  · rw [laws_FnExactNoWaitLast_eq] at h
    exact h
  · intro f e he
    unfold laws_FnExactNoWaitLast_T at he
    split at he
    · rw [List.mem_singleton.1 he]; exact spec_NoWaitLast_sound N
    · rw [List.mem_singleton.1 he]; exact laws_toInt64S_sound N
    · rw [List.mem_singleton.1 he]; exact impl_NoWaitLast_sound N
    · rw [List.mem_singleton.1 he]; exact laws_eqInt64S_sound N
    · cases he

/- laws.markInt64S -/
def laws_markInt64S (N : Nat) (x0 : List Int) (x1 : Int) : Option (List (Int) × (Int × Unit)) :=
  loopN (fun (s1 : List (Int) × Int × Int × Unit) next2 =>
    cond (decide (s1.2.2.1 < (List.length s1.1 : Int)))
      (cond (inB s1.2.2.1 (List.length s1.1))
        (let xs3 := (List.set s1.1 (Int.toNat s1.2.2.1) s1.2.1)
        next2 (xs3, (w64 (s1.2.1 + 1)), (w64 (s1.2.2.1 + 1)), ())) none)
      (some (s1.1, (s1.2.1, ())))) N (x0, x1, 0, ())
def laws_markInt64S_e (N : Nat) : EntM := { io := (.int .i64), ins := [(.int .i64)], outs := [.val (.int .i64)], F := fun xs x => laws_markInt64S N xs x.1 }
def laws_markInt64S_T (_ : Nat) : Nat → List EntX := fun _ => []
def laws_markInt64S_L : Nat → List (Nat × TK)
  | 2 => [(0, .own (.int .i64)), (1, .v (.int .i64)), (5, .v (.int .i64))]
  | _ => []
theorem laws_markInt64S_eq (N : Nat) : runM N tt (laws_markInt64S_T N) laws_markInt64S_L (.int .i64) [(.int .i64)] [.val (.int .i64)] (bodyOf Try.f21) Try.f21.ntmps [4] = (laws_markInt64S_e N).F := by
  funext xs x
  kernel_rfl
theorem laws_markInt64S_sound (N : Nat) : SoundM Try.prog 21 (laws_markInt64S_e N) := by
  have h := runM_sound (f := 21) (code := bodyOf Try.f21) (N := N) (T := (laws_markInt64S_T N)) (L := laws_markInt64S_L) (io := (.int .i64)) (ins := [(.int .i64)]) (outs := [.val (.int .i64)]) (res := [4]) mixed tt_ok ?_ Try.func21 (by kernel_rfl) rfl (by kernel_rfl) (by kernel_rfl) (by decide +kernel)
  · rw [laws_markInt64S_eq] at h
    exact h
  · intro f e he
    cases he

/- laws.heldInt64S -/
def laws_heldInt64S (N : Nat) (x0 : List Int) (x1 : Int) : Option (Int × Unit) :=
  loopN (fun (s1 : Int × Int × Unit) next2 =>
    cond (decide (s1.2.1 < (List.length x0 : Int)))
      (Option.bind (idx x0 s1.2.1) fun v3 =>
      cond (v3 != s1.1)
        (some ((-1), ()))
        (next2 ((w64 (s1.1 + 1)), (w64 (s1.2.1 + 1)), ())))
      (some (s1.1, ()))) N (x1, 0, ())
def laws_heldInt64S_e (N : Nat) : Ent := { ins := [(.sl (.int .i64)), (.int .i64)], outs := [.val (.int .i64)], F := fun x => laws_heldInt64S N x.1 x.2.1 }
def laws_heldInt64S_T (_ : Nat) : Nat → List EntX := fun _ => []
def laws_heldInt64S_L : Nat → List (Nat × TK)
  | 2 => [(1, .v (.int .i64)), (5, .v (.int .i64))]
  | _ => []
theorem laws_heldInt64S_eq (N : Nat) : runF N tt (laws_heldInt64S_T N) laws_heldInt64S_L [(.sl (.int .i64)), (.int .i64)] [.val (.int .i64)] (bodyOf Try.f22) Try.f22.ntmps [4] = (laws_heldInt64S_e N).F := by
  funext x
  kernel_rfl
theorem laws_heldInt64S_sound (N : Nat) : SoundC Try.prog 22 (laws_heldInt64S_e N) := by
  have h := runF_sound (f := 22) (code := bodyOf Try.f22) (N := N) (T := (laws_heldInt64S_T N)) (L := laws_heldInt64S_L) (ins := [(.sl (.int .i64)), (.int .i64)]) (outs := [.val (.int .i64)]) (res := [4]) mixed tt_ok ?_ Try.func22 (by kernel_rfl) rfl (by kernel_rfl) (by kernel_rfl) (by decide +kernel)
  · rw [laws_heldInt64S_eq] at h
    exact h
  · intro f e he
    cases he

/- spec.l02Times -/
def spec_l02Times (N : Nat) (x0 : List Int) : Option (Bool × Unit) :=
  loopN (fun (s1 : Int × Unit) next2 =>
    cond (decide (s1.1 < (List.length x0 : Int)))
      (Option.bind (idx x0 s1.1) fun v3 =>
      Option.bind (spec_l00In N v3 1 10000) fun r4 =>
      cond (!r4.1)
        (some (false, ()))
        (next2 ((w64 (s1.1 + 1)), ())))
      (cond (decide ((List.length x0 : Int) ≥ 1))
        (some ((decide ((List.length x0 : Int) ≤ 24)), ()))
        (some (false, ())))) N (0, ())
def spec_l02Times_e (N : Nat) : Ent := { ins := [(.sl (.int .i64))], outs := [.val .bool], F := fun x => spec_l02Times N x.1 }
def spec_l02Times_T (N : Nat) : Nat → List EntX
  | 114 => [.pl (spec_l00In_e N)]
  | _ => []
def spec_l02Times_L : Nat → List (Nat × TK)
  | 2 => [(3, .v (.int .i64))]
  | _ => []
theorem spec_l02Times_eq (N : Nat) : runF N tt (spec_l02Times_T N) spec_l02Times_L [(.sl (.int .i64))] [.val .bool] (bodyOf Try.f134) Try.f134.ntmps [2] = (spec_l02Times_e N).F := by
  funext x
  kernel_rfl
theorem spec_l02Times_sound (N : Nat) : SoundC Try.prog 134 (spec_l02Times_e N) := by
  have h := runF_sound (f := 134) (code := bodyOf Try.f134) (N := N) (T := (spec_l02Times_T N)) (L := spec_l02Times_L) (ins := [(.sl (.int .i64))]) (outs := [.val .bool]) (res := [2]) mixed tt_ok ?_ Try.func134 (by kernel_rfl) rfl (by kernel_rfl) (by kernel_rfl) (by decide +kernel)
  · rw [spec_l02Times_eq] at h
    exact h
  · intro f e he
    unfold spec_l02Times_T at he
    split at he
    · rw [List.mem_singleton.1 he]; exact spec_l00In_sound N
    · cases he

/- spec.l04Tasks -/
def spec_l04Tasks (N : Nat) (x0 : List Int) : Option (Bool × Unit) :=
  Option.bind (spec_l02Times N x0) fun r1 =>
  cond r1.1
    (some ((decide ((List.length x0 : Int) ≤ 12)), ()))
    (some (false, ()))
def spec_l04Tasks_e (N : Nat) : Ent := { ins := [(.sl (.int .i64))], outs := [.val .bool], F := fun x => spec_l04Tasks N x.1 }
def spec_l04Tasks_T (N : Nat) : Nat → List EntX
  | 134 => [.pl (spec_l02Times_e N)]
  | _ => []
def spec_l04Tasks_L : Nat → List (Nat × TK) := fun _ => []
theorem spec_l04Tasks_eq (N : Nat) : runF N tt (spec_l04Tasks_T N) spec_l04Tasks_L [(.sl (.int .i64))] [.val .bool] (bodyOf Try.f113) Try.f113.ntmps [2] = (spec_l04Tasks_e N).F := by
  funext x
  kernel_rfl
theorem spec_l04Tasks_sound (N : Nat) : SoundC Try.prog 113 (spec_l04Tasks_e N) := by
  have h := runF_sound (f := 113) (code := bodyOf Try.f113) (N := N) (T := (spec_l04Tasks_T N)) (L := spec_l04Tasks_L) (ins := [(.sl (.int .i64))]) (outs := [.val .bool]) (res := [2]) mixed tt_ok ?_ Try.func113 (by kernel_rfl) rfl (by kernel_rfl) (by kernel_rfl) (by decide +kernel)
  · rw [spec_l04Tasks_eq] at h
    exact h
  · intro f e he
    unfold spec_l04Tasks_T at he
    split at he
    · rw [List.mem_singleton.1 he]; exact spec_l02Times_sound N
    · cases he

/- spec.l04Line -/
def spec_l04Line (N : Nat) (x0 : List Int) (x1 : List Int) : Option (Bool × Unit) :=
  Option.bind (spec_l04Tasks N x0) fun r1 =>
  cond (!r1.1)
    (some (false, ()))
    (cond ((List.length x1 : Int) != (List.length x0 : Int))
      (some (false, ()))
      (loopN (fun (s2 : Int × Unit) next3 =>
        cond (decide (s2.1 < (List.length x1 : Int)))
          (Option.bind (idx x1 s2.1) fun v4 =>
          cond (decide ((IntKind.wrap .u64 s2.1) < 0)) none
            (Option.bind (spec_l00In N v4 0 (w64 ((ishl .i64 1 (IntKind.wrap .u64 s2.1)) - 1))) fun r5 =>
            cond (!r5.1)
              (some (false, ()))
              (next3 ((w64 (s2.1 + 1)), ()))))
          (some (true, ()))) N (0, ())))
def spec_l04Line_e (N : Nat) : Ent := { ins := [(.sl (.int .i64)), (.sl (.int .i64))], outs := [.val .bool], F := fun x => spec_l04Line N x.1 x.2.1 }
def spec_l04Line_T (N : Nat) : Nat → List EntX
  | 113 => [.pl (spec_l04Tasks_e N)]
  | 114 => [.pl (spec_l00In_e N)]
  | _ => []
def spec_l04Line_L : Nat → List (Nat × TK)
  | 4 => [(5, .v (.int .i64))]
  | _ => []
theorem spec_l04Line_eq (N : Nat) : runF N tt (spec_l04Line_T N) spec_l04Line_L [(.sl (.int .i64)), (.sl (.int .i64))] [.val .bool] (bodyOf Try.f64) Try.f64.ntmps [4] = (spec_l04Line_e N).F := by
  funext x
  kernel_rfl
theorem spec_l04Line_sound (N : Nat) : SoundC Try.prog 64 (spec_l04Line_e N) := by
  have h := runF_sound (f := 64) (code := bodyOf Try.f64) (N := N) (T := (spec_l04Line_T N)) (L := spec_l04Line_L) (ins := [(.sl (.int .i64)), (.sl (.int .i64))]) (outs := [.val .bool]) (res := [4]) mixed tt_ok ?_ Try.func64 (by kernel_rfl) rfl (by kernel_rfl) (by kernel_rfl) (by decide +kernel)
  · rw [spec_l04Line_eq] at h
    exact h
  · intro f e he
    unfold spec_l04Line_T at he
    split at he
    · rw [List.mem_singleton.1 he]; exact spec_l04Tasks_sound N
    · rw [List.mem_singleton.1 he]; exact spec_l00In_sound N
    · cases he

/- spec.l02Greatest -/
def spec_l02Greatest (N : Nat) (x0 : List Int) : Option (Int × Unit) :=
  Option.bind (idx x0 0) fun v1 =>
  loopN (fun (s2 : Int × Int × Unit) next3 =>
    cond (decide (s2.2.1 < (List.length x0 : Int)))
      (Option.bind (idx x0 s2.2.1) fun v4 =>
      Option.bind (spec_l00Max N s2.1 v4) fun r5 =>
      next3 (r5.1, (w64 (s2.2.1 + 1)), ()))
      (some (s2.1, ()))) N (v1, 1, ())
def spec_l02Greatest_e (N : Nat) : Ent := { ins := [(.sl (.int .i64))], outs := [.val (.int .i64)], F := fun x => spec_l02Greatest N x.1 }
def spec_l02Greatest_T (N : Nat) : Nat → List EntX
  | 61 => [.pl (spec_l00Max_e N)]
  | _ => []
def spec_l02Greatest_L : Nat → List (Nat × TK)
  | 3 => [(3, .v (.int .i64)), (4, .v (.int .i64))]
  | _ => []
theorem spec_l02Greatest_eq (N : Nat) : runF N tt (spec_l02Greatest_T N) spec_l02Greatest_L [(.sl (.int .i64))] [.val (.int .i64)] (bodyOf Try.f115) Try.f115.ntmps [2] = (spec_l02Greatest_e N).F := by
  funext x
  kernel_rfl
theorem spec_l02Greatest_sound (N : Nat) : SoundC Try.prog 115 (spec_l02Greatest_e N) := by
  have h := runF_sound (f := 115) (code := bodyOf Try.f115) (N := N) (T := (spec_l02Greatest_T N)) (L := spec_l02Greatest_L) (ins := [(.sl (.int .i64))]) (outs := [.val (.int .i64)]) (res := [2]) mixed tt_ok ?_ Try.func115 (by kernel_rfl) rfl (by kernel_rfl) (by kernel_rfl) (by decide +kernel)
  · rw [spec_l02Greatest_eq] at h
    exact h
  · intro f e he
    unfold spec_l02Greatest_T at he
    split at he
    · rw [List.mem_singleton.1 he]; exact spec_l00Max_sound N
    · cases he

/- spec.l04Cycle -/
def spec_l04Cycle (N : Nat) (x0 : List Int) (x1 : Int) : Option (Bool × Unit) :=
  Option.bind (spec_l00In N x1 1 10000) fun r1 =>
  cond r1.1
    (Option.bind (spec_l02Greatest N x0) fun r2 =>
    some ((decide (r2.1 ≤ x1)), ()))
    (some (false, ()))
def spec_l04Cycle_e (N : Nat) : Ent := { ins := [(.sl (.int .i64)), (.int .i64)], outs := [.val .bool], F := fun x => spec_l04Cycle N x.1 x.2.1 }
def spec_l04Cycle_T (N : Nat) : Nat → List EntX
  | 114 => [.pl (spec_l00In_e N)]
  | 115 => [.pl (spec_l02Greatest_e N)]
  | _ => []
def spec_l04Cycle_L : Nat → List (Nat × TK) := fun _ => []
theorem spec_l04Cycle_eq (N : Nat) : runF N tt (spec_l04Cycle_T N) spec_l04Cycle_L [(.sl (.int .i64)), (.int .i64)] [.val .bool] (bodyOf Try.f65) Try.f65.ntmps [4] = (spec_l04Cycle_e N).F := by
  funext x
  kernel_rfl
theorem spec_l04Cycle_sound (N : Nat) : SoundC Try.prog 65 (spec_l04Cycle_e N) := by
  have h := runF_sound (f := 65) (code := bodyOf Try.f65) (N := N) (T := (spec_l04Cycle_T N)) (L := spec_l04Cycle_L) (ins := [(.sl (.int .i64)), (.int .i64)]) (outs := [.val .bool]) (res := [4]) mixed tt_ok ?_ Try.func65 (by kernel_rfl) rfl (by kernel_rfl) (by kernel_rfl) (by decide +kernel)
  · rw [spec_l04Cycle_eq] at h
    exact h
  · intro f e he
    unfold spec_l04Cycle_T at he
    split at he
    · rw [List.mem_singleton.1 he]; exact spec_l00In_sound N
    · rw [List.mem_singleton.1 he]; exact spec_l02Greatest_sound N
    · cases he

/- spec.LineStations -/
def spec_LineStations (N : Nat) (x0 : List Int) (x1 : List Int) (x2 : Int) : Option (List (Int) × Bool × Unit) :=
  Option.bind (spec_l04Line N x0 x1) fun r1 =>
  cond (!r1.1)
    (some ([], false, ()))
    (Option.bind (spec_l04Cycle N x0 x2) fun r2 =>
    cond (!r2.1)
      (some ([], false, ()))
      (cond (mkOk (List.length x0 : Int) (List.length x0 : Int))
        (let xs3 := (List.replicate (Int.toNat (List.length x0 : Int)) (0 : Int) : List (Int))
        loopN (fun (s4 : List (Int) × Int × Int × Int × Unit) next5 =>
          cond (decide ((IntKind.wrap .u64 (List.length x0 : Int)) < 0)) none
            (cond (s4.2.1 != (w64 ((ishl .i64 1 (IntKind.wrap .u64 (List.length x0 : Int))) - 1)))
              (loopN (fun (s6 : Int × Int × Unit) next7 =>
                cond (decide (s6.2.1 < (List.length x0 : Int)))
                  (cond (decide ((IntKind.wrap .u64 s6.2.1) < 0)) none
                    (cond ((ibits .and .i64 (ishr .i64 s4.2.1 (IntKind.wrap .u64 s6.2.1)) 1) == 1)
                      (next7 (s6.1, (w64 (s6.2.1 + 1)), ()))
                      (Option.bind (idx x1 s6.2.1) fun v8 =>
                      cond ((ibits .andNot .i64 v8 s4.2.1) != 0)
                        (next7 (s6.1, (w64 (s6.2.1 + 1)), ()))
                        (Option.bind (idx x0 s6.2.1) fun v9 =>
                        cond (decide ((w64 (s4.2.2.2.1 + v9)) > x2))
                          (next7 (s6.1, (w64 (s6.2.1 + 1)), ()))
                          (cond (decide (s6.1 < 0))
                            (next7 (s6.2.1, (w64 (s6.2.1 + 1)), ()))
                            (Option.bind (idx x0 s6.2.1) fun v10 =>
                            Option.bind (idx x0 s6.1) fun v11 =>
                            cond (decide (v10 > v11))
                              (next7 (s6.2.1, (w64 (s6.2.1 + 1)), ()))
                              (next7 (s6.1, (w64 (s6.2.1 + 1)), ()))))))))
                  (cond (decide (s6.1 < 0))
                    (next5 (s4.1, s4.2.1, (w64 (s4.2.2.1 + 1)), 0, ()))
                    (cond (inB s6.1 (List.length s4.1))
                      (let xs12 := (List.set s4.1 (Int.toNat s6.1) s4.2.2.1)
                      Option.bind (idx x0 s6.1) fun v13 =>
                      cond (decide ((IntKind.wrap .u64 s6.1) < 0)) none
                        (next5 (xs12, (ibits .or .i64 s4.2.1 (ishl .i64 1 (IntKind.wrap .u64 s6.1))), s4.2.2.1, (w64 (s4.2.2.2.1 + v13)), ()))) none))) N ((-1), 0, ()))
              (some (s4.1, true, ())))) N (xs3, 0, 0, 0, ())) none))
def spec_LineStations_e (N : Nat) : Ent := { ins := [(.sl (.int .i64)), (.sl (.int .i64)), (.int .i64)], outs := [.own (.int .i64), .val .bool], F := fun x => spec_LineStations N x.1 x.2.1 x.2.2.1 }
def spec_LineStations_T (N : Nat) : Nat → List EntX
  | 64 => [.pl (spec_l04Line_e N)]
  | 65 => [.pl (spec_l04Cycle_e N)]
  | _ => []
def spec_LineStations_L : Nat → List (Nat × TK)
  | 7 => [(8, .own (.int .i64)), (9, .v (.int .i64)), (10, .v (.int .i64)), (11, .v (.int .i64))]
  | 10 => [(12, .v (.int .i64)), (13, .v (.int .i64))]
  | _ => []
theorem spec_LineStations_eq (N : Nat) : runF N tt (spec_LineStations_T N) spec_LineStations_L [(.sl (.int .i64)), (.sl (.int .i64)), (.int .i64)] [.own (.int .i64), .val .bool] (bodyOf Try.f25) Try.f25.ntmps [6, 7] = (spec_LineStations_e N).F := by
  funext x
  kernel_rfl
theorem spec_LineStations_sound (N : Nat) : SoundC Try.prog 25 (spec_LineStations_e N) := by
  have h := runF_sound (f := 25) (code := bodyOf Try.f25) (N := N) (T := (spec_LineStations_T N)) (L := spec_LineStations_L) (ins := [(.sl (.int .i64)), (.sl (.int .i64)), (.int .i64)]) (outs := [.own (.int .i64), .val .bool]) (res := [6, 7]) mixed tt_ok ?_ Try.func25 (by kernel_rfl) rfl (by kernel_rfl) (by kernel_rfl) (by decide +kernel)
  · rw [spec_LineStations_eq] at h
    exact h
  · intro f e he
    unfold spec_LineStations_T at he
    split at he
    · rw [List.mem_singleton.1 he]; exact spec_l04Line_sound N
    · rw [List.mem_singleton.1 he]; exact spec_l04Cycle_sound N
    · cases he

/- math/bits.Mul32 -/
def math_bits_Mul32 (_N : Nat) (x0 : Int) (x1 : Int) : Option (Int × Int × Unit) :=
  some ((IntKind.wrap .u32 (ishr .u64 (IntKind.wrap .u64 ((IntKind.wrap .u64 x0) * (IntKind.wrap .u64 x1))) 32)), (IntKind.wrap .u32 (IntKind.wrap .u64 ((IntKind.wrap .u64 x0) * (IntKind.wrap .u64 x1)))), ())
def math_bits_Mul32_e (N : Nat) : Ent := { ins := [(.int .u32), (.int .u32)], outs := [.val (.int .u32), .val (.int .u32)], F := fun x => math_bits_Mul32 N x.1 x.2.1 }
def math_bits_Mul32_T (_ : Nat) : Nat → List EntX := fun _ => []
def math_bits_Mul32_L : Nat → List (Nat × TK) := fun _ => []
theorem math_bits_Mul32_eq (N : Nat) : runF N tt (math_bits_Mul32_T N) math_bits_Mul32_L [(.int .u32), (.int .u32)] [.val (.int .u32), .val (.int .u32)] (bodyOf Try.f139) Try.f139.ntmps [4, 5] = (math_bits_Mul32_e N).F := by
  funext x
  kernel_rfl
theorem math_bits_Mul32_sound (N : Nat) : SoundC Try.prog 139 (math_bits_Mul32_e N) := by
  have h := runF_sound (f := 139) (code := bodyOf Try.f139) (N := N) (T := (math_bits_Mul32_T N)) (L := math_bits_Mul32_L) (ins := [(.int .u32), (.int .u32)]) (outs := [.val (.int .u32), .val (.int .u32)]) (res := [4, 5]) mixed tt_ok ?_ Try.func139 (by kernel_rfl) rfl (by kernel_rfl) (by kernel_rfl) (by decide +kernel)
  · rw [math_bits_Mul32_eq] at h
    exact h
  · intro f e he
    cases he

/- math/bits.Mul64 -/
def math_bits_Mul64 (_N : Nat) (x0 : Int) (x1 : Int) : Option (Int × Int × Unit) :=
  some ((IntKind.wrap .u64 ((IntKind.wrap .u64 ((IntKind.wrap .u64 ((ishr .u64 x0 32) * (ishr .u64 x1 32))) + (ishr .u64 (IntKind.wrap .u64 ((IntKind.wrap .u64 ((ishr .u64 x0 32) * (ibits .and .u64 x1 4294967295))) + (ishr .u64 (IntKind.wrap .u64 ((ibits .and .u64 x0 4294967295) * (ibits .and .u64 x1 4294967295))) 32))) 32))) + (ishr .u64 (IntKind.wrap .u64 ((ibits .and .u64 (IntKind.wrap .u64 ((IntKind.wrap .u64 ((ishr .u64 x0 32) * (ibits .and .u64 x1 4294967295))) + (ishr .u64 (IntKind.wrap .u64 ((ibits .and .u64 x0 4294967295) * (ibits .and .u64 x1 4294967295))) 32))) 4294967295) + (IntKind.wrap .u64 ((ibits .and .u64 x0 4294967295) * (ishr .u64 x1 32))))) 32))), (IntKind.wrap .u64 (x0 * x1)), ())
def math_bits_Mul64_e (N : Nat) : Ent := { ins := [(.int .u64), (.int .u64)], outs := [.val (.int .u64), .val (.int .u64)], F := fun x => math_bits_Mul64 N x.1 x.2.1 }
def math_bits_Mul64_T (_ : Nat) : Nat → List EntX := fun _ => []
def math_bits_Mul64_L : Nat → List (Nat × TK) := fun _ => []
theorem math_bits_Mul64_eq (N : Nat) : runF N tt (math_bits_Mul64_T N) math_bits_Mul64_L [(.int .u64), (.int .u64)] [.val (.int .u64), .val (.int .u64)] (bodyOf Try.f140) Try.f140.ntmps [4, 5] = (math_bits_Mul64_e N).F := by
  funext x
  kernel_rfl
theorem math_bits_Mul64_sound (N : Nat) : SoundC Try.prog 140 (math_bits_Mul64_e N) := by
  have h := runF_sound (f := 140) (code := bodyOf Try.f140) (N := N) (T := (math_bits_Mul64_T N)) (L := math_bits_Mul64_L) (ins := [(.int .u64), (.int .u64)]) (outs := [.val (.int .u64), .val (.int .u64)]) (res := [4, 5]) mixed tt_ok ?_ Try.func140 (by kernel_rfl) rfl (by kernel_rfl) (by kernel_rfl) (by decide +kernel)
  · rw [math_bits_Mul64_eq] at h
    exact h
  · intro f e he
    cases he

/- math/bits.Mul -/
def math_bits_Mul (N : Nat) (x0 : Int) (x1 : Int) : Option (Int × Int × Unit) :=
  Option.bind (math_bits_Mul64 N x0 x1) fun r1 =>
  some (r1.1, r1.2.1, ())
def math_bits_Mul_e (N : Nat) : Ent := { ins := [(.int .u64), (.int .u64)], outs := [.val (.int .u64), .val (.int .u64)], F := fun x => math_bits_Mul N x.1 x.2.1 }
def math_bits_Mul_T (N : Nat) : Nat → List EntX
  | 140 => [.pl (math_bits_Mul64_e N)]
  | _ => []
def math_bits_Mul_L : Nat → List (Nat × TK) := fun _ => []
theorem math_bits_Mul_eq (N : Nat) : runF N tt (math_bits_Mul_T N) math_bits_Mul_L [(.int .u64), (.int .u64)] [.val (.int .u64), .val (.int .u64)] (bodyOf Try.f133) Try.f133.ntmps [4, 5] = (math_bits_Mul_e N).F := by
  funext x
  kernel_rfl
theorem math_bits_Mul_sound (N : Nat) : SoundC Try.prog 133 (math_bits_Mul_e N) := by
  have h := runF_sound (f := 133) (code := bodyOf Try.f133) (N := N) (T := (math_bits_Mul_T N)) (L := math_bits_Mul_L) (ins := [(.int .u64), (.int .u64)]) (outs := [.val (.int .u64), .val (.int .u64)]) (res := [4, 5]) mixed tt_ok ?_ Try.func133 (by kernel_rfl) rfl (by kernel_rfl) (by kernel_rfl) (by decide +kernel)
  · rw [math_bits_Mul_eq] at h
    exact h
  · intro f e he
    unfold math_bits_Mul_T at he
    split at he
    · rw [List.mem_singleton.1 he]; exact math_bits_Mul64_sound N
    · cases he

/- slices.Repeat[[]int64,int64] -/
def slices_Repeat_int64_int64 (N : Nat) (x0 : List Int) (x1 : Int) : Option (List (Int) × Unit) :=
  cond (decide (x1 < 0))
    (none)
    (Option.bind (math_bits_Mul N (IntKind.wrap .u64 (List.length x0 : Int)) (IntKind.wrap .u64 x1)) fun r1 =>
    cond (decide (r1.1 > 0))
      (none)
      (cond (decide (r1.2.1 > 9223372036854775807))
        (none)
        (cond (mkOk (IntKind.wrap .i64 r1.2.1) (IntKind.wrap .i64 r1.2.1))
          (let xs2 := (List.replicate (Int.toNat (IntKind.wrap .i64 r1.2.1)) (0 : Int) : List (Int))
          let xs3 := (copyL xs2 0 (copyN (List.length xs2) x0) x0)
          loopN (fun (s4 : List (Int) × Int × Unit) next5 =>
            cond (decide (s4.2.1 < (List.length s4.1 : Int)))
              (cond (decide (0 ≤ s4.2.1) && decide (s4.2.1 ≤ (List.length s4.1 : Int)) && decide ((List.length s4.1 : Int) ≤ (List.length s4.1 : Int)))
                (cond (decide (0 ≤ (0 : Int)) && decide ((0 : Int) ≤ s4.2.1) && decide (s4.2.1 ≤ (List.length s4.1 : Int)))
                  (let xs6 := (copyL s4.1 (Int.toNat s4.2.1) (copyN (Int.toNat (List.length s4.1 : Int) - Int.toNat s4.2.1) ((s4.1.drop (Int.toNat (0 : Int))).take (Int.toNat s4.2.1 - Int.toNat (0 : Int)))) ((s4.1.drop (Int.toNat (0 : Int))).take (Int.toNat s4.2.1 - Int.toNat (0 : Int))))
                  next5 (xs6, (w64 (s4.2.1 + ((copyN (Int.toNat (List.length s4.1 : Int) - Int.toNat s4.2.1) ((s4.1.drop (Int.toNat (0 : Int))).take (Int.toNat s4.2.1 - Int.toNat (0 : Int)))) : Int))), ())) none) none)
              (some (s4.1, ()))) N (xs3, ((copyN (List.length xs2) x0) : Int), ())) none)))
def slices_Repeat_int64_int64_e (N : Nat) : Ent := { ins := [(.sl (.int .i64)), (.int .i64)], outs := [.own (.int .i64)], F := fun x => slices_Repeat_int64_int64 N x.1 x.2.1 }
def slices_Repeat_int64_int64_T (N : Nat) : Nat → List EntX
  | 133 => [.pl (math_bits_Mul_e N)]
  | _ => []
def slices_Repeat_int64_int64_L : Nat → List (Nat × TK)
  | 8 => [(7, .own (.int .i64)), (8, .v (.int .i64))]
  | _ => []
theorem slices_Repeat_int64_int64_eq (N : Nat) : runF N tt (slices_Repeat_int64_int64_T N) slices_Repeat_int64_int64_L [(.sl (.int .i64)), (.int .i64)] [.own (.int .i64)] (bodyOf Try.f112) Try.f112.ntmps [4] = (slices_Repeat_int64_int64_e N).F := by
  funext x
  kernel_rfl
theorem slices_Repeat_int64_int64_sound (N : Nat) : SoundC Try.prog 112 (slices_Repeat_int64_int64_e N) := by
  have h := runF_sound (f := 112) (code := bodyOf Try.f112) (N := N) (T := (slices_Repeat_int64_int64_T N)) (L := slices_Repeat_int64_int64_L) (ins := [(.sl (.int .i64)), (.int .i64)]) (outs := [.own (.int .i64)]) (res := [4]) mixed tt_ok ?_ Try.func112 (by kernel_rfl) rfl (by kernel_rfl) (by kernel_rfl) (by decide +kernel)
  · rw [slices_Repeat_int64_int64_eq] at h
    exact h
  · intro f e he
    unfold slices_Repeat_int64_int64_T at he
    split at he
    · rw [List.mem_singleton.1 he]; exact math_bits_Mul_sound N
    · cases he

/- impl.none -/
def impl_none (N : Nat) (x0 : Int) : Option (List (Int) × Unit) :=
  Option.bind (slices_Repeat_int64_int64 N ([(-1)] : List Int) x0) fun r1 =>
  some (r1.1, ())
def impl_none_e (N : Nat) : Ent := { ins := [(.int .i64)], outs := [.own (.int .i64)], F := fun x => impl_none N x.1 }
def impl_none_T (N : Nat) : Nat → List EntX
  | 112 => [.pl (slices_Repeat_int64_int64_e N)]
  | _ => []
def impl_none_L : Nat → List (Nat × TK) := fun _ => []
theorem impl_none_eq (N : Nat) : runF N tt (impl_none_T N) impl_none_L [(.int .i64)] [.own (.int .i64)] (bodyOf Try.f62) Try.f62.ntmps [2] = (impl_none_e N).F := by
  funext x
  kernel_rfl
theorem impl_none_sound (N : Nat) : SoundC Try.prog 62 (impl_none_e N) := by
  have h := runF_sound (f := 62) (code := bodyOf Try.f62) (N := N) (T := (impl_none_T N)) (L := impl_none_L) (ins := [(.int .i64)]) (outs := [.own (.int .i64)]) (res := [2]) mixed tt_ok ?_ Try.func62 (by kernel_rfl) rfl (by kernel_rfl) (by kernel_rfl) (by decide +kernel)
  · rw [impl_none_eq] at h
    exact h
  · intro f e he
    unfold impl_none_T at he
    split at he
    · rw [List.mem_singleton.1 he]; exact slices_Repeat_int64_int64_sound N
    · cases he

/- slices.Max[[]int64,int64] -/
def slices_Max_int64_int64 (N : Nat) (x0 : List Int) : Option (Int × Unit) :=
  cond (decide ((List.length x0 : Int) < 1))
    (none)
    (Option.bind (idx x0 0) fun v1 =>
    loopN (fun (s2 : Int × Int × Unit) next3 =>
      cond (decide (s2.2.1 < (List.length x0 : Int)))
        (Option.bind (idx x0 s2.2.1) fun v4 =>
        next3 ((imax s2.1 v4), (w64 (s2.2.1 + 1)), ()))
        (some (s2.1, ()))) N (v1, 1, ()))
def slices_Max_int64_int64_e (N : Nat) : Ent := { ins := [(.sl (.int .i64))], outs := [.val (.int .i64)], F := fun x => slices_Max_int64_int64 N x.1 }
def slices_Max_int64_int64_T (_ : Nat) : Nat → List EntX := fun _ => []
def slices_Max_int64_int64_L : Nat → List (Nat × TK)
  | 5 => [(3, .v (.int .i64)), (4, .v (.int .i64))]
  | _ => []
theorem slices_Max_int64_int64_eq (N : Nat) : runF N tt (slices_Max_int64_int64_T N) slices_Max_int64_int64_L [(.sl (.int .i64))] [.val (.int .i64)] (bodyOf Try.f63) Try.f63.ntmps [2] = (slices_Max_int64_int64_e N).F := by
  funext x
  kernel_rfl
theorem slices_Max_int64_int64_sound (N : Nat) : SoundC Try.prog 63 (slices_Max_int64_int64_e N) := by
  have h := runF_sound (f := 63) (code := bodyOf Try.f63) (N := N) (T := (slices_Max_int64_int64_T N)) (L := slices_Max_int64_int64_L) (ins := [(.sl (.int .i64))]) (outs := [.val (.int .i64)]) (res := [2]) mixed tt_ok ?_ Try.func63 (by kernel_rfl) rfl (by kernel_rfl) (by kernel_rfl) (by decide +kernel)
  · rw [slices_Max_int64_int64_eq] at h
    exact h
  · intro f e he
    cases he

/- impl.areMany -/
def impl_areMany (N : Nat) (x0 : List Int) (x1 : Int) (x2 : Int) (x3 : Int) (x4 : Int) : Option (Bool × Unit) :=
  cond (decide ((List.length x0 : Int) ≥ x1))
    (cond (decide ((List.length x0 : Int) ≤ x2))
      (Option.bind (impl_areWithin N x0 x3 x4) fun r1 =>
      some (r1.1, ()))
      (some (false, ())))
    (some (false, ()))
def impl_areMany_e (N : Nat) : Ent := { ins := [(.sl (.int .i64)), (.int .i64), (.int .i64), (.int .i64), (.int .i64)], outs := [.val .bool], F := fun x => impl_areMany N x.1 x.2.1 x.2.2.1 x.2.2.2.1 x.2.2.2.2.1 }
def impl_areMany_T (N : Nat) : Nat → List EntX
  | 86 => [.pl (impl_areWithin_e N)]
  | _ => []
def impl_areMany_L : Nat → List (Nat × TK) := fun _ => []
theorem impl_areMany_eq (N : Nat) : runF N tt (impl_areMany_T N) impl_areMany_L [(.sl (.int .i64)), (.int .i64), (.int .i64), (.int .i64), (.int .i64)] [.val .bool] (bodyOf Try.f124) Try.f124.ntmps [10] = (impl_areMany_e N).F := by
  funext x
  kernel_rfl
theorem impl_areMany_sound (N : Nat) : SoundC Try.prog 124 (impl_areMany_e N) := by
  have h := runF_sound (f := 124) (code := bodyOf Try.f124) (N := N) (T := (impl_areMany_T N)) (L := impl_areMany_L) (ins := [(.sl (.int .i64)), (.int .i64), (.int .i64), (.int .i64), (.int .i64)]) (outs := [.val .bool]) (res := [10]) mixed tt_ok ?_ Try.func124 (by kernel_rfl) rfl (by kernel_rfl) (by kernel_rfl) (by decide +kernel)
  · rw [impl_areMany_eq] at h
    exact h
  · intro f e he
    unfold impl_areMany_T at he
    split at he
    · rw [List.mem_singleton.1 he]; exact impl_areWithin_sound N
    · cases he

/- impl.areLine -/
def impl_areLine (N : Nat) (x0 : List Int) : Option (Bool × Unit) :=
  Option.bind (impl_areMany N x0 1 12 1 10000) fun r1 =>
  some (r1.1, ())
def impl_areLine_e (N : Nat) : Ent := { ins := [(.sl (.int .i64))], outs := [.val .bool], F := fun x => impl_areLine N x.1 }
def impl_areLine_T (N : Nat) : Nat → List EntX
  | 124 => [.pl (impl_areMany_e N)]
  | _ => []
def impl_areLine_L : Nat → List (Nat × TK) := fun _ => []
theorem impl_areLine_eq (N : Nat) : runF N tt (impl_areLine_T N) impl_areLine_L [(.sl (.int .i64))] [.val .bool] (bodyOf Try.f116) Try.f116.ntmps [2] = (impl_areLine_e N).F := by
  funext x
  kernel_rfl
theorem impl_areLine_sound (N : Nat) : SoundC Try.prog 116 (impl_areLine_e N) := by
  have h := runF_sound (f := 116) (code := bodyOf Try.f116) (N := N) (T := (impl_areLine_T N)) (L := impl_areLine_L) (ins := [(.sl (.int .i64))]) (outs := [.val .bool]) (res := [2]) mixed tt_ok ?_ Try.func116 (by kernel_rfl) rfl (by kernel_rfl) (by kernel_rfl) (by decide +kernel)
  · rw [impl_areLine_eq] at h
    exact h
  · intro f e he
    unfold impl_areLine_T at he
    split at he
    · rw [List.mem_singleton.1 he]; exact impl_areMany_sound N
    · cases he

/- impl.IsLine -/
def impl_IsLine (N : Nat) (x0 : List Int) (x1 : List Int) : Option (Bool × Unit) :=
  Option.bind (impl_areLine N x0) fun r1 =>
  cond (!r1.1)
    (some (false, ()))
    (cond ((List.length x1 : Int) != (List.length x0 : Int))
      (some (false, ()))
      (loopN (fun (s2 : Int × Unit) next3 =>
        cond (decide (s2.1 < (List.length x1 : Int)))
          (Option.bind (idx x1 s2.1) fun v4 =>
          cond (decide (s2.1 < 0)) none
            (Option.bind (impl_within N v4 0 (w64 ((ishl .i64 1 s2.1) - 1))) fun r5 =>
            cond (!r5.1)
              (some (false, ()))
              (next3 ((w64 (s2.1 + 1)), ()))))
          (some (true, ()))) N (0, ())))
def impl_IsLine_e (N : Nat) : Ent := { ins := [(.sl (.int .i64)), (.sl (.int .i64))], outs := [.val .bool], F := fun x => impl_IsLine N x.1 x.2.1 }
def impl_IsLine_T (N : Nat) : Nat → List EntX
  | 116 => [.pl (impl_areLine_e N)]
  | 117 => [.pl (impl_within_e N)]
  | _ => []
def impl_IsLine_L : Nat → List (Nat × TK)
  | 4 => [(19, .v (.int .i64))]
  | _ => []
theorem impl_IsLine_eq (N : Nat) : runF N tt (impl_IsLine_T N) impl_IsLine_L [(.sl (.int .i64)), (.sl (.int .i64))] [.val .bool] (bodyOf Try.f66) Try.f66.ntmps [4] = (impl_IsLine_e N).F := by
  funext x
  kernel_rfl
theorem impl_IsLine_sound (N : Nat) : SoundC Try.prog 66 (impl_IsLine_e N) := by
  have h := runF_sound (f := 66) (code := bodyOf Try.f66) (N := N) (T := (impl_IsLine_T N)) (L := impl_IsLine_L) (ins := [(.sl (.int .i64)), (.sl (.int .i64))]) (outs := [.val .bool]) (res := [4]) mixed tt_ok ?_ Try.func66 (by kernel_rfl) rfl (by kernel_rfl) (by kernel_rfl) (by decide +kernel)
  · rw [impl_IsLine_eq] at h
    exact h
  · intro f e he
    unfold impl_IsLine_T at he
    split at he
    · rw [List.mem_singleton.1 he]; exact impl_areLine_sound N
    · rw [List.mem_singleton.1 he]; exact impl_within_sound N
    · cases he

/- impl.isCycle -/
def impl_isCycle (N : Nat) (x0 : Int) : Option (Bool × Unit) :=
  Option.bind (impl_within N x0 1 10000) fun r1 =>
  some (r1.1, ())
def impl_isCycle_e (N : Nat) : Ent := { ins := [(.int .i64)], outs := [.val .bool], F := fun x => impl_isCycle N x.1 }
def impl_isCycle_T (N : Nat) : Nat → List EntX
  | 117 => [.pl (impl_within_e N)]
  | _ => []
def impl_isCycle_L : Nat → List (Nat × TK) := fun _ => []
theorem impl_isCycle_eq (N : Nat) : runF N tt (impl_isCycle_T N) impl_isCycle_L [(.int .i64)] [.val .bool] (bodyOf Try.f67) Try.f67.ntmps [2] = (impl_isCycle_e N).F := by
  funext x
  kernel_rfl
theorem impl_isCycle_sound (N : Nat) : SoundC Try.prog 67 (impl_isCycle_e N) := by
  have h := runF_sound (f := 67) (code := bodyOf Try.f67) (N := N) (T := (impl_isCycle_T N)) (L := impl_isCycle_L) (ins := [(.int .i64)]) (outs := [.val .bool]) (res := [2]) mixed tt_ok ?_ Try.func67 (by kernel_rfl) rfl (by kernel_rfl) (by kernel_rfl) (by decide +kernel)
  · rw [impl_isCycle_eq] at h
    exact h
  · intro f e he
    unfold impl_isCycle_T at he
    split at he
    · rw [List.mem_singleton.1 he]; exact impl_within_sound N
    · cases he

/- impl.LineStations -/
def impl_LineStations (N : Nat) (x0 : List Int) (x1 : List Int) (x2 : Int) : Option (List (Int) × Bool × Unit) :=
  Option.bind (impl_IsLine N x0 x1) fun r1 =>
  cond (!r1.1)
    (some ([], false, ()))
    (Option.bind (impl_isCycle N x2) fun r2 =>
    cond (!r2.1)
      (some ([], false, ()))
      (Option.bind (slices_Max_int64_int64 N x0) fun r3 =>
      cond (decide (r3.1 > x2))
        (some ([], false, ()))
        (Option.bind (impl_none N (List.length x0 : Int)) fun r4 =>
        loopN (fun (s5 : List (Int) × Int × Int × Int × Unit) next6 =>
          cond (decide ((List.length x0 : Int) < 0)) none
            (cond (s5.2.1 != (w64 ((ishl .i64 1 (List.length x0 : Int)) - 1)))
              (loopN (fun (s7 : Int × Int × Unit) next8 =>
                cond (decide (s7.2.1 < (List.length x0 : Int)))
                  (Option.bind (idx x0 s7.2.1) fun v9 =>
                  cond (inB s7.2.1 (List.length s5.1))
                    (Option.bind (s5.1[(Int.toNat s7.2.1)]?) fun v10 =>
                    cond (decide (v10 ≥ 0))
                      (next8 (s7.1, (w64 (s7.2.1 + 1)), ()))
                      (Option.bind (idx x1 s7.2.1) fun v11 =>
                      cond ((ibits .andNot .i64 v11 s5.2.1) != 0)
                        (next8 (s7.1, (w64 (s7.2.1 + 1)), ()))
                        (cond (decide ((w64 (s5.2.2.2.1 + v9)) > x2))
                          (next8 (s7.1, (w64 (s7.2.1 + 1)), ()))
                          (cond (decide (s7.1 < 0))
                            (next8 (s7.2.1, (w64 (s7.2.1 + 1)), ()))
                            (Option.bind (idx x0 s7.1) fun v12 =>
                            cond (decide (v9 > v12))
                              (next8 (s7.2.1, (w64 (s7.2.1 + 1)), ()))
                              (next8 (s7.1, (w64 (s7.2.1 + 1)), ()))))))) none)
                  (cond (decide (s7.1 < 0))
                    (next6 (s5.1, s5.2.1, (w64 (s5.2.2.1 + 1)), 0, ()))
                    (cond (inB s7.1 (List.length s5.1))
                      (let xs13 := (List.set s5.1 (Int.toNat s7.1) s5.2.2.1)
                      cond (decide (s7.1 < 0)) none
                        (Option.bind (idx x0 s7.1) fun v14 =>
                        next6 (xs13, (ibits .or .i64 s5.2.1 (ishl .i64 1 s7.1)), s5.2.2.1, (w64 (s5.2.2.2.1 + v14)), ()))) none))) N ((-1), 0, ()))
              (some (s5.1, true, ())))) N (r4.1, 0, 0, 0, ()))))
def impl_LineStations_e (N : Nat) : Ent := { ins := [(.sl (.int .i64)), (.sl (.int .i64)), (.int .i64)], outs := [.own (.int .i64), .val .bool], F := fun x => impl_LineStations N x.1 x.2.1 x.2.2.1 }
def impl_LineStations_T (N : Nat) : Nat → List EntX
  | 62 => [.pl (impl_none_e N)]
  | 63 => [.pl (slices_Max_int64_int64_e N)]
  | 66 => [.pl (impl_IsLine_e N)]
  | 67 => [.pl (impl_isCycle_e N)]
  | _ => []
def impl_LineStations_L : Nat → List (Nat × TK)
  | 5 => [(8, .own (.int .i64)), (9, .v (.int .i64)), (10, .v (.int .i64)), (11, .v (.int .i64))]
  | 8 => [(12, .v (.int .i64)), (41, .v (.int .i64))]
  | _ => []
theorem impl_LineStations_eq (N : Nat) : runF N tt (impl_LineStations_T N) impl_LineStations_L [(.sl (.int .i64)), (.sl (.int .i64)), (.int .i64)] [.own (.int .i64), .val .bool] (bodyOf Try.f26) Try.f26.ntmps [6, 7] = (impl_LineStations_e N).F := by
  funext x
  kernel_rfl
theorem impl_LineStations_sound (N : Nat) : SoundC Try.prog 26 (impl_LineStations_e N) := by
  have h := runF_sound (f := 26) (code := bodyOf Try.f26) (N := N) (T := (impl_LineStations_T N)) (L := impl_LineStations_L) (ins := [(.sl (.int .i64)), (.sl (.int .i64)), (.int .i64)]) (outs := [.own (.int .i64), .val .bool]) (res := [6, 7]) mixed tt_ok ?_ Try.func26 (by kernel_rfl) rfl (by kernel_rfl) (by kernel_rfl) (by decide +kernel)
  · rw [impl_LineStations_eq] at h
    exact h
  · intro f e he
    unfold impl_LineStations_T at he
    split at he
    · rw [List.mem_singleton.1 he]; exact impl_none_sound N
    · rw [List.mem_singleton.1 he]; exact slices_Max_int64_int64_sound N
    · rw [List.mem_singleton.1 he]; exact impl_IsLine_sound N
    · rw [List.mem_singleton.1 he]; exact impl_isCycle_sound N
    · cases he

/- laws.FnExactLineStations -/
def laws_FnExactLineStations (N : Nat) (x0 : List Int) (x1 : List Int) (x2 : Int) : Option (Bool × Unit) :=
  cond (decide ((List.length x0 : Int) > 1048576))
    (some (true, ()))
    (cond (decide ((List.length x1 : Int) > 1048576))
      (some (true, ()))
      (Option.bind (laws_toInt64S N x0) fun r1 =>
      Option.bind (laws_toInt64S N x1) fun r2 =>
      Option.bind (spec_LineStations N r1.1 r2.1 x2) fun r3 =>
      Option.bind (laws_toInt64S N x0) fun r4 =>
      Option.bind (laws_toInt64S N x1) fun r5 =>
      Option.bind (impl_LineStations N r4.1 r5.1 x2) fun r6 =>
      Option.bind (laws_eqInt64S N r6.1 r3.1) fun r7 =>
      cond (!r7.1)
        (some (false, ()))
        (cond (!(r6.2.1 == r3.2.1))
          (some (false, ()))
          (Option.bind (laws_toInt64S N x0) fun r8 =>
          Option.bind (laws_eqInt64S N r4.1 r8.1) fun r9 =>
          cond (!r9.1)
            (some (false, ()))
            (Option.bind (laws_toInt64S N x1) fun r10 =>
            Option.bind (laws_eqInt64S N r5.1 r10.1) fun r11 =>
            cond (!r11.1)
              (some (false, ()))
              (Option.bind (laws_markInt64S N r4.1 1) fun r12 =>
              cond (Nat.beq (List.length r12.1) (List.length r4.1))
                (Option.bind (laws_markInt64S N r5.1 r12.2.1) fun r13 =>
                cond (Nat.beq (List.length r13.1) (List.length r5.1))
                  (cond (decide (r13.2.1 < 0))
                    (some (false, ()))
                    (Option.bind (laws_eqInt64S N r6.1 r3.1) fun r14 =>
                    cond (!r14.1)
                      (some (false, ()))
                      (cond (!(r6.2.1 == r3.2.1))
                        (some (false, ()))
                        (Option.bind (laws_markInt64S N r6.1 1) fun r15 =>
                        cond (Nat.beq (List.length r15.1) (List.length r6.1))
                          (Option.bind (laws_heldInt64S N r15.1 1) fun r16 =>
                          cond (decide (r16.1 < 0))
                            (some (false, ()))
                            (cond (r16.1 != r15.2.1)
                              (some (false, ()))
                              (Option.bind (laws_toInt64S N x0) fun r17 =>
                              Option.bind (laws_toInt64S N x1) fun r18 =>
                              Option.bind (impl_LineStations N r17.1 r18.1 x2) fun r19 =>
                              Option.bind (laws_eqInt64S N r19.1 r3.1) fun r20 =>
                              cond (!r20.1)
                                (some (false, ()))
                                (cond (!(r19.2.1 == r3.2.1))
                                  (some (false, ()))
                                  (Option.bind (laws_heldInt64S N r15.1 1) fun r21 =>
                                  cond (decide (r21.1 < 0))
                                    (some (false, ()))
                                    (cond (r21.1 != r15.2.1)
                                      (some (false, ()))
                                      (some (true, ())))))))) none)))) none) none))))))
def laws_FnExactLineStations_e (N : Nat) : Ent := { ins := [(.sl (.int .i64)), (.sl (.int .i64)), (.int .i64)], outs := [.val .bool], F := fun x => laws_FnExactLineStations N x.1 x.2.1 x.2.2.1 }
def laws_FnExactLineStations_T (N : Nat) : Nat → List EntX
  | 16 => [.pl (laws_toInt64S_e N)]
  | 18 => [.pl (laws_eqInt64S_e N)]
  | 21 => [.mu (laws_markInt64S_e N)]
  | 22 => [.pl (laws_heldInt64S_e N)]
  | 25 => [.pl (spec_LineStations_e N)]
  | 26 => [.pl (impl_LineStations_e N)]
  | _ => []
def laws_FnExactLineStations_L : Nat → List (Nat × TK) := fun _ => []
theorem laws_FnExactLineStations_eq (N : Nat) : runF N tt (laws_FnExactLineStations_T N) laws_FnExactLineStations_L [(.sl (.int .i64)), (.sl (.int .i64)), (.int .i64)] [.val .bool] (bodyOf Try.f6) Try.f6.ntmps [6] = (laws_FnExactLineStations_e N).F := by
  funext x
  kernel_rfl
theorem laws_FnExactLineStations_sound (N : Nat) : SoundC Try.prog 6 (laws_FnExactLineStations_e N) := by
  have h := runF_sound (f := 6) (code := bodyOf Try.f6) (N := N) (T := (laws_FnExactLineStations_T N)) (L := laws_FnExactLineStations_L) (ins := [(.sl (.int .i64)), (.sl (.int .i64)), (.int .i64)]) (outs := [.val .bool]) (res := [6]) mixed tt_ok ?_ Try.func6 (by kernel_rfl) rfl (by kernel_rfl) (by kernel_rfl) (by decide +kernel)
  · rw [laws_FnExactLineStations_eq] at h
    exact h
  · intro f e he
    unfold laws_FnExactLineStations_T at he
    split at he
    · rw [List.mem_singleton.1 he]; exact laws_toInt64S_sound N
    · rw [List.mem_singleton.1 he]; exact laws_eqInt64S_sound N
    · rw [List.mem_singleton.1 he]; exact laws_markInt64S_sound N
    · rw [List.mem_singleton.1 he]; exact laws_heldInt64S_sound N
    · rw [List.mem_singleton.1 he]; exact spec_LineStations_sound N
    · rw [List.mem_singleton.1 he]; exact impl_LineStations_sound N
    · cases he

/- spec.l04Routes -/
def spec_l04Routes (N : Nat) (x0 : List Int) (x1 : Int) : Option (Bool × Unit) :=
  Option.bind (spec_l02Machines N x1) fun r1 =>
  cond (!r1.1)
    (some (false, ()))
    (cond (decide ((List.length x0 : Int) < 1))
      (some (false, ()))
      (cond (x1 == 0) none
        (cond ((Int.tmod (List.length x0 : Int) x1) != 0)
          (some (false, ()))
          (cond (x1 == 0) none
            (cond (decide ((w64 (Int.tdiv (List.length x0 : Int) x1)) > 24))
              (some (false, ()))
              (loopN (fun (s2 : Int × Unit) next3 =>
                cond (decide (s2.1 < (List.length x0 : Int)))
                  (cond (decide (0 ≤ s2.1) && decide (s2.1 ≤ (w64 (s2.1 + x1))) && decide ((w64 (s2.1 + x1)) ≤ (List.length x0 : Int)))
                    (Option.bind (spec_l02Orders N (List.drop (Int.toNat s2.1) (List.take (Int.toNat (w64 (s2.1 + x1))) x0)) x1) fun r4 =>
                    cond (!r4.1)
                      (some (false, ()))
                      (next3 ((w64 (s2.1 + x1)), ()))) none)
                  (some (true, ()))) N (0, ())))))))
def spec_l04Routes_e (N : Nat) : Ent := { ins := [(.sl (.int .i64)), (.int .i64)], outs := [.val .bool], F := fun x => spec_l04Routes N x.1 x.2.1 }
def spec_l04Routes_T (N : Nat) : Nat → List EntX
  | 103 => [.pl (spec_l02Orders_e N)]
  | 122 => [.pl (spec_l02Machines_e N)]
  | _ => []
def spec_l04Routes_L : Nat → List (Nat × TK)
  | 5 => [(6, .v (.int .i64))]
  | _ => []
theorem spec_l04Routes_eq (N : Nat) : runF N tt (spec_l04Routes_T N) spec_l04Routes_L [(.sl (.int .i64)), (.int .i64)] [.val .bool] (bodyOf Try.f73) Try.f73.ntmps [4] = (spec_l04Routes_e N).F := by
  funext x
  kernel_rfl
theorem spec_l04Routes_sound (N : Nat) : SoundC Try.prog 73 (spec_l04Routes_e N) := by
  have h := runF_sound (f := 73) (code := bodyOf Try.f73) (N := N) (T := (spec_l04Routes_T N)) (L := spec_l04Routes_L) (ins := [(.sl (.int .i64)), (.int .i64)]) (outs := [.val .bool]) (res := [4]) mixed tt_ok ?_ Try.func73 (by kernel_rfl) rfl (by kernel_rfl) (by kernel_rfl) (by decide +kernel)
  · rw [spec_l04Routes_eq] at h
    exact h
  · intro f e he
    unfold spec_l04Routes_T at he
    split at he
    · rw [List.mem_singleton.1 he]; exact spec_l02Orders_sound N
    · rw [List.mem_singleton.1 he]; exact spec_l02Machines_sound N
    · cases he

/- spec.AreRoutes -/
def spec_AreRoutes (N : Nat) (x0 : List Int) (x1 : Int) : Option (Bool × Unit) :=
  Option.bind (spec_l04Routes N x0 x1) fun r1 =>
  some (r1.1, ())
def spec_AreRoutes_e (N : Nat) : Ent := { ins := [(.sl (.int .i64)), (.int .i64)], outs := [.val .bool], F := fun x => spec_AreRoutes N x.1 x.2.1 }
def spec_AreRoutes_T (N : Nat) : Nat → List EntX
  | 73 => [.pl (spec_l04Routes_e N)]
  | _ => []
def spec_AreRoutes_L : Nat → List (Nat × TK) := fun _ => []
theorem spec_AreRoutes_eq (N : Nat) : runF N tt (spec_AreRoutes_T N) spec_AreRoutes_L [(.sl (.int .i64)), (.int .i64)] [.val .bool] (bodyOf Try.f29) Try.f29.ntmps [4] = (spec_AreRoutes_e N).F := by
  funext x
  kernel_rfl
theorem spec_AreRoutes_sound (N : Nat) : SoundC Try.prog 29 (spec_AreRoutes_e N) := by
  have h := runF_sound (f := 29) (code := bodyOf Try.f29) (N := N) (T := (spec_AreRoutes_T N)) (L := spec_AreRoutes_L) (ins := [(.sl (.int .i64)), (.int .i64)]) (outs := [.val .bool]) (res := [4]) mixed tt_ok ?_ Try.func29 (by kernel_rfl) rfl (by kernel_rfl) (by kernel_rfl) (by decide +kernel)
  · rw [spec_AreRoutes_eq] at h
    exact h
  · intro f e he
    unfold spec_AreRoutes_T at he
    split at he
    · rw [List.mem_singleton.1 he]; exact spec_l04Routes_sound N
    · cases he

/- impl.AreRoutes -/
def impl_AreRoutes (N : Nat) (x0 : List (Int)) (x1 : Int) : Option (Bool × Unit) :=
  routesF (impl_areMachines N) (impl_isAll N) x0 x1
def impl_AreRoutes_e (N : Nat) : Ent := { ins := [(.sl (.int .i64)), (.int .i64)], outs := [.val .bool], F := fun x => impl_AreRoutes N x.1 x.2.1 }
theorem impl_AreRoutes_sound (N : Nat) : SoundC Try.prog 30 (impl_AreRoutes_e N) := routes_sound (impl_areMachines_sound N) (impl_isAll_sound N)

/- laws.FnExactAreRoutes -/
def laws_FnExactAreRoutes (N : Nat) (x0 : List Int) (x1 : Int) : Option (Bool × Unit) :=
  cond (decide ((List.length x0 : Int) > 1048576))
    (some (true, ()))
    (Option.bind (laws_toInt64S N x0) fun r1 =>
    Option.bind (spec_AreRoutes N r1.1 x1) fun r2 =>
    Option.bind (laws_toInt64S N x0) fun r3 =>
    Option.bind (impl_AreRoutes N r3.1 x1) fun r4 =>
    cond (!(r4.1 == r2.1))
      (some (false, ()))
      (Option.bind (laws_toInt64S N x0) fun r5 =>
      Option.bind (laws_eqInt64S N r3.1 r5.1) fun r6 =>
      cond (!r6.1)
        (some (false, ()))
        (some (true, ()))))
def laws_FnExactAreRoutes_e (N : Nat) : Ent := { ins := [(.sl (.int .i64)), (.int .i64)], outs := [.val .bool], F := fun x => laws_FnExactAreRoutes N x.1 x.2.1 }
def laws_FnExactAreRoutes_T (N : Nat) : Nat → List EntX
  | 16 => [.pl (laws_toInt64S_e N)]
  | 18 => [.pl (laws_eqInt64S_e N)]
  | 29 => [.pl (spec_AreRoutes_e N)]
  | 30 => [.pl (impl_AreRoutes_e N)]
  | _ => []
def laws_FnExactAreRoutes_L : Nat → List (Nat × TK) := fun _ => []
theorem laws_FnExactAreRoutes_eq (N : Nat) : runF N tt (laws_FnExactAreRoutes_T N) laws_FnExactAreRoutes_L [(.sl (.int .i64)), (.int .i64)] [.val .bool] (bodyOf Try.f8) Try.f8.ntmps [4] = (laws_FnExactAreRoutes_e N).F := by
  funext x
  kernel_rfl
theorem laws_FnExactAreRoutes_sound (N : Nat) : SoundC Try.prog 8 (laws_FnExactAreRoutes_e N) := by
  have h := runF_sound (f := 8) (code := bodyOf Try.f8) (N := N) (T := (laws_FnExactAreRoutes_T N)) (L := laws_FnExactAreRoutes_L) (ins := [(.sl (.int .i64)), (.int .i64)]) (outs := [.val .bool]) (res := [4]) mixed tt_ok ?_ Try.func8 (by kernel_rfl) rfl (by kernel_rfl) (by kernel_rfl) (by decide +kernel)
  · rw [laws_FnExactAreRoutes_eq] at h
    exact h
  · intro f e he
    unfold laws_FnExactAreRoutes_T at he
    split at he
    · rw [List.mem_singleton.1 he]; exact laws_toInt64S_sound N
    · rw [List.mem_singleton.1 he]; exact laws_eqInt64S_sound N
    · rw [List.mem_singleton.1 he]; exact spec_AreRoutes_sound N
    · rw [List.mem_singleton.1 he]; exact impl_AreRoutes_sound N
    · cases he

/- spec.l04Shop -/
def spec_l04Shop (N : Nat) (x0 : List Int) (x1 : List Int) (x2 : Int) : Option (Bool × Unit) :=
  Option.bind (spec_l04Routes N x0 x2) fun r1 =>
  cond r1.1
    (Option.bind (spec_l04Can N x1 x2) fun r2 =>
    cond r2.1
      (some (((List.length x1 : Int) == (List.length x0 : Int)), ()))
      (some (false, ())))
    (some (false, ()))
def spec_l04Shop_e (N : Nat) : Ent := { ins := [(.sl (.int .i64)), (.sl (.int .i64)), (.int .i64)], outs := [.val .bool], F := fun x => spec_l04Shop N x.1 x.2.1 x.2.2.1 }
def spec_l04Shop_T (N : Nat) : Nat → List EntX
  | 52 => [.pl (spec_l04Can_e N)]
  | 73 => [.pl (spec_l04Routes_e N)]
  | _ => []
def spec_l04Shop_L : Nat → List (Nat × TK) := fun _ => []
theorem spec_l04Shop_eq (N : Nat) : runF N tt (spec_l04Shop_T N) spec_l04Shop_L [(.sl (.int .i64)), (.sl (.int .i64)), (.int .i64)] [.val .bool] (bodyOf Try.f77) Try.f77.ntmps [6] = (spec_l04Shop_e N).F := by
  funext x
  kernel_rfl
theorem spec_l04Shop_sound (N : Nat) : SoundC Try.prog 77 (spec_l04Shop_e N) := by
  have h := runF_sound (f := 77) (code := bodyOf Try.f77) (N := N) (T := (spec_l04Shop_T N)) (L := spec_l04Shop_L) (ins := [(.sl (.int .i64)), (.sl (.int .i64)), (.int .i64)]) (outs := [.val .bool]) (res := [6]) mixed tt_ok ?_ Try.func77 (by kernel_rfl) rfl (by kernel_rfl) (by kernel_rfl) (by decide +kernel)
  · rw [spec_l04Shop_eq] at h
    exact h
  · intro f e he
    unfold spec_l04Shop_T at he
    split at he
    · rw [List.mem_singleton.1 he]; exact spec_l04Can_sound N
    · rw [List.mem_singleton.1 he]; exact spec_l04Routes_sound N
    · cases he

/- spec.l04Starts -/
def spec_l04Starts (N : Nat) (x0 : List Int) (x1 : List Int) : Option (Bool × Unit) :=
  loopN (fun (s1 : Int × Unit) next2 =>
    cond (decide (s1.1 < (List.length x1 : Int)))
      (Option.bind (idx x1 s1.1) fun v3 =>
      Option.bind (spec_l00In N v3 0 1000000) fun r4 =>
      cond (!r4.1)
        (some (false, ()))
        (next2 ((w64 (s1.1 + 1)), ())))
      (some (((List.length x1 : Int) == (List.length x0 : Int)), ()))) N (0, ())
def spec_l04Starts_e (N : Nat) : Ent := { ins := [(.sl (.int .i64)), (.sl (.int .i64))], outs := [.val .bool], F := fun x => spec_l04Starts N x.1 x.2.1 }
def spec_l04Starts_T (N : Nat) : Nat → List EntX
  | 114 => [.pl (spec_l00In_e N)]
  | _ => []
def spec_l04Starts_L : Nat → List (Nat × TK)
  | 2 => [(5, .v (.int .i64))]
  | _ => []
theorem spec_l04Starts_eq (N : Nat) : runF N tt (spec_l04Starts_T N) spec_l04Starts_L [(.sl (.int .i64)), (.sl (.int .i64))] [.val .bool] (bodyOf Try.f78) Try.f78.ntmps [4] = (spec_l04Starts_e N).F := by
  funext x
  kernel_rfl
theorem spec_l04Starts_sound (N : Nat) : SoundC Try.prog 78 (spec_l04Starts_e N) := by
  have h := runF_sound (f := 78) (code := bodyOf Try.f78) (N := N) (T := (spec_l04Starts_T N)) (L := spec_l04Starts_L) (ins := [(.sl (.int .i64)), (.sl (.int .i64))]) (outs := [.val .bool]) (res := [4]) mixed tt_ok ?_ Try.func78 (by kernel_rfl) rfl (by kernel_rfl) (by kernel_rfl) (by decide +kernel)
  · rw [spec_l04Starts_eq] at h
    exact h
  · intro f e he
    unfold spec_l04Starts_T at he
    split at he
    · rw [List.mem_singleton.1 he]; exact spec_l00In_sound N
    · cases he

/- spec.l04Over -/
def spec_l04Over (_N : Nat) (x0 : List Int) (x1 : List Int) (x2 : Int) (x3 : Int) : Option (Bool × Unit) :=
  Option.bind (idx x1 x2) fun v1 =>
  Option.bind (idx x1 x3) fun v2 =>
  Option.bind (idx x0 x3) fun v3 =>
  cond (decide (v1 < (w64 (v2 + v3))))
    (Option.bind (idx x1 x3) fun v4 =>
    Option.bind (idx x1 x2) fun v5 =>
    Option.bind (idx x0 x2) fun v6 =>
    some ((decide (v4 < (w64 (v5 + v6)))), ()))
    (some (false, ()))
def spec_l04Over_e (N : Nat) : Ent := { ins := [(.sl (.int .i64)), (.sl (.int .i64)), (.int .i64), (.int .i64)], outs := [.val .bool], F := fun x => spec_l04Over N x.1 x.2.1 x.2.2.1 x.2.2.2.1 }
def spec_l04Over_T (_ : Nat) : Nat → List EntX := fun _ => []
def spec_l04Over_L : Nat → List (Nat × TK) := fun _ => []
theorem spec_l04Over_eq (N : Nat) : runF N tt (spec_l04Over_T N) spec_l04Over_L [(.sl (.int .i64)), (.sl (.int .i64)), (.int .i64), (.int .i64)] [.val .bool] (bodyOf Try.f79) Try.f79.ntmps [8] = (spec_l04Over_e N).F := by
  funext x
  kernel_rfl
theorem spec_l04Over_sound (N : Nat) : SoundC Try.prog 79 (spec_l04Over_e N) := by
  have h := runF_sound (f := 79) (code := bodyOf Try.f79) (N := N) (T := (spec_l04Over_T N)) (L := spec_l04Over_L) (ins := [(.sl (.int .i64)), (.sl (.int .i64)), (.int .i64), (.int .i64)]) (outs := [.val .bool]) (res := [8]) mixed tt_ok ?_ Try.func79 (by kernel_rfl) rfl (by kernel_rfl) (by kernel_rfl) (by decide +kernel)
  · rw [spec_l04Over_eq] at h
    exact h
  · intro f e he
    cases he

/- spec.IsShopPlan -/
def spec_IsShopPlan (N : Nat) (x0 : List Int) (x1 : List Int) (x2 : Int) (x3 : List Int) : Option (Bool × Bool × Unit) :=
  Option.bind (spec_l04Shop N x0 x1 x2) fun r1 =>
  cond (!r1.1)
    (some (false, false, ()))
    (Option.bind (spec_l04Starts N x1 x3) fun r2 =>
    cond (!r2.1)
      (some (false, false, ()))
      (loopN (fun (s3 : Int × Unit) next4 =>
        cond (decide (s3.1 < (List.length x1 : Int)))
          (cond (x2 == 0) none
            (cond (decide ((Int.tmod s3.1 x2) > 0))
              (Option.bind (idx x3 s3.1) fun v5 =>
              Option.bind (idx x3 (w64 (s3.1 - 1))) fun v6 =>
              Option.bind (idx x1 (w64 (s3.1 - 1))) fun v7 =>
              cond (decide (v5 < (w64 (v6 + v7))))
                (some (false, true, ()))
                (loopN (fun (s8 : Int × Unit) next9 =>
                  cond (decide (s8.1 < s3.1))
                    (Option.bind (idx x0 s3.1) fun v10 =>
                    Option.bind (idx x0 s8.1) fun v11 =>
                    cond (v10 == v11)
                      (Option.bind (spec_l04Over N x1 x3 s3.1 s8.1) fun r12 =>
                      cond r12.1
                        (some (false, true, ()))
                        (next9 ((w64 (s8.1 + 1)), ())))
                      (next9 ((w64 (s8.1 + 1)), ())))
                    (next4 ((w64 (s3.1 + 1)), ()))) N (0, ())))
              (loopN (fun (s13 : Int × Unit) next14 =>
                cond (decide (s13.1 < s3.1))
                  (Option.bind (idx x0 s3.1) fun v15 =>
                  Option.bind (idx x0 s13.1) fun v16 =>
                  cond (v15 == v16)
                    (Option.bind (spec_l04Over N x1 x3 s3.1 s13.1) fun r17 =>
                    cond r17.1
                      (some (false, true, ()))
                      (next14 ((w64 (s13.1 + 1)), ())))
                    (next14 ((w64 (s13.1 + 1)), ())))
                  (next4 ((w64 (s3.1 + 1)), ()))) N (0, ()))))
          (some (true, true, ()))) N (0, ())))
def spec_IsShopPlan_e (N : Nat) : Ent := { ins := [(.sl (.int .i64)), (.sl (.int .i64)), (.int .i64), (.sl (.int .i64))], outs := [.val .bool, .val .bool], F := fun x => spec_IsShopPlan N x.1 x.2.1 x.2.2.1 x.2.2.2.1 }
def spec_IsShopPlan_T (N : Nat) : Nat → List EntX
  | 77 => [.pl (spec_l04Shop_e N)]
  | 78 => [.pl (spec_l04Starts_e N)]
  | 79 => [.pl (spec_l04Over_e N)]
  | _ => []
def spec_IsShopPlan_L : Nat → List (Nat × TK)
  | 4 => [(10, .v (.int .i64))]
  | 9 => [(11, .v (.int .i64))]
  | _ => []
theorem spec_IsShopPlan_eq (N : Nat) : runF N tt (spec_IsShopPlan_T N) spec_IsShopPlan_L [(.sl (.int .i64)), (.sl (.int .i64)), (.int .i64), (.sl (.int .i64))] [.val .bool, .val .bool] (bodyOf Try.f31) Try.f31.ntmps [8, 9] = (spec_IsShopPlan_e N).F := by
  funext x
  kernel_rfl
theorem spec_IsShopPlan_sound (N : Nat) : SoundC Try.prog 31 (spec_IsShopPlan_e N) := by
  have h := runF_sound (f := 31) (code := bodyOf Try.f31) (N := N) (T := (spec_IsShopPlan_T N)) (L := spec_IsShopPlan_L) (ins := [(.sl (.int .i64)), (.sl (.int .i64)), (.int .i64), (.sl (.int .i64))]) (outs := [.val .bool, .val .bool]) (res := [8, 9]) mixed tt_ok ?_ Try.func31 (by kernel_rfl) rfl (by kernel_rfl) (by kernel_rfl) (by decide +kernel)
  · rw [spec_IsShopPlan_eq] at h
    exact h
  · intro f e he
    unfold spec_IsShopPlan_T at he
    split at he
    · rw [List.mem_singleton.1 he]; exact spec_l04Shop_sound N
    · rw [List.mem_singleton.1 he]; exact spec_l04Starts_sound N
    · rw [List.mem_singleton.1 he]; exact spec_l04Over_sound N
    · cases he

/- impl.routed -/
def impl_routed (N : Nat) (x0 : List Int) (x1 : List Int) (x2 : Int) : Option (((List Int) × Int × Int) × Bool × Unit) :=
  Option.bind (impl_asShop N x1 x2) fun r1 =>
  cond r1.2.1
    (cond ((List.length x0 : Int) == (List.length x1 : Int))
      (Option.bind (impl_AreRoutes N x0 x2) fun r2 =>
      some ((r1.1.1, (r1.1.2.1, r1.1.2.2)), r2.1, ()))
      (some ((r1.1.1, (r1.1.2.1, r1.1.2.2)), false, ())))
    (some ((r1.1.1, (r1.1.2.1, r1.1.2.2)), false, ()))
def impl_routed_e (N : Nat) : Ent := { ins := [(.sl (.int .i64)), (.sl (.int .i64)), (.int .i64)], outs := [.val (.pair (.sl (.int .i64)) (.pair (.int .i64) (.int .i64))), .val .bool], F := fun x => impl_routed N x.1 x.2.1 x.2.2.1 }
def impl_routed_T (N : Nat) : Nat → List EntX
  | 30 => [.pl (impl_AreRoutes_e N)]
  | 57 => [.pl (impl_asShop_e N)]
  | _ => []
def impl_routed_L : Nat → List (Nat × TK) := fun _ => []
theorem impl_routed_eq (N : Nat) : runC N tt (impl_routed_T N) impl_routed_L [(.sl (.int .i64)), (.sl (.int .i64)), (.int .i64)] [.val (.pair (.sl (.int .i64)) (.pair (.int .i64) (.int .i64))), .val .bool] (bodyOf Try.f80) Try.f80.ntmps [6, 7] [(6, 60)] = (impl_routed_e N).F := by
  funext x
  kernel_rfl
theorem impl_routed_sound (N : Nat) : SoundC Try.prog 80 (impl_routed_e N) := by
  have h := runC_sound (f := 80) (code := bodyOf Try.f80) (N := N) (T := (impl_routed_T N)) (L := impl_routed_L) (ins := [(.sl (.int .i64)), (.sl (.int .i64)), (.int .i64)]) (outs := [.val (.pair (.sl (.int .i64)) (.pair (.int .i64) (.int .i64))), .val .bool]) (res := [6, 7]) (rs := [.cell 6 60, .tmp 7]) (cells := [(6, 60)]) mixed tt_ok ?_ Try.func80 (by kernel_rfl) rfl (by kernel_rfl) (by kernel_rfl) rfl rfl (by decide) (by decide +kernel) (by decide +kernel)
  · rw [impl_routed_eq] at h
    exact h
  · intro f e he
    unfold impl_routed_T at he
    split at he
    · rw [List.mem_singleton.1 he]; exact impl_AreRoutes_sound N
    · rw [List.mem_singleton.1 he]; exact impl_asShop_sound N
    · cases he

/- impl.areStarts -/
def impl_areStarts (N : Nat) (x0 : List Int) (x1 : Int) : Option (Bool × Unit) :=
  Option.bind (impl_areMany N x0 x1 x1 0 1000000) fun r1 =>
  some (r1.1, ())
def impl_areStarts_e (N : Nat) : Ent := { ins := [(.sl (.int .i64)), (.int .i64)], outs := [.val .bool], F := fun x => impl_areStarts N x.1 x.2.1 }
def impl_areStarts_T (N : Nat) : Nat → List EntX
  | 124 => [.pl (impl_areMany_e N)]
  | _ => []
def impl_areStarts_L : Nat → List (Nat × TK) := fun _ => []
theorem impl_areStarts_eq (N : Nat) : runF N tt (impl_areStarts_T N) impl_areStarts_L [(.sl (.int .i64)), (.int .i64)] [.val .bool] (bodyOf Try.f81) Try.f81.ntmps [4] = (impl_areStarts_e N).F := by
  funext x
  kernel_rfl
theorem impl_areStarts_sound (N : Nat) : SoundC Try.prog 81 (impl_areStarts_e N) := by
  have h := runF_sound (f := 81) (code := bodyOf Try.f81) (N := N) (T := (impl_areStarts_T N)) (L := impl_areStarts_L) (ins := [(.sl (.int .i64)), (.int .i64)]) (outs := [.val .bool]) (res := [4]) mixed tt_ok ?_ Try.func81 (by kernel_rfl) rfl (by kernel_rfl) (by kernel_rfl) (by decide +kernel)
  · rw [impl_areStarts_eq] at h
    exact h
  · intro f e he
    unfold impl_areStarts_T at he
    split at he
    · rw [List.mem_singleton.1 he]; exact impl_areMany_sound N
    · cases he

/- impl.apart -/
def impl_apart (_N : Nat) (x0 : Int) (x1 : Int) (x2 : Int) (x3 : Int) : Option (Bool × Unit) :=
  cond (decide ((w64 (x0 + x1)) ≤ x2))
    (some (true, ()))
    (some ((decide ((w64 (x2 + x3)) ≤ x0)), ()))
def impl_apart_e (N : Nat) : Ent := { ins := [(.int .i64), (.int .i64), (.int .i64), (.int .i64)], outs := [.val .bool], F := fun x => impl_apart N x.1 x.2.1 x.2.2.1 x.2.2.2.1 }
def impl_apart_T (_ : Nat) : Nat → List EntX := fun _ => []
def impl_apart_L : Nat → List (Nat × TK) := fun _ => []
theorem impl_apart_eq (N : Nat) : runF N tt (impl_apart_T N) impl_apart_L [(.int .i64), (.int .i64), (.int .i64), (.int .i64)] [.val .bool] (bodyOf Try.f82) Try.f82.ntmps [8] = (impl_apart_e N).F := by
  funext x
  kernel_rfl
theorem impl_apart_sound (N : Nat) : SoundC Try.prog 82 (impl_apart_e N) := by
  have h := runF_sound (f := 82) (code := bodyOf Try.f82) (N := N) (T := (impl_apart_T N)) (L := impl_apart_L) (ins := [(.int .i64), (.int .i64), (.int .i64), (.int .i64)]) (outs := [.val .bool]) (res := [8]) mixed tt_ok ?_ Try.func82 (by kernel_rfl) rfl (by kernel_rfl) (by kernel_rfl) (by decide +kernel)
  · rw [impl_apart_eq] at h
    exact h
  · intro f e he
    cases he

/- impl.IsShopPlan -/
def impl_IsShopPlan (N : Nat) (x0 : List Int) (x1 : List Int) (x2 : Int) (x3 : List Int) : Option (Bool × Bool × Unit) :=
  Option.bind (impl_routed N x0 x1 x2) fun r1 =>
  cond (!r1.2.1)
    (some (false, false, ()))
    (Option.bind (impl_areStarts N x3 (List.length x1 : Int)) fun r2 =>
    cond (!r2.1)
      (some (false, false, ()))
      (loopN (fun (s3 : Int × Unit) next4 =>
        cond (decide (s3.1 < (List.length x1 : Int)))
          (cond (r1.1.2.2 == 0) none
            (cond (decide ((Int.tmod s3.1 r1.1.2.2) > 0))
              (Option.bind (idx x3 s3.1) fun v5 =>
              Option.bind (idx x3 (w64 (s3.1 - 1))) fun v6 =>
              Option.bind (idx x1 (w64 (s3.1 - 1))) fun v7 =>
              cond (decide (v5 < (w64 (v6 + v7))))
                (some (false, true, ()))
                (loopN (fun (s8 : Int × Unit) next9 =>
                  cond (decide (s8.1 < s3.1))
                    (Option.bind (idx x0 s3.1) fun v10 =>
                    Option.bind (idx x0 s8.1) fun v11 =>
                    cond (v10 == v11)
                      (Option.bind (idx x3 s3.1) fun v12 =>
                      Option.bind (idx x1 s3.1) fun v13 =>
                      Option.bind (idx x3 s8.1) fun v14 =>
                      Option.bind (idx x1 s8.1) fun v15 =>
                      Option.bind (impl_apart N v12 v13 v14 v15) fun r16 =>
                      cond (!r16.1)
                        (some (false, true, ()))
                        (next9 ((w64 (s8.1 + 1)), ())))
                      (next9 ((w64 (s8.1 + 1)), ())))
                    (next4 ((w64 (s3.1 + 1)), ()))) N (0, ())))
              (loopN (fun (s17 : Int × Unit) next18 =>
                cond (decide (s17.1 < s3.1))
                  (Option.bind (idx x0 s3.1) fun v19 =>
                  Option.bind (idx x0 s17.1) fun v20 =>
                  cond (v19 == v20)
                    (Option.bind (idx x3 s3.1) fun v21 =>
                    Option.bind (idx x1 s3.1) fun v22 =>
                    Option.bind (idx x3 s17.1) fun v23 =>
                    Option.bind (idx x1 s17.1) fun v24 =>
                    Option.bind (impl_apart N v21 v22 v23 v24) fun r25 =>
                    cond (!r25.1)
                      (some (false, true, ()))
                      (next18 ((w64 (s17.1 + 1)), ())))
                    (next18 ((w64 (s17.1 + 1)), ())))
                  (next4 ((w64 (s3.1 + 1)), ()))) N (0, ()))))
          (some (true, true, ()))) N (0, ())))
def impl_IsShopPlan_e (N : Nat) : Ent := { ins := [(.sl (.int .i64)), (.sl (.int .i64)), (.int .i64), (.sl (.int .i64))], outs := [.val .bool, .val .bool], F := fun x => impl_IsShopPlan N x.1 x.2.1 x.2.2.1 x.2.2.2.1 }
def impl_IsShopPlan_T (N : Nat) : Nat → List EntX
  | 80 => [.pl (impl_routed_e N)]
  | 81 => [.pl (impl_areStarts_e N)]
  | 82 => [.pl (impl_apart_e N)]
  | _ => []
def impl_IsShopPlan_L : Nat → List (Nat × TK)
  | 5 => [(32, .v (.int .i64))]
  | 10 => [(59, .v (.int .i64))]
  | _ => []
theorem impl_IsShopPlan_eq (N : Nat) : runF N tt (impl_IsShopPlan_T N) impl_IsShopPlan_L [(.sl (.int .i64)), (.sl (.int .i64)), (.int .i64), (.sl (.int .i64))] [.val .bool, .val .bool] (bodyOf Try.f32) Try.f32.ntmps [8, 9] = (impl_IsShopPlan_e N).F := by
  funext x
  kernel_rfl
theorem impl_IsShopPlan_sound (N : Nat) : SoundC Try.prog 32 (impl_IsShopPlan_e N) := by
  have h := runF_sound (f := 32) (code := bodyOf Try.f32) (N := N) (T := (impl_IsShopPlan_T N)) (L := impl_IsShopPlan_L) (ins := [(.sl (.int .i64)), (.sl (.int .i64)), (.int .i64), (.sl (.int .i64))]) (outs := [.val .bool, .val .bool]) (res := [8, 9]) mixed tt_ok ?_ Try.func32 (by kernel_rfl) rfl (by kernel_rfl) (by kernel_rfl) (by decide +kernel)
  · rw [impl_IsShopPlan_eq] at h
    exact h
  · intro f e he
    unfold impl_IsShopPlan_T at he
    split at he
    · rw [List.mem_singleton.1 he]; exact impl_routed_sound N
    · rw [List.mem_singleton.1 he]; exact impl_areStarts_sound N
    · rw [List.mem_singleton.1 he]; exact impl_apart_sound N
    · cases he

/- laws.FnExactIsShopPlan -/
def laws_FnExactIsShopPlan (N : Nat) (x0 : List Int) (x1 : List Int) (x2 : Int) (x3 : List Int) : Option (Bool × Unit) :=
  cond (decide ((List.length x0 : Int) > 1048576))
    (some (true, ()))
    (cond (decide ((List.length x1 : Int) > 1048576))
      (some (true, ()))
      (cond (decide ((List.length x3 : Int) > 1048576))
        (some (true, ()))
        (Option.bind (laws_toInt64S N x0) fun r1 =>
        Option.bind (laws_toInt64S N x1) fun r2 =>
        Option.bind (laws_toInt64S N x3) fun r3 =>
        Option.bind (spec_IsShopPlan N r1.1 r2.1 x2 r3.1) fun r4 =>
        Option.bind (laws_toInt64S N x0) fun r5 =>
        Option.bind (laws_toInt64S N x1) fun r6 =>
        Option.bind (laws_toInt64S N x3) fun r7 =>
        Option.bind (impl_IsShopPlan N r5.1 r6.1 x2 r7.1) fun r8 =>
        cond (!(r8.1 == r4.1))
          (some (false, ()))
          (cond (!(r8.2.1 == r4.2.1))
            (some (false, ()))
            (Option.bind (laws_toInt64S N x0) fun r9 =>
            Option.bind (laws_eqInt64S N r5.1 r9.1) fun r10 =>
            cond (!r10.1)
              (some (false, ()))
              (Option.bind (laws_toInt64S N x1) fun r11 =>
              Option.bind (laws_eqInt64S N r6.1 r11.1) fun r12 =>
              cond (!r12.1)
                (some (false, ()))
                (Option.bind (laws_toInt64S N x3) fun r13 =>
                Option.bind (laws_eqInt64S N r7.1 r13.1) fun r14 =>
                cond (!r14.1)
                  (some (false, ()))
                  (some (true, ())))))))))
def laws_FnExactIsShopPlan_e (N : Nat) : Ent := { ins := [(.sl (.int .i64)), (.sl (.int .i64)), (.int .i64), (.sl (.int .i64))], outs := [.val .bool], F := fun x => laws_FnExactIsShopPlan N x.1 x.2.1 x.2.2.1 x.2.2.2.1 }
def laws_FnExactIsShopPlan_T (N : Nat) : Nat → List EntX
  | 16 => [.pl (laws_toInt64S_e N)]
  | 18 => [.pl (laws_eqInt64S_e N)]
  | 31 => [.pl (spec_IsShopPlan_e N)]
  | 32 => [.pl (impl_IsShopPlan_e N)]
  | _ => []
def laws_FnExactIsShopPlan_L : Nat → List (Nat × TK) := fun _ => []
theorem laws_FnExactIsShopPlan_eq (N : Nat) : runF N tt (laws_FnExactIsShopPlan_T N) laws_FnExactIsShopPlan_L [(.sl (.int .i64)), (.sl (.int .i64)), (.int .i64), (.sl (.int .i64))] [.val .bool] (bodyOf Try.f9) Try.f9.ntmps [8] = (laws_FnExactIsShopPlan_e N).F := by
  funext x
  kernel_rfl
theorem laws_FnExactIsShopPlan_sound (N : Nat) : SoundC Try.prog 9 (laws_FnExactIsShopPlan_e N) := by
  have h := runF_sound (f := 9) (code := bodyOf Try.f9) (N := N) (T := (laws_FnExactIsShopPlan_T N)) (L := laws_FnExactIsShopPlan_L) (ins := [(.sl (.int .i64)), (.sl (.int .i64)), (.int .i64), (.sl (.int .i64))]) (outs := [.val .bool]) (res := [8]) mixed tt_ok ?_ Try.func9 (by kernel_rfl) rfl (by kernel_rfl) (by kernel_rfl) (by decide +kernel)
  · rw [laws_FnExactIsShopPlan_eq] at h
    exact h
  · intro f e he
    unfold laws_FnExactIsShopPlan_T at he
    split at he
    · rw [List.mem_singleton.1 he]; exact laws_toInt64S_sound N
    · rw [List.mem_singleton.1 he]; exact laws_eqInt64S_sound N
    · rw [List.mem_singleton.1 he]; exact spec_IsShopPlan_sound N
    · rw [List.mem_singleton.1 he]; exact impl_IsShopPlan_sound N
    · cases he

/- spec.l04Bound -/
def spec_l04Bound (N : Nat) (x0 : List Int) (x1 : List Int) (x2 : Int) : Option (Int × Unit) :=
  cond (mkOk x2 x2)
    (let xs1 := (List.replicate (Int.toNat x2) (0 : Int) : List (Int))
    loopN (fun (s2 : List (Int) × Int × Int × Unit) next3 =>
      Option.bind (spec_l04Count N x0 x2) fun r4 =>
      cond (decide (s2.2.2.1 < r4.1))
        (Option.bind (spec_l04Job N x0 x2 s2.2.2.1) fun r5 =>
        Option.bind (spec_l00Max N s2.2.1 r5.1) fun r6 =>
        loopN (fun (s7 : List (Int) × Int × Unit) next8 =>
          cond (decide (s7.2.1 < x2))
            (cond (decide ((List.length x1 : Int) > 0))
              (Option.bind (idx x1 (w64 ((w64 (s2.2.2.1 * x2)) + s7.2.1))) fun v9 =>
              cond (inB v9 (List.length s7.1))
                (Option.bind (s7.1[(Int.toNat v9)]?) fun v10 =>
                Option.bind (idx x0 (w64 ((w64 (s2.2.2.1 * x2)) + s7.2.1))) fun v11 =>
                cond (inB v9 (List.length s7.1))
                  (let xs12 := (List.set s7.1 (Int.toNat v9) (w64 (v10 + v11)))
                  next8 (xs12, (w64 (s7.2.1 + 1)), ())) none) none)
              (cond (inB s7.2.1 (List.length s7.1))
                (Option.bind (s7.1[(Int.toNat s7.2.1)]?) fun v13 =>
                Option.bind (idx x0 (w64 ((w64 (s2.2.2.1 * x2)) + s7.2.1))) fun v14 =>
                cond (inB s7.2.1 (List.length s7.1))
                  (let xs15 := (List.set s7.1 (Int.toNat s7.2.1) (w64 (v13 + v14)))
                  next8 (xs15, (w64 (s7.2.1 + 1)), ())) none) none))
            (next3 (s7.1, r6.1, (w64 (s2.2.2.1 + 1)), ()))) N (s2.1, 0, ()))
        (Option.bind (spec_l02Greatest N s2.1) fun r16 =>
        Option.bind (spec_l00Max N s2.2.1 r16.1) fun r17 =>
        some (r17.1, ()))) N (xs1, 0, 0, ())) none
def spec_l04Bound_e (N : Nat) : Ent := { ins := [(.sl (.int .i64)), (.sl (.int .i64)), (.int .i64)], outs := [.val (.int .i64)], F := fun x => spec_l04Bound N x.1 x.2.1 x.2.2.1 }
def spec_l04Bound_T (N : Nat) : Nat → List EntX
  | 47 => [.pl (spec_l04Job_e N)]
  | 53 => [.pl (spec_l04Count_e N)]
  | 61 => [.pl (spec_l00Max_e N)]
  | 115 => [.pl (spec_l02Greatest_e N)]
  | _ => []
def spec_l04Bound_L : Nat → List (Nat × TK)
  | 4 => [(7, .own (.int .i64)), (8, .v (.int .i64)), (9, .v (.int .i64))]
  | 8 => [(7, .own (.int .i64)), (10, .v (.int .i64))]
  | _ => []
theorem spec_l04Bound_eq (N : Nat) : runF N tt (spec_l04Bound_T N) spec_l04Bound_L [(.sl (.int .i64)), (.sl (.int .i64)), (.int .i64)] [.val (.int .i64)] (bodyOf Try.f83) Try.f83.ntmps [6] = (spec_l04Bound_e N).F := by
  funext x
  kernel_rfl
theorem spec_l04Bound_sound (N : Nat) : SoundC Try.prog 83 (spec_l04Bound_e N) := by
  have h := runF_sound (f := 83) (code := bodyOf Try.f83) (N := N) (T := (spec_l04Bound_T N)) (L := spec_l04Bound_L) (ins := [(.sl (.int .i64)), (.sl (.int .i64)), (.int .i64)]) (outs := [.val (.int .i64)]) (res := [6]) mixed tt_ok ?_ Try.func83 (by kernel_rfl) rfl (by kernel_rfl) (by kernel_rfl) (by decide +kernel)
  · rw [spec_l04Bound_eq] at h
    exact h
  · intro f e he
    unfold spec_l04Bound_T at he
    split at he
    · rw [List.mem_singleton.1 he]; exact spec_l04Job_sound N
    · rw [List.mem_singleton.1 he]; exact spec_l04Count_sound N
    · rw [List.mem_singleton.1 he]; exact spec_l00Max_sound N
    · rw [List.mem_singleton.1 he]; exact spec_l02Greatest_sound N
    · cases he

/- spec.ShopBound -/
def spec_ShopBound (N : Nat) (x0 : List Int) (x1 : List Int) (x2 : Int) : Option (Int × Bool × Unit) :=
  Option.bind (spec_l04Shop N x0 x1 x2) fun r1 =>
  cond (!r1.1)
    (some (0, false, ()))
    (Option.bind (spec_l04Bound N x1 x0 x2) fun r2 =>
    some (r2.1, true, ()))
def spec_ShopBound_e (N : Nat) : Ent := { ins := [(.sl (.int .i64)), (.sl (.int .i64)), (.int .i64)], outs := [.val (.int .i64), .val .bool], F := fun x => spec_ShopBound N x.1 x.2.1 x.2.2.1 }
def spec_ShopBound_T (N : Nat) : Nat → List EntX
  | 77 => [.pl (spec_l04Shop_e N)]
  | 83 => [.pl (spec_l04Bound_e N)]
  | _ => []
def spec_ShopBound_L : Nat → List (Nat × TK) := fun _ => []
theorem spec_ShopBound_eq (N : Nat) : runF N tt (spec_ShopBound_T N) spec_ShopBound_L [(.sl (.int .i64)), (.sl (.int .i64)), (.int .i64)] [.val (.int .i64), .val .bool] (bodyOf Try.f33) Try.f33.ntmps [6, 7] = (spec_ShopBound_e N).F := by
  funext x
  kernel_rfl
theorem spec_ShopBound_sound (N : Nat) : SoundC Try.prog 33 (spec_ShopBound_e N) := by
  have h := runF_sound (f := 33) (code := bodyOf Try.f33) (N := N) (T := (spec_ShopBound_T N)) (L := spec_ShopBound_L) (ins := [(.sl (.int .i64)), (.sl (.int .i64)), (.int .i64)]) (outs := [.val (.int .i64), .val .bool]) (res := [6, 7]) mixed tt_ok ?_ Try.func33 (by kernel_rfl) rfl (by kernel_rfl) (by kernel_rfl) (by decide +kernel)
  · rw [spec_ShopBound_eq] at h
    exact h
  · intro f e he
    unfold spec_ShopBound_T at he
    split at he
    · rw [List.mem_singleton.1 he]; exact spec_l04Shop_sound N
    · rw [List.mem_singleton.1 he]; exact spec_l04Bound_sound N
    · cases he

/- impl.ShopBound -/
def impl_ShopBound (N : Nat) (x0 : List Int) (x1 : List Int) (x2 : Int) : Option (Int × Bool × Unit) :=
  Option.bind (impl_routed N x0 x1 x2) fun r1 =>
  cond (!r1.2.1)
    (some (0, false, ()))
    (cond (mkOk r1.1.2.2 r1.1.2.2)
      (let xs2 := (List.replicate (Int.toNat r1.1.2.2) (0 : Int) : List (Int))
      loopN (fun (s3 : Int × List (Int) × Int × Unit) next4 =>
        cond (decide (s3.2.2.1 < (List.length x1 : Int)))
          (Option.bind (idx x1 s3.2.2.1) fun v5 =>
          Option.bind (idx x0 s3.2.2.1) fun v6 =>
          cond (inB v6 (List.length s3.2.1))
            (Option.bind (s3.2.1[(Int.toNat v6)]?) fun v7 =>
            cond (inB v6 (List.length s3.2.1))
              (let xs8 := (List.set s3.2.1 (Int.toNat v6) (w64 (v7 + v5)))
              cond (r1.1.2.2 == 0) none
                (Option.bind (impl_shop_of N (r1.1.1, (r1.1.2.1, r1.1.2.2)) (w64 (Int.tdiv s3.2.2.1 r1.1.2.2))) fun r9 =>
                next4 ((imax s3.1 r9.1), xs8, (w64 (s3.2.2.1 + 1)), ()))) none) none)
          (Option.bind (slices_Max_int64_int64 N s3.2.1) fun r10 =>
          some ((imax s3.1 r10.1), true, ()))) N (0, xs2, 0, ())) none)
def impl_ShopBound_e (N : Nat) : Ent := { ins := [(.sl (.int .i64)), (.sl (.int .i64)), (.int .i64)], outs := [.val (.int .i64), .val .bool], F := fun x => impl_ShopBound N x.1 x.2.1 x.2.2.1 }
def impl_ShopBound_T (N : Nat) : Nat → List EntX
  | 50 => [.pl (impl_shop_of_e N)]
  | 63 => [.pl (slices_Max_int64_int64_e N)]
  | 80 => [.pl (impl_routed_e N)]
  | _ => []
def impl_ShopBound_L : Nat → List (Nat × TK)
  | 7 => [(10, .v (.int .i64)), (11, .own (.int .i64)), (28, .v (.int .i64))]
  | _ => []
theorem impl_ShopBound_eq (N : Nat) : runF N tt (impl_ShopBound_T N) impl_ShopBound_L [(.sl (.int .i64)), (.sl (.int .i64)), (.int .i64)] [.val (.int .i64), .val .bool] (bodyOf Try.f34) Try.f34.ntmps [6, 7] = (impl_ShopBound_e N).F := by
  funext x
  kernel_rfl
theorem impl_ShopBound_sound (N : Nat) : SoundC Try.prog 34 (impl_ShopBound_e N) := by
  have h := runF_sound (f := 34) (code := bodyOf Try.f34) (N := N) (T := (impl_ShopBound_T N)) (L := impl_ShopBound_L) (ins := [(.sl (.int .i64)), (.sl (.int .i64)), (.int .i64)]) (outs := [.val (.int .i64), .val .bool]) (res := [6, 7]) mixed tt_ok ?_ Try.func34 (by kernel_rfl) rfl (by kernel_rfl) (by kernel_rfl) (by decide +kernel)
  · rw [impl_ShopBound_eq] at h
    exact h
  · intro f e he
    unfold impl_ShopBound_T at he
    split at he
    · rw [List.mem_singleton.1 he]; exact impl_shop_of_sound N
    · rw [List.mem_singleton.1 he]; exact slices_Max_int64_int64_sound N
    · rw [List.mem_singleton.1 he]; exact impl_routed_sound N
    · cases he

/- laws.FnExactShopBound -/
def laws_FnExactShopBound (N : Nat) (x0 : List Int) (x1 : List Int) (x2 : Int) : Option (Bool × Unit) :=
  cond (decide ((List.length x0 : Int) > 1048576))
    (some (true, ()))
    (cond (decide ((List.length x1 : Int) > 1048576))
      (some (true, ()))
      (Option.bind (laws_toInt64S N x0) fun r1 =>
      Option.bind (laws_toInt64S N x1) fun r2 =>
      Option.bind (spec_ShopBound N r1.1 r2.1 x2) fun r3 =>
      Option.bind (laws_toInt64S N x0) fun r4 =>
      Option.bind (laws_toInt64S N x1) fun r5 =>
      Option.bind (impl_ShopBound N r4.1 r5.1 x2) fun r6 =>
      cond (r6.1 != r3.1)
        (some (false, ()))
        (cond (!(r6.2.1 == r3.2.1))
          (some (false, ()))
          (Option.bind (laws_toInt64S N x0) fun r7 =>
          Option.bind (laws_eqInt64S N r4.1 r7.1) fun r8 =>
          cond (!r8.1)
            (some (false, ()))
            (Option.bind (laws_toInt64S N x1) fun r9 =>
            Option.bind (laws_eqInt64S N r5.1 r9.1) fun r10 =>
            cond (!r10.1)
              (some (false, ()))
              (some (true, ())))))))
def laws_FnExactShopBound_e (N : Nat) : Ent := { ins := [(.sl (.int .i64)), (.sl (.int .i64)), (.int .i64)], outs := [.val .bool], F := fun x => laws_FnExactShopBound N x.1 x.2.1 x.2.2.1 }
def laws_FnExactShopBound_T (N : Nat) : Nat → List EntX
  | 16 => [.pl (laws_toInt64S_e N)]
  | 18 => [.pl (laws_eqInt64S_e N)]
  | 33 => [.pl (spec_ShopBound_e N)]
  | 34 => [.pl (impl_ShopBound_e N)]
  | _ => []
def laws_FnExactShopBound_L : Nat → List (Nat × TK) := fun _ => []
theorem laws_FnExactShopBound_eq (N : Nat) : runF N tt (laws_FnExactShopBound_T N) laws_FnExactShopBound_L [(.sl (.int .i64)), (.sl (.int .i64)), (.int .i64)] [.val .bool] (bodyOf Try.f10) Try.f10.ntmps [6] = (laws_FnExactShopBound_e N).F := by
  funext x
  kernel_rfl
theorem laws_FnExactShopBound_sound (N : Nat) : SoundC Try.prog 10 (laws_FnExactShopBound_e N) := by
  have h := runF_sound (f := 10) (code := bodyOf Try.f10) (N := N) (T := (laws_FnExactShopBound_T N)) (L := laws_FnExactShopBound_L) (ins := [(.sl (.int .i64)), (.sl (.int .i64)), (.int .i64)]) (outs := [.val .bool]) (res := [6]) mixed tt_ok ?_ Try.func10 (by kernel_rfl) rfl (by kernel_rfl) (by kernel_rfl) (by decide +kernel)
  · rw [laws_FnExactShopBound_eq] at h
    exact h
  · intro f e he
    unfold laws_FnExactShopBound_T at he
    split at he
    · rw [List.mem_singleton.1 he]; exact laws_toInt64S_sound N
    · rw [List.mem_singleton.1 he]; exact laws_eqInt64S_sound N
    · rw [List.mem_singleton.1 he]; exact spec_ShopBound_sound N
    · rw [List.mem_singleton.1 he]; exact impl_ShopBound_sound N
    · cases he

/- spec.l04Former -/
def spec_l04Former (_N : Nat) (x0 : List Int) (x1 : Int) (x2 : Int) : Option (Bool × Unit) :=
  Option.bind (idx x0 (w64 (2 * x1))) fun v1 =>
  Option.bind (idx x0 (w64 ((w64 (2 * x1)) + 1))) fun v2 =>
  Option.bind (idx x0 (w64 (2 * x2))) fun v3 =>
  Option.bind (idx x0 (w64 ((w64 (2 * x2)) + 1))) fun v4 =>
  cond (!((decide (v1 ≤ v2)) == (decide (v3 ≤ v4))))
    (some ((decide (v1 ≤ v2)), ()))
    (cond (decide (v1 ≤ v2))
      (Option.bind (idx x0 (w64 (2 * x1))) fun v5 =>
      Option.bind (idx x0 (w64 (2 * x2))) fun v6 =>
      some ((decide (v5 < v6)), ()))
      (Option.bind (idx x0 (w64 ((w64 (2 * x1)) + 1))) fun v7 =>
      Option.bind (idx x0 (w64 ((w64 (2 * x2)) + 1))) fun v8 =>
      some ((decide (v7 > v8)), ())))
def spec_l04Former_e (N : Nat) : Ent := { ins := [(.sl (.int .i64)), (.int .i64), (.int .i64)], outs := [.val .bool], F := fun x => spec_l04Former N x.1 x.2.1 x.2.2.1 }
def spec_l04Former_T (_ : Nat) : Nat → List EntX := fun _ => []
def spec_l04Former_L : Nat → List (Nat × TK) := fun _ => []
theorem spec_l04Former_eq (N : Nat) : runF N tt (spec_l04Former_T N) spec_l04Former_L [(.sl (.int .i64)), (.int .i64), (.int .i64)] [.val .bool] (bodyOf Try.f68) Try.f68.ntmps [6] = (spec_l04Former_e N).F := by
  funext x
  kernel_rfl
theorem spec_l04Former_sound (N : Nat) : SoundC Try.prog 68 (spec_l04Former_e N) := by
  have h := runF_sound (f := 68) (code := bodyOf Try.f68) (N := N) (T := (spec_l04Former_T N)) (L := spec_l04Former_L) (ins := [(.sl (.int .i64)), (.int .i64), (.int .i64)]) (outs := [.val .bool]) (res := [6]) mixed tt_ok ?_ Try.func68 (by kernel_rfl) rfl (by kernel_rfl) (by kernel_rfl) (by decide +kernel)
  · rw [spec_l04Former_eq] at h
    exact h
  · intro f e he
    cases he

/- spec.TwoOrder -/
def spec_TwoOrder (N : Nat) (x0 : List Int) : Option (List (Int) × Bool × Unit) :=
  Option.bind (spec_l04Can N x0 2) fun r1 =>
  cond (!r1.1)
    (some ([], false, ()))
    (loopN (fun (s2 : List (Int) × Int × Unit) next3 =>
      Option.bind (spec_l04Count N x0 2) fun r4 =>
      cond (decide (s2.2.1 < r4.1))
        (cond (appOk (List.length s2.1) (List.length ([s2.2.1] : List Int)))
          (let xs5 := (s2.1 ++ ([s2.2.1] : List Int))
          loopN (fun (s6 : List (Int) × Int × Unit) next7 =>
            cond (decide (s6.2.1 > 0))
              (cond (inB s6.2.1 (List.length s6.1))
                (Option.bind (s6.1[(Int.toNat s6.2.1)]?) fun v8 =>
                cond (inB (w64 (s6.2.1 - 1)) (List.length s6.1))
                  (Option.bind (s6.1[(Int.toNat (w64 (s6.2.1 - 1)))]?) fun v9 =>
                  Option.bind (spec_l04Former N x0 v8 v9) fun r10 =>
                  cond r10.1
                    (cond (inB s6.2.1 (List.length s6.1))
                      (Option.bind (s6.1[(Int.toNat s6.2.1)]?) fun v11 =>
                      cond (inB (w64 (s6.2.1 - 1)) (List.length s6.1))
                        (Option.bind (s6.1[(Int.toNat (w64 (s6.2.1 - 1)))]?) fun v12 =>
                        cond (inB s6.2.1 (List.length s6.1))
                          (let xs13 := (List.set s6.1 (Int.toNat s6.2.1) v12)
                          cond (inB (w64 (s6.2.1 - 1)) (List.length xs13))
                            (let xs14 := (List.set xs13 (Int.toNat (w64 (s6.2.1 - 1))) v11)
                            next7 (xs14, (w64 (s6.2.1 - 1)), ())) none) none) none) none)
                    (next3 (s6.1, (w64 (s2.2.1 + 1)), ()))) none) none)
              (next3 (s6.1, (w64 (s2.2.1 + 1)), ()))) N (xs5, s2.2.1, ())) none)
        (some (s2.1, true, ()))) N (([] : List Int), 0, ()))
def spec_TwoOrder_e (N : Nat) : Ent := { ins := [(.sl (.int .i64))], outs := [.own (.int .i64), .val .bool], F := fun x => spec_TwoOrder N x.1 }
def spec_TwoOrder_T (N : Nat) : Nat → List EntX
  | 52 => [.pl (spec_l04Can_e N)]
  | 53 => [.pl (spec_l04Count_e N)]
  | 68 => [.pl (spec_l04Former_e N)]
  | _ => []
def spec_TwoOrder_L : Nat → List (Nat × TK)
  | 5 => [(4, .own (.int .i64)), (5, .v (.int .i64))]
  | 9 => [(4, .own (.int .i64)), (6, .v (.int .i64))]
  | _ => []
theorem spec_TwoOrder_eq (N : Nat) : runF N tt (spec_TwoOrder_T N) spec_TwoOrder_L [(.sl (.int .i64))] [.own (.int .i64), .val .bool] (bodyOf Try.f27) Try.f27.ntmps [2, 3] = (spec_TwoOrder_e N).F := by
  funext x
  kernel_rfl
theorem spec_TwoOrder_sound (N : Nat) : SoundC Try.prog 27 (spec_TwoOrder_e N) := by
  have h := runF_sound (f := 27) (code := bodyOf Try.f27) (N := N) (T := (spec_TwoOrder_T N)) (L := spec_TwoOrder_L) (ins := [(.sl (.int .i64))]) (outs := [.own (.int .i64), .val .bool]) (res := [2, 3]) mixed tt_ok ?_ Try.func27 (by kernel_rfl) rfl (by kernel_rfl) (by kernel_rfl) (by decide +kernel)
  · rw [spec_TwoOrder_eq] at h
    exact h
  · intro f e he
    unfold spec_TwoOrder_T at he
    split at he
    · rw [List.mem_singleton.1 he]; exact spec_l04Can_sound N
    · rw [List.mem_singleton.1 he]; exact spec_l04Count_sound N
    · rw [List.mem_singleton.1 he]; exact spec_l04Former_sound N
    · cases he

/- impl.counting -/
def impl_counting (N : Nat) (x0 : Int) : Option (List (Int) × Unit) :=
  loopN (fun (s1 : List (Int) × Int × Unit) next2 =>
    cond (decide (s1.2.1 < x0))
      (cond (appOk (List.length s1.1) (List.length ([s1.2.1] : List Int)))
        (let xs3 := (s1.1 ++ ([s1.2.1] : List Int))
        next2 (xs3, (w64 (s1.2.1 + 1)), ())) none)
      (some (s1.1, ()))) N (([] : List Int), 0, ())
def impl_counting_e (N : Nat) : Ent := { ins := [(.int .i64)], outs := [.own (.int .i64)], F := fun x => impl_counting N x.1 }
def impl_counting_T (_ : Nat) : Nat → List EntX := fun _ => []
def impl_counting_L : Nat → List (Nat × TK)
  | 3 => [(3, .own (.int .i64)), (7, .v (.int .i64))]
  | _ => []
theorem impl_counting_eq (N : Nat) : runF N tt (impl_counting_T N) impl_counting_L [(.int .i64)] [.own (.int .i64)] (bodyOf Try.f118) Try.f118.ntmps [2] = (impl_counting_e N).F := by
  funext x
  kernel_rfl
theorem impl_counting_sound (N : Nat) : SoundC Try.prog 118 (impl_counting_e N) := by
  have h := runF_sound (f := 118) (code := bodyOf Try.f118) (N := N) (T := (impl_counting_T N)) (L := impl_counting_L) (ins := [(.int .i64)]) (outs := [.own (.int .i64)]) (res := [2]) mixed tt_ok ?_ Try.func118 (by kernel_rfl) rfl (by kernel_rfl) (by kernel_rfl) (by decide +kernel)
  · rw [impl_counting_eq] at h
    exact h
  · intro f e he
    cases he

/- impl.TwoOrder$1 -/
def impl_TwoOrder_1_c0 (N : Nat) (x0 : Int) (x1 : (List Int) × Int × Int) : Option (Int × Unit) :=
  Option.bind (impl_shop_at N x1 x0 0) fun r1 =>
  some (r1.1, ())
def impl_TwoOrder_1_c0_e (N : Nat) : Ent := { ins := [(.int .i64), (.bx (.pair (.sl (.int .i64)) (.pair (.int .i64) (.int .i64))))], outs := [.val (.int .i64)], F := fun x => impl_TwoOrder_1_c0 N x.1 x.2.1 }
def impl_TwoOrder_1_c0_T (N : Nat) : Nat → List EntX
  | 71 => [.pl (impl_shop_at_e N)]
  | _ => []
def impl_TwoOrder_1_c0_L : Nat → List (Nat × TK) := fun _ => []
theorem impl_TwoOrder_1_c0_eq (N : Nat) : runF N tt (impl_TwoOrder_1_c0_T N) impl_TwoOrder_1_c0_L [(.int .i64), (.bx (.pair (.sl (.int .i64)) (.pair (.int .i64) (.int .i64))))] [.val (.int .i64)] (bodyOf Try.f70) Try.f70.ntmps [3] = (impl_TwoOrder_1_c0_e N).F := by
  funext x
  kernel_rfl
theorem impl_TwoOrder_1_c0_sound (N : Nat) : SoundC Try.prog 70 (impl_TwoOrder_1_c0_e N) := by
  have h := runF_sound (f := 70) (code := bodyOf Try.f70) (N := N) (T := (impl_TwoOrder_1_c0_T N)) (L := impl_TwoOrder_1_c0_L) (ins := [(.int .i64), (.bx (.pair (.sl (.int .i64)) (.pair (.int .i64) (.int .i64))))]) (outs := [.val (.int .i64)]) (res := [3]) mixed tt_ok ?_ Try.func70 (by kernel_rfl) rfl (by kernel_rfl) (by kernel_rfl) (by decide +kernel)
  · rw [impl_TwoOrder_1_c0_eq] at h
    exact h
  · intro f e he
    unfold impl_TwoOrder_1_c0_T at he
    split at he
    · rw [List.mem_singleton.1 he]; exact impl_shop_at_sound N
    · cases he

/- cmp.isNaN[int64] -/
def cmp_isNaN_int64 (_N : Nat) (x0 : Int) : Option (Bool × Unit) :=
  some ((x0 != x0), ())
def cmp_isNaN_int64_e (N : Nat) : Ent := { ins := [(.int .i64)], outs := [.val .bool], F := fun x => cmp_isNaN_int64 N x.1 }
def cmp_isNaN_int64_T (_ : Nat) : Nat → List EntX := fun _ => []
def cmp_isNaN_int64_L : Nat → List (Nat × TK) := fun _ => []
theorem cmp_isNaN_int64_eq (N : Nat) : runF N tt (cmp_isNaN_int64_T N) cmp_isNaN_int64_L [(.int .i64)] [.val .bool] (bodyOf Try.f136) Try.f136.ntmps [2] = (cmp_isNaN_int64_e N).F := by
  funext x
  kernel_rfl
theorem cmp_isNaN_int64_sound (N : Nat) : SoundC Try.prog 136 (cmp_isNaN_int64_e N) := by
  have h := runF_sound (f := 136) (code := bodyOf Try.f136) (N := N) (T := (cmp_isNaN_int64_T N)) (L := cmp_isNaN_int64_L) (ins := [(.int .i64)]) (outs := [.val .bool]) (res := [2]) mixed tt_ok ?_ Try.func136 (by kernel_rfl) rfl (by kernel_rfl) (by kernel_rfl) (by decide +kernel)
  · rw [cmp_isNaN_int64_eq] at h
    exact h
  · intro f e he
    cases he

/- cmp.Compare[int64] -/
def cmp_Compare_int64 (N : Nat) (x0 : Int) (x1 : Int) : Option (Int × Unit) :=
  Option.bind (cmp_isNaN_int64 N x0) fun r1 =>
  Option.bind (cmp_isNaN_int64 N x1) fun r2 =>
  cond r1.1
    (cond r2.1
      (some (0, ()))
      (some ((-1), ())))
    (cond r2.1
      (some (1, ()))
      (cond (decide (x0 < x1))
        (some ((-1), ()))
        (cond (decide (x0 > x1))
          (some (1, ()))
          (some (0, ())))))
def cmp_Compare_int64_e (N : Nat) : Ent := { ins := [(.int .i64), (.int .i64)], outs := [.val (.int .i64)], F := fun x => cmp_Compare_int64 N x.1 x.2.1 }
def cmp_Compare_int64_T (N : Nat) : Nat → List EntX
  | 136 => [.pl (cmp_isNaN_int64_e N)]
  | _ => []
def cmp_Compare_int64_L : Nat → List (Nat × TK) := fun _ => []
theorem cmp_Compare_int64_eq (N : Nat) : runF N tt (cmp_Compare_int64_T N) cmp_Compare_int64_L [(.int .i64), (.int .i64)] [.val (.int .i64)] (bodyOf Try.f121) Try.f121.ntmps [4] = (cmp_Compare_int64_e N).F := by
  funext x
  kernel_rfl
theorem cmp_Compare_int64_sound (N : Nat) : SoundC Try.prog 121 (cmp_Compare_int64_e N) := by
  have h := runF_sound (f := 121) (code := bodyOf Try.f121) (N := N) (T := (cmp_Compare_int64_T N)) (L := cmp_Compare_int64_L) (ins := [(.int .i64), (.int .i64)]) (outs := [.val (.int .i64)]) (res := [4]) mixed tt_ok ?_ Try.func121 (by kernel_rfl) rfl (by kernel_rfl) (by kernel_rfl) (by decide +kernel)
  · rw [cmp_Compare_int64_eq] at h
    exact h
  · intro f e he
    unfold cmp_Compare_int64_T at he
    split at he
    · rw [List.mem_singleton.1 he]; exact cmp_isNaN_int64_sound N
    · cases he

/- impl.sortedBy$1 -/
def impl_sortedBy_1_c0 (N : Nat) (x0 : Int) (x1 : Int) (x2 : (List Int) × Int × Int) : Option (Int × Unit) :=
  Option.bind (impl_TwoOrder_1_c0 N x0 x2) fun r1 =>
  Option.bind (impl_TwoOrder_1_c0 N x1 x2) fun r2 =>
  Option.bind (cmp_Compare_int64 N r1.1 r2.1) fun r3 =>
  some (r3.1, ())
def impl_sortedBy_1_c0_e (N : Nat) : Ent := { ins := [(.int .i64), (.int .i64), (.bx (.clo 70 (.bx (.pair (.sl (.int .i64)) (.pair (.int .i64) (.int .i64))))))], outs := [.val (.int .i64)], F := fun x => impl_sortedBy_1_c0 N x.1 x.2.1 x.2.2.1 }
def impl_sortedBy_1_c0_T (N : Nat) : Nat → List EntX
  | 70 => [.pl (impl_TwoOrder_1_c0_e N)]
  | 121 => [.pl (cmp_Compare_int64_e N)]
  | _ => []
def impl_sortedBy_1_c0_L : Nat → List (Nat × TK) := fun _ => []
theorem impl_sortedBy_1_c0_eq (N : Nat) : runF N tt (impl_sortedBy_1_c0_T N) impl_sortedBy_1_c0_L [(.int .i64), (.int .i64), (.bx (.clo 70 (.bx (.pair (.sl (.int .i64)) (.pair (.int .i64) (.int .i64))))))] [.val (.int .i64)] (bodyOf Try.f120) Try.f120.ntmps [5] = (impl_sortedBy_1_c0_e N).F := by
  funext x
  kernel_rfl
theorem impl_sortedBy_1_c0_sound (N : Nat) : SoundC Try.prog 120 (impl_sortedBy_1_c0_e N) := by
  have h := runF_sound (f := 120) (code := bodyOf Try.f120) (N := N) (T := (impl_sortedBy_1_c0_T N)) (L := impl_sortedBy_1_c0_L) (ins := [(.int .i64), (.int .i64), (.bx (.clo 70 (.bx (.pair (.sl (.int .i64)) (.pair (.int .i64) (.int .i64))))))]) (outs := [.val (.int .i64)]) (res := [5]) mixed tt_ok ?_ Try.func120 (by kernel_rfl) rfl (by kernel_rfl) (by kernel_rfl) (by decide +kernel)
  · rw [impl_sortedBy_1_c0_eq] at h
    exact h
  · intro f e he
    unfold impl_sortedBy_1_c0_T at he
    split at he
    · rw [List.mem_singleton.1 he]; exact impl_TwoOrder_1_c0_sound N
    · rw [List.mem_singleton.1 he]; exact cmp_Compare_int64_sound N
    · cases he

/- slices.insertionSortCmpFunc[int64] -/
def slices_insertionSortCmpFunc_int64_impl_sortedBy_1 (N : Nat) (x0 : List Int) (x1 : Int) (x2 : Int) (x3 : (List Int) × Int × Int) : Option (List (Int) × (Unit)) :=
  loopN (fun (s1 : List (Int) × Int × Unit) next2 =>
    cond (decide (s1.2.1 < x2))
      (loopN (fun (s3 : List (Int) × Int × Unit) next4 =>
        cond (decide (s3.2.1 > x1))
          (cond (inB s3.2.1 (List.length s3.1))
            (Option.bind (s3.1[(Int.toNat s3.2.1)]?) fun v5 =>
            cond (inB (w64 (s3.2.1 - 1)) (List.length s3.1))
              (Option.bind (s3.1[(Int.toNat (w64 (s3.2.1 - 1)))]?) fun v6 =>
              Option.bind (impl_sortedBy_1_c0 N v5 v6 x3) fun r7 =>
              cond (decide (r7.1 < 0))
                (cond (inB (w64 (s3.2.1 - 1)) (List.length s3.1))
                  (Option.bind (s3.1[(Int.toNat (w64 (s3.2.1 - 1)))]?) fun v8 =>
                  cond (inB s3.2.1 (List.length s3.1))
                    (Option.bind (s3.1[(Int.toNat s3.2.1)]?) fun v9 =>
                    cond (inB s3.2.1 (List.length s3.1))
                      (let xs10 := (List.set s3.1 (Int.toNat s3.2.1) v8)
                      cond (inB (w64 (s3.2.1 - 1)) (List.length xs10))
                        (let xs11 := (List.set xs10 (Int.toNat (w64 (s3.2.1 - 1))) v9)
                        next4 (xs11, (w64 (s3.2.1 - 1)), ())) none) none) none) none)
                (next2 (s3.1, (w64 (s1.2.1 + 1)), ()))) none) none)
          (next2 (s3.1, (w64 (s1.2.1 + 1)), ()))) N (s1.1, s1.2.1, ()))
      (some (s1.1, ()))) N (x0, (w64 (x1 + 1)), ())
def slices_insertionSortCmpFunc_int64_impl_sortedBy_1_e (N : Nat) : EntM := { io := (.int .i64), ins := [(.int .i64), (.int .i64), (.clo 120 (.bx (.clo 70 (.bx (.pair (.sl (.int .i64)) (.pair (.int .i64) (.int .i64)))))))], outs := [], F := fun xs x => slices_insertionSortCmpFunc_int64_impl_sortedBy_1 N xs x.1 x.2.1 x.2.2.1 }
def slices_insertionSortCmpFunc_int64_impl_sortedBy_1_T (N : Nat) : Nat → List EntX
  | 120 => [.pl (impl_sortedBy_1_c0_e N)]
  | _ => []
def slices_insertionSortCmpFunc_int64_impl_sortedBy_1_L : Nat → List (Nat × TK)
  | 1 => [(0, .own (.int .i64)), (8, .v (.int .i64))]
  | 4 => [(0, .own (.int .i64)), (9, .v (.int .i64))]
  | _ => []
theorem slices_insertionSortCmpFunc_int64_impl_sortedBy_1_eq (N : Nat) : runM N tt (slices_insertionSortCmpFunc_int64_impl_sortedBy_1_T N) slices_insertionSortCmpFunc_int64_impl_sortedBy_1_L (.int .i64) [(.int .i64), (.int .i64), (.clo 120 (.bx (.clo 70 (.bx (.pair (.sl (.int .i64)) (.pair (.int .i64) (.int .i64)))))))] [] (bodyOf Try.f141) Try.f141.ntmps [] = (slices_insertionSortCmpFunc_int64_impl_sortedBy_1_e N).F := by
  funext xs x
  kernel_rfl
theorem slices_insertionSortCmpFunc_int64_impl_sortedBy_1_sound (N : Nat) : SoundM Try.prog 141 (slices_insertionSortCmpFunc_int64_impl_sortedBy_1_e N) := by
  have h := runM_sound (f := 141) (code := bodyOf Try.f141) (N := N) (T := (slices_insertionSortCmpFunc_int64_impl_sortedBy_1_T N)) (L := slices_insertionSortCmpFunc_int64_impl_sortedBy_1_L) (io := (.int .i64)) (ins := [(.int .i64), (.int .i64), (.clo 120 (.bx (.clo 70 (.bx (.pair (.sl (.int .i64)) (.pair (.int .i64) (.int .i64)))))))]) (outs := []) (res := []) mixed tt_ok ?_ Try.func141 (by kernel_rfl) rfl (by kernel_rfl) (by kernel_rfl) (by decide +kernel)
  · rw [slices_insertionSortCmpFunc_int64_impl_sortedBy_1_eq] at h
    exact h
  · intro f e he
    unfold slices_insertionSortCmpFunc_int64_impl_sortedBy_1_T at he
    split at he
    · rw [List.mem_singleton.1 he]; exact impl_sortedBy_1_c0_sound N
    · cases he

/- slices.swapRangeCmpFunc[int64] -/
def slices_swapRangeCmpFunc_int64_impl_sortedBy_1 (N : Nat) (x0 : List Int) (x1 : Int) (x2 : Int) (x3 : Int) (x4 : (List Int) × Int × Int) : Option (List (Int) × (Unit)) :=
  loopN (fun (s1 : List (Int) × Int × Unit) next2 =>
    cond (decide (s1.2.1 < x3))
      (cond (inB (w64 (x2 + s1.2.1)) (List.length s1.1))
        (Option.bind (s1.1[(Int.toNat (w64 (x2 + s1.2.1)))]?) fun v3 =>
        cond (inB (w64 (x1 + s1.2.1)) (List.length s1.1))
          (Option.bind (s1.1[(Int.toNat (w64 (x1 + s1.2.1)))]?) fun v4 =>
          cond (inB (w64 (x1 + s1.2.1)) (List.length s1.1))
            (let xs5 := (List.set s1.1 (Int.toNat (w64 (x1 + s1.2.1))) v3)
            cond (inB (w64 (x2 + s1.2.1)) (List.length xs5))
              (let xs6 := (List.set xs5 (Int.toNat (w64 (x2 + s1.2.1))) v4)
              next2 (xs6, (w64 (s1.2.1 + 1)), ())) none) none) none) none)
      (some (s1.1, ()))) N (x0, 0, ())
def slices_swapRangeCmpFunc_int64_impl_sortedBy_1_e (N : Nat) : EntM := { io := (.int .i64), ins := [(.int .i64), (.int .i64), (.int .i64), (.clo 120 (.bx (.clo 70 (.bx (.pair (.sl (.int .i64)) (.pair (.int .i64) (.int .i64)))))))], outs := [], F := fun xs x => slices_swapRangeCmpFunc_int64_impl_sortedBy_1 N xs x.1 x.2.1 x.2.2.1 x.2.2.2.1 }
def slices_swapRangeCmpFunc_int64_impl_sortedBy_1_T (_ : Nat) : Nat → List EntX := fun _ => []
def slices_swapRangeCmpFunc_int64_impl_sortedBy_1_L : Nat → List (Nat × TK)
  | 1 => [(0, .own (.int .i64)), (10, .v (.int .i64))]
  | _ => []
theorem slices_swapRangeCmpFunc_int64_impl_sortedBy_1_eq (N : Nat) : runM N tt (slices_swapRangeCmpFunc_int64_impl_sortedBy_1_T N) slices_swapRangeCmpFunc_int64_impl_sortedBy_1_L (.int .i64) [(.int .i64), (.int .i64), (.int .i64), (.clo 120 (.bx (.clo 70 (.bx (.pair (.sl (.int .i64)) (.pair (.int .i64) (.int .i64)))))))] [] (bodyOf Try.f144) Try.f144.ntmps [] = (slices_swapRangeCmpFunc_int64_impl_sortedBy_1_e N).F := by
  funext xs x
  kernel_rfl
theorem slices_swapRangeCmpFunc_int64_impl_sortedBy_1_sound (N : Nat) : SoundM Try.prog 144 (slices_swapRangeCmpFunc_int64_impl_sortedBy_1_e N) := by
  have h := runM_sound (f := 144) (code := bodyOf Try.f144) (N := N) (T := (slices_swapRangeCmpFunc_int64_impl_sortedBy_1_T N)) (L := slices_swapRangeCmpFunc_int64_impl_sortedBy_1_L) (io := (.int .i64)) (ins := [(.int .i64), (.int .i64), (.int .i64), (.clo 120 (.bx (.clo 70 (.bx (.pair (.sl (.int .i64)) (.pair (.int .i64) (.int .i64)))))))]) (outs := []) (res := []) mixed tt_ok ?_ Try.func144 (by kernel_rfl) rfl (by kernel_rfl) (by kernel_rfl) (by decide +kernel)
  · rw [slices_swapRangeCmpFunc_int64_impl_sortedBy_1_eq] at h
    exact h
  · intro f e he
    cases he

/- slices.rotateCmpFunc[int64] -/
def slices_rotateCmpFunc_int64_impl_sortedBy_1 (N : Nat) (x0 : List Int) (x1 : Int) (x2 : Int) (x3 : Int) (x4 : (List Int) × Int × Int) : Option (List (Int) × (Unit)) :=
  loopN (fun (s1 : List (Int) × Int × Int × Unit) next2 =>
    cond (s1.2.1 != s1.2.2.1)
      (cond (decide (s1.2.1 > s1.2.2.1))
        (Option.bind (slices_swapRangeCmpFunc_int64_impl_sortedBy_1 N s1.1 (w64 (x2 - s1.2.1)) x2 s1.2.2.1 x4) fun r3 =>
        cond (Nat.beq (List.length r3.1) (List.length s1.1))
          (next2 (r3.1, (w64 (s1.2.1 - s1.2.2.1)), s1.2.2.1, ())) none)
        (Option.bind (slices_swapRangeCmpFunc_int64_impl_sortedBy_1 N s1.1 (w64 (x2 - s1.2.1)) (w64 ((w64 (x2 + s1.2.2.1)) - s1.2.1)) s1.2.1 x4) fun r4 =>
        cond (Nat.beq (List.length r4.1) (List.length s1.1))
          (next2 (r4.1, s1.2.1, (w64 (s1.2.2.1 - s1.2.1)), ())) none))
      (Option.bind (slices_swapRangeCmpFunc_int64_impl_sortedBy_1 N s1.1 (w64 (x2 - s1.2.1)) x2 s1.2.1 x4) fun r5 =>
      cond (Nat.beq (List.length r5.1) (List.length s1.1))
        (some (r5.1, ())) none)) N (x0, (w64 (x2 - x1)), (w64 (x3 - x2)), ())
def slices_rotateCmpFunc_int64_impl_sortedBy_1_e (N : Nat) : EntM := { io := (.int .i64), ins := [(.int .i64), (.int .i64), (.int .i64), (.clo 120 (.bx (.clo 70 (.bx (.pair (.sl (.int .i64)) (.pair (.int .i64) (.int .i64)))))))], outs := [], F := fun xs x => slices_rotateCmpFunc_int64_impl_sortedBy_1 N xs x.1 x.2.1 x.2.2.1 x.2.2.2.1 }
def slices_rotateCmpFunc_int64_impl_sortedBy_1_T (N : Nat) : Nat → List EntX
  | 144 => [.mu (slices_swapRangeCmpFunc_int64_impl_sortedBy_1_e N)]
  | _ => []
def slices_rotateCmpFunc_int64_impl_sortedBy_1_L : Nat → List (Nat × TK)
  | 2 => [(0, .own (.int .i64)), (10, .v (.int .i64)), (11, .v (.int .i64))]
  | _ => []
theorem slices_rotateCmpFunc_int64_impl_sortedBy_1_eq (N : Nat) : runM N tt (slices_rotateCmpFunc_int64_impl_sortedBy_1_T N) slices_rotateCmpFunc_int64_impl_sortedBy_1_L (.int .i64) [(.int .i64), (.int .i64), (.int .i64), (.clo 120 (.bx (.clo 70 (.bx (.pair (.sl (.int .i64)) (.pair (.int .i64) (.int .i64)))))))] [] (bodyOf Try.f143) Try.f143.ntmps [] = (slices_rotateCmpFunc_int64_impl_sortedBy_1_e N).F := by
  funext xs x
  kernel_rfl
theorem slices_rotateCmpFunc_int64_impl_sortedBy_1_sound (N : Nat) : SoundM Try.prog 143 (slices_rotateCmpFunc_int64_impl_sortedBy_1_e N) := by
  have h := runM_sound (f := 143) (code := bodyOf Try.f143) (N := N) (T := (slices_rotateCmpFunc_int64_impl_sortedBy_1_T N)) (L := slices_rotateCmpFunc_int64_impl_sortedBy_1_L) (io := (.int .i64)) (ins := [(.int .i64), (.int .i64), (.int .i64), (.clo 120 (.bx (.clo 70 (.bx (.pair (.sl (.int .i64)) (.pair (.int .i64) (.int .i64)))))))]) (outs := []) (res := []) mixed tt_ok ?_ Try.func143 (by kernel_rfl) rfl (by kernel_rfl) (by kernel_rfl) (by decide +kernel)
  · rw [slices_rotateCmpFunc_int64_impl_sortedBy_1_eq] at h
    exact h
  · intro f e he
    unfold slices_rotateCmpFunc_int64_impl_sortedBy_1_T at he
    split at he
    · rw [List.mem_singleton.1 he]; exact slices_swapRangeCmpFunc_int64_impl_sortedBy_1_sound N
    · cases he

/- slices.symMergeCmpFunc[int64] -/
def slices_symMergeCmpFunc_int64_impl_sortedBy_1_step (N : Nat) (self : List (Int) → Int → Int → Int → (List Int) × Int × Int → Option (List (Int) × (Unit))) (x0 : List Int) (x1 : Int) (x2 : Int) (x3 : Int) (x4 : (List Int) × Int × Int) : Option (List (Int) × (Unit)) :=
  cond ((w64 (x2 - x1)) == 1)
    (loopN (fun (s1 : Int × Int × Unit) next2 =>
      cond (decide (s1.1 < s1.2.1))
        (cond (inB (IntKind.wrap .i64 (ishr .u64 (IntKind.wrap .u64 (w64 (s1.1 + s1.2.1))) 1)) (List.length x0))
          (Option.bind (x0[(Int.toNat (IntKind.wrap .i64 (ishr .u64 (IntKind.wrap .u64 (w64 (s1.1 + s1.2.1))) 1)))]?) fun v3 =>
          cond (inB x1 (List.length x0))
            (Option.bind (x0[(Int.toNat x1)]?) fun v4 =>
            Option.bind (impl_sortedBy_1_c0 N v3 v4 x4) fun r5 =>
            cond (decide (r5.1 < 0))
              (next2 ((w64 ((IntKind.wrap .i64 (ishr .u64 (IntKind.wrap .u64 (w64 (s1.1 + s1.2.1))) 1)) + 1)), s1.2.1, ()))
              (next2 (s1.1, (IntKind.wrap .i64 (ishr .u64 (IntKind.wrap .u64 (w64 (s1.1 + s1.2.1))) 1)), ()))) none) none)
        (loopN (fun (s6 : List (Int) × Int × Unit) next7 =>
          cond (decide (s6.2.1 < (w64 (s1.1 - 1))))
            (cond (inB (w64 (s6.2.1 + 1)) (List.length s6.1))
              (Option.bind (s6.1[(Int.toNat (w64 (s6.2.1 + 1)))]?) fun v8 =>
              cond (inB s6.2.1 (List.length s6.1))
                (Option.bind (s6.1[(Int.toNat s6.2.1)]?) fun v9 =>
                cond (inB s6.2.1 (List.length s6.1))
                  (let xs10 := (List.set s6.1 (Int.toNat s6.2.1) v8)
                  cond (inB (w64 (s6.2.1 + 1)) (List.length xs10))
                    (let xs11 := (List.set xs10 (Int.toNat (w64 (s6.2.1 + 1))) v9)
                    next7 (xs11, (w64 (s6.2.1 + 1)), ())) none) none) none) none)
            (some (s6.1, ()))) N (x0, x1, ()))) N (x2, x3, ()))
    (cond ((w64 (x3 - x2)) == 1)
      (loopN (fun (s12 : Int × Int × Unit) next13 =>
        cond (decide (s12.1 < s12.2.1))
          (cond (inB x2 (List.length x0))
            (Option.bind (x0[(Int.toNat x2)]?) fun v14 =>
            cond (inB (IntKind.wrap .i64 (ishr .u64 (IntKind.wrap .u64 (w64 (s12.1 + s12.2.1))) 1)) (List.length x0))
              (Option.bind (x0[(Int.toNat (IntKind.wrap .i64 (ishr .u64 (IntKind.wrap .u64 (w64 (s12.1 + s12.2.1))) 1)))]?) fun v15 =>
              Option.bind (impl_sortedBy_1_c0 N v14 v15 x4) fun r16 =>
              cond (!(decide (r16.1 < 0)))
                (next13 ((w64 ((IntKind.wrap .i64 (ishr .u64 (IntKind.wrap .u64 (w64 (s12.1 + s12.2.1))) 1)) + 1)), s12.2.1, ()))
                (next13 (s12.1, (IntKind.wrap .i64 (ishr .u64 (IntKind.wrap .u64 (w64 (s12.1 + s12.2.1))) 1)), ()))) none) none)
          (loopN (fun (s17 : List (Int) × Int × Unit) next18 =>
            cond (decide (s17.2.1 > s12.1))
              (cond (inB (w64 (s17.2.1 - 1)) (List.length s17.1))
                (Option.bind (s17.1[(Int.toNat (w64 (s17.2.1 - 1)))]?) fun v19 =>
                cond (inB s17.2.1 (List.length s17.1))
                  (Option.bind (s17.1[(Int.toNat s17.2.1)]?) fun v20 =>
                  cond (inB s17.2.1 (List.length s17.1))
                    (let xs21 := (List.set s17.1 (Int.toNat s17.2.1) v19)
                    cond (inB (w64 (s17.2.1 - 1)) (List.length xs21))
                      (let xs22 := (List.set xs21 (Int.toNat (w64 (s17.2.1 - 1))) v20)
                      next18 (xs22, (w64 (s17.2.1 - 1)), ())) none) none) none) none)
              (some (s17.1, ()))) N (x0, x2, ()))) N (x1, x2, ()))
      (cond (decide (x2 > (IntKind.wrap .i64 (ishr .u64 (IntKind.wrap .u64 (w64 (x1 + x3))) 1))))
        (loopN (fun (s23 : Int × Int × Unit) next24 =>
          cond (decide (s23.1 < s23.2.1))
            (cond (inB (w64 ((w64 ((w64 ((IntKind.wrap .i64 (ishr .u64 (IntKind.wrap .u64 (w64 (x1 + x3))) 1)) + x2)) - 1)) - (IntKind.wrap .i64 (ishr .u64 (IntKind.wrap .u64 (w64 (s23.1 + s23.2.1))) 1)))) (List.length x0))
              (Option.bind (x0[(Int.toNat (w64 ((w64 ((w64 ((IntKind.wrap .i64 (ishr .u64 (IntKind.wrap .u64 (w64 (x1 + x3))) 1)) + x2)) - 1)) - (IntKind.wrap .i64 (ishr .u64 (IntKind.wrap .u64 (w64 (s23.1 + s23.2.1))) 1)))))]?) fun v25 =>
              cond (inB (IntKind.wrap .i64 (ishr .u64 (IntKind.wrap .u64 (w64 (s23.1 + s23.2.1))) 1)) (List.length x0))
                (Option.bind (x0[(Int.toNat (IntKind.wrap .i64 (ishr .u64 (IntKind.wrap .u64 (w64 (s23.1 + s23.2.1))) 1)))]?) fun v26 =>
                Option.bind (impl_sortedBy_1_c0 N v25 v26 x4) fun r27 =>
                cond (!(decide (r27.1 < 0)))
                  (next24 ((w64 ((IntKind.wrap .i64 (ishr .u64 (IntKind.wrap .u64 (w64 (s23.1 + s23.2.1))) 1)) + 1)), s23.2.1, ()))
                  (next24 (s23.1, (IntKind.wrap .i64 (ishr .u64 (IntKind.wrap .u64 (w64 (s23.1 + s23.2.1))) 1)), ()))) none) none)
            (cond (decide (s23.1 < x2))
              (cond (decide (x2 < (w64 ((w64 ((IntKind.wrap .i64 (ishr .u64 (IntKind.wrap .u64 (w64 (x1 + x3))) 1)) + x2)) - s23.1))))
                (Option.bind (slices_rotateCmpFunc_int64_impl_sortedBy_1 N x0 s23.1 x2 (w64 ((w64 ((IntKind.wrap .i64 (ishr .u64 (IntKind.wrap .u64 (w64 (x1 + x3))) 1)) + x2)) - s23.1)) x4) fun r28 =>
                cond (Nat.beq (List.length r28.1) (List.length x0))
                  (cond (decide (x1 < s23.1))
                    (cond (decide (s23.1 < (IntKind.wrap .i64 (ishr .u64 (IntKind.wrap .u64 (w64 (x1 + x3))) 1))))
                      (Option.bind (self r28.1 x1 s23.1 (IntKind.wrap .i64 (ishr .u64 (IntKind.wrap .u64 (w64 (x1 + x3))) 1)) x4) fun r29 =>
                      cond (Nat.beq (List.length r29.1) (List.length r28.1))
                        (cond (decide ((IntKind.wrap .i64 (ishr .u64 (IntKind.wrap .u64 (w64 (x1 + x3))) 1)) < (w64 ((w64 ((IntKind.wrap .i64 (ishr .u64 (IntKind.wrap .u64 (w64 (x1 + x3))) 1)) + x2)) - s23.1))))
                          (cond (decide ((w64 ((w64 ((IntKind.wrap .i64 (ishr .u64 (IntKind.wrap .u64 (w64 (x1 + x3))) 1)) + x2)) - s23.1)) < x3))
                            (Option.bind (self r29.1 (IntKind.wrap .i64 (ishr .u64 (IntKind.wrap .u64 (w64 (x1 + x3))) 1)) (w64 ((w64 ((IntKind.wrap .i64 (ishr .u64 (IntKind.wrap .u64 (w64 (x1 + x3))) 1)) + x2)) - s23.1)) x3 x4) fun r30 =>
                            cond (Nat.beq (List.length r30.1) (List.length r29.1))
                              (some (r30.1, ())) none)
                            (some (r29.1, ())))
                          (some (r29.1, ()))) none)
                      (cond (decide ((IntKind.wrap .i64 (ishr .u64 (IntKind.wrap .u64 (w64 (x1 + x3))) 1)) < (w64 ((w64 ((IntKind.wrap .i64 (ishr .u64 (IntKind.wrap .u64 (w64 (x1 + x3))) 1)) + x2)) - s23.1))))
                        (cond (decide ((w64 ((w64 ((IntKind.wrap .i64 (ishr .u64 (IntKind.wrap .u64 (w64 (x1 + x3))) 1)) + x2)) - s23.1)) < x3))
                          (Option.bind (self r28.1 (IntKind.wrap .i64 (ishr .u64 (IntKind.wrap .u64 (w64 (x1 + x3))) 1)) (w64 ((w64 ((IntKind.wrap .i64 (ishr .u64 (IntKind.wrap .u64 (w64 (x1 + x3))) 1)) + x2)) - s23.1)) x3 x4) fun r31 =>
                          cond (Nat.beq (List.length r31.1) (List.length r28.1))
                            (some (r31.1, ())) none)
                          (some (r28.1, ())))
                        (some (r28.1, ()))))
                    (cond (decide ((IntKind.wrap .i64 (ishr .u64 (IntKind.wrap .u64 (w64 (x1 + x3))) 1)) < (w64 ((w64 ((IntKind.wrap .i64 (ishr .u64 (IntKind.wrap .u64 (w64 (x1 + x3))) 1)) + x2)) - s23.1))))
                      (cond (decide ((w64 ((w64 ((IntKind.wrap .i64 (ishr .u64 (IntKind.wrap .u64 (w64 (x1 + x3))) 1)) + x2)) - s23.1)) < x3))
                        (Option.bind (self r28.1 (IntKind.wrap .i64 (ishr .u64 (IntKind.wrap .u64 (w64 (x1 + x3))) 1)) (w64 ((w64 ((IntKind.wrap .i64 (ishr .u64 (IntKind.wrap .u64 (w64 (x1 + x3))) 1)) + x2)) - s23.1)) x3 x4) fun r32 =>
                        cond (Nat.beq (List.length r32.1) (List.length r28.1))
                          (some (r32.1, ())) none)
                        (some (r28.1, ())))
                      (some (r28.1, ())))) none)
                (cond (decide (x1 < s23.1))
                  (cond (decide (s23.1 < (IntKind.wrap .i64 (ishr .u64 (IntKind.wrap .u64 (w64 (x1 + x3))) 1))))
                    (Option.bind (self x0 x1 s23.1 (IntKind.wrap .i64 (ishr .u64 (IntKind.wrap .u64 (w64 (x1 + x3))) 1)) x4) fun r33 =>
                    cond (Nat.beq (List.length r33.1) (List.length x0))
                      (cond (decide ((IntKind.wrap .i64 (ishr .u64 (IntKind.wrap .u64 (w64 (x1 + x3))) 1)) < (w64 ((w64 ((IntKind.wrap .i64 (ishr .u64 (IntKind.wrap .u64 (w64 (x1 + x3))) 1)) + x2)) - s23.1))))
                        (cond (decide ((w64 ((w64 ((IntKind.wrap .i64 (ishr .u64 (IntKind.wrap .u64 (w64 (x1 + x3))) 1)) + x2)) - s23.1)) < x3))
                          (Option.bind (self r33.1 (IntKind.wrap .i64 (ishr .u64 (IntKind.wrap .u64 (w64 (x1 + x3))) 1)) (w64 ((w64 ((IntKind.wrap .i64 (ishr .u64 (IntKind.wrap .u64 (w64 (x1 + x3))) 1)) + x2)) - s23.1)) x3 x4) fun r34 =>
                          cond (Nat.beq (List.length r34.1) (List.length r33.1))
                            (some (r34.1, ())) none)
                          (some (r33.1, ())))
                        (some (r33.1, ()))) none)
                    (cond (decide ((IntKind.wrap .i64 (ishr .u64 (IntKind.wrap .u64 (w64 (x1 + x3))) 1)) < (w64 ((w64 ((IntKind.wrap .i64 (ishr .u64 (IntKind.wrap .u64 (w64 (x1 + x3))) 1)) + x2)) - s23.1))))
                      (cond (decide ((w64 ((w64 ((IntKind.wrap .i64 (ishr .u64 (IntKind.wrap .u64 (w64 (x1 + x3))) 1)) + x2)) - s23.1)) < x3))
                        (Option.bind (self x0 (IntKind.wrap .i64 (ishr .u64 (IntKind.wrap .u64 (w64 (x1 + x3))) 1)) (w64 ((w64 ((IntKind.wrap .i64 (ishr .u64 (IntKind.wrap .u64 (w64 (x1 + x3))) 1)) + x2)) - s23.1)) x3 x4) fun r35 =>
                        cond (Nat.beq (List.length r35.1) (List.length x0))
                          (some (r35.1, ())) none)
                        (some (x0, ())))
                      (some (x0, ()))))
                  (cond (decide ((IntKind.wrap .i64 (ishr .u64 (IntKind.wrap .u64 (w64 (x1 + x3))) 1)) < (w64 ((w64 ((IntKind.wrap .i64 (ishr .u64 (IntKind.wrap .u64 (w64 (x1 + x3))) 1)) + x2)) - s23.1))))
                    (cond (decide ((w64 ((w64 ((IntKind.wrap .i64 (ishr .u64 (IntKind.wrap .u64 (w64 (x1 + x3))) 1)) + x2)) - s23.1)) < x3))
                      (Option.bind (self x0 (IntKind.wrap .i64 (ishr .u64 (IntKind.wrap .u64 (w64 (x1 + x3))) 1)) (w64 ((w64 ((IntKind.wrap .i64 (ishr .u64 (IntKind.wrap .u64 (w64 (x1 + x3))) 1)) + x2)) - s23.1)) x3 x4) fun r36 =>
                      cond (Nat.beq (List.length r36.1) (List.length x0))
                        (some (r36.1, ())) none)
                      (some (x0, ())))
                    (some (x0, ())))))
              (cond (decide (x1 < s23.1))
                (cond (decide (s23.1 < (IntKind.wrap .i64 (ishr .u64 (IntKind.wrap .u64 (w64 (x1 + x3))) 1))))
                  (Option.bind (self x0 x1 s23.1 (IntKind.wrap .i64 (ishr .u64 (IntKind.wrap .u64 (w64 (x1 + x3))) 1)) x4) fun r37 =>
                  cond (Nat.beq (List.length r37.1) (List.length x0))
                    (cond (decide ((IntKind.wrap .i64 (ishr .u64 (IntKind.wrap .u64 (w64 (x1 + x3))) 1)) < (w64 ((w64 ((IntKind.wrap .i64 (ishr .u64 (IntKind.wrap .u64 (w64 (x1 + x3))) 1)) + x2)) - s23.1))))
                      (cond (decide ((w64 ((w64 ((IntKind.wrap .i64 (ishr .u64 (IntKind.wrap .u64 (w64 (x1 + x3))) 1)) + x2)) - s23.1)) < x3))
                        (Option.bind (self r37.1 (IntKind.wrap .i64 (ishr .u64 (IntKind.wrap .u64 (w64 (x1 + x3))) 1)) (w64 ((w64 ((IntKind.wrap .i64 (ishr .u64 (IntKind.wrap .u64 (w64 (x1 + x3))) 1)) + x2)) - s23.1)) x3 x4) fun r38 =>
                        cond (Nat.beq (List.length r38.1) (List.length r37.1))
                          (some (r38.1, ())) none)
                        (some (r37.1, ())))
                      (some (r37.1, ()))) none)
                  (cond (decide ((IntKind.wrap .i64 (ishr .u64 (IntKind.wrap .u64 (w64 (x1 + x3))) 1)) < (w64 ((w64 ((IntKind.wrap .i64 (ishr .u64 (IntKind.wrap .u64 (w64 (x1 + x3))) 1)) + x2)) - s23.1))))
                    (cond (decide ((w64 ((w64 ((IntKind.wrap .i64 (ishr .u64 (IntKind.wrap .u64 (w64 (x1 + x3))) 1)) + x2)) - s23.1)) < x3))
                      (Option.bind (self x0 (IntKind.wrap .i64 (ishr .u64 (IntKind.wrap .u64 (w64 (x1 + x3))) 1)) (w64 ((w64 ((IntKind.wrap .i64 (ishr .u64 (IntKind.wrap .u64 (w64 (x1 + x3))) 1)) + x2)) - s23.1)) x3 x4) fun r39 =>
                      cond (Nat.beq (List.length r39.1) (List.length x0))
                        (some (r39.1, ())) none)
                      (some (x0, ())))
                    (some (x0, ()))))
                (cond (decide ((IntKind.wrap .i64 (ishr .u64 (IntKind.wrap .u64 (w64 (x1 + x3))) 1)) < (w64 ((w64 ((IntKind.wrap .i64 (ishr .u64 (IntKind.wrap .u64 (w64 (x1 + x3))) 1)) + x2)) - s23.1))))
                  (cond (decide ((w64 ((w64 ((IntKind.wrap .i64 (ishr .u64 (IntKind.wrap .u64 (w64 (x1 + x3))) 1)) + x2)) - s23.1)) < x3))
                    (Option.bind (self x0 (IntKind.wrap .i64 (ishr .u64 (IntKind.wrap .u64 (w64 (x1 + x3))) 1)) (w64 ((w64 ((IntKind.wrap .i64 (ishr .u64 (IntKind.wrap .u64 (w64 (x1 + x3))) 1)) + x2)) - s23.1)) x3 x4) fun r40 =>
                    cond (Nat.beq (List.length r40.1) (List.length x0))
                      (some (r40.1, ())) none)
                    (some (x0, ())))
                  (some (x0, ())))))) N ((w64 ((w64 ((IntKind.wrap .i64 (ishr .u64 (IntKind.wrap .u64 (w64 (x1 + x3))) 1)) + x2)) - x3)), (IntKind.wrap .i64 (ishr .u64 (IntKind.wrap .u64 (w64 (x1 + x3))) 1)), ()))
        (loopN (fun (s41 : Int × Int × Unit) next42 =>
          cond (decide (s41.1 < s41.2.1))
            (cond (inB (w64 ((w64 ((w64 ((IntKind.wrap .i64 (ishr .u64 (IntKind.wrap .u64 (w64 (x1 + x3))) 1)) + x2)) - 1)) - (IntKind.wrap .i64 (ishr .u64 (IntKind.wrap .u64 (w64 (s41.1 + s41.2.1))) 1)))) (List.length x0))
              (Option.bind (x0[(Int.toNat (w64 ((w64 ((w64 ((IntKind.wrap .i64 (ishr .u64 (IntKind.wrap .u64 (w64 (x1 + x3))) 1)) + x2)) - 1)) - (IntKind.wrap .i64 (ishr .u64 (IntKind.wrap .u64 (w64 (s41.1 + s41.2.1))) 1)))))]?) fun v43 =>
              cond (inB (IntKind.wrap .i64 (ishr .u64 (IntKind.wrap .u64 (w64 (s41.1 + s41.2.1))) 1)) (List.length x0))
                (Option.bind (x0[(Int.toNat (IntKind.wrap .i64 (ishr .u64 (IntKind.wrap .u64 (w64 (s41.1 + s41.2.1))) 1)))]?) fun v44 =>
                Option.bind (impl_sortedBy_1_c0 N v43 v44 x4) fun r45 =>
                cond (!(decide (r45.1 < 0)))
                  (next42 ((w64 ((IntKind.wrap .i64 (ishr .u64 (IntKind.wrap .u64 (w64 (s41.1 + s41.2.1))) 1)) + 1)), s41.2.1, ()))
                  (next42 (s41.1, (IntKind.wrap .i64 (ishr .u64 (IntKind.wrap .u64 (w64 (s41.1 + s41.2.1))) 1)), ()))) none) none)
            (cond (decide (s41.1 < x2))
              (cond (decide (x2 < (w64 ((w64 ((IntKind.wrap .i64 (ishr .u64 (IntKind.wrap .u64 (w64 (x1 + x3))) 1)) + x2)) - s41.1))))
                (Option.bind (slices_rotateCmpFunc_int64_impl_sortedBy_1 N x0 s41.1 x2 (w64 ((w64 ((IntKind.wrap .i64 (ishr .u64 (IntKind.wrap .u64 (w64 (x1 + x3))) 1)) + x2)) - s41.1)) x4) fun r46 =>
                cond (Nat.beq (List.length r46.1) (List.length x0))
                  (cond (decide (x1 < s41.1))
                    (cond (decide (s41.1 < (IntKind.wrap .i64 (ishr .u64 (IntKind.wrap .u64 (w64 (x1 + x3))) 1))))
                      (Option.bind (self r46.1 x1 s41.1 (IntKind.wrap .i64 (ishr .u64 (IntKind.wrap .u64 (w64 (x1 + x3))) 1)) x4) fun r47 =>
                      cond (Nat.beq (List.length r47.1) (List.length r46.1))
                        (cond (decide ((IntKind.wrap .i64 (ishr .u64 (IntKind.wrap .u64 (w64 (x1 + x3))) 1)) < (w64 ((w64 ((IntKind.wrap .i64 (ishr .u64 (IntKind.wrap .u64 (w64 (x1 + x3))) 1)) + x2)) - s41.1))))
                          (cond (decide ((w64 ((w64 ((IntKind.wrap .i64 (ishr .u64 (IntKind.wrap .u64 (w64 (x1 + x3))) 1)) + x2)) - s41.1)) < x3))
                            (Option.bind (self r47.1 (IntKind.wrap .i64 (ishr .u64 (IntKind.wrap .u64 (w64 (x1 + x3))) 1)) (w64 ((w64 ((IntKind.wrap .i64 (ishr .u64 (IntKind.wrap .u64 (w64 (x1 + x3))) 1)) + x2)) - s41.1)) x3 x4) fun r48 =>
                            cond (Nat.beq (List.length r48.1) (List.length r47.1))
                              (some (r48.1, ())) none)
                            (some (r47.1, ())))
                          (some (r47.1, ()))) none)
                      (cond (decide ((IntKind.wrap .i64 (ishr .u64 (IntKind.wrap .u64 (w64 (x1 + x3))) 1)) < (w64 ((w64 ((IntKind.wrap .i64 (ishr .u64 (IntKind.wrap .u64 (w64 (x1 + x3))) 1)) + x2)) - s41.1))))
                        (cond (decide ((w64 ((w64 ((IntKind.wrap .i64 (ishr .u64 (IntKind.wrap .u64 (w64 (x1 + x3))) 1)) + x2)) - s41.1)) < x3))
                          (Option.bind (self r46.1 (IntKind.wrap .i64 (ishr .u64 (IntKind.wrap .u64 (w64 (x1 + x3))) 1)) (w64 ((w64 ((IntKind.wrap .i64 (ishr .u64 (IntKind.wrap .u64 (w64 (x1 + x3))) 1)) + x2)) - s41.1)) x3 x4) fun r49 =>
                          cond (Nat.beq (List.length r49.1) (List.length r46.1))
                            (some (r49.1, ())) none)
                          (some (r46.1, ())))
                        (some (r46.1, ()))))
                    (cond (decide ((IntKind.wrap .i64 (ishr .u64 (IntKind.wrap .u64 (w64 (x1 + x3))) 1)) < (w64 ((w64 ((IntKind.wrap .i64 (ishr .u64 (IntKind.wrap .u64 (w64 (x1 + x3))) 1)) + x2)) - s41.1))))
                      (cond (decide ((w64 ((w64 ((IntKind.wrap .i64 (ishr .u64 (IntKind.wrap .u64 (w64 (x1 + x3))) 1)) + x2)) - s41.1)) < x3))
                        (Option.bind (self r46.1 (IntKind.wrap .i64 (ishr .u64 (IntKind.wrap .u64 (w64 (x1 + x3))) 1)) (w64 ((w64 ((IntKind.wrap .i64 (ishr .u64 (IntKind.wrap .u64 (w64 (x1 + x3))) 1)) + x2)) - s41.1)) x3 x4) fun r50 =>
                        cond (Nat.beq (List.length r50.1) (List.length r46.1))
                          (some (r50.1, ())) none)
                        (some (r46.1, ())))
                      (some (r46.1, ())))) none)
                (cond (decide (x1 < s41.1))
                  (cond (decide (s41.1 < (IntKind.wrap .i64 (ishr .u64 (IntKind.wrap .u64 (w64 (x1 + x3))) 1))))
                    (Option.bind (self x0 x1 s41.1 (IntKind.wrap .i64 (ishr .u64 (IntKind.wrap .u64 (w64 (x1 + x3))) 1)) x4) fun r51 =>
                    cond (Nat.beq (List.length r51.1) (List.length x0))
                      (cond (decide ((IntKind.wrap .i64 (ishr .u64 (IntKind.wrap .u64 (w64 (x1 + x3))) 1)) < (w64 ((w64 ((IntKind.wrap .i64 (ishr .u64 (IntKind.wrap .u64 (w64 (x1 + x3))) 1)) + x2)) - s41.1))))
                        (cond (decide ((w64 ((w64 ((IntKind.wrap .i64 (ishr .u64 (IntKind.wrap .u64 (w64 (x1 + x3))) 1)) + x2)) - s41.1)) < x3))
                          (Option.bind (self r51.1 (IntKind.wrap .i64 (ishr .u64 (IntKind.wrap .u64 (w64 (x1 + x3))) 1)) (w64 ((w64 ((IntKind.wrap .i64 (ishr .u64 (IntKind.wrap .u64 (w64 (x1 + x3))) 1)) + x2)) - s41.1)) x3 x4) fun r52 =>
                          cond (Nat.beq (List.length r52.1) (List.length r51.1))
                            (some (r52.1, ())) none)
                          (some (r51.1, ())))
                        (some (r51.1, ()))) none)
                    (cond (decide ((IntKind.wrap .i64 (ishr .u64 (IntKind.wrap .u64 (w64 (x1 + x3))) 1)) < (w64 ((w64 ((IntKind.wrap .i64 (ishr .u64 (IntKind.wrap .u64 (w64 (x1 + x3))) 1)) + x2)) - s41.1))))
                      (cond (decide ((w64 ((w64 ((IntKind.wrap .i64 (ishr .u64 (IntKind.wrap .u64 (w64 (x1 + x3))) 1)) + x2)) - s41.1)) < x3))
                        (Option.bind (self x0 (IntKind.wrap .i64 (ishr .u64 (IntKind.wrap .u64 (w64 (x1 + x3))) 1)) (w64 ((w64 ((IntKind.wrap .i64 (ishr .u64 (IntKind.wrap .u64 (w64 (x1 + x3))) 1)) + x2)) - s41.1)) x3 x4) fun r53 =>
                        cond (Nat.beq (List.length r53.1) (List.length x0))
                          (some (r53.1, ())) none)
                        (some (x0, ())))
                      (some (x0, ()))))
                  (cond (decide ((IntKind.wrap .i64 (ishr .u64 (IntKind.wrap .u64 (w64 (x1 + x3))) 1)) < (w64 ((w64 ((IntKind.wrap .i64 (ishr .u64 (IntKind.wrap .u64 (w64 (x1 + x3))) 1)) + x2)) - s41.1))))
                    (cond (decide ((w64 ((w64 ((IntKind.wrap .i64 (ishr .u64 (IntKind.wrap .u64 (w64 (x1 + x3))) 1)) + x2)) - s41.1)) < x3))
                      (Option.bind (self x0 (IntKind.wrap .i64 (ishr .u64 (IntKind.wrap .u64 (w64 (x1 + x3))) 1)) (w64 ((w64 ((IntKind.wrap .i64 (ishr .u64 (IntKind.wrap .u64 (w64 (x1 + x3))) 1)) + x2)) - s41.1)) x3 x4) fun r54 =>
                      cond (Nat.beq (List.length r54.1) (List.length x0))
                        (some (r54.1, ())) none)
                      (some (x0, ())))
                    (some (x0, ())))))
              (cond (decide (x1 < s41.1))
                (cond (decide (s41.1 < (IntKind.wrap .i64 (ishr .u64 (IntKind.wrap .u64 (w64 (x1 + x3))) 1))))
                  (Option.bind (self x0 x1 s41.1 (IntKind.wrap .i64 (ishr .u64 (IntKind.wrap .u64 (w64 (x1 + x3))) 1)) x4) fun r55 =>
                  cond (Nat.beq (List.length r55.1) (List.length x0))
                    (cond (decide ((IntKind.wrap .i64 (ishr .u64 (IntKind.wrap .u64 (w64 (x1 + x3))) 1)) < (w64 ((w64 ((IntKind.wrap .i64 (ishr .u64 (IntKind.wrap .u64 (w64 (x1 + x3))) 1)) + x2)) - s41.1))))
                      (cond (decide ((w64 ((w64 ((IntKind.wrap .i64 (ishr .u64 (IntKind.wrap .u64 (w64 (x1 + x3))) 1)) + x2)) - s41.1)) < x3))
                        (Option.bind (self r55.1 (IntKind.wrap .i64 (ishr .u64 (IntKind.wrap .u64 (w64 (x1 + x3))) 1)) (w64 ((w64 ((IntKind.wrap .i64 (ishr .u64 (IntKind.wrap .u64 (w64 (x1 + x3))) 1)) + x2)) - s41.1)) x3 x4) fun r56 =>
                        cond (Nat.beq (List.length r56.1) (List.length r55.1))
                          (some (r56.1, ())) none)
                        (some (r55.1, ())))
                      (some (r55.1, ()))) none)
                  (cond (decide ((IntKind.wrap .i64 (ishr .u64 (IntKind.wrap .u64 (w64 (x1 + x3))) 1)) < (w64 ((w64 ((IntKind.wrap .i64 (ishr .u64 (IntKind.wrap .u64 (w64 (x1 + x3))) 1)) + x2)) - s41.1))))
                    (cond (decide ((w64 ((w64 ((IntKind.wrap .i64 (ishr .u64 (IntKind.wrap .u64 (w64 (x1 + x3))) 1)) + x2)) - s41.1)) < x3))
                      (Option.bind (self x0 (IntKind.wrap .i64 (ishr .u64 (IntKind.wrap .u64 (w64 (x1 + x3))) 1)) (w64 ((w64 ((IntKind.wrap .i64 (ishr .u64 (IntKind.wrap .u64 (w64 (x1 + x3))) 1)) + x2)) - s41.1)) x3 x4) fun r57 =>
                      cond (Nat.beq (List.length r57.1) (List.length x0))
                        (some (r57.1, ())) none)
                      (some (x0, ())))
                    (some (x0, ()))))
                (cond (decide ((IntKind.wrap .i64 (ishr .u64 (IntKind.wrap .u64 (w64 (x1 + x3))) 1)) < (w64 ((w64 ((IntKind.wrap .i64 (ishr .u64 (IntKind.wrap .u64 (w64 (x1 + x3))) 1)) + x2)) - s41.1))))
                  (cond (decide ((w64 ((w64 ((IntKind.wrap .i64 (ishr .u64 (IntKind.wrap .u64 (w64 (x1 + x3))) 1)) + x2)) - s41.1)) < x3))
                    (Option.bind (self x0 (IntKind.wrap .i64 (ishr .u64 (IntKind.wrap .u64 (w64 (x1 + x3))) 1)) (w64 ((w64 ((IntKind.wrap .i64 (ishr .u64 (IntKind.wrap .u64 (w64 (x1 + x3))) 1)) + x2)) - s41.1)) x3 x4) fun r58 =>
                    cond (Nat.beq (List.length r58.1) (List.length x0))
                      (some (r58.1, ())) none)
                    (some (x0, ())))
                  (some (x0, ())))))) N (x1, x2, ()))))
def slices_symMergeCmpFunc_int64_impl_sortedBy_1_r (N : Nat) : Nat → List (Int) → Int → Int → Int → (List Int) × Int × Int → Option (List (Int) × (Unit))
  | 0 => fun _ _ _ _ _ => none
  | F + 1 => slices_symMergeCmpFunc_int64_impl_sortedBy_1_step N (slices_symMergeCmpFunc_int64_impl_sortedBy_1_r N F)
def slices_symMergeCmpFunc_int64_impl_sortedBy_1 (N : Nat) (x0 : List Int) (x1 : Int) (x2 : Int) (x3 : Int) (x4 : (List Int) × Int × Int) : Option (List (Int) × (Unit)) := slices_symMergeCmpFunc_int64_impl_sortedBy_1_r N N x0 x1 x2 x3 x4
def slices_symMergeCmpFunc_int64_impl_sortedBy_1_ef (N F : Nat) : EntM := { io := (.int .i64), ins := [(.int .i64), (.int .i64), (.int .i64), (.clo 120 (.bx (.clo 70 (.bx (.pair (.sl (.int .i64)) (.pair (.int .i64) (.int .i64)))))))], outs := [], F := fun xs x => slices_symMergeCmpFunc_int64_impl_sortedBy_1_r N F xs x.1 x.2.1 x.2.2.1 x.2.2.2.1 }
def slices_symMergeCmpFunc_int64_impl_sortedBy_1_e (N : Nat) : EntM := slices_symMergeCmpFunc_int64_impl_sortedBy_1_ef N N
def slices_symMergeCmpFunc_int64_impl_sortedBy_1_T (N F : Nat) : Nat → List EntX
  | 120 => [.pl (impl_sortedBy_1_c0_e N)]
  | 142 => [.mu (slices_symMergeCmpFunc_int64_impl_sortedBy_1_ef N F)]
  | 143 => [.mu (slices_rotateCmpFunc_int64_impl_sortedBy_1_e N)]
  | _ => []
def slices_symMergeCmpFunc_int64_impl_sortedBy_1_L : Nat → List (Nat × TK)
  | 3 => [(10, .v (.int .i64)), (11, .v (.int .i64))]
  | 9 => [(0, .own (.int .i64)), (13, .v (.int .i64))]
  | 15 => [(14, .v (.int .i64)), (15, .v (.int .i64))]
  | 21 => [(0, .own (.int .i64)), (17, .v (.int .i64))]
  | 33 => [(20, .v (.int .i64)), (21, .v (.int .i64))]
  | _ => []
theorem slices_symMergeCmpFunc_int64_impl_sortedBy_1_eq (N F : Nat) : runM N tt (slices_symMergeCmpFunc_int64_impl_sortedBy_1_T N F) slices_symMergeCmpFunc_int64_impl_sortedBy_1_L (.int .i64) [(.int .i64), (.int .i64), (.int .i64), (.clo 120 (.bx (.clo 70 (.bx (.pair (.sl (.int .i64)) (.pair (.int .i64) (.int .i64)))))))] [] (bodyOf Try.f142) Try.f142.ntmps [] = (fun xs x => slices_symMergeCmpFunc_int64_impl_sortedBy_1_step N (slices_symMergeCmpFunc_int64_impl_sortedBy_1_r N F) xs x.1 x.2.1 x.2.2.1 x.2.2.2.1) := by
  funext xs x
  kernel_rfl
theorem slices_symMergeCmpFunc_int64_impl_sortedBy_1_soundf (N F : Nat) : SoundM Try.prog 142 (slices_symMergeCmpFunc_int64_impl_sortedBy_1_ef N F) := by
  induction F with
  | zero =>
    intro p w v ob vals xs x z _ _ _ _ _ hF
    exact absurd (show none = some _ from hF) (by simp)
  | succ F ih =>
    have h := runM_sound (f := 142) (code := bodyOf Try.f142) (N := N) (T := (slices_symMergeCmpFunc_int64_impl_sortedBy_1_T N F)) (L := slices_symMergeCmpFunc_int64_impl_sortedBy_1_L) (io := (.int .i64)) (ins := [(.int .i64), (.int .i64), (.int .i64), (.clo 120 (.bx (.clo 70 (.bx (.pair (.sl (.int .i64)) (.pair (.int .i64) (.int .i64)))))))]) (outs := []) (res := []) mixed tt_ok ?_ Try.func142 (by kernel_rfl) rfl (by kernel_rfl) (by kernel_rfl) (by decide +kernel)
    · rw [slices_symMergeCmpFunc_int64_impl_sortedBy_1_eq] at h
      exact h
    · intro f e he
      unfold slices_symMergeCmpFunc_int64_impl_sortedBy_1_T at he
      split at he
      · rw [List.mem_singleton.1 he]; exact impl_sortedBy_1_c0_sound N
      · rw [List.mem_singleton.1 he]; exact ih
      · rw [List.mem_singleton.1 he]; exact slices_rotateCmpFunc_int64_impl_sortedBy_1_sound N
      · cases he
theorem slices_symMergeCmpFunc_int64_impl_sortedBy_1_sound (N : Nat) : SoundM Try.prog 142 (slices_symMergeCmpFunc_int64_impl_sortedBy_1_e N) := slices_symMergeCmpFunc_int64_impl_sortedBy_1_soundf N N

/- slices.stableCmpFunc[int64] -/
def slices_stableCmpFunc_int64_impl_sortedBy_1 (N : Nat) (x0 : List Int) (x1 : Int) (x2 : (List Int) × Int × Int) : Option (List (Int) × (Unit)) :=
  loopN (fun (s1 : List (Int) × Int × Int × Unit) next2 =>
    cond (decide (s1.2.2.1 ≤ x1))
      (Option.bind (slices_insertionSortCmpFunc_int64_impl_sortedBy_1 N s1.1 s1.2.1 s1.2.2.1 x2) fun r3 =>
      cond (Nat.beq (List.length r3.1) (List.length s1.1))
        (next2 (r3.1, s1.2.2.1, (w64 (s1.2.2.1 + 20)), ())) none)
      (Option.bind (slices_insertionSortCmpFunc_int64_impl_sortedBy_1 N s1.1 s1.2.1 x1 x2) fun r4 =>
      cond (Nat.beq (List.length r4.1) (List.length s1.1))
        (loopN (fun (s5 : List (Int) × Int × Unit) next6 =>
          cond (decide (s5.2.1 < x1))
            (loopN (fun (s7 : List (Int) × Int × Int × Unit) next8 =>
              cond (decide (s7.2.2.1 ≤ x1))
                (Option.bind (slices_symMergeCmpFunc_int64_impl_sortedBy_1 N s7.1 s7.2.1 (w64 (s7.2.1 + s5.2.1)) s7.2.2.1 x2) fun r9 =>
                cond (Nat.beq (List.length r9.1) (List.length s7.1))
                  (next8 (r9.1, s7.2.2.1, (w64 (s7.2.2.1 + (w64 (2 * s5.2.1)))), ())) none)
                (cond (decide ((w64 (s7.2.1 + s5.2.1)) < x1))
                  (Option.bind (slices_symMergeCmpFunc_int64_impl_sortedBy_1 N s7.1 s7.2.1 (w64 (s7.2.1 + s5.2.1)) x1 x2) fun r10 =>
                  cond (Nat.beq (List.length r10.1) (List.length s7.1))
                    (next6 (r10.1, (w64 (s5.2.1 * 2)), ())) none)
                  (next6 (s7.1, (w64 (s5.2.1 * 2)), ())))) N (s5.1, 0, (w64 (2 * s5.2.1)), ()))
            (some (s5.1, ()))) N (r4.1, 20, ())) none)) N (x0, 0, 20, ())
def slices_stableCmpFunc_int64_impl_sortedBy_1_e (N : Nat) : EntM := { io := (.int .i64), ins := [(.int .i64), (.clo 120 (.bx (.clo 70 (.bx (.pair (.sl (.int .i64)) (.pair (.int .i64) (.int .i64)))))))], outs := [], F := fun xs x => slices_stableCmpFunc_int64_impl_sortedBy_1 N xs x.1 x.2.1 }
def slices_stableCmpFunc_int64_impl_sortedBy_1_T (N : Nat) : Nat → List EntX
  | 141 => [.mu (slices_insertionSortCmpFunc_int64_impl_sortedBy_1_e N)]
  | 142 => [.mu (slices_symMergeCmpFunc_int64_impl_sortedBy_1_e N)]
  | _ => []
def slices_stableCmpFunc_int64_impl_sortedBy_1_L : Nat → List (Nat × TK)
  | 2 => [(0, .own (.int .i64)), (7, .v (.int .i64)), (8, .v (.int .i64))]
  | 7 => [(0, .own (.int .i64)), (6, .v (.int .i64))]
  | 9 => [(0, .own (.int .i64)), (7, .v (.int .i64)), (8, .v (.int .i64))]
  | _ => []
theorem slices_stableCmpFunc_int64_impl_sortedBy_1_eq (N : Nat) : runM N tt (slices_stableCmpFunc_int64_impl_sortedBy_1_T N) slices_stableCmpFunc_int64_impl_sortedBy_1_L (.int .i64) [(.int .i64), (.clo 120 (.bx (.clo 70 (.bx (.pair (.sl (.int .i64)) (.pair (.int .i64) (.int .i64)))))))] [] (bodyOf Try.f135) Try.f135.ntmps [] = (slices_stableCmpFunc_int64_impl_sortedBy_1_e N).F := by
  funext xs x
  kernel_rfl
theorem slices_stableCmpFunc_int64_impl_sortedBy_1_sound (N : Nat) : SoundM Try.prog 135 (slices_stableCmpFunc_int64_impl_sortedBy_1_e N) := by
  have h := runM_sound (f := 135) (code := bodyOf Try.f135) (N := N) (T := (slices_stableCmpFunc_int64_impl_sortedBy_1_T N)) (L := slices_stableCmpFunc_int64_impl_sortedBy_1_L) (io := (.int .i64)) (ins := [(.int .i64), (.clo 120 (.bx (.clo 70 (.bx (.pair (.sl (.int .i64)) (.pair (.int .i64) (.int .i64)))))))]) (outs := []) (res := []) mixed tt_ok ?_ Try.func135 (by kernel_rfl) rfl (by kernel_rfl) (by kernel_rfl) (by decide +kernel)
  · rw [slices_stableCmpFunc_int64_impl_sortedBy_1_eq] at h
    exact h
  · intro f e he
    unfold slices_stableCmpFunc_int64_impl_sortedBy_1_T at he
    split at he
    · rw [List.mem_singleton.1 he]; exact slices_insertionSortCmpFunc_int64_impl_sortedBy_1_sound N
    · rw [List.mem_singleton.1 he]; exact slices_symMergeCmpFunc_int64_impl_sortedBy_1_sound N
    · cases he

/- slices.SortStableFunc[[]int64,int64] -/
def slices_SortStableFunc_int64_int64_impl_sortedBy_1 (N : Nat) (x0 : List Int) (x1 : (List Int) × Int × Int) : Option (List (Int) × (Unit)) :=
  Option.bind (slices_stableCmpFunc_int64_impl_sortedBy_1 N x0 (List.length x0 : Int) x1) fun r1 =>
  cond (Nat.beq (List.length r1.1) (List.length x0))
    (some (r1.1, ())) none
def slices_SortStableFunc_int64_int64_impl_sortedBy_1_e (N : Nat) : EntM := { io := (.int .i64), ins := [(.clo 120 (.bx (.clo 70 (.bx (.pair (.sl (.int .i64)) (.pair (.int .i64) (.int .i64)))))))], outs := [], F := fun xs x => slices_SortStableFunc_int64_int64_impl_sortedBy_1 N xs x.1 }
def slices_SortStableFunc_int64_int64_impl_sortedBy_1_T (N : Nat) : Nat → List EntX
  | 135 => [.mu (slices_stableCmpFunc_int64_impl_sortedBy_1_e N)]
  | _ => []
def slices_SortStableFunc_int64_int64_impl_sortedBy_1_L : Nat → List (Nat × TK) := fun _ => []
theorem slices_SortStableFunc_int64_int64_impl_sortedBy_1_eq (N : Nat) : runM N tt (slices_SortStableFunc_int64_int64_impl_sortedBy_1_T N) slices_SortStableFunc_int64_int64_impl_sortedBy_1_L (.int .i64) [(.clo 120 (.bx (.clo 70 (.bx (.pair (.sl (.int .i64)) (.pair (.int .i64) (.int .i64)))))))] [] (bodyOf Try.f119) Try.f119.ntmps [] = (slices_SortStableFunc_int64_int64_impl_sortedBy_1_e N).F := by
  funext xs x
  kernel_rfl
theorem slices_SortStableFunc_int64_int64_impl_sortedBy_1_sound (N : Nat) : SoundM Try.prog 119 (slices_SortStableFunc_int64_int64_impl_sortedBy_1_e N) := by
  have h := runM_sound (f := 119) (code := bodyOf Try.f119) (N := N) (T := (slices_SortStableFunc_int64_int64_impl_sortedBy_1_T N)) (L := slices_SortStableFunc_int64_int64_impl_sortedBy_1_L) (io := (.int .i64)) (ins := [(.clo 120 (.bx (.clo 70 (.bx (.pair (.sl (.int .i64)) (.pair (.int .i64) (.int .i64)))))))]) (outs := []) (res := []) mixed tt_ok ?_ Try.func119 (by kernel_rfl) rfl (by kernel_rfl) (by kernel_rfl) (by decide +kernel)
  · rw [slices_SortStableFunc_int64_int64_impl_sortedBy_1_eq] at h
    exact h
  · intro f e he
    unfold slices_SortStableFunc_int64_int64_impl_sortedBy_1_T at he
    split at he
    · rw [List.mem_singleton.1 he]; exact slices_stableCmpFunc_int64_impl_sortedBy_1_sound N
    · cases he

/- impl.sortedBy -/
def impl_sortedBy_impl_TwoOrder_1 (N : Nat) (x0 : Int) (x1 : (List Int) × Int × Int) : Option (List (Int) × Unit) :=
  Option.bind (impl_counting N x0) fun r1 =>
  Option.bind (slices_SortStableFunc_int64_int64_impl_sortedBy_1 N r1.1 x1) fun r2 =>
  cond (Nat.beq (List.length r2.1) (List.length r1.1))
    (some (r2.1, ())) none
def impl_sortedBy_impl_TwoOrder_1_e (N : Nat) : Ent := { ins := [(.int .i64), (.clo 70 (.bx (.pair (.sl (.int .i64)) (.pair (.int .i64) (.int .i64)))))], outs := [.own (.int .i64)], F := fun x => impl_sortedBy_impl_TwoOrder_1 N x.1 x.2.1 }
def impl_sortedBy_impl_TwoOrder_1_T (N : Nat) : Nat → List EntX
  | 118 => [.pl (impl_counting_e N)]
  | 119 => [.mu (slices_SortStableFunc_int64_int64_impl_sortedBy_1_e N)]
  | _ => []
def impl_sortedBy_impl_TwoOrder_1_L : Nat → List (Nat × TK) := fun _ => []
theorem impl_sortedBy_impl_TwoOrder_1_eq (N : Nat) : runF N tt (impl_sortedBy_impl_TwoOrder_1_T N) impl_sortedBy_impl_TwoOrder_1_L [(.int .i64), (.clo 70 (.bx (.pair (.sl (.int .i64)) (.pair (.int .i64) (.int .i64)))))] [.own (.int .i64)] (bodyOf Try.f69) Try.f69.ntmps [4] = (impl_sortedBy_impl_TwoOrder_1_e N).F := by
  funext x
  kernel_rfl
theorem impl_sortedBy_impl_TwoOrder_1_sound (N : Nat) : SoundC Try.prog 69 (impl_sortedBy_impl_TwoOrder_1_e N) := by
  have h := runF_sound (f := 69) (code := bodyOf Try.f69) (N := N) (T := (impl_sortedBy_impl_TwoOrder_1_T N)) (L := impl_sortedBy_impl_TwoOrder_1_L) (ins := [(.int .i64), (.clo 70 (.bx (.pair (.sl (.int .i64)) (.pair (.int .i64) (.int .i64)))))]) (outs := [.own (.int .i64)]) (res := [4]) mixed tt_ok ?_ Try.func69 (by kernel_rfl) rfl (by kernel_rfl) (by kernel_rfl) (by decide +kernel)
  · rw [impl_sortedBy_impl_TwoOrder_1_eq] at h
    exact h
  · intro f e he
    unfold impl_sortedBy_impl_TwoOrder_1_T at he
    split at he
    · rw [List.mem_singleton.1 he]; exact impl_counting_sound N
    · rw [List.mem_singleton.1 he]; exact slices_SortStableFunc_int64_int64_impl_sortedBy_1_sound N
    · cases he

/- impl.TwoOrder$2 -/
def impl_TwoOrder_2_c0 (N : Nat) (x0 : Int) (x1 : (List Int) × Int × Int) : Option (Int × Unit) :=
  Option.bind (impl_shop_at N x1 x0 1) fun r1 =>
  some ((IntKind.wrap .i64 (0 - r1.1)), ())
def impl_TwoOrder_2_c0_e (N : Nat) : Ent := { ins := [(.int .i64), (.bx (.pair (.sl (.int .i64)) (.pair (.int .i64) (.int .i64))))], outs := [.val (.int .i64)], F := fun x => impl_TwoOrder_2_c0 N x.1 x.2.1 }
def impl_TwoOrder_2_c0_T (N : Nat) : Nat → List EntX
  | 71 => [.pl (impl_shop_at_e N)]
  | _ => []
def impl_TwoOrder_2_c0_L : Nat → List (Nat × TK) := fun _ => []
theorem impl_TwoOrder_2_c0_eq (N : Nat) : runF N tt (impl_TwoOrder_2_c0_T N) impl_TwoOrder_2_c0_L [(.int .i64), (.bx (.pair (.sl (.int .i64)) (.pair (.int .i64) (.int .i64))))] [.val (.int .i64)] (bodyOf Try.f72) Try.f72.ntmps [3] = (impl_TwoOrder_2_c0_e N).F := by
  funext x
  kernel_rfl
theorem impl_TwoOrder_2_c0_sound (N : Nat) : SoundC Try.prog 72 (impl_TwoOrder_2_c0_e N) := by
  have h := runF_sound (f := 72) (code := bodyOf Try.f72) (N := N) (T := (impl_TwoOrder_2_c0_T N)) (L := impl_TwoOrder_2_c0_L) (ins := [(.int .i64), (.bx (.pair (.sl (.int .i64)) (.pair (.int .i64) (.int .i64))))]) (outs := [.val (.int .i64)]) (res := [3]) mixed tt_ok ?_ Try.func72 (by kernel_rfl) rfl (by kernel_rfl) (by kernel_rfl) (by decide +kernel)
  · rw [impl_TwoOrder_2_c0_eq] at h
    exact h
  · intro f e he
    unfold impl_TwoOrder_2_c0_T at he
    split at he
    · rw [List.mem_singleton.1 he]; exact impl_shop_at_sound N
    · cases he

/- impl.sortedBy$1 -/
def impl_sortedBy_1_c0_1 (N : Nat) (x0 : Int) (x1 : Int) (x2 : (List Int) × Int × Int) : Option (Int × Unit) :=
  Option.bind (impl_TwoOrder_2_c0 N x0 x2) fun r1 =>
  Option.bind (impl_TwoOrder_2_c0 N x1 x2) fun r2 =>
  Option.bind (cmp_Compare_int64 N r1.1 r2.1) fun r3 =>
  some (r3.1, ())
def impl_sortedBy_1_c0_1_e (N : Nat) : Ent := { ins := [(.int .i64), (.int .i64), (.bx (.clo 72 (.bx (.pair (.sl (.int .i64)) (.pair (.int .i64) (.int .i64))))))], outs := [.val (.int .i64)], F := fun x => impl_sortedBy_1_c0_1 N x.1 x.2.1 x.2.2.1 }
def impl_sortedBy_1_c0_1_T (N : Nat) : Nat → List EntX
  | 72 => [.pl (impl_TwoOrder_2_c0_e N)]
  | 121 => [.pl (cmp_Compare_int64_e N)]
  | _ => []
def impl_sortedBy_1_c0_1_L : Nat → List (Nat × TK) := fun _ => []
theorem impl_sortedBy_1_c0_1_eq (N : Nat) : runF N tt (impl_sortedBy_1_c0_1_T N) impl_sortedBy_1_c0_1_L [(.int .i64), (.int .i64), (.bx (.clo 72 (.bx (.pair (.sl (.int .i64)) (.pair (.int .i64) (.int .i64))))))] [.val (.int .i64)] (bodyOf Try.f120) Try.f120.ntmps [5] = (impl_sortedBy_1_c0_1_e N).F := by
  funext x
  kernel_rfl
theorem impl_sortedBy_1_c0_1_sound (N : Nat) : SoundC Try.prog 120 (impl_sortedBy_1_c0_1_e N) := by
  have h := runF_sound (f := 120) (code := bodyOf Try.f120) (N := N) (T := (impl_sortedBy_1_c0_1_T N)) (L := impl_sortedBy_1_c0_1_L) (ins := [(.int .i64), (.int .i64), (.bx (.clo 72 (.bx (.pair (.sl (.int .i64)) (.pair (.int .i64) (.int .i64))))))]) (outs := [.val (.int .i64)]) (res := [5]) mixed tt_ok ?_ Try.func120 (by kernel_rfl) rfl (by kernel_rfl) (by kernel_rfl) (by decide +kernel)
  · rw [impl_sortedBy_1_c0_1_eq] at h
    exact h
  · intro f e he
    unfold impl_sortedBy_1_c0_1_T at he
    split at he
    · rw [List.mem_singleton.1 he]; exact impl_TwoOrder_2_c0_sound N
    · rw [List.mem_singleton.1 he]; exact cmp_Compare_int64_sound N
    · cases he

/- slices.insertionSortCmpFunc[int64] -/
def slices_insertionSortCmpFunc_int64_impl_sortedBy_1_1 (N : Nat) (x0 : List Int) (x1 : Int) (x2 : Int) (x3 : (List Int) × Int × Int) : Option (List (Int) × (Unit)) :=
  loopN (fun (s1 : List (Int) × Int × Unit) next2 =>
    cond (decide (s1.2.1 < x2))
      (loopN (fun (s3 : List (Int) × Int × Unit) next4 =>
        cond (decide (s3.2.1 > x1))
          (cond (inB s3.2.1 (List.length s3.1))
            (Option.bind (s3.1[(Int.toNat s3.2.1)]?) fun v5 =>
            cond (inB (w64 (s3.2.1 - 1)) (List.length s3.1))
              (Option.bind (s3.1[(Int.toNat (w64 (s3.2.1 - 1)))]?) fun v6 =>
              Option.bind (impl_sortedBy_1_c0_1 N v5 v6 x3) fun r7 =>
              cond (decide (r7.1 < 0))
                (cond (inB (w64 (s3.2.1 - 1)) (List.length s3.1))
                  (Option.bind (s3.1[(Int.toNat (w64 (s3.2.1 - 1)))]?) fun v8 =>
                  cond (inB s3.2.1 (List.length s3.1))
                    (Option.bind (s3.1[(Int.toNat s3.2.1)]?) fun v9 =>
                    cond (inB s3.2.1 (List.length s3.1))
                      (let xs10 := (List.set s3.1 (Int.toNat s3.2.1) v8)
                      cond (inB (w64 (s3.2.1 - 1)) (List.length xs10))
                        (let xs11 := (List.set xs10 (Int.toNat (w64 (s3.2.1 - 1))) v9)
                        next4 (xs11, (w64 (s3.2.1 - 1)), ())) none) none) none) none)
                (next2 (s3.1, (w64 (s1.2.1 + 1)), ()))) none) none)
          (next2 (s3.1, (w64 (s1.2.1 + 1)), ()))) N (s1.1, s1.2.1, ()))
      (some (s1.1, ()))) N (x0, (w64 (x1 + 1)), ())
def slices_insertionSortCmpFunc_int64_impl_sortedBy_1_1_e (N : Nat) : EntM := { io := (.int .i64), ins := [(.int .i64), (.int .i64), (.clo 120 (.bx (.clo 72 (.bx (.pair (.sl (.int .i64)) (.pair (.int .i64) (.int .i64)))))))], outs := [], F := fun xs x => slices_insertionSortCmpFunc_int64_impl_sortedBy_1_1 N xs x.1 x.2.1 x.2.2.1 }
def slices_insertionSortCmpFunc_int64_impl_sortedBy_1_1_T (N : Nat) : Nat → List EntX
  | 120 => [.pl (impl_sortedBy_1_c0_1_e N)]
  | _ => []
def slices_insertionSortCmpFunc_int64_impl_sortedBy_1_1_L : Nat → List (Nat × TK)
  | 1 => [(0, .own (.int .i64)), (8, .v (.int .i64))]
  | 4 => [(0, .own (.int .i64)), (9, .v (.int .i64))]
  | _ => []
theorem slices_insertionSortCmpFunc_int64_impl_sortedBy_1_1_eq (N : Nat) : runM N tt (slices_insertionSortCmpFunc_int64_impl_sortedBy_1_1_T N) slices_insertionSortCmpFunc_int64_impl_sortedBy_1_1_L (.int .i64) [(.int .i64), (.int .i64), (.clo 120 (.bx (.clo 72 (.bx (.pair (.sl (.int .i64)) (.pair (.int .i64) (.int .i64)))))))] [] (bodyOf Try.f141) Try.f141.ntmps [] = (slices_insertionSortCmpFunc_int64_impl_sortedBy_1_1_e N).F := by
  funext xs x
  kernel_rfl
theorem slices_insertionSortCmpFunc_int64_impl_sortedBy_1_1_sound (N : Nat) : SoundM Try.prog 141 (slices_insertionSortCmpFunc_int64_impl_sortedBy_1_1_e N) := by
  have h := runM_sound (f := 141) (code := bodyOf Try.f141) (N := N) (T := (slices_insertionSortCmpFunc_int64_impl_sortedBy_1_1_T N)) (L := slices_insertionSortCmpFunc_int64_impl_sortedBy_1_1_L) (io := (.int .i64)) (ins := [(.int .i64), (.int .i64), (.clo 120 (.bx (.clo 72 (.bx (.pair (.sl (.int .i64)) (.pair (.int .i64) (.int .i64)))))))]) (outs := []) (res := []) mixed tt_ok ?_ Try.func141 (by kernel_rfl) rfl (by kernel_rfl) (by kernel_rfl) (by decide +kernel)
  · rw [slices_insertionSortCmpFunc_int64_impl_sortedBy_1_1_eq] at h
    exact h
  · intro f e he
    unfold slices_insertionSortCmpFunc_int64_impl_sortedBy_1_1_T at he
    split at he
    · rw [List.mem_singleton.1 he]; exact impl_sortedBy_1_c0_1_sound N
    · cases he

/- slices.swapRangeCmpFunc[int64] -/
def slices_swapRangeCmpFunc_int64_impl_sortedBy_1_1 (N : Nat) (x0 : List Int) (x1 : Int) (x2 : Int) (x3 : Int) (x4 : (List Int) × Int × Int) : Option (List (Int) × (Unit)) :=
  loopN (fun (s1 : List (Int) × Int × Unit) next2 =>
    cond (decide (s1.2.1 < x3))
      (cond (inB (w64 (x2 + s1.2.1)) (List.length s1.1))
        (Option.bind (s1.1[(Int.toNat (w64 (x2 + s1.2.1)))]?) fun v3 =>
        cond (inB (w64 (x1 + s1.2.1)) (List.length s1.1))
          (Option.bind (s1.1[(Int.toNat (w64 (x1 + s1.2.1)))]?) fun v4 =>
          cond (inB (w64 (x1 + s1.2.1)) (List.length s1.1))
            (let xs5 := (List.set s1.1 (Int.toNat (w64 (x1 + s1.2.1))) v3)
            cond (inB (w64 (x2 + s1.2.1)) (List.length xs5))
              (let xs6 := (List.set xs5 (Int.toNat (w64 (x2 + s1.2.1))) v4)
              next2 (xs6, (w64 (s1.2.1 + 1)), ())) none) none) none) none)
      (some (s1.1, ()))) N (x0, 0, ())
def slices_swapRangeCmpFunc_int64_impl_sortedBy_1_1_e (N : Nat) : EntM := { io := (.int .i64), ins := [(.int .i64), (.int .i64), (.int .i64), (.clo 120 (.bx (.clo 72 (.bx (.pair (.sl (.int .i64)) (.pair (.int .i64) (.int .i64)))))))], outs := [], F := fun xs x => slices_swapRangeCmpFunc_int64_impl_sortedBy_1_1 N xs x.1 x.2.1 x.2.2.1 x.2.2.2.1 }
def slices_swapRangeCmpFunc_int64_impl_sortedBy_1_1_T (_ : Nat) : Nat → List EntX := fun _ => []
def slices_swapRangeCmpFunc_int64_impl_sortedBy_1_1_L : Nat → List (Nat × TK)
  | 1 => [(0, .own (.int .i64)), (10, .v (.int .i64))]
  | _ => []
theorem slices_swapRangeCmpFunc_int64_impl_sortedBy_1_1_eq (N : Nat) : runM N tt (slices_swapRangeCmpFunc_int64_impl_sortedBy_1_1_T N) slices_swapRangeCmpFunc_int64_impl_sortedBy_1_1_L (.int .i64) [(.int .i64), (.int .i64), (.int .i64), (.clo 120 (.bx (.clo 72 (.bx (.pair (.sl (.int .i64)) (.pair (.int .i64) (.int .i64)))))))] [] (bodyOf Try.f144) Try.f144.ntmps [] = (slices_swapRangeCmpFunc_int64_impl_sortedBy_1_1_e N).F := by
  funext xs x
  kernel_rfl
theorem slices_swapRangeCmpFunc_int64_impl_sortedBy_1_1_sound (N : Nat) : SoundM Try.prog 144 (slices_swapRangeCmpFunc_int64_impl_sortedBy_1_1_e N) := by
  have h := runM_sound (f := 144) (code := bodyOf Try.f144) (N := N) (T := (slices_swapRangeCmpFunc_int64_impl_sortedBy_1_1_T N)) (L := slices_swapRangeCmpFunc_int64_impl_sortedBy_1_1_L) (io := (.int .i64)) (ins := [(.int .i64), (.int .i64), (.int .i64), (.clo 120 (.bx (.clo 72 (.bx (.pair (.sl (.int .i64)) (.pair (.int .i64) (.int .i64)))))))]) (outs := []) (res := []) mixed tt_ok ?_ Try.func144 (by kernel_rfl) rfl (by kernel_rfl) (by kernel_rfl) (by decide +kernel)
  · rw [slices_swapRangeCmpFunc_int64_impl_sortedBy_1_1_eq] at h
    exact h
  · intro f e he
    cases he

/- slices.rotateCmpFunc[int64] -/
def slices_rotateCmpFunc_int64_impl_sortedBy_1_1 (N : Nat) (x0 : List Int) (x1 : Int) (x2 : Int) (x3 : Int) (x4 : (List Int) × Int × Int) : Option (List (Int) × (Unit)) :=
  loopN (fun (s1 : List (Int) × Int × Int × Unit) next2 =>
    cond (s1.2.1 != s1.2.2.1)
      (cond (decide (s1.2.1 > s1.2.2.1))
        (Option.bind (slices_swapRangeCmpFunc_int64_impl_sortedBy_1_1 N s1.1 (w64 (x2 - s1.2.1)) x2 s1.2.2.1 x4) fun r3 =>
        cond (Nat.beq (List.length r3.1) (List.length s1.1))
          (next2 (r3.1, (w64 (s1.2.1 - s1.2.2.1)), s1.2.2.1, ())) none)
        (Option.bind (slices_swapRangeCmpFunc_int64_impl_sortedBy_1_1 N s1.1 (w64 (x2 - s1.2.1)) (w64 ((w64 (x2 + s1.2.2.1)) - s1.2.1)) s1.2.1 x4) fun r4 =>
        cond (Nat.beq (List.length r4.1) (List.length s1.1))
          (next2 (r4.1, s1.2.1, (w64 (s1.2.2.1 - s1.2.1)), ())) none))
      (Option.bind (slices_swapRangeCmpFunc_int64_impl_sortedBy_1_1 N s1.1 (w64 (x2 - s1.2.1)) x2 s1.2.1 x4) fun r5 =>
      cond (Nat.beq (List.length r5.1) (List.length s1.1))
        (some (r5.1, ())) none)) N (x0, (w64 (x2 - x1)), (w64 (x3 - x2)), ())
def slices_rotateCmpFunc_int64_impl_sortedBy_1_1_e (N : Nat) : EntM := { io := (.int .i64), ins := [(.int .i64), (.int .i64), (.int .i64), (.clo 120 (.bx (.clo 72 (.bx (.pair (.sl (.int .i64)) (.pair (.int .i64) (.int .i64)))))))], outs := [], F := fun xs x => slices_rotateCmpFunc_int64_impl_sortedBy_1_1 N xs x.1 x.2.1 x.2.2.1 x.2.2.2.1 }
def slices_rotateCmpFunc_int64_impl_sortedBy_1_1_T (N : Nat) : Nat → List EntX
  | 144 => [.mu (slices_swapRangeCmpFunc_int64_impl_sortedBy_1_1_e N)]
  | _ => []
def slices_rotateCmpFunc_int64_impl_sortedBy_1_1_L : Nat → List (Nat × TK)
  | 2 => [(0, .own (.int .i64)), (10, .v (.int .i64)), (11, .v (.int .i64))]
  | _ => []
theorem slices_rotateCmpFunc_int64_impl_sortedBy_1_1_eq (N : Nat) : runM N tt (slices_rotateCmpFunc_int64_impl_sortedBy_1_1_T N) slices_rotateCmpFunc_int64_impl_sortedBy_1_1_L (.int .i64) [(.int .i64), (.int .i64), (.int .i64), (.clo 120 (.bx (.clo 72 (.bx (.pair (.sl (.int .i64)) (.pair (.int .i64) (.int .i64)))))))] [] (bodyOf Try.f143) Try.f143.ntmps [] = (slices_rotateCmpFunc_int64_impl_sortedBy_1_1_e N).F := by
  funext xs x
  kernel_rfl
theorem slices_rotateCmpFunc_int64_impl_sortedBy_1_1_sound (N : Nat) : SoundM Try.prog 143 (slices_rotateCmpFunc_int64_impl_sortedBy_1_1_e N) := by
  have h := runM_sound (f := 143) (code := bodyOf Try.f143) (N := N) (T := (slices_rotateCmpFunc_int64_impl_sortedBy_1_1_T N)) (L := slices_rotateCmpFunc_int64_impl_sortedBy_1_1_L) (io := (.int .i64)) (ins := [(.int .i64), (.int .i64), (.int .i64), (.clo 120 (.bx (.clo 72 (.bx (.pair (.sl (.int .i64)) (.pair (.int .i64) (.int .i64)))))))]) (outs := []) (res := []) mixed tt_ok ?_ Try.func143 (by kernel_rfl) rfl (by kernel_rfl) (by kernel_rfl) (by decide +kernel)
  · rw [slices_rotateCmpFunc_int64_impl_sortedBy_1_1_eq] at h
    exact h
  · intro f e he
    unfold slices_rotateCmpFunc_int64_impl_sortedBy_1_1_T at he
    split at he
    · rw [List.mem_singleton.1 he]; exact slices_swapRangeCmpFunc_int64_impl_sortedBy_1_1_sound N
    · cases he

/- slices.symMergeCmpFunc[int64] -/
def slices_symMergeCmpFunc_int64_impl_sortedBy_1_1_step (N : Nat) (self : List (Int) → Int → Int → Int → (List Int) × Int × Int → Option (List (Int) × (Unit))) (x0 : List Int) (x1 : Int) (x2 : Int) (x3 : Int) (x4 : (List Int) × Int × Int) : Option (List (Int) × (Unit)) :=
  cond ((w64 (x2 - x1)) == 1)
    (loopN (fun (s1 : Int × Int × Unit) next2 =>
      cond (decide (s1.1 < s1.2.1))
        (cond (inB (IntKind.wrap .i64 (ishr .u64 (IntKind.wrap .u64 (w64 (s1.1 + s1.2.1))) 1)) (List.length x0))
          (Option.bind (x0[(Int.toNat (IntKind.wrap .i64 (ishr .u64 (IntKind.wrap .u64 (w64 (s1.1 + s1.2.1))) 1)))]?) fun v3 =>
          cond (inB x1 (List.length x0))
            (Option.bind (x0[(Int.toNat x1)]?) fun v4 =>
            Option.bind (impl_sortedBy_1_c0_1 N v3 v4 x4) fun r5 =>
            cond (decide (r5.1 < 0))
              (next2 ((w64 ((IntKind.wrap .i64 (ishr .u64 (IntKind.wrap .u64 (w64 (s1.1 + s1.2.1))) 1)) + 1)), s1.2.1, ()))
              (next2 (s1.1, (IntKind.wrap .i64 (ishr .u64 (IntKind.wrap .u64 (w64 (s1.1 + s1.2.1))) 1)), ()))) none) none)
        (loopN (fun (s6 : List (Int) × Int × Unit) next7 =>
          cond (decide (s6.2.1 < (w64 (s1.1 - 1))))
            (cond (inB (w64 (s6.2.1 + 1)) (List.length s6.1))
              (Option.bind (s6.1[(Int.toNat (w64 (s6.2.1 + 1)))]?) fun v8 =>
              cond (inB s6.2.1 (List.length s6.1))
                (Option.bind (s6.1[(Int.toNat s6.2.1)]?) fun v9 =>
                cond (inB s6.2.1 (List.length s6.1))
                  (let xs10 := (List.set s6.1 (Int.toNat s6.2.1) v8)
                  cond (inB (w64 (s6.2.1 + 1)) (List.length xs10))
                    (let xs11 := (List.set xs10 (Int.toNat (w64 (s6.2.1 + 1))) v9)
                    next7 (xs11, (w64 (s6.2.1 + 1)), ())) none) none) none) none)
            (some (s6.1, ()))) N (x0, x1, ()))) N (x2, x3, ()))
    (cond ((w64 (x3 - x2)) == 1)
      (loopN (fun (s12 : Int × Int × Unit) next13 =>
        cond (decide (s12.1 < s12.2.1))
          (cond (inB x2 (List.length x0))
            (Option.bind (x0[(Int.toNat x2)]?) fun v14 =>
            cond (inB (IntKind.wrap .i64 (ishr .u64 (IntKind.wrap .u64 (w64 (s12.1 + s12.2.1))) 1)) (List.length x0))
              (Option.bind (x0[(Int.toNat (IntKind.wrap .i64 (ishr .u64 (IntKind.wrap .u64 (w64 (s12.1 + s12.2.1))) 1)))]?) fun v15 =>
              Option.bind (impl_sortedBy_1_c0_1 N v14 v15 x4) fun r16 =>
              cond (!(decide (r16.1 < 0)))
                (next13 ((w64 ((IntKind.wrap .i64 (ishr .u64 (IntKind.wrap .u64 (w64 (s12.1 + s12.2.1))) 1)) + 1)), s12.2.1, ()))
                (next13 (s12.1, (IntKind.wrap .i64 (ishr .u64 (IntKind.wrap .u64 (w64 (s12.1 + s12.2.1))) 1)), ()))) none) none)
          (loopN (fun (s17 : List (Int) × Int × Unit) next18 =>
            cond (decide (s17.2.1 > s12.1))
              (cond (inB (w64 (s17.2.1 - 1)) (List.length s17.1))
                (Option.bind (s17.1[(Int.toNat (w64 (s17.2.1 - 1)))]?) fun v19 =>
                cond (inB s17.2.1 (List.length s17.1))
                  (Option.bind (s17.1[(Int.toNat s17.2.1)]?) fun v20 =>
                  cond (inB s17.2.1 (List.length s17.1))
                    (let xs21 := (List.set s17.1 (Int.toNat s17.2.1) v19)
                    cond (inB (w64 (s17.2.1 - 1)) (List.length xs21))
                      (let xs22 := (List.set xs21 (Int.toNat (w64 (s17.2.1 - 1))) v20)
                      next18 (xs22, (w64 (s17.2.1 - 1)), ())) none) none) none) none)
              (some (s17.1, ()))) N (x0, x2, ()))) N (x1, x2, ()))
      (cond (decide (x2 > (IntKind.wrap .i64 (ishr .u64 (IntKind.wrap .u64 (w64 (x1 + x3))) 1))))
        (loopN (fun (s23 : Int × Int × Unit) next24 =>
          cond (decide (s23.1 < s23.2.1))
            (cond (inB (w64 ((w64 ((w64 ((IntKind.wrap .i64 (ishr .u64 (IntKind.wrap .u64 (w64 (x1 + x3))) 1)) + x2)) - 1)) - (IntKind.wrap .i64 (ishr .u64 (IntKind.wrap .u64 (w64 (s23.1 + s23.2.1))) 1)))) (List.length x0))
              (Option.bind (x0[(Int.toNat (w64 ((w64 ((w64 ((IntKind.wrap .i64 (ishr .u64 (IntKind.wrap .u64 (w64 (x1 + x3))) 1)) + x2)) - 1)) - (IntKind.wrap .i64 (ishr .u64 (IntKind.wrap .u64 (w64 (s23.1 + s23.2.1))) 1)))))]?) fun v25 =>
              cond (inB (IntKind.wrap .i64 (ishr .u64 (IntKind.wrap .u64 (w64 (s23.1 + s23.2.1))) 1)) (List.length x0))
                (Option.bind (x0[(Int.toNat (IntKind.wrap .i64 (ishr .u64 (IntKind.wrap .u64 (w64 (s23.1 + s23.2.1))) 1)))]?) fun v26 =>
                Option.bind (impl_sortedBy_1_c0_1 N v25 v26 x4) fun r27 =>
                cond (!(decide (r27.1 < 0)))
                  (next24 ((w64 ((IntKind.wrap .i64 (ishr .u64 (IntKind.wrap .u64 (w64 (s23.1 + s23.2.1))) 1)) + 1)), s23.2.1, ()))
                  (next24 (s23.1, (IntKind.wrap .i64 (ishr .u64 (IntKind.wrap .u64 (w64 (s23.1 + s23.2.1))) 1)), ()))) none) none)
            (cond (decide (s23.1 < x2))
              (cond (decide (x2 < (w64 ((w64 ((IntKind.wrap .i64 (ishr .u64 (IntKind.wrap .u64 (w64 (x1 + x3))) 1)) + x2)) - s23.1))))
                (Option.bind (slices_rotateCmpFunc_int64_impl_sortedBy_1_1 N x0 s23.1 x2 (w64 ((w64 ((IntKind.wrap .i64 (ishr .u64 (IntKind.wrap .u64 (w64 (x1 + x3))) 1)) + x2)) - s23.1)) x4) fun r28 =>
                cond (Nat.beq (List.length r28.1) (List.length x0))
                  (cond (decide (x1 < s23.1))
                    (cond (decide (s23.1 < (IntKind.wrap .i64 (ishr .u64 (IntKind.wrap .u64 (w64 (x1 + x3))) 1))))
                      (Option.bind (self r28.1 x1 s23.1 (IntKind.wrap .i64 (ishr .u64 (IntKind.wrap .u64 (w64 (x1 + x3))) 1)) x4) fun r29 =>
                      cond (Nat.beq (List.length r29.1) (List.length r28.1))
                        (cond (decide ((IntKind.wrap .i64 (ishr .u64 (IntKind.wrap .u64 (w64 (x1 + x3))) 1)) < (w64 ((w64 ((IntKind.wrap .i64 (ishr .u64 (IntKind.wrap .u64 (w64 (x1 + x3))) 1)) + x2)) - s23.1))))
                          (cond (decide ((w64 ((w64 ((IntKind.wrap .i64 (ishr .u64 (IntKind.wrap .u64 (w64 (x1 + x3))) 1)) + x2)) - s23.1)) < x3))
                            (Option.bind (self r29.1 (IntKind.wrap .i64 (ishr .u64 (IntKind.wrap .u64 (w64 (x1 + x3))) 1)) (w64 ((w64 ((IntKind.wrap .i64 (ishr .u64 (IntKind.wrap .u64 (w64 (x1 + x3))) 1)) + x2)) - s23.1)) x3 x4) fun r30 =>
                            cond (Nat.beq (List.length r30.1) (List.length r29.1))
                              (some (r30.1, ())) none)
                            (some (r29.1, ())))
                          (some (r29.1, ()))) none)
                      (cond (decide ((IntKind.wrap .i64 (ishr .u64 (IntKind.wrap .u64 (w64 (x1 + x3))) 1)) < (w64 ((w64 ((IntKind.wrap .i64 (ishr .u64 (IntKind.wrap .u64 (w64 (x1 + x3))) 1)) + x2)) - s23.1))))
                        (cond (decide ((w64 ((w64 ((IntKind.wrap .i64 (ishr .u64 (IntKind.wrap .u64 (w64 (x1 + x3))) 1)) + x2)) - s23.1)) < x3))
                          (Option.bind (self r28.1 (IntKind.wrap .i64 (ishr .u64 (IntKind.wrap .u64 (w64 (x1 + x3))) 1)) (w64 ((w64 ((IntKind.wrap .i64 (ishr .u64 (IntKind.wrap .u64 (w64 (x1 + x3))) 1)) + x2)) - s23.1)) x3 x4) fun r31 =>
                          cond (Nat.beq (List.length r31.1) (List.length r28.1))
                            (some (r31.1, ())) none)
                          (some (r28.1, ())))
                        (some (r28.1, ()))))
                    (cond (decide ((IntKind.wrap .i64 (ishr .u64 (IntKind.wrap .u64 (w64 (x1 + x3))) 1)) < (w64 ((w64 ((IntKind.wrap .i64 (ishr .u64 (IntKind.wrap .u64 (w64 (x1 + x3))) 1)) + x2)) - s23.1))))
                      (cond (decide ((w64 ((w64 ((IntKind.wrap .i64 (ishr .u64 (IntKind.wrap .u64 (w64 (x1 + x3))) 1)) + x2)) - s23.1)) < x3))
                        (Option.bind (self r28.1 (IntKind.wrap .i64 (ishr .u64 (IntKind.wrap .u64 (w64 (x1 + x3))) 1)) (w64 ((w64 ((IntKind.wrap .i64 (ishr .u64 (IntKind.wrap .u64 (w64 (x1 + x3))) 1)) + x2)) - s23.1)) x3 x4) fun r32 =>
                        cond (Nat.beq (List.length r32.1) (List.length r28.1))
                          (some (r32.1, ())) none)
                        (some (r28.1, ())))
                      (some (r28.1, ())))) none)
                (cond (decide (x1 < s23.1))
                  (cond (decide (s23.1 < (IntKind.wrap .i64 (ishr .u64 (IntKind.wrap .u64 (w64 (x1 + x3))) 1))))
                    (Option.bind (self x0 x1 s23.1 (IntKind.wrap .i64 (ishr .u64 (IntKind.wrap .u64 (w64 (x1 + x3))) 1)) x4) fun r33 =>
                    cond (Nat.beq (List.length r33.1) (List.length x0))
                      (cond (decide ((IntKind.wrap .i64 (ishr .u64 (IntKind.wrap .u64 (w64 (x1 + x3))) 1)) < (w64 ((w64 ((IntKind.wrap .i64 (ishr .u64 (IntKind.wrap .u64 (w64 (x1 + x3))) 1)) + x2)) - s23.1))))
                        (cond (decide ((w64 ((w64 ((IntKind.wrap .i64 (ishr .u64 (IntKind.wrap .u64 (w64 (x1 + x3))) 1)) + x2)) - s23.1)) < x3))
                          (Option.bind (self r33.1 (IntKind.wrap .i64 (ishr .u64 (IntKind.wrap .u64 (w64 (x1 + x3))) 1)) (w64 ((w64 ((IntKind.wrap .i64 (ishr .u64 (IntKind.wrap .u64 (w64 (x1 + x3))) 1)) + x2)) - s23.1)) x3 x4) fun r34 =>
                          cond (Nat.beq (List.length r34.1) (List.length r33.1))
                            (some (r34.1, ())) none)
                          (some (r33.1, ())))
                        (some (r33.1, ()))) none)
                    (cond (decide ((IntKind.wrap .i64 (ishr .u64 (IntKind.wrap .u64 (w64 (x1 + x3))) 1)) < (w64 ((w64 ((IntKind.wrap .i64 (ishr .u64 (IntKind.wrap .u64 (w64 (x1 + x3))) 1)) + x2)) - s23.1))))
                      (cond (decide ((w64 ((w64 ((IntKind.wrap .i64 (ishr .u64 (IntKind.wrap .u64 (w64 (x1 + x3))) 1)) + x2)) - s23.1)) < x3))
                        (Option.bind (self x0 (IntKind.wrap .i64 (ishr .u64 (IntKind.wrap .u64 (w64 (x1 + x3))) 1)) (w64 ((w64 ((IntKind.wrap .i64 (ishr .u64 (IntKind.wrap .u64 (w64 (x1 + x3))) 1)) + x2)) - s23.1)) x3 x4) fun r35 =>
                        cond (Nat.beq (List.length r35.1) (List.length x0))
                          (some (r35.1, ())) none)
                        (some (x0, ())))
                      (some (x0, ()))))
                  (cond (decide ((IntKind.wrap .i64 (ishr .u64 (IntKind.wrap .u64 (w64 (x1 + x3))) 1)) < (w64 ((w64 ((IntKind.wrap .i64 (ishr .u64 (IntKind.wrap .u64 (w64 (x1 + x3))) 1)) + x2)) - s23.1))))
                    (cond (decide ((w64 ((w64 ((IntKind.wrap .i64 (ishr .u64 (IntKind.wrap .u64 (w64 (x1 + x3))) 1)) + x2)) - s23.1)) < x3))
                      (Option.bind (self x0 (IntKind.wrap .i64 (ishr .u64 (IntKind.wrap .u64 (w64 (x1 + x3))) 1)) (w64 ((w64 ((IntKind.wrap .i64 (ishr .u64 (IntKind.wrap .u64 (w64 (x1 + x3))) 1)) + x2)) - s23.1)) x3 x4) fun r36 =>
                      cond (Nat.beq (List.length r36.1) (List.length x0))
                        (some (r36.1, ())) none)
                      (some (x0, ())))
                    (some (x0, ())))))
              (cond (decide (x1 < s23.1))
                (cond (decide (s23.1 < (IntKind.wrap .i64 (ishr .u64 (IntKind.wrap .u64 (w64 (x1 + x3))) 1))))
                  (Option.bind (self x0 x1 s23.1 (IntKind.wrap .i64 (ishr .u64 (IntKind.wrap .u64 (w64 (x1 + x3))) 1)) x4) fun r37 =>
                  cond (Nat.beq (List.length r37.1) (List.length x0))
                    (cond (decide ((IntKind.wrap .i64 (ishr .u64 (IntKind.wrap .u64 (w64 (x1 + x3))) 1)) < (w64 ((w64 ((IntKind.wrap .i64 (ishr .u64 (IntKind.wrap .u64 (w64 (x1 + x3))) 1)) + x2)) - s23.1))))
                      (cond (decide ((w64 ((w64 ((IntKind.wrap .i64 (ishr .u64 (IntKind.wrap .u64 (w64 (x1 + x3))) 1)) + x2)) - s23.1)) < x3))
                        (Option.bind (self r37.1 (IntKind.wrap .i64 (ishr .u64 (IntKind.wrap .u64 (w64 (x1 + x3))) 1)) (w64 ((w64 ((IntKind.wrap .i64 (ishr .u64 (IntKind.wrap .u64 (w64 (x1 + x3))) 1)) + x2)) - s23.1)) x3 x4) fun r38 =>
                        cond (Nat.beq (List.length r38.1) (List.length r37.1))
                          (some (r38.1, ())) none)
                        (some (r37.1, ())))
                      (some (r37.1, ()))) none)
                  (cond (decide ((IntKind.wrap .i64 (ishr .u64 (IntKind.wrap .u64 (w64 (x1 + x3))) 1)) < (w64 ((w64 ((IntKind.wrap .i64 (ishr .u64 (IntKind.wrap .u64 (w64 (x1 + x3))) 1)) + x2)) - s23.1))))
                    (cond (decide ((w64 ((w64 ((IntKind.wrap .i64 (ishr .u64 (IntKind.wrap .u64 (w64 (x1 + x3))) 1)) + x2)) - s23.1)) < x3))
                      (Option.bind (self x0 (IntKind.wrap .i64 (ishr .u64 (IntKind.wrap .u64 (w64 (x1 + x3))) 1)) (w64 ((w64 ((IntKind.wrap .i64 (ishr .u64 (IntKind.wrap .u64 (w64 (x1 + x3))) 1)) + x2)) - s23.1)) x3 x4) fun r39 =>
                      cond (Nat.beq (List.length r39.1) (List.length x0))
                        (some (r39.1, ())) none)
                      (some (x0, ())))
                    (some (x0, ()))))
                (cond (decide ((IntKind.wrap .i64 (ishr .u64 (IntKind.wrap .u64 (w64 (x1 + x3))) 1)) < (w64 ((w64 ((IntKind.wrap .i64 (ishr .u64 (IntKind.wrap .u64 (w64 (x1 + x3))) 1)) + x2)) - s23.1))))
                  (cond (decide ((w64 ((w64 ((IntKind.wrap .i64 (ishr .u64 (IntKind.wrap .u64 (w64 (x1 + x3))) 1)) + x2)) - s23.1)) < x3))
                    (Option.bind (self x0 (IntKind.wrap .i64 (ishr .u64 (IntKind.wrap .u64 (w64 (x1 + x3))) 1)) (w64 ((w64 ((IntKind.wrap .i64 (ishr .u64 (IntKind.wrap .u64 (w64 (x1 + x3))) 1)) + x2)) - s23.1)) x3 x4) fun r40 =>
                    cond (Nat.beq (List.length r40.1) (List.length x0))
                      (some (r40.1, ())) none)
                    (some (x0, ())))
                  (some (x0, ())))))) N ((w64 ((w64 ((IntKind.wrap .i64 (ishr .u64 (IntKind.wrap .u64 (w64 (x1 + x3))) 1)) + x2)) - x3)), (IntKind.wrap .i64 (ishr .u64 (IntKind.wrap .u64 (w64 (x1 + x3))) 1)), ()))
        (loopN (fun (s41 : Int × Int × Unit) next42 =>
          cond (decide (s41.1 < s41.2.1))
            (cond (inB (w64 ((w64 ((w64 ((IntKind.wrap .i64 (ishr .u64 (IntKind.wrap .u64 (w64 (x1 + x3))) 1)) + x2)) - 1)) - (IntKind.wrap .i64 (ishr .u64 (IntKind.wrap .u64 (w64 (s41.1 + s41.2.1))) 1)))) (List.length x0))
              (Option.bind (x0[(Int.toNat (w64 ((w64 ((w64 ((IntKind.wrap .i64 (ishr .u64 (IntKind.wrap .u64 (w64 (x1 + x3))) 1)) + x2)) - 1)) - (IntKind.wrap .i64 (ishr .u64 (IntKind.wrap .u64 (w64 (s41.1 + s41.2.1))) 1)))))]?) fun v43 =>
              cond (inB (IntKind.wrap .i64 (ishr .u64 (IntKind.wrap .u64 (w64 (s41.1 + s41.2.1))) 1)) (List.length x0))
                (Option.bind (x0[(Int.toNat (IntKind.wrap .i64 (ishr .u64 (IntKind.wrap .u64 (w64 (s41.1 + s41.2.1))) 1)))]?) fun v44 =>
                Option.bind (impl_sortedBy_1_c0_1 N v43 v44 x4) fun r45 =>
                cond (!(decide (r45.1 < 0)))
                  (next42 ((w64 ((IntKind.wrap .i64 (ishr .u64 (IntKind.wrap .u64 (w64 (s41.1 + s41.2.1))) 1)) + 1)), s41.2.1, ()))
                  (next42 (s41.1, (IntKind.wrap .i64 (ishr .u64 (IntKind.wrap .u64 (w64 (s41.1 + s41.2.1))) 1)), ()))) none) none)
            (cond (decide (s41.1 < x2))
              (cond (decide (x2 < (w64 ((w64 ((IntKind.wrap .i64 (ishr .u64 (IntKind.wrap .u64 (w64 (x1 + x3))) 1)) + x2)) - s41.1))))
                (Option.bind (slices_rotateCmpFunc_int64_impl_sortedBy_1_1 N x0 s41.1 x2 (w64 ((w64 ((IntKind.wrap .i64 (ishr .u64 (IntKind.wrap .u64 (w64 (x1 + x3))) 1)) + x2)) - s41.1)) x4) fun r46 =>
                cond (Nat.beq (List.length r46.1) (List.length x0))
                  (cond (decide (x1 < s41.1))
                    (cond (decide (s41.1 < (IntKind.wrap .i64 (ishr .u64 (IntKind.wrap .u64 (w64 (x1 + x3))) 1))))
                      (Option.bind (self r46.1 x1 s41.1 (IntKind.wrap .i64 (ishr .u64 (IntKind.wrap .u64 (w64 (x1 + x3))) 1)) x4) fun r47 =>
                      cond (Nat.beq (List.length r47.1) (List.length r46.1))
                        (cond (decide ((IntKind.wrap .i64 (ishr .u64 (IntKind.wrap .u64 (w64 (x1 + x3))) 1)) < (w64 ((w64 ((IntKind.wrap .i64 (ishr .u64 (IntKind.wrap .u64 (w64 (x1 + x3))) 1)) + x2)) - s41.1))))
                          (cond (decide ((w64 ((w64 ((IntKind.wrap .i64 (ishr .u64 (IntKind.wrap .u64 (w64 (x1 + x3))) 1)) + x2)) - s41.1)) < x3))
                            (Option.bind (self r47.1 (IntKind.wrap .i64 (ishr .u64 (IntKind.wrap .u64 (w64 (x1 + x3))) 1)) (w64 ((w64 ((IntKind.wrap .i64 (ishr .u64 (IntKind.wrap .u64 (w64 (x1 + x3))) 1)) + x2)) - s41.1)) x3 x4) fun r48 =>
                            cond (Nat.beq (List.length r48.1) (List.length r47.1))
                              (some (r48.1, ())) none)
                            (some (r47.1, ())))
                          (some (r47.1, ()))) none)
                      (cond (decide ((IntKind.wrap .i64 (ishr .u64 (IntKind.wrap .u64 (w64 (x1 + x3))) 1)) < (w64 ((w64 ((IntKind.wrap .i64 (ishr .u64 (IntKind.wrap .u64 (w64 (x1 + x3))) 1)) + x2)) - s41.1))))
                        (cond (decide ((w64 ((w64 ((IntKind.wrap .i64 (ishr .u64 (IntKind.wrap .u64 (w64 (x1 + x3))) 1)) + x2)) - s41.1)) < x3))
                          (Option.bind (self r46.1 (IntKind.wrap .i64 (ishr .u64 (IntKind.wrap .u64 (w64 (x1 + x3))) 1)) (w64 ((w64 ((IntKind.wrap .i64 (ishr .u64 (IntKind.wrap .u64 (w64 (x1 + x3))) 1)) + x2)) - s41.1)) x3 x4) fun r49 =>
                          cond (Nat.beq (List.length r49.1) (List.length r46.1))
                            (some (r49.1, ())) none)
                          (some (r46.1, ())))
                        (some (r46.1, ()))))
                    (cond (decide ((IntKind.wrap .i64 (ishr .u64 (IntKind.wrap .u64 (w64 (x1 + x3))) 1)) < (w64 ((w64 ((IntKind.wrap .i64 (ishr .u64 (IntKind.wrap .u64 (w64 (x1 + x3))) 1)) + x2)) - s41.1))))
                      (cond (decide ((w64 ((w64 ((IntKind.wrap .i64 (ishr .u64 (IntKind.wrap .u64 (w64 (x1 + x3))) 1)) + x2)) - s41.1)) < x3))
                        (Option.bind (self r46.1 (IntKind.wrap .i64 (ishr .u64 (IntKind.wrap .u64 (w64 (x1 + x3))) 1)) (w64 ((w64 ((IntKind.wrap .i64 (ishr .u64 (IntKind.wrap .u64 (w64 (x1 + x3))) 1)) + x2)) - s41.1)) x3 x4) fun r50 =>
                        cond (Nat.beq (List.length r50.1) (List.length r46.1))
                          (some (r50.1, ())) none)
                        (some (r46.1, ())))
                      (some (r46.1, ())))) none)
                (cond (decide (x1 < s41.1))
                  (cond (decide (s41.1 < (IntKind.wrap .i64 (ishr .u64 (IntKind.wrap .u64 (w64 (x1 + x3))) 1))))
                    (Option.bind (self x0 x1 s41.1 (IntKind.wrap .i64 (ishr .u64 (IntKind.wrap .u64 (w64 (x1 + x3))) 1)) x4) fun r51 =>
                    cond (Nat.beq (List.length r51.1) (List.length x0))
                      (cond (decide ((IntKind.wrap .i64 (ishr .u64 (IntKind.wrap .u64 (w64 (x1 + x3))) 1)) < (w64 ((w64 ((IntKind.wrap .i64 (ishr .u64 (IntKind.wrap .u64 (w64 (x1 + x3))) 1)) + x2)) - s41.1))))
                        (cond (decide ((w64 ((w64 ((IntKind.wrap .i64 (ishr .u64 (IntKind.wrap .u64 (w64 (x1 + x3))) 1)) + x2)) - s41.1)) < x3))
                          (Option.bind (self r51.1 (IntKind.wrap .i64 (ishr .u64 (IntKind.wrap .u64 (w64 (x1 + x3))) 1)) (w64 ((w64 ((IntKind.wrap .i64 (ishr .u64 (IntKind.wrap .u64 (w64 (x1 + x3))) 1)) + x2)) - s41.1)) x3 x4) fun r52 =>
                          cond (Nat.beq (List.length r52.1) (List.length r51.1))
                            (some (r52.1, ())) none)
                          (some (r51.1, ())))
                        (some (r51.1, ()))) none)
                    (cond (decide ((IntKind.wrap .i64 (ishr .u64 (IntKind.wrap .u64 (w64 (x1 + x3))) 1)) < (w64 ((w64 ((IntKind.wrap .i64 (ishr .u64 (IntKind.wrap .u64 (w64 (x1 + x3))) 1)) + x2)) - s41.1))))
                      (cond (decide ((w64 ((w64 ((IntKind.wrap .i64 (ishr .u64 (IntKind.wrap .u64 (w64 (x1 + x3))) 1)) + x2)) - s41.1)) < x3))
                        (Option.bind (self x0 (IntKind.wrap .i64 (ishr .u64 (IntKind.wrap .u64 (w64 (x1 + x3))) 1)) (w64 ((w64 ((IntKind.wrap .i64 (ishr .u64 (IntKind.wrap .u64 (w64 (x1 + x3))) 1)) + x2)) - s41.1)) x3 x4) fun r53 =>
                        cond (Nat.beq (List.length r53.1) (List.length x0))
                          (some (r53.1, ())) none)
                        (some (x0, ())))
                      (some (x0, ()))))
                  (cond (decide ((IntKind.wrap .i64 (ishr .u64 (IntKind.wrap .u64 (w64 (x1 + x3))) 1)) < (w64 ((w64 ((IntKind.wrap .i64 (ishr .u64 (IntKind.wrap .u64 (w64 (x1 + x3))) 1)) + x2)) - s41.1))))
                    (cond (decide ((w64 ((w64 ((IntKind.wrap .i64 (ishr .u64 (IntKind.wrap .u64 (w64 (x1 + x3))) 1)) + x2)) - s41.1)) < x3))
                      (Option.bind (self x0 (IntKind.wrap .i64 (ishr .u64 (IntKind.wrap .u64 (w64 (x1 + x3))) 1)) (w64 ((w64 ((IntKind.wrap .i64 (ishr .u64 (IntKind.wrap .u64 (w64 (x1 + x3))) 1)) + x2)) - s41.1)) x3 x4) fun r54 =>
                      cond (Nat.beq (List.length r54.1) (List.length x0))
                        (some (r54.1, ())) none)
                      (some (x0, ())))
                    (some (x0, ())))))
              (cond (decide (x1 < s41.1))
                (cond (decide (s41.1 < (IntKind.wrap .i64 (ishr .u64 (IntKind.wrap .u64 (w64 (x1 + x3))) 1))))
                  (Option.bind (self x0 x1 s41.1 (IntKind.wrap .i64 (ishr .u64 (IntKind.wrap .u64 (w64 (x1 + x3))) 1)) x4) fun r55 =>
                  cond (Nat.beq (List.length r55.1) (List.length x0))
                    (cond (decide ((IntKind.wrap .i64 (ishr .u64 (IntKind.wrap .u64 (w64 (x1 + x3))) 1)) < (w64 ((w64 ((IntKind.wrap .i64 (ishr .u64 (IntKind.wrap .u64 (w64 (x1 + x3))) 1)) + x2)) - s41.1))))
                      (cond (decide ((w64 ((w64 ((IntKind.wrap .i64 (ishr .u64 (IntKind.wrap .u64 (w64 (x1 + x3))) 1)) + x2)) - s41.1)) < x3))
                        (Option.bind (self r55.1 (IntKind.wrap .i64 (ishr .u64 (IntKind.wrap .u64 (w64 (x1 + x3))) 1)) (w64 ((w64 ((IntKind.wrap .i64 (ishr .u64 (IntKind.wrap .u64 (w64 (x1 + x3))) 1)) + x2)) - s41.1)) x3 x4) fun r56 =>
                        cond (Nat.beq (List.length r56.1) (List.length r55.1))
                          (some (r56.1, ())) none)
                        (some (r55.1, ())))
                      (some (r55.1, ()))) none)
                  (cond (decide ((IntKind.wrap .i64 (ishr .u64 (IntKind.wrap .u64 (w64 (x1 + x3))) 1)) < (w64 ((w64 ((IntKind.wrap .i64 (ishr .u64 (IntKind.wrap .u64 (w64 (x1 + x3))) 1)) + x2)) - s41.1))))
                    (cond (decide ((w64 ((w64 ((IntKind.wrap .i64 (ishr .u64 (IntKind.wrap .u64 (w64 (x1 + x3))) 1)) + x2)) - s41.1)) < x3))
                      (Option.bind (self x0 (IntKind.wrap .i64 (ishr .u64 (IntKind.wrap .u64 (w64 (x1 + x3))) 1)) (w64 ((w64 ((IntKind.wrap .i64 (ishr .u64 (IntKind.wrap .u64 (w64 (x1 + x3))) 1)) + x2)) - s41.1)) x3 x4) fun r57 =>
                      cond (Nat.beq (List.length r57.1) (List.length x0))
                        (some (r57.1, ())) none)
                      (some (x0, ())))
                    (some (x0, ()))))
                (cond (decide ((IntKind.wrap .i64 (ishr .u64 (IntKind.wrap .u64 (w64 (x1 + x3))) 1)) < (w64 ((w64 ((IntKind.wrap .i64 (ishr .u64 (IntKind.wrap .u64 (w64 (x1 + x3))) 1)) + x2)) - s41.1))))
                  (cond (decide ((w64 ((w64 ((IntKind.wrap .i64 (ishr .u64 (IntKind.wrap .u64 (w64 (x1 + x3))) 1)) + x2)) - s41.1)) < x3))
                    (Option.bind (self x0 (IntKind.wrap .i64 (ishr .u64 (IntKind.wrap .u64 (w64 (x1 + x3))) 1)) (w64 ((w64 ((IntKind.wrap .i64 (ishr .u64 (IntKind.wrap .u64 (w64 (x1 + x3))) 1)) + x2)) - s41.1)) x3 x4) fun r58 =>
                    cond (Nat.beq (List.length r58.1) (List.length x0))
                      (some (r58.1, ())) none)
                    (some (x0, ())))
                  (some (x0, ())))))) N (x1, x2, ()))))
def slices_symMergeCmpFunc_int64_impl_sortedBy_1_1_r (N : Nat) : Nat → List (Int) → Int → Int → Int → (List Int) × Int × Int → Option (List (Int) × (Unit))
  | 0 => fun _ _ _ _ _ => none
  | F + 1 => slices_symMergeCmpFunc_int64_impl_sortedBy_1_1_step N (slices_symMergeCmpFunc_int64_impl_sortedBy_1_1_r N F)
def slices_symMergeCmpFunc_int64_impl_sortedBy_1_1 (N : Nat) (x0 : List Int) (x1 : Int) (x2 : Int) (x3 : Int) (x4 : (List Int) × Int × Int) : Option (List (Int) × (Unit)) := slices_symMergeCmpFunc_int64_impl_sortedBy_1_1_r N N x0 x1 x2 x3 x4
def slices_symMergeCmpFunc_int64_impl_sortedBy_1_1_ef (N F : Nat) : EntM := { io := (.int .i64), ins := [(.int .i64), (.int .i64), (.int .i64), (.clo 120 (.bx (.clo 72 (.bx (.pair (.sl (.int .i64)) (.pair (.int .i64) (.int .i64)))))))], outs := [], F := fun xs x => slices_symMergeCmpFunc_int64_impl_sortedBy_1_1_r N F xs x.1 x.2.1 x.2.2.1 x.2.2.2.1 }
def slices_symMergeCmpFunc_int64_impl_sortedBy_1_1_e (N : Nat) : EntM := slices_symMergeCmpFunc_int64_impl_sortedBy_1_1_ef N N
def slices_symMergeCmpFunc_int64_impl_sortedBy_1_1_T (N F : Nat) : Nat → List EntX
  | 120 => [.pl (impl_sortedBy_1_c0_1_e N)]
  | 142 => [.mu (slices_symMergeCmpFunc_int64_impl_sortedBy_1_1_ef N F)]
  | 143 => [.mu (slices_rotateCmpFunc_int64_impl_sortedBy_1_1_e N)]
  | _ => []
def slices_symMergeCmpFunc_int64_impl_sortedBy_1_1_L : Nat → List (Nat × TK)
  | 3 => [(10, .v (.int .i64)), (11, .v (.int .i64))]
  | 9 => [(0, .own (.int .i64)), (13, .v (.int .i64))]
  | 15 => [(14, .v (.int .i64)), (15, .v (.int .i64))]
  | 21 => [(0, .own (.int .i64)), (17, .v (.int .i64))]
  | 33 => [(20, .v (.int .i64)), (21, .v (.int .i64))]
  | _ => []
theorem slices_symMergeCmpFunc_int64_impl_sortedBy_1_1_eq (N F : Nat) : runM N tt (slices_symMergeCmpFunc_int64_impl_sortedBy_1_1_T N F) slices_symMergeCmpFunc_int64_impl_sortedBy_1_1_L (.int .i64) [(.int .i64), (.int .i64), (.int .i64), (.clo 120 (.bx (.clo 72 (.bx (.pair (.sl (.int .i64)) (.pair (.int .i64) (.int .i64)))))))] [] (bodyOf Try.f142) Try.f142.ntmps [] = (fun xs x => slices_symMergeCmpFunc_int64_impl_sortedBy_1_1_step N (slices_symMergeCmpFunc_int64_impl_sortedBy_1_1_r N F) xs x.1 x.2.1 x.2.2.1 x.2.2.2.1) := by
  funext xs x
  kernel_rfl
theorem slices_symMergeCmpFunc_int64_impl_sortedBy_1_1_soundf (N F : Nat) : SoundM Try.prog 142 (slices_symMergeCmpFunc_int64_impl_sortedBy_1_1_ef N F) := by
  induction F with
  | zero =>
    intro p w v ob vals xs x z _ _ _ _ _ hF
    exact absurd (show none = some _ from hF) (by simp)
  | succ F ih =>
    have h := runM_sound (f := 142) (code := bodyOf Try.f142) (N := N) (T := (slices_symMergeCmpFunc_int64_impl_sortedBy_1_1_T N F)) (L := slices_symMergeCmpFunc_int64_impl_sortedBy_1_1_L) (io := (.int .i64)) (ins := [(.int .i64), (.int .i64), (.int .i64), (.clo 120 (.bx (.clo 72 (.bx (.pair (.sl (.int .i64)) (.pair (.int .i64) (.int .i64)))))))]) (outs := []) (res := []) mixed tt_ok ?_ Try.func142 (by kernel_rfl) rfl (by kernel_rfl) (by kernel_rfl) (by decide +kernel)
    · rw [slices_symMergeCmpFunc_int64_impl_sortedBy_1_1_eq] at h
      exact h
    · intro f e he
      unfold slices_symMergeCmpFunc_int64_impl_sortedBy_1_1_T at he
      split at he
      · rw [List.mem_singleton.1 he]; exact impl_sortedBy_1_c0_1_sound N
      · rw [List.mem_singleton.1 he]; exact ih
      · rw [List.mem_singleton.1 he]; exact slices_rotateCmpFunc_int64_impl_sortedBy_1_1_sound N
      · cases he
theorem slices_symMergeCmpFunc_int64_impl_sortedBy_1_1_sound (N : Nat) : SoundM Try.prog 142 (slices_symMergeCmpFunc_int64_impl_sortedBy_1_1_e N) := slices_symMergeCmpFunc_int64_impl_sortedBy_1_1_soundf N N

/- slices.stableCmpFunc[int64] -/
def slices_stableCmpFunc_int64_impl_sortedBy_1_1 (N : Nat) (x0 : List Int) (x1 : Int) (x2 : (List Int) × Int × Int) : Option (List (Int) × (Unit)) :=
  loopN (fun (s1 : List (Int) × Int × Int × Unit) next2 =>
    cond (decide (s1.2.2.1 ≤ x1))
      (Option.bind (slices_insertionSortCmpFunc_int64_impl_sortedBy_1_1 N s1.1 s1.2.1 s1.2.2.1 x2) fun r3 =>
      cond (Nat.beq (List.length r3.1) (List.length s1.1))
        (next2 (r3.1, s1.2.2.1, (w64 (s1.2.2.1 + 20)), ())) none)
      (Option.bind (slices_insertionSortCmpFunc_int64_impl_sortedBy_1_1 N s1.1 s1.2.1 x1 x2) fun r4 =>
      cond (Nat.beq (List.length r4.1) (List.length s1.1))
        (loopN (fun (s5 : List (Int) × Int × Unit) next6 =>
          cond (decide (s5.2.1 < x1))
            (loopN (fun (s7 : List (Int) × Int × Int × Unit) next8 =>
              cond (decide (s7.2.2.1 ≤ x1))
                (Option.bind (slices_symMergeCmpFunc_int64_impl_sortedBy_1_1 N s7.1 s7.2.1 (w64 (s7.2.1 + s5.2.1)) s7.2.2.1 x2) fun r9 =>
                cond (Nat.beq (List.length r9.1) (List.length s7.1))
                  (next8 (r9.1, s7.2.2.1, (w64 (s7.2.2.1 + (w64 (2 * s5.2.1)))), ())) none)
                (cond (decide ((w64 (s7.2.1 + s5.2.1)) < x1))
                  (Option.bind (slices_symMergeCmpFunc_int64_impl_sortedBy_1_1 N s7.1 s7.2.1 (w64 (s7.2.1 + s5.2.1)) x1 x2) fun r10 =>
                  cond (Nat.beq (List.length r10.1) (List.length s7.1))
                    (next6 (r10.1, (w64 (s5.2.1 * 2)), ())) none)
                  (next6 (s7.1, (w64 (s5.2.1 * 2)), ())))) N (s5.1, 0, (w64 (2 * s5.2.1)), ()))
            (some (s5.1, ()))) N (r4.1, 20, ())) none)) N (x0, 0, 20, ())
def slices_stableCmpFunc_int64_impl_sortedBy_1_1_e (N : Nat) : EntM := { io := (.int .i64), ins := [(.int .i64), (.clo 120 (.bx (.clo 72 (.bx (.pair (.sl (.int .i64)) (.pair (.int .i64) (.int .i64)))))))], outs := [], F := fun xs x => slices_stableCmpFunc_int64_impl_sortedBy_1_1 N xs x.1 x.2.1 }
def slices_stableCmpFunc_int64_impl_sortedBy_1_1_T (N : Nat) : Nat → List EntX
  | 141 => [.mu (slices_insertionSortCmpFunc_int64_impl_sortedBy_1_1_e N)]
  | 142 => [.mu (slices_symMergeCmpFunc_int64_impl_sortedBy_1_1_e N)]
  | _ => []
def slices_stableCmpFunc_int64_impl_sortedBy_1_1_L : Nat → List (Nat × TK)
  | 2 => [(0, .own (.int .i64)), (7, .v (.int .i64)), (8, .v (.int .i64))]
  | 7 => [(0, .own (.int .i64)), (6, .v (.int .i64))]
  | 9 => [(0, .own (.int .i64)), (7, .v (.int .i64)), (8, .v (.int .i64))]
  | _ => []
theorem slices_stableCmpFunc_int64_impl_sortedBy_1_1_eq (N : Nat) : runM N tt (slices_stableCmpFunc_int64_impl_sortedBy_1_1_T N) slices_stableCmpFunc_int64_impl_sortedBy_1_1_L (.int .i64) [(.int .i64), (.clo 120 (.bx (.clo 72 (.bx (.pair (.sl (.int .i64)) (.pair (.int .i64) (.int .i64)))))))] [] (bodyOf Try.f135) Try.f135.ntmps [] = (slices_stableCmpFunc_int64_impl_sortedBy_1_1_e N).F := by
  funext xs x
  kernel_rfl
theorem slices_stableCmpFunc_int64_impl_sortedBy_1_1_sound (N : Nat) : SoundM Try.prog 135 (slices_stableCmpFunc_int64_impl_sortedBy_1_1_e N) := by
  have h := runM_sound (f := 135) (code := bodyOf Try.f135) (N := N) (T := (slices_stableCmpFunc_int64_impl_sortedBy_1_1_T N)) (L := slices_stableCmpFunc_int64_impl_sortedBy_1_1_L) (io := (.int .i64)) (ins := [(.int .i64), (.clo 120 (.bx (.clo 72 (.bx (.pair (.sl (.int .i64)) (.pair (.int .i64) (.int .i64)))))))]) (outs := []) (res := []) mixed tt_ok ?_ Try.func135 (by kernel_rfl) rfl (by kernel_rfl) (by kernel_rfl) (by decide +kernel)
  · rw [slices_stableCmpFunc_int64_impl_sortedBy_1_1_eq] at h
    exact h
  · intro f e he
    unfold slices_stableCmpFunc_int64_impl_sortedBy_1_1_T at he
    split at he
    · rw [List.mem_singleton.1 he]; exact slices_insertionSortCmpFunc_int64_impl_sortedBy_1_1_sound N
    · rw [List.mem_singleton.1 he]; exact slices_symMergeCmpFunc_int64_impl_sortedBy_1_1_sound N
    · cases he

/- slices.SortStableFunc[[]int64,int64] -/
def slices_SortStableFunc_int64_int64_impl_sortedBy_1_1 (N : Nat) (x0 : List Int) (x1 : (List Int) × Int × Int) : Option (List (Int) × (Unit)) :=
  Option.bind (slices_stableCmpFunc_int64_impl_sortedBy_1_1 N x0 (List.length x0 : Int) x1) fun r1 =>
  cond (Nat.beq (List.length r1.1) (List.length x0))
    (some (r1.1, ())) none
def slices_SortStableFunc_int64_int64_impl_sortedBy_1_1_e (N : Nat) : EntM := { io := (.int .i64), ins := [(.clo 120 (.bx (.clo 72 (.bx (.pair (.sl (.int .i64)) (.pair (.int .i64) (.int .i64)))))))], outs := [], F := fun xs x => slices_SortStableFunc_int64_int64_impl_sortedBy_1_1 N xs x.1 }
def slices_SortStableFunc_int64_int64_impl_sortedBy_1_1_T (N : Nat) : Nat → List EntX
  | 135 => [.mu (slices_stableCmpFunc_int64_impl_sortedBy_1_1_e N)]
  | _ => []
def slices_SortStableFunc_int64_int64_impl_sortedBy_1_1_L : Nat → List (Nat × TK) := fun _ => []
theorem slices_SortStableFunc_int64_int64_impl_sortedBy_1_1_eq (N : Nat) : runM N tt (slices_SortStableFunc_int64_int64_impl_sortedBy_1_1_T N) slices_SortStableFunc_int64_int64_impl_sortedBy_1_1_L (.int .i64) [(.clo 120 (.bx (.clo 72 (.bx (.pair (.sl (.int .i64)) (.pair (.int .i64) (.int .i64)))))))] [] (bodyOf Try.f119) Try.f119.ntmps [] = (slices_SortStableFunc_int64_int64_impl_sortedBy_1_1_e N).F := by
  funext xs x
  kernel_rfl
theorem slices_SortStableFunc_int64_int64_impl_sortedBy_1_1_sound (N : Nat) : SoundM Try.prog 119 (slices_SortStableFunc_int64_int64_impl_sortedBy_1_1_e N) := by
  have h := runM_sound (f := 119) (code := bodyOf Try.f119) (N := N) (T := (slices_SortStableFunc_int64_int64_impl_sortedBy_1_1_T N)) (L := slices_SortStableFunc_int64_int64_impl_sortedBy_1_1_L) (io := (.int .i64)) (ins := [(.clo 120 (.bx (.clo 72 (.bx (.pair (.sl (.int .i64)) (.pair (.int .i64) (.int .i64)))))))]) (outs := []) (res := []) mixed tt_ok ?_ Try.func119 (by kernel_rfl) rfl (by kernel_rfl) (by kernel_rfl) (by decide +kernel)
  · rw [slices_SortStableFunc_int64_int64_impl_sortedBy_1_1_eq] at h
    exact h
  · intro f e he
    unfold slices_SortStableFunc_int64_int64_impl_sortedBy_1_1_T at he
    split at he
    · rw [List.mem_singleton.1 he]; exact slices_stableCmpFunc_int64_impl_sortedBy_1_1_sound N
    · cases he

/- impl.sortedBy -/
def impl_sortedBy_impl_TwoOrder_2 (N : Nat) (x0 : Int) (x1 : (List Int) × Int × Int) : Option (List (Int) × Unit) :=
  Option.bind (impl_counting N x0) fun r1 =>
  Option.bind (slices_SortStableFunc_int64_int64_impl_sortedBy_1_1 N r1.1 x1) fun r2 =>
  cond (Nat.beq (List.length r2.1) (List.length r1.1))
    (some (r2.1, ())) none
def impl_sortedBy_impl_TwoOrder_2_e (N : Nat) : Ent := { ins := [(.int .i64), (.clo 72 (.bx (.pair (.sl (.int .i64)) (.pair (.int .i64) (.int .i64)))))], outs := [.own (.int .i64)], F := fun x => impl_sortedBy_impl_TwoOrder_2 N x.1 x.2.1 }
def impl_sortedBy_impl_TwoOrder_2_T (N : Nat) : Nat → List EntX
  | 118 => [.pl (impl_counting_e N)]
  | 119 => [.mu (slices_SortStableFunc_int64_int64_impl_sortedBy_1_1_e N)]
  | _ => []
def impl_sortedBy_impl_TwoOrder_2_L : Nat → List (Nat × TK) := fun _ => []
theorem impl_sortedBy_impl_TwoOrder_2_eq (N : Nat) : runF N tt (impl_sortedBy_impl_TwoOrder_2_T N) impl_sortedBy_impl_TwoOrder_2_L [(.int .i64), (.clo 72 (.bx (.pair (.sl (.int .i64)) (.pair (.int .i64) (.int .i64)))))] [.own (.int .i64)] (bodyOf Try.f69) Try.f69.ntmps [4] = (impl_sortedBy_impl_TwoOrder_2_e N).F := by
  funext x
  kernel_rfl
theorem impl_sortedBy_impl_TwoOrder_2_sound (N : Nat) : SoundC Try.prog 69 (impl_sortedBy_impl_TwoOrder_2_e N) := by
  have h := runF_sound (f := 69) (code := bodyOf Try.f69) (N := N) (T := (impl_sortedBy_impl_TwoOrder_2_T N)) (L := impl_sortedBy_impl_TwoOrder_2_L) (ins := [(.int .i64), (.clo 72 (.bx (.pair (.sl (.int .i64)) (.pair (.int .i64) (.int .i64)))))]) (outs := [.own (.int .i64)]) (res := [4]) mixed tt_ok ?_ Try.func69 (by kernel_rfl) rfl (by kernel_rfl) (by kernel_rfl) (by decide +kernel)
  · rw [impl_sortedBy_impl_TwoOrder_2_eq] at h
    exact h
  · intro f e he
    unfold impl_sortedBy_impl_TwoOrder_2_T at he
    split at he
    · rw [List.mem_singleton.1 he]; exact impl_counting_sound N
    · rw [List.mem_singleton.1 he]; exact slices_SortStableFunc_int64_int64_impl_sortedBy_1_1_sound N
    · cases he

/- impl.TwoOrder -/
def impl_TwoOrder (N : Nat) (x0 : List Int) : Option (List (Int) × Bool × Unit) :=
  Option.bind (impl_asShop N x0 2) fun r1 =>
  cond (!r1.2.1)
    (some ([], false, ()))
    (Option.bind (impl_sortedBy_impl_TwoOrder_1 N r1.1.2.1 (r1.1.1, (r1.1.2.1, r1.1.2.2))) fun r2 =>
    loopN (fun (s3 : List (Int) × Int × Unit) next4 =>
      cond (decide (s3.2.1 < (List.length r2.1 : Int)))
        (cond (inB s3.2.1 (List.length r2.1))
          (Option.bind (r2.1[(Int.toNat s3.2.1)]?) fun v5 =>
          Option.bind (impl_shop_at N (r1.1.1, (r1.1.2.1, r1.1.2.2)) v5 0) fun r6 =>
          Option.bind (impl_shop_at N (r1.1.1, (r1.1.2.1, r1.1.2.2)) v5 1) fun r7 =>
          cond (decide (r6.1 ≤ r7.1))
            (cond (appOk (List.length s3.1) (List.length ([v5] : List Int)))
              (let xs8 := (s3.1 ++ ([v5] : List Int))
              next4 (xs8, (w64 (s3.2.1 + 1)), ())) none)
            (next4 (s3.1, (w64 (s3.2.1 + 1)), ()))) none)
        (Option.bind (impl_sortedBy_impl_TwoOrder_2 N r1.1.2.1 (r1.1.1, (r1.1.2.1, r1.1.2.2))) fun r9 =>
        loopN (fun (s10 : List (Int) × Int × Unit) next11 =>
          cond (decide (s10.2.1 < (List.length r9.1 : Int)))
            (cond (inB s10.2.1 (List.length r9.1))
              (Option.bind (r9.1[(Int.toNat s10.2.1)]?) fun v12 =>
              Option.bind (impl_shop_at N (r1.1.1, (r1.1.2.1, r1.1.2.2)) v12 0) fun r13 =>
              Option.bind (impl_shop_at N (r1.1.1, (r1.1.2.1, r1.1.2.2)) v12 1) fun r14 =>
              cond (decide (r13.1 > r14.1))
                (cond (appOk (List.length s10.1) (List.length ([v12] : List Int)))
                  (let xs15 := (s10.1 ++ ([v12] : List Int))
                  next11 (xs15, (w64 (s10.2.1 + 1)), ())) none)
                (next11 (s10.1, (w64 (s10.2.1 + 1)), ()))) none)
            (cond (appOk (List.length s3.1) (List.length s10.1))
              (let xs16 := (s3.1 ++ s10.1)
              some (xs16, true, ())) none)) N (([] : List Int), 0, ()))) N (([] : List Int), 0, ()))
def impl_TwoOrder_e (N : Nat) : Ent := { ins := [(.sl (.int .i64))], outs := [.own (.int .i64), .val .bool], F := fun x => impl_TwoOrder N x.1 }
def impl_TwoOrder_T (N : Nat) : Nat → List EntX
  | 57 => [.pl (impl_asShop_e N)]
  | 69 => [.pl (impl_sortedBy_impl_TwoOrder_1_e N), .pl (impl_sortedBy_impl_TwoOrder_2_e N)]
  | 71 => [.pl (impl_shop_at_e N)]
  | _ => []
def impl_TwoOrder_L : Nat → List (Nat × TK)
  | 6 => [(6, .own (.int .i64)), (26, .v (.int .i64))]
  | 12 => [(7, .own (.int .i64)), (47, .v (.int .i64))]
  | _ => []
theorem impl_TwoOrder_eq (N : Nat) : runF N tt (impl_TwoOrder_T N) impl_TwoOrder_L [(.sl (.int .i64))] [.own (.int .i64), .val .bool] (bodyOf Try.f28) Try.f28.ntmps [2, 3] = (impl_TwoOrder_e N).F := by
  funext x
  kernel_rfl
theorem impl_TwoOrder_sound (N : Nat) : SoundC Try.prog 28 (impl_TwoOrder_e N) := by
  have h := runF_sound (f := 28) (code := bodyOf Try.f28) (N := N) (T := (impl_TwoOrder_T N)) (L := impl_TwoOrder_L) (ins := [(.sl (.int .i64))]) (outs := [.own (.int .i64), .val .bool]) (res := [2, 3]) mixed tt_ok ?_ Try.func28 (by kernel_rfl) rfl (by kernel_rfl) (by kernel_rfl) (by decide +kernel)
  · rw [impl_TwoOrder_eq] at h
    exact h
  · intro f e he
    unfold impl_TwoOrder_T at he
    split at he
    · rw [List.mem_singleton.1 he]; exact impl_asShop_sound N
    · simp only [List.mem_cons, List.not_mem_nil, or_false] at he
      rcases he with rfl | rfl
      · exact impl_sortedBy_impl_TwoOrder_1_sound N
      · exact impl_sortedBy_impl_TwoOrder_2_sound N
    · rw [List.mem_singleton.1 he]; exact impl_shop_at_sound N
    · cases he

/- laws.FnExactTwoOrder -/
def laws_FnExactTwoOrder (N : Nat) (x0 : List Int) : Option (Bool × Unit) :=
  cond (decide ((List.length x0 : Int) > 1048576))
    (some (true, ()))
    (Option.bind (laws_toInt64S N x0) fun r1 =>
    Option.bind (spec_TwoOrder N r1.1) fun r2 =>
    Option.bind (laws_toInt64S N x0) fun r3 =>
    Option.bind (impl_TwoOrder N r3.1) fun r4 =>
    Option.bind (laws_eqInt64S N r4.1 r2.1) fun r5 =>
    cond (!r5.1)
      (some (false, ()))
      (cond (!(r4.2.1 == r2.2.1))
        (some (false, ()))
        (Option.bind (laws_toInt64S N x0) fun r6 =>
        Option.bind (laws_eqInt64S N r3.1 r6.1) fun r7 =>
        cond (!r7.1)
          (some (false, ()))
          (Option.bind (laws_markInt64S N r3.1 1) fun r8 =>
          cond (Nat.beq (List.length r8.1) (List.length r3.1))
            (cond (decide (r8.2.1 < 0))
              (some (false, ()))
              (Option.bind (laws_eqInt64S N r4.1 r2.1) fun r9 =>
              cond (!r9.1)
                (some (false, ()))
                (cond (!(r4.2.1 == r2.2.1))
                  (some (false, ()))
                  (Option.bind (laws_markInt64S N r4.1 1) fun r10 =>
                  cond (Nat.beq (List.length r10.1) (List.length r4.1))
                    (Option.bind (laws_heldInt64S N r10.1 1) fun r11 =>
                    cond (decide (r11.1 < 0))
                      (some (false, ()))
                      (cond (r11.1 != r10.2.1)
                        (some (false, ()))
                        (Option.bind (laws_toInt64S N x0) fun r12 =>
                        Option.bind (impl_TwoOrder N r12.1) fun r13 =>
                        Option.bind (laws_eqInt64S N r13.1 r2.1) fun r14 =>
                        cond (!r14.1)
                          (some (false, ()))
                          (cond (!(r13.2.1 == r2.2.1))
                            (some (false, ()))
                            (Option.bind (laws_heldInt64S N r10.1 1) fun r15 =>
                            cond (decide (r15.1 < 0))
                              (some (false, ()))
                              (cond (r15.1 != r10.2.1)
                                (some (false, ()))
                                (some (true, ())))))))) none)))) none))))
def laws_FnExactTwoOrder_e (N : Nat) : Ent := { ins := [(.sl (.int .i64))], outs := [.val .bool], F := fun x => laws_FnExactTwoOrder N x.1 }
def laws_FnExactTwoOrder_T (N : Nat) : Nat → List EntX
  | 16 => [.pl (laws_toInt64S_e N)]
  | 18 => [.pl (laws_eqInt64S_e N)]
  | 21 => [.mu (laws_markInt64S_e N)]
  | 22 => [.pl (laws_heldInt64S_e N)]
  | 27 => [.pl (spec_TwoOrder_e N)]
  | 28 => [.pl (impl_TwoOrder_e N)]
  | _ => []
def laws_FnExactTwoOrder_L : Nat → List (Nat × TK) := fun _ => []
theorem laws_FnExactTwoOrder_eq (N : Nat) : runF N tt (laws_FnExactTwoOrder_T N) laws_FnExactTwoOrder_L [(.sl (.int .i64))] [.val .bool] (bodyOf Try.f7) Try.f7.ntmps [2] = (laws_FnExactTwoOrder_e N).F := by
  funext x
  kernel_rfl
theorem laws_FnExactTwoOrder_sound (N : Nat) : SoundC Try.prog 7 (laws_FnExactTwoOrder_e N) := by
  have h := runF_sound (f := 7) (code := bodyOf Try.f7) (N := N) (T := (laws_FnExactTwoOrder_T N)) (L := laws_FnExactTwoOrder_L) (ins := [(.sl (.int .i64))]) (outs := [.val .bool]) (res := [2]) mixed tt_ok ?_ Try.func7 (by kernel_rfl) rfl (by kernel_rfl) (by kernel_rfl) (by decide +kernel)
  · rw [laws_FnExactTwoOrder_eq] at h
    exact h
  · intro f e he
    unfold laws_FnExactTwoOrder_T at he
    split at he
    · rw [List.mem_singleton.1 he]; exact laws_toInt64S_sound N
    · rw [List.mem_singleton.1 he]; exact laws_eqInt64S_sound N
    · rw [List.mem_singleton.1 he]; exact laws_markInt64S_sound N
    · rw [List.mem_singleton.1 he]; exact laws_heldInt64S_sound N
    · rw [List.mem_singleton.1 he]; exact spec_TwoOrder_sound N
    · rw [List.mem_singleton.1 he]; exact impl_TwoOrder_sound N
    · cases he

end Go.Proofs.Ytblmginpolckoaa
