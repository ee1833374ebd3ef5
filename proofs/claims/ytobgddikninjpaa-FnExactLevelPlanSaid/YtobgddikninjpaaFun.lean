/-
  The plain functions of this seat, printed by a program, each equal to the evaluator's run, with its contract. No condition.
-/
import Derived.Test.YtobgddikninjpaaFwV
import Derived.Test.YtobgddikninjpaaChecked
import Derived.Test.YtobgddikninjpaaMark1
import Derived.Test.YtobgddikninjpaaMark2
namespace Go.Proofs.Ytobgddikninjpaa
open Go Go.Proofs.Ytobgddikninjpaa.Fw
set_option maxRecDepth 100000
set_option linter.unusedVariables false

theorem mixed : Try.prog.follows .mixedOrders = true := Try.checked.mixed
def tt : Nat → TD
  | 2 => tdInt .i64
  | 3 => tdInt .i64
  | 4 => tdBool
  | 22 => tdSl (.pair (.int .i64) (.pair (.int .i64) (.pair (.sl (.int .i64)) (.sl (.int .i64))))) 64
  | 23 => tdSl (.int .i64) 8
  | 27 => tdSl (.pair (.int .i64) (.pair (.int .i64) (.pair (.sl (.int .i64)) (.sl (.int .i64))))) 64
  | 52 => tdSt 4 [(0, 1, false), (1, 1, false), (2, 1, false), (3, 1, false)] [.g (.int .i64) (0 : Int), .g (.int .i64) (0 : Int), .nil, .nil]
  | 55 => tdSt 4 [(0, 1, false), (1, 1, false), (2, 1, false), (3, 1, false)] [.g (.int .i64) (0 : Int), .g (.int .i64) (0 : Int), .nil, .nil]
  | _ => tdNone
theorem tt_2 : TDok Try.prog 2 (tdInt .i64) := tdok_int (b := 8) (by kernel_rfl) (by kernel_rfl)
theorem tt_3 : TDok Try.prog 3 (tdInt .i64) := tdok_int (b := 8) (by kernel_rfl) (by kernel_rfl)
theorem tt_4 : TDok Try.prog 4 (tdBool) := tdok_bool (b := 1) (by kernel_rfl) (by kernel_rfl)
theorem tt_22 : TDok Try.prog 22 (tdSl (.pair (.int .i64) (.pair (.int .i64) (.pair (.sl (.int .i64)) (.sl (.int .i64))))) 64) := tdok_sl (b := 24) (e := 52) (z := (.agg #[(.int .i64 0), (.int .i64 0), (.slice none 0 0), (.slice none 0 0)])) (by kernel_rfl) (by kernel_rfl) (by kernel_rfl) (by decide) (fun _ => by kernel_rfl)
theorem tt_23 : TDok Try.prog 23 (tdSl (.int .i64) 8) := tdok_sl (b := 24) (e := 2) (z := (.int .i64 0)) (by kernel_rfl) (by kernel_rfl) (by kernel_rfl) (by decide) (fun _ => by kernel_rfl)
theorem tt_27 : TDok Try.prog 27 (tdSl (.pair (.int .i64) (.pair (.int .i64) (.pair (.sl (.int .i64)) (.sl (.int .i64))))) 64) := tdok_sl (b := 24) (e := 55) (z := (.agg #[(.int .i64 0), (.int .i64 0), (.slice none 0 0), (.slice none 0 0)])) (by kernel_rfl) (by kernel_rfl) (by kernel_rfl) (by decide) (fun _ => by kernel_rfl)
theorem tt_52 : TDok Try.prog 52 (tdSt 4 [(0, 1, false), (1, 1, false), (2, 1, false), (3, 1, false)] [.g (.int .i64) (0 : Int), .g (.int .i64) (0 : Int), .nil, .nil]) := tdok_st (b := 64) (z := (.agg #[(.int .i64 0), (.int .i64 0), (.slice none 0 0), (.slice none 0 0)])) (by kernel_rfl) (by kernel_rfl) (by kernel_rfl) (by kernel_rfl) (by kernel_rfl)
theorem tt_55 : TDok Try.prog 55 (tdSt 4 [(0, 1, false), (1, 1, false), (2, 1, false), (3, 1, false)] [.g (.int .i64) (0 : Int), .g (.int .i64) (0 : Int), .nil, .nil]) := tdok_st (b := 64) (z := (.agg #[(.int .i64 0), (.int .i64 0), (.slice none 0 0), (.slice none 0 0)])) (by kernel_rfl) (by kernel_rfl) (by kernel_rfl) (by kernel_rfl) (by kernel_rfl)
theorem tt_ok (t : Nat) : TDok Try.prog t (tt t) := by
  unfold tt
  split
  · exact tt_2
  · exact tt_3
  · exact tt_4
  · exact tt_22
  · exact tt_23
  · exact tt_27
  · exact tt_52
  · exact tt_55
  · exact tdok_none

/- laws.szInt64S -/
def laws_szInt64S (_N : Nat) (x0 : List Int) (x1 : Int) : Option (Int × Unit) :=
  cond (decide ((w64 (x1 - (List.length x0 : Int))) < 0))
    (some ((-1), ()))
    (some ((w64 (x1 - (List.length x0 : Int))), ()))
def laws_szInt64S_e (N : Nat) : Ent := { ins := [(.sl (.int .i64)), (.int .i64)], outs := [.val (.int .i64)], F := fun x => laws_szInt64S N x.1 x.2.1 }
def laws_szInt64S_T (_ : Nat) : Nat → List EntX := fun _ => []
def laws_szInt64S_L : Nat → List (Nat × TK) := fun _ => []
theorem laws_szInt64S_eq (N : Nat) : runF N tt (laws_szInt64S_T N) laws_szInt64S_L [(.sl (.int .i64)), (.int .i64)] [.val (.int .i64)] (bodyOf Try.f85) Try.f85.ntmps [4] = (laws_szInt64S_e N).F := by
  funext x
  kernel_rfl
theorem laws_szInt64S_sound (N : Nat) : SoundC Try.prog 85 (laws_szInt64S_e N) := by
  have h := runF_sound (f := 85) (code := bodyOf Try.f85) (N := N) (T := laws_szInt64S_T N) (L := laws_szInt64S_L) (ins := [(.sl (.int .i64)), (.int .i64)]) (outs := [.val (.int .i64)]) (res := [4]) mixed tt_ok ?_ Try.func85 (by kernel_rfl) rfl (by kernel_rfl) (by kernel_rfl) (by decide +kernel)
  · rw [laws_szInt64S_eq] at h
    exact h
  · intro f e he
    cases he

/- laws.szTask -/
def laws_szTask (N : Nat) (x0 : Int × Int × (List Int) × List Int) (x1 : Int) : Option (Int × Unit) :=
  Option.bind (laws_szInt64S N x0.2.2.1 x1) fun r1 =>
  cond (decide (r1.1 < 0))
    (some ((-1), ()))
    (Option.bind (laws_szInt64S N x0.2.2.2 r1.1) fun r2 =>
    cond (decide (r2.1 < 0))
      (some ((-1), ()))
      (some (r2.1, ())))
def laws_szTask_e (N : Nat) : Ent := { ins := [(.pair (.int .i64) (.pair (.int .i64) (.pair (.sl (.int .i64)) (.sl (.int .i64))))), (.int .i64)], outs := [.val (.int .i64)], F := fun x => laws_szTask N x.1 x.2.1 }
def laws_szTask_T (N : Nat) : Nat → List EntX
  | 85 => [.pl (laws_szInt64S_e N)]
  | _ => []
def laws_szTask_L : Nat → List (Nat × TK) := fun _ => []
theorem laws_szTask_eq (N : Nat) : runF N tt (laws_szTask_T N) laws_szTask_L [(.pair (.int .i64) (.pair (.int .i64) (.pair (.sl (.int .i64)) (.sl (.int .i64))))), (.int .i64)] [.val (.int .i64)] (bodyOf Try.f47) Try.f47.ntmps [4] = (laws_szTask_e N).F := by
  funext x
  kernel_rfl
theorem laws_szTask_sound (N : Nat) : SoundC Try.prog 47 (laws_szTask_e N) := by
  have h := runF_sound (f := 47) (code := bodyOf Try.f47) (N := N) (T := laws_szTask_T N) (L := laws_szTask_L) (ins := [(.pair (.int .i64) (.pair (.int .i64) (.pair (.sl (.int .i64)) (.sl (.int .i64))))), (.int .i64)]) (outs := [.val (.int .i64)]) (res := [4]) mixed tt_ok ?_ Try.func47 (by kernel_rfl) rfl (by kernel_rfl) (by kernel_rfl) (by decide +kernel)
  · rw [laws_szTask_eq] at h
    exact h
  · intro f e he
    unfold laws_szTask_T at he
    split at he
    · rw [List.mem_singleton.1 he]; exact laws_szInt64S_sound N
    · cases he

/- laws.szTaskS -/
def laws_szTaskS (N : Nat) (x0 : List (Int × Int × (List Int) × List Int)) (x1 : Int) : Option (Int × Unit) :=
  cond (decide ((w64 (x1 - (List.length x0 : Int))) < 0))
    (some ((-1), ()))
    (loopN (fun (s1 : Int × Int × Unit) next2 =>
      cond (decide (s1.2.1 < (List.length x0 : Int)))
        (Option.bind (idx x0 s1.2.1) fun v3 =>
        Option.bind (laws_szTask N v3 s1.1) fun r4 =>
        cond (decide (r4.1 < 0))
          (some ((-1), ()))
          (next2 (r4.1, (w64 (s1.2.1 + 1)), ())))
        (some (s1.1, ()))) N ((w64 (x1 - (List.length x0 : Int))), 0, ()))
def laws_szTaskS_e (N : Nat) : Ent := { ins := [(.sl (.pair (.int .i64) (.pair (.int .i64) (.pair (.sl (.int .i64)) (.sl (.int .i64)))))), (.int .i64)], outs := [.val (.int .i64)], F := fun x => laws_szTaskS N x.1 x.2.1 }
def laws_szTaskS_T (N : Nat) : Nat → List EntX
  | 47 => [.pl (laws_szTask_e N)]
  | _ => []
def laws_szTaskS_L : Nat → List (Nat × TK)
  | 5 => [(1, .v (.int .i64)), (5, .v (.int .i64))]
  | _ => []
theorem laws_szTaskS_eq (N : Nat) : runF N tt (laws_szTaskS_T N) laws_szTaskS_L [(.sl (.pair (.int .i64) (.pair (.int .i64) (.pair (.sl (.int .i64)) (.sl (.int .i64)))))), (.int .i64)] [.val (.int .i64)] (bodyOf Try.f15) Try.f15.ntmps [4] = (laws_szTaskS_e N).F := by
  funext x
  kernel_rfl
theorem laws_szTaskS_sound (N : Nat) : SoundC Try.prog 15 (laws_szTaskS_e N) := by
  have h := runF_sound (f := 15) (code := bodyOf Try.f15) (N := N) (T := laws_szTaskS_T N) (L := laws_szTaskS_L) (ins := [(.sl (.pair (.int .i64) (.pair (.int .i64) (.pair (.sl (.int .i64)) (.sl (.int .i64)))))), (.int .i64)]) (outs := [.val (.int .i64)]) (res := [4]) mixed tt_ok ?_ Try.func15 (by kernel_rfl) rfl (by kernel_rfl) (by kernel_rfl) (by decide +kernel)
  · rw [laws_szTaskS_eq] at h
    exact h
  · intro f e he
    unfold laws_szTaskS_T at he
    split at he
    · rw [List.mem_singleton.1 he]; exact laws_szTask_sound N
    · cases he

/- laws.toInt64S -/
def laws_toInt64S (N : Nat) (x0 : List Int) : Option (List (Int) × Unit) :=
  cond (mkOk (List.length x0 : Int) (List.length x0 : Int))
    (let xs1 := (List.replicate (Int.toNat (List.length x0 : Int)) (0 : Int) : List (Int))
    loopN (fun (s2 : List (Int) × Int × Unit) next3 =>
      cond (decide (s2.2.1 < (List.length x0 : Int)))
        (Option.bind (idx x0 s2.2.1) fun v4 =>
        cond (inB s2.2.1 (List.length s2.1))
          (let xs5 := (List.set s2.1 (Int.toNat s2.2.1) v4)
          next3 (xs5, (w64 (s2.2.1 + 1)), ())) none)
        (some (s2.1, ()))) N (xs1, 0, ())) none
def laws_toInt64S_e (N : Nat) : Ent := { ins := [(.sl (.int .i64))], outs := [.own (.int .i64)], F := fun x => laws_toInt64S N x.1 }
def laws_toInt64S_T (_ : Nat) : Nat → List EntX := fun _ => []
def laws_toInt64S_L : Nat → List (Nat × TK)
  | 3 => [(3, .own (.int .i64)), (4, .v (.int .i64))]
  | _ => []
theorem laws_toInt64S_eq (N : Nat) : runF N tt (laws_toInt64S_T N) laws_toInt64S_L [(.sl (.int .i64))] [.own (.int .i64)] (bodyOf Try.f18) Try.f18.ntmps [2] = (laws_toInt64S_e N).F := by
  funext x
  kernel_rfl
theorem laws_toInt64S_sound (N : Nat) : SoundC Try.prog 18 (laws_toInt64S_e N) := by
  have h := runF_sound (f := 18) (code := bodyOf Try.f18) (N := N) (T := laws_toInt64S_T N) (L := laws_toInt64S_L) (ins := [(.sl (.int .i64))]) (outs := [.own (.int .i64)]) (res := [2]) mixed tt_ok ?_ Try.func18 (by kernel_rfl) rfl (by kernel_rfl) (by kernel_rfl) (by decide +kernel)
  · rw [laws_toInt64S_eq] at h
    exact h
  · intro f e he
    cases he

/- laws.toTask -/
def laws_toTask (N : Nat) (x0 : Int × Int × (List Int) × List Int) : Option ((Int × Int × (List Int) × List Int) × Unit) :=
  Option.bind (laws_toInt64S N x0.2.2.1) fun r1 =>
  Option.bind (laws_toInt64S N x0.2.2.2) fun r2 =>
  some ((x0.1, (x0.2.1, (r1.1, r2.1))), ())
def laws_toTask_e (N : Nat) : Ent := { ins := [(.pair (.int .i64) (.pair (.int .i64) (.pair (.sl (.int .i64)) (.sl (.int .i64)))))], outs := [.val (.nw (.pair (.int .i64) (.pair (.int .i64) (.pair (.sl (.int .i64)) (.sl (.int .i64))))))], F := fun x => laws_toTask N x.1 }
def laws_toTask_T (N : Nat) : Nat → List EntX
  | 18 => [.pl (laws_toInt64S_e N)]
  | _ => []
def laws_toTask_L : Nat → List (Nat × TK) := fun _ => []
theorem laws_toTask_eq (N : Nat) : runC N tt (laws_toTask_T N) laws_toTask_L [(.pair (.int .i64) (.pair (.int .i64) (.pair (.sl (.int .i64)) (.sl (.int .i64)))))] [.val (.nw (.pair (.int .i64) (.pair (.int .i64) (.pair (.sl (.int .i64)) (.sl (.int .i64))))))] (bodyOf Try.f52) Try.f52.ntmps [2] [(2, 55)] = (laws_toTask_e N).F := by
  funext x
  kernel_rfl
theorem laws_toTask_sound (N : Nat) : SoundC Try.prog 52 (laws_toTask_e N) := by
  have h := runC_sound (f := 52) (code := bodyOf Try.f52) (N := N) (T := laws_toTask_T N) (L := laws_toTask_L) (ins := [(.pair (.int .i64) (.pair (.int .i64) (.pair (.sl (.int .i64)) (.sl (.int .i64)))))]) (outs := [.val (.nw (.pair (.int .i64) (.pair (.int .i64) (.pair (.sl (.int .i64)) (.sl (.int .i64))))))]) (res := [2]) (rs := [.cell 2 55]) (cells := [(2, 55)]) mixed tt_ok ?_ Try.func52 (by kernel_rfl) rfl (by kernel_rfl) (by kernel_rfl) rfl rfl (by decide) (by decide +kernel) (by decide +kernel)
  · rw [laws_toTask_eq] at h
    exact h
  · intro f e he
    unfold laws_toTask_T at he
    split at he
    · rw [List.mem_singleton.1 he]; exact laws_toInt64S_sound N
    · cases he

/- laws.toTaskS -/
def laws_toTaskS (N : Nat) (x0 : List (Int × Int × (List Int) × List Int)) : Option (List (Int × Int × (List Int) × List Int) × Unit) :=
  cond (mkOk (List.length x0 : Int) (List.length x0 : Int))
    (let xs1 := (List.replicate (Int.toNat (List.length x0 : Int)) ((0 : Int), ((0 : Int), ([], []))) : List (Int × Int × (List Int) × List Int))
    loopN (fun (s2 : List (Int × Int × (List Int) × List Int) × Int × Unit) next3 =>
      cond (decide (s2.2.1 < (List.length x0 : Int)))
        (Option.bind (idx x0 s2.2.1) fun v4 =>
        Option.bind (laws_toTask N v4) fun r5 =>
        cond (inB s2.2.1 (List.length s2.1))
          (let xs6 := (List.set s2.1 (Int.toNat s2.2.1) r5.1)
          next3 (xs6, (w64 (s2.2.1 + 1)), ())) none)
        (some (s2.1, ()))) N (xs1, 0, ())) none
def laws_toTaskS_e (N : Nat) : Ent := { ins := [(.sl (.pair (.int .i64) (.pair (.int .i64) (.pair (.sl (.int .i64)) (.sl (.int .i64))))))], outs := [.own (.nw (.pair (.int .i64) (.pair (.int .i64) (.pair (.sl (.int .i64)) (.sl (.int .i64))))))], F := fun x => laws_toTaskS N x.1 }
def laws_toTaskS_T (N : Nat) : Nat → List EntX
  | 52 => [.pl (laws_toTask_e N)]
  | _ => []
def laws_toTaskS_L : Nat → List (Nat × TK)
  | 3 => [(3, .own (.nw (.pair (.int .i64) (.pair (.int .i64) (.pair (.sl (.int .i64)) (.sl (.int .i64))))))), (4, .v (.int .i64))]
  | _ => []
theorem laws_toTaskS_eq (N : Nat) : runF N tt (laws_toTaskS_T N) laws_toTaskS_L [(.sl (.pair (.int .i64) (.pair (.int .i64) (.pair (.sl (.int .i64)) (.sl (.int .i64))))))] [.own (.nw (.pair (.int .i64) (.pair (.int .i64) (.pair (.sl (.int .i64)) (.sl (.int .i64))))))] (bodyOf Try.f17) Try.f17.ntmps [2] = (laws_toTaskS_e N).F := by
  funext x
  kernel_rfl
theorem laws_toTaskS_sound (N : Nat) : SoundC Try.prog 17 (laws_toTaskS_e N) := by
  have h := runF_sound (f := 17) (code := bodyOf Try.f17) (N := N) (T := laws_toTaskS_T N) (L := laws_toTaskS_L) (ins := [(.sl (.pair (.int .i64) (.pair (.int .i64) (.pair (.sl (.int .i64)) (.sl (.int .i64))))))]) (outs := [.own (.nw (.pair (.int .i64) (.pair (.int .i64) (.pair (.sl (.int .i64)) (.sl (.int .i64))))))]) (res := [2]) mixed tt_ok ?_ Try.func17 (by kernel_rfl) rfl (by kernel_rfl) (by kernel_rfl) (by decide +kernel)
  · rw [laws_toTaskS_eq] at h
    exact h
  · intro f e he
    unfold laws_toTaskS_T at he
    split at he
    · rw [List.mem_singleton.1 he]; exact laws_toTask_sound N
    · cases he

/- laws.eqInt64S -/
def laws_eqInt64S (N : Nat) (x0 : List Int) (x1 : List Int) : Option (Bool × Unit) :=
  cond ((List.length x0 : Int) != (List.length x1 : Int))
    (some (false, ()))
    (loopN (fun (s1 : Int × Unit) next2 =>
      cond (decide (s1.1 < (List.length x0 : Int)))
        (Option.bind (idx x0 s1.1) fun v3 =>
        Option.bind (idx x1 s1.1) fun v4 =>
        cond (v3 != v4)
          (some (false, ()))
          (next2 ((w64 (s1.1 + 1)), ())))
        (some (true, ()))) N (0, ()))
def laws_eqInt64S_e (N : Nat) : Ent := { ins := [(.sl (.int .i64)), (.sl (.int .i64))], outs := [.val .bool], F := fun x => laws_eqInt64S N x.1 x.2.1 }
def laws_eqInt64S_T (_ : Nat) : Nat → List EntX := fun _ => []
def laws_eqInt64S_L : Nat → List (Nat × TK)
  | 4 => [(5, .v (.int .i64))]
  | _ => []
theorem laws_eqInt64S_eq (N : Nat) : runF N tt (laws_eqInt64S_T N) laws_eqInt64S_L [(.sl (.int .i64)), (.sl (.int .i64))] [.val .bool] (bodyOf Try.f21) Try.f21.ntmps [4] = (laws_eqInt64S_e N).F := by
  funext x
  kernel_rfl
theorem laws_eqInt64S_sound (N : Nat) : SoundC Try.prog 21 (laws_eqInt64S_e N) := by
  have h := runF_sound (f := 21) (code := bodyOf Try.f21) (N := N) (T := laws_eqInt64S_T N) (L := laws_eqInt64S_L) (ins := [(.sl (.int .i64)), (.sl (.int .i64))]) (outs := [.val .bool]) (res := [4]) mixed tt_ok ?_ Try.func21 (by kernel_rfl) rfl (by kernel_rfl) (by kernel_rfl) (by decide +kernel)
  · rw [laws_eqInt64S_eq] at h
    exact h
  · intro f e he
    cases he

/- laws.eqTask -/
def laws_eqTask (N : Nat) (x0 : Int × Int × (List Int) × List Int) (x1 : Int × Int × (List Int) × List Int) : Option (Bool × Unit) :=
  cond (x0.1 != x1.1)
    (some (false, ()))
    (cond (x0.2.1 != x1.2.1)
      (some (false, ()))
      (Option.bind (laws_eqInt64S N x0.2.2.1 x1.2.2.1) fun r1 =>
      cond (!r1.1)
        (some (false, ()))
        (Option.bind (laws_eqInt64S N x0.2.2.2 x1.2.2.2) fun r2 =>
        cond (!r2.1)
          (some (false, ()))
          (some (true, ())))))
def laws_eqTask_e (N : Nat) : Ent := { ins := [(.pair (.int .i64) (.pair (.int .i64) (.pair (.sl (.int .i64)) (.sl (.int .i64))))), (.pair (.int .i64) (.pair (.int .i64) (.pair (.sl (.int .i64)) (.sl (.int .i64)))))], outs := [.val .bool], F := fun x => laws_eqTask N x.1 x.2.1 }
def laws_eqTask_T (N : Nat) : Nat → List EntX
  | 21 => [.pl (laws_eqInt64S_e N)]
  | _ => []
def laws_eqTask_L : Nat → List (Nat × TK) := fun _ => []
theorem laws_eqTask_eq (N : Nat) : runF N tt (laws_eqTask_T N) laws_eqTask_L [(.pair (.int .i64) (.pair (.int .i64) (.pair (.sl (.int .i64)) (.sl (.int .i64))))), (.pair (.int .i64) (.pair (.int .i64) (.pair (.sl (.int .i64)) (.sl (.int .i64)))))] [.val .bool] (bodyOf Try.f56) Try.f56.ntmps [4] = (laws_eqTask_e N).F := by
  funext x
  kernel_rfl
theorem laws_eqTask_sound (N : Nat) : SoundC Try.prog 56 (laws_eqTask_e N) := by
  have h := runF_sound (f := 56) (code := bodyOf Try.f56) (N := N) (T := laws_eqTask_T N) (L := laws_eqTask_L) (ins := [(.pair (.int .i64) (.pair (.int .i64) (.pair (.sl (.int .i64)) (.sl (.int .i64))))), (.pair (.int .i64) (.pair (.int .i64) (.pair (.sl (.int .i64)) (.sl (.int .i64)))))]) (outs := [.val .bool]) (res := [4]) mixed tt_ok ?_ Try.func56 (by kernel_rfl) rfl (by kernel_rfl) (by kernel_rfl) (by decide +kernel)
  · rw [laws_eqTask_eq] at h
    exact h
  · intro f e he
    unfold laws_eqTask_T at he
    split at he
    · rw [List.mem_singleton.1 he]; exact laws_eqInt64S_sound N
    · cases he

/- laws.eqTaskS -/
def laws_eqTaskS (N : Nat) (x0 : List (Int × Int × (List Int) × List Int)) (x1 : List (Int × Int × (List Int) × List Int)) : Option (Bool × Unit) :=
  cond ((List.length x0 : Int) != (List.length x1 : Int))
    (some (false, ()))
    (loopN (fun (s1 : Int × Unit) next2 =>
      cond (decide (s1.1 < (List.length x0 : Int)))
        (Option.bind (idx x0 s1.1) fun v3 =>
        Option.bind (idx x1 s1.1) fun v4 =>
        Option.bind (laws_eqTask N v3 v4) fun r5 =>
        cond (!r5.1)
          (some (false, ()))
          (next2 ((w64 (s1.1 + 1)), ())))
        (some (true, ()))) N (0, ()))
def laws_eqTaskS_e (N : Nat) : Ent := { ins := [(.sl (.pair (.int .i64) (.pair (.int .i64) (.pair (.sl (.int .i64)) (.sl (.int .i64)))))), (.sl (.pair (.int .i64) (.pair (.int .i64) (.pair (.sl (.int .i64)) (.sl (.int .i64))))))], outs := [.val .bool], F := fun x => laws_eqTaskS N x.1 x.2.1 }
def laws_eqTaskS_T (N : Nat) : Nat → List EntX
  | 56 => [.pl (laws_eqTask_e N)]
  | _ => []
def laws_eqTaskS_L : Nat → List (Nat × TK)
  | 4 => [(5, .v (.int .i64))]
  | _ => []
theorem laws_eqTaskS_eq (N : Nat) : runF N tt (laws_eqTaskS_T N) laws_eqTaskS_L [(.sl (.pair (.int .i64) (.pair (.int .i64) (.pair (.sl (.int .i64)) (.sl (.int .i64)))))), (.sl (.pair (.int .i64) (.pair (.int .i64) (.pair (.sl (.int .i64)) (.sl (.int .i64))))))] [.val .bool] (bodyOf Try.f20) Try.f20.ntmps [4] = (laws_eqTaskS_e N).F := by
  funext x
  kernel_rfl
theorem laws_eqTaskS_sound (N : Nat) : SoundC Try.prog 20 (laws_eqTaskS_e N) := by
  have h := runF_sound (f := 20) (code := bodyOf Try.f20) (N := N) (T := laws_eqTaskS_T N) (L := laws_eqTaskS_L) (ins := [(.sl (.pair (.int .i64) (.pair (.int .i64) (.pair (.sl (.int .i64)) (.sl (.int .i64)))))), (.sl (.pair (.int .i64) (.pair (.int .i64) (.pair (.sl (.int .i64)) (.sl (.int .i64))))))]) (outs := [.val .bool]) (res := [4]) mixed tt_ok ?_ Try.func20 (by kernel_rfl) rfl (by kernel_rfl) (by kernel_rfl) (by decide +kernel)
  · rw [laws_eqTaskS_eq] at h
    exact h
  · intro f e he
    unfold laws_eqTaskS_T at he
    split at he
    · rw [List.mem_singleton.1 he]; exact laws_eqTask_sound N
    · cases he

/- laws.markInt64S -/
def laws_markInt64S (N : Nat) (x0 : List Int) (x1 : Int) : Option (List (Int) × (Int × Unit)) :=
  loopN (fun (s1 : List (Int) × Int × Int × Unit) next2 =>
    cond (decide (s1.2.2.1 < (List.length s1.1 : Int)))
      (cond (inB s1.2.2.1 (List.length s1.1))
        (let xs3 := (List.set s1.1 (Int.toNat s1.2.2.1) s1.2.1)
        next2 (xs3, (w64 (s1.2.1 + 1)), (w64 (s1.2.2.1 + 1)), ())) none)
      (some (s1.1, (s1.2.1, ())))) N (x0, x1, 0, ())
def laws_markInt64S_e (N : Nat) : EntM := { io := (.int .i64), ins := [(.int .i64)], outs := [.val (.int .i64)], F := fun xs x => laws_markInt64S N xs x.1 }
def laws_markInt64S_T (_ : Nat) : Nat → List EntX := fun _ => []
def laws_markInt64S_L : Nat → List (Nat × TK)
  | 2 => [(0, .own (.int .i64)), (1, .v (.int .i64)), (5, .v (.int .i64))]
  | _ => []
theorem laws_markInt64S_eq (N : Nat) : runM N tt (laws_markInt64S_T N) laws_markInt64S_L (.int .i64) [(.int .i64)] [.val (.int .i64)] (bodyOf Try.f25) Try.f25.ntmps [4] = (laws_markInt64S_e N).F := by
  funext xs x
  kernel_rfl
theorem laws_markInt64S_sound (N : Nat) : SoundM Try.prog 25 (laws_markInt64S_e N) := by
  have h := runM_sound (f := 25) (code := bodyOf Try.f25) (N := N) (T := laws_markInt64S_T N) (L := laws_markInt64S_L) (io := (.int .i64)) (ins := [(.int .i64)]) (outs := [.val (.int .i64)]) (res := [4]) mixed tt_ok ?_ Try.func25 (by kernel_rfl) rfl (by kernel_rfl) (by kernel_rfl) (by decide +kernel)
  · rw [laws_markInt64S_eq] at h
    exact h
  · intro f e he
    cases he

/- laws.heldInt64S -/
def laws_heldInt64S (N : Nat) (x0 : List Int) (x1 : Int) : Option (Int × Unit) :=
  loopN (fun (s1 : Int × Int × Unit) next2 =>
    cond (decide (s1.2.1 < (List.length x0 : Int)))
      (Option.bind (idx x0 s1.2.1) fun v3 =>
      cond (v3 != s1.1)
        (some ((-1), ()))
        (next2 ((w64 (s1.1 + 1)), (w64 (s1.2.1 + 1)), ())))
      (some (s1.1, ()))) N (x1, 0, ())
def laws_heldInt64S_e (N : Nat) : Ent := { ins := [(.sl (.int .i64)), (.int .i64)], outs := [.val (.int .i64)], F := fun x => laws_heldInt64S N x.1 x.2.1 }
def laws_heldInt64S_T (_ : Nat) : Nat → List EntX := fun _ => []
def laws_heldInt64S_L : Nat → List (Nat × TK)
  | 2 => [(1, .v (.int .i64)), (5, .v (.int .i64))]
  | _ => []
theorem laws_heldInt64S_eq (N : Nat) : runF N tt (laws_heldInt64S_T N) laws_heldInt64S_L [(.sl (.int .i64)), (.int .i64)] [.val (.int .i64)] (bodyOf Try.f26) Try.f26.ntmps [4] = (laws_heldInt64S_e N).F := by
  funext x
  kernel_rfl
theorem laws_heldInt64S_sound (N : Nat) : SoundC Try.prog 26 (laws_heldInt64S_e N) := by
  have h := runF_sound (f := 26) (code := bodyOf Try.f26) (N := N) (T := laws_heldInt64S_T N) (L := laws_heldInt64S_L) (ins := [(.sl (.int .i64)), (.int .i64)]) (outs := [.val (.int .i64)]) (res := [4]) mixed tt_ok ?_ Try.func26 (by kernel_rfl) rfl (by kernel_rfl) (by kernel_rfl) (by decide +kernel)
  · rw [laws_heldInt64S_eq] at h
    exact h
  · intro f e he
    cases he

/- spec.l00In -/
def spec_l00In (_N : Nat) (x0 : Int) (x1 : Int) (x2 : Int) : Option (Bool × Unit) :=
  cond (decide (x0 ≥ x1))
    (some ((decide (x0 ≤ x2)), ()))
    (some (false, ()))
def spec_l00In_e (N : Nat) : Ent := { ins := [(.int .i64), (.int .i64), (.int .i64)], outs := [.val .bool], F := fun x => spec_l00In N x.1 x.2.1 x.2.2.1 }
def spec_l00In_T (_ : Nat) : Nat → List EntX := fun _ => []
def spec_l00In_L : Nat → List (Nat × TK) := fun _ => []
theorem spec_l00In_eq (N : Nat) : runF N tt (spec_l00In_T N) spec_l00In_L [(.int .i64), (.int .i64), (.int .i64)] [.val .bool] (bodyOf Try.f49) Try.f49.ntmps [6] = (spec_l00In_e N).F := by
  funext x
  kernel_rfl
theorem spec_l00In_sound (N : Nat) : SoundC Try.prog 49 (spec_l00In_e N) := by
  have h := runF_sound (f := 49) (code := bodyOf Try.f49) (N := N) (T := spec_l00In_T N) (L := spec_l00In_L) (ins := [(.int .i64), (.int .i64), (.int .i64)]) (outs := [.val .bool]) (res := [6]) mixed tt_ok ?_ Try.func49 (by kernel_rfl) rfl (by kernel_rfl) (by kernel_rfl) (by decide +kernel)
  · rw [spec_l00In_eq] at h
    exact h
  · intro f e he
    cases he

/- spec.l03Task -/
def spec_l03Task (N : Nat) (x0 : Int × Int × (List Int) × List Int) (x1 : Int) : Option (Bool × Unit) :=
  Option.bind (spec_l00In N x0.1 0 100) fun r1 =>
  cond (!r1.1)
    (some (false, ()))
    (Option.bind (spec_l00In N x0.2.1 0 20) fun r2 =>
    cond (!r2.1)
      (some (false, ()))
      (cond ((List.length x0.2.2.2 : Int) != (List.length x0.2.2.1 : Int))
        (some (false, ()))
        (loopN (fun (s3 : Int × Unit) next4 =>
          cond (decide (s3.1 < (List.length x0.2.2.1 : Int)))
            (Option.bind (idx x0.2.2.1 s3.1) fun v5 =>
            Option.bind (spec_l00In N v5 0 (w64 (x1 - 1))) fun r6 =>
            cond (!r6.1)
              (some (false, ()))
              (cond (decide (s3.1 > 0))
                (Option.bind (idx x0.2.2.1 s3.1) fun v7 =>
                Option.bind (idx x0.2.2.1 (w64 (s3.1 - 1))) fun v8 =>
                cond (decide (v7 ≤ v8))
                  (some (false, ()))
                  (Option.bind (idx x0.2.2.2 s3.1) fun v9 =>
                  Option.bind (spec_l00In N v9 (-100) 100) fun r10 =>
                  cond (!r10.1)
                    (some (false, ()))
                    (next4 ((w64 (s3.1 + 1)), ()))))
                (Option.bind (idx x0.2.2.2 s3.1) fun v11 =>
                Option.bind (spec_l00In N v11 (-100) 100) fun r12 =>
                cond (!r12.1)
                  (some (false, ()))
                  (next4 ((w64 (s3.1 + 1)), ())))))
            (some (true, ()))) N (0, ()))))
def spec_l03Task_e (N : Nat) : Ent := { ins := [(.bx (.pair (.int .i64) (.pair (.int .i64) (.pair (.sl (.int .i64)) (.sl (.int .i64)))))), (.int .i64)], outs := [.val .bool], F := fun x => spec_l03Task N x.1 x.2.1 }
def spec_l03Task_T (N : Nat) : Nat → List EntX
  | 49 => [.pl (spec_l00In_e N)]
  | _ => []
def spec_l03Task_L : Nat → List (Nat × TK)
  | 4 => [(38, .v (.int .i64))]
  | _ => []
theorem spec_l03Task_eq (N : Nat) : runF N tt (spec_l03Task_T N) spec_l03Task_L [(.bx (.pair (.int .i64) (.pair (.int .i64) (.pair (.sl (.int .i64)) (.sl (.int .i64)))))), (.int .i64)] [.val .bool] (bodyOf Try.f86) Try.f86.ntmps [4] = (spec_l03Task_e N).F := by
  funext x
  kernel_rfl
theorem spec_l03Task_sound (N : Nat) : SoundC Try.prog 86 (spec_l03Task_e N) := by
  have h := runF_sound (f := 86) (code := bodyOf Try.f86) (N := N) (T := spec_l03Task_T N) (L := spec_l03Task_L) (ins := [(.bx (.pair (.int .i64) (.pair (.int .i64) (.pair (.sl (.int .i64)) (.sl (.int .i64)))))), (.int .i64)]) (outs := [.val .bool]) (res := [4]) mixed tt_ok ?_ Try.func86 (by kernel_rfl) rfl (by kernel_rfl) (by kernel_rfl) (by decide +kernel)
  · rw [spec_l03Task_eq] at h
    exact h
  · intro f e he
    unfold spec_l03Task_T at he
    split at he
    · rw [List.mem_singleton.1 he]; exact spec_l00In_sound N
    · cases he

/- spec.l03Are -/
def spec_l03Are (N : Nat) (x0 : List (Int × Int × (List Int) × List Int)) : Option (Bool × Unit) :=
  loopN (fun (s1 : Int × Unit) next2 =>
    cond (decide (s1.1 < (List.length x0 : Int)))
      (Option.bind (idx x0 s1.1) fun v3 =>
      Option.bind (spec_l03Task N v3 s1.1) fun r4 =>
      cond (!r4.1)
        (some (false, ()))
        (next2 ((w64 (s1.1 + 1)), ())))
      (cond (decide ((List.length x0 : Int) ≥ 1))
        (some ((decide ((List.length x0 : Int) ≤ 16)), ()))
        (some (false, ())))) N (0, ())
def spec_l03Are_e (N : Nat) : Ent := { ins := [(.sl (.pair (.int .i64) (.pair (.int .i64) (.pair (.sl (.int .i64)) (.sl (.int .i64))))))], outs := [.val .bool], F := fun x => spec_l03Are N x.1 }
def spec_l03Are_T (N : Nat) : Nat → List EntX
  | 86 => [.pl (spec_l03Task_e N)]
  | _ => []
def spec_l03Are_L : Nat → List (Nat × TK)
  | 2 => [(6, .v (.int .i64))]
  | _ => []
theorem spec_l03Are_eq (N : Nat) : runF N tt (spec_l03Are_T N) spec_l03Are_L [(.sl (.pair (.int .i64) (.pair (.int .i64) (.pair (.sl (.int .i64)) (.sl (.int .i64))))))] [.val .bool] (bodyOf Try.f57) Try.f57.ntmps [2] = (spec_l03Are_e N).F := by
  funext x
  kernel_rfl
theorem spec_l03Are_sound (N : Nat) : SoundC Try.prog 57 (spec_l03Are_e N) := by
  have h := runF_sound (f := 57) (code := bodyOf Try.f57) (N := N) (T := spec_l03Are_T N) (L := spec_l03Are_L) (ins := [(.sl (.pair (.int .i64) (.pair (.int .i64) (.pair (.sl (.int .i64)) (.sl (.int .i64))))))]) (outs := [.val .bool]) (res := [2]) mixed tt_ok ?_ Try.func57 (by kernel_rfl) rfl (by kernel_rfl) (by kernel_rfl) (by decide +kernel)
  · rw [spec_l03Are_eq] at h
    exact h
  · intro f e he
    unfold spec_l03Are_T at he
    split at he
    · rw [List.mem_singleton.1 he]; exact spec_l03Task_sound N
    · cases he

/- spec.l00Max -/
def spec_l00Max (_N : Nat) (x0 : Int) (x1 : Int) : Option (Int × Unit) :=
  cond (decide (x0 > x1))
    (some (x0, ()))
    (some (x1, ()))
def spec_l00Max_e (N : Nat) : Ent := { ins := [(.int .i64), (.int .i64)], outs := [.val (.int .i64)], F := fun x => spec_l00Max N x.1 x.2.1 }
def spec_l00Max_T (_ : Nat) : Nat → List EntX := fun _ => []
def spec_l00Max_L : Nat → List (Nat × TK) := fun _ => []
theorem spec_l00Max_eq (N : Nat) : runF N tt (spec_l00Max_T N) spec_l00Max_L [(.int .i64), (.int .i64)] [.val (.int .i64)] (bodyOf Try.f50) Try.f50.ntmps [4] = (spec_l00Max_e N).F := by
  funext x
  kernel_rfl
theorem spec_l00Max_sound (N : Nat) : SoundC Try.prog 50 (spec_l00Max_e N) := by
  have h := runF_sound (f := 50) (code := bodyOf Try.f50) (N := N) (T := spec_l00Max_T N) (L := spec_l00Max_L) (ins := [(.int .i64), (.int .i64)]) (outs := [.val (.int .i64)]) (res := [4]) mixed tt_ok ?_ Try.func50 (by kernel_rfl) rfl (by kernel_rfl) (by kernel_rfl) (by decide +kernel)
  · rw [spec_l00Max_eq] at h
    exact h
  · intro f e he
    cases he

/- spec.l03Least -/
def spec_l03Least (N : Nat) (x0 : List (Int × Int × (List Int) × List Int)) (x1 : List Int) (x2 : Int) : Option (Int × Unit) :=
  Option.bind (idx x0 x2) fun v1 =>
  loopN (fun (s2 : Int × Int × Unit) next3 =>
    cond (decide (s2.2.1 < (List.length v1.2.2.1 : Int)))
      (Option.bind (idx x0 x2) fun v4 =>
      Option.bind (idx v4.2.2.1 s2.2.1) fun v5 =>
      Option.bind (idx x1 v5) fun v6 =>
      Option.bind (idx x0 v5) fun v7 =>
      Option.bind (idx x0 x2) fun v8 =>
      Option.bind (idx v8.2.2.2 s2.2.1) fun v9 =>
      Option.bind (spec_l00Max N s2.1 (w64 ((w64 (v6 + v7.1)) + v9))) fun r10 =>
      next3 (r10.1, (w64 (s2.2.1 + 1)), ()))
      (some (s2.1, ()))) N (0, 0, ())
def spec_l03Least_e (N : Nat) : Ent := { ins := [(.sl (.pair (.int .i64) (.pair (.int .i64) (.pair (.sl (.int .i64)) (.sl (.int .i64)))))), (.sl (.int .i64)), (.int .i64)], outs := [.val (.int .i64)], F := fun x => spec_l03Least N x.1 x.2.1 x.2.2.1 }
def spec_l03Least_T (N : Nat) : Nat → List EntX
  | 50 => [.pl (spec_l00Max_e N)]
  | _ => []
def spec_l03Least_L : Nat → List (Nat × TK)
  | 3 => [(7, .v (.int .i64)), (16, .v (.int .i64))]
  | _ => []
theorem spec_l03Least_eq (N : Nat) : runF N tt (spec_l03Least_T N) spec_l03Least_L [(.sl (.pair (.int .i64) (.pair (.int .i64) (.pair (.sl (.int .i64)) (.sl (.int .i64)))))), (.sl (.int .i64)), (.int .i64)] [.val (.int .i64)] (bodyOf Try.f65) Try.f65.ntmps [6] = (spec_l03Least_e N).F := by
  funext x
  kernel_rfl
theorem spec_l03Least_sound (N : Nat) : SoundC Try.prog 65 (spec_l03Least_e N) := by
  have h := runF_sound (f := 65) (code := bodyOf Try.f65) (N := N) (T := spec_l03Least_T N) (L := spec_l03Least_L) (ins := [(.sl (.pair (.int .i64) (.pair (.int .i64) (.pair (.sl (.int .i64)) (.sl (.int .i64)))))), (.sl (.int .i64)), (.int .i64)]) (outs := [.val (.int .i64)]) (res := [6]) mixed tt_ok ?_ Try.func65 (by kernel_rfl) rfl (by kernel_rfl) (by kernel_rfl) (by decide +kernel)
  · rw [spec_l03Least_eq] at h
    exact h
  · intro f e he
    unfold spec_l03Least_T at he
    split at he
    · rw [List.mem_singleton.1 he]; exact spec_l00Max_sound N
    · cases he

/- spec.l03Early -/
def spec_l03Early (N : Nat) (x0 : List (Int × Int × (List Int) × List Int)) : Option (List (Int) × Unit) :=
  cond (mkOk (List.length x0 : Int) (List.length x0 : Int))
    (let xs1 := (List.replicate (Int.toNat (List.length x0 : Int)) (0 : Int) : List (Int))
    loopN (fun (s2 : List (Int) × Int × Unit) next3 =>
      cond (decide (s2.2.1 < (List.length x0 : Int)))
        (Option.bind (spec_l03Least N x0 s2.1 s2.2.1) fun r4 =>
        cond (inB s2.2.1 (List.length s2.1))
          (let xs5 := (List.set s2.1 (Int.toNat s2.2.1) r4.1)
          next3 (xs5, (w64 (s2.2.1 + 1)), ())) none)
        (some (s2.1, ()))) N (xs1, 0, ())) none
def spec_l03Early_e (N : Nat) : Ent := { ins := [(.sl (.pair (.int .i64) (.pair (.int .i64) (.pair (.sl (.int .i64)) (.sl (.int .i64))))))], outs := [.own (.int .i64)], F := fun x => spec_l03Early N x.1 }
def spec_l03Early_T (N : Nat) : Nat → List EntX
  | 65 => [.pl (spec_l03Least_e N)]
  | _ => []
def spec_l03Early_L : Nat → List (Nat × TK)
  | 3 => [(3, .own (.int .i64)), (10, .v (.int .i64))]
  | _ => []
theorem spec_l03Early_eq (N : Nat) : runF N tt (spec_l03Early_T N) spec_l03Early_L [(.sl (.pair (.int .i64) (.pair (.int .i64) (.pair (.sl (.int .i64)) (.sl (.int .i64))))))] [.own (.int .i64)] (bodyOf Try.f58) Try.f58.ntmps [2] = (spec_l03Early_e N).F := by
  funext x
  kernel_rfl
theorem spec_l03Early_sound (N : Nat) : SoundC Try.prog 58 (spec_l03Early_e N) := by
  have h := runF_sound (f := 58) (code := bodyOf Try.f58) (N := N) (T := spec_l03Early_T N) (L := spec_l03Early_L) (ins := [(.sl (.pair (.int .i64) (.pair (.int .i64) (.pair (.sl (.int .i64)) (.sl (.int .i64))))))]) (outs := [.own (.int .i64)]) (res := [2]) mixed tt_ok ?_ Try.func58 (by kernel_rfl) rfl (by kernel_rfl) (by kernel_rfl) (by decide +kernel)
  · rw [spec_l03Early_eq] at h
    exact h
  · intro f e he
    unfold spec_l03Early_T at he
    split at he
    · rw [List.mem_singleton.1 he]; exact spec_l03Least_sound N
    · cases he

/- spec.l03End -/
def spec_l03End (N : Nat) (x0 : List (Int × Int × (List Int) × List Int)) (x1 : List Int) : Option (Int × Unit) :=
  loopN (fun (s1 : Int × Int × Unit) next2 =>
    cond (decide (s1.2.1 < (List.length x0 : Int)))
      (Option.bind (idx x1 s1.2.1) fun v3 =>
      Option.bind (idx x0 s1.2.1) fun v4 =>
      Option.bind (spec_l00Max N s1.1 (w64 (v3 + v4.1))) fun r5 =>
      next2 (r5.1, (w64 (s1.2.1 + 1)), ()))
      (some (s1.1, ()))) N (0, 0, ())
def spec_l03End_e (N : Nat) : Ent := { ins := [(.sl (.pair (.int .i64) (.pair (.int .i64) (.pair (.sl (.int .i64)) (.sl (.int .i64)))))), (.sl (.int .i64))], outs := [.val (.int .i64)], F := fun x => spec_l03End N x.1 x.2.1 }
def spec_l03End_T (N : Nat) : Nat → List EntX
  | 50 => [.pl (spec_l00Max_e N)]
  | _ => []
def spec_l03End_L : Nat → List (Nat × TK)
  | 3 => [(5, .v (.int .i64)), (9, .v (.int .i64))]
  | _ => []
theorem spec_l03End_eq (N : Nat) : runF N tt (spec_l03End_T N) spec_l03End_L [(.sl (.pair (.int .i64) (.pair (.int .i64) (.pair (.sl (.int .i64)) (.sl (.int .i64)))))), (.sl (.int .i64))] [.val (.int .i64)] (bodyOf Try.f59) Try.f59.ntmps [4] = (spec_l03End_e N).F := by
  funext x
  kernel_rfl
theorem spec_l03End_sound (N : Nat) : SoundC Try.prog 59 (spec_l03End_e N) := by
  have h := runF_sound (f := 59) (code := bodyOf Try.f59) (N := N) (T := spec_l03End_T N) (L := spec_l03End_L) (ins := [(.sl (.pair (.int .i64) (.pair (.int .i64) (.pair (.sl (.int .i64)) (.sl (.int .i64)))))), (.sl (.int .i64))]) (outs := [.val (.int .i64)]) (res := [4]) mixed tt_ok ?_ Try.func59 (by kernel_rfl) rfl (by kernel_rfl) (by kernel_rfl) (by decide +kernel)
  · rw [spec_l03End_eq] at h
    exact h
  · intro f e he
    unfold spec_l03End_T at he
    split at he
    · rw [List.mem_singleton.1 he]; exact spec_l00Max_sound N
    · cases he

/- spec.l00Min -/
def spec_l00Min (_N : Nat) (x0 : Int) (x1 : Int) : Option (Int × Unit) :=
  cond (decide (x0 < x1))
    (some (x0, ()))
    (some (x1, ()))
def spec_l00Min_e (N : Nat) : Ent := { ins := [(.int .i64), (.int .i64)], outs := [.val (.int .i64)], F := fun x => spec_l00Min N x.1 x.2.1 }
def spec_l00Min_T (_ : Nat) : Nat → List EntX := fun _ => []
def spec_l00Min_L : Nat → List (Nat × TK) := fun _ => []
theorem spec_l00Min_eq (N : Nat) : runF N tt (spec_l00Min_T N) spec_l00Min_L [(.int .i64), (.int .i64)] [.val (.int .i64)] (bodyOf Try.f51) Try.f51.ntmps [4] = (spec_l00Min_e N).F := by
  funext x
  kernel_rfl
theorem spec_l00Min_sound (N : Nat) : SoundC Try.prog 51 (spec_l00Min_e N) := by
  have h := runF_sound (f := 51) (code := bodyOf Try.f51) (N := N) (T := spec_l00Min_T N) (L := spec_l00Min_L) (ins := [(.int .i64), (.int .i64)]) (outs := [.val (.int .i64)]) (res := [4]) mixed tt_ok ?_ Try.func51 (by kernel_rfl) rfl (by kernel_rfl) (by kernel_rfl) (by decide +kernel)
  · rw [spec_l00Min_eq] at h
    exact h
  · intro f e he
    cases he

/- spec.l03Greatest -/
def spec_l03Greatest (N : Nat) (x0 : List (Int × Int × (List Int) × List Int)) (x1 : List Int) (x2 : Int) (x3 : Int) : Option (Int × Unit) :=
  Option.bind (idx x0 x2) fun v1 =>
  loopN (fun (s2 : Int × Int × Unit) next3 =>
    cond (decide (s2.2.1 < (List.length x0 : Int)))
      (Option.bind (idx x0 s2.2.1) fun v4 =>
      loopN (fun (s5 : Int × Int × Unit) next6 =>
        cond (decide (s5.2.1 < (List.length v4.2.2.1 : Int)))
          (Option.bind (idx x0 s2.2.1) fun v7 =>
          Option.bind (idx v7.2.2.1 s5.2.1) fun v8 =>
          cond (v8 == x2)
            (Option.bind (idx x1 s2.2.1) fun v9 =>
            Option.bind (idx x0 s2.2.1) fun v10 =>
            Option.bind (idx v10.2.2.2 s5.2.1) fun v11 =>
            Option.bind (idx x0 x2) fun v12 =>
            Option.bind (spec_l00Min N s5.1 (w64 ((w64 (v9 - v11)) - v12.1))) fun r13 =>
            next6 (r13.1, (w64 (s5.2.1 + 1)), ()))
            (next6 (s5.1, (w64 (s5.2.1 + 1)), ())))
          (next3 (s5.1, (w64 (s2.2.1 + 1)), ()))) N (s2.1, 0, ()))
      (some (s2.1, ()))) N ((w64 (x3 - v1.1)), (w64 (x2 + 1)), ())
def spec_l03Greatest_e (N : Nat) : Ent := { ins := [(.sl (.pair (.int .i64) (.pair (.int .i64) (.pair (.sl (.int .i64)) (.sl (.int .i64)))))), (.sl (.int .i64)), (.int .i64), (.int .i64)], outs := [.val (.int .i64)], F := fun x => spec_l03Greatest N x.1 x.2.1 x.2.2.1 x.2.2.2.1 }
def spec_l03Greatest_T (N : Nat) : Nat → List EntX
  | 51 => [.pl (spec_l00Min_e N)]
  | _ => []
def spec_l03Greatest_L : Nat → List (Nat × TK)
  | 3 => [(9, .v (.int .i64)), (10, .v (.int .i64))]
  | 6 => [(9, .v (.int .i64)), (33, .v (.int .i64))]
  | _ => []
theorem spec_l03Greatest_eq (N : Nat) : runF N tt (spec_l03Greatest_T N) spec_l03Greatest_L [(.sl (.pair (.int .i64) (.pair (.int .i64) (.pair (.sl (.int .i64)) (.sl (.int .i64)))))), (.sl (.int .i64)), (.int .i64), (.int .i64)] [.val (.int .i64)] (bodyOf Try.f73) Try.f73.ntmps [8] = (spec_l03Greatest_e N).F := by
  funext x
  kernel_rfl
theorem spec_l03Greatest_sound (N : Nat) : SoundC Try.prog 73 (spec_l03Greatest_e N) := by
  have h := runF_sound (f := 73) (code := bodyOf Try.f73) (N := N) (T := spec_l03Greatest_T N) (L := spec_l03Greatest_L) (ins := [(.sl (.pair (.int .i64) (.pair (.int .i64) (.pair (.sl (.int .i64)) (.sl (.int .i64)))))), (.sl (.int .i64)), (.int .i64), (.int .i64)]) (outs := [.val (.int .i64)]) (res := [8]) mixed tt_ok ?_ Try.func73 (by kernel_rfl) rfl (by kernel_rfl) (by kernel_rfl) (by decide +kernel)
  · rw [spec_l03Greatest_eq] at h
    exact h
  · intro f e he
    unfold spec_l03Greatest_T at he
    split at he
    · rw [List.mem_singleton.1 he]; exact spec_l00Min_sound N
    · cases he

/- spec.l03Late -/
def spec_l03Late (N : Nat) (x0 : List (Int × Int × (List Int) × List Int)) (x1 : Int) : Option (List (Int) × Unit) :=
  cond (mkOk (List.length x0 : Int) (List.length x0 : Int))
    (let xs1 := (List.replicate (Int.toNat (List.length x0 : Int)) (0 : Int) : List (Int))
    loopN (fun (s2 : List (Int) × Int × Unit) next3 =>
      cond (decide (s2.2.1 ≥ 0))
        (Option.bind (spec_l03Greatest N x0 s2.1 s2.2.1 x1) fun r4 =>
        cond (inB s2.2.1 (List.length s2.1))
          (let xs5 := (List.set s2.1 (Int.toNat s2.2.1) r4.1)
          next3 (xs5, (w64 (s2.2.1 - 1)), ())) none)
        (some (s2.1, ()))) N (xs1, (w64 ((List.length x0 : Int) - 1)), ())) none
def spec_l03Late_e (N : Nat) : Ent := { ins := [(.sl (.pair (.int .i64) (.pair (.int .i64) (.pair (.sl (.int .i64)) (.sl (.int .i64)))))), (.int .i64)], outs := [.own (.int .i64)], F := fun x => spec_l03Late N x.1 x.2.1 }
def spec_l03Late_T (N : Nat) : Nat → List EntX
  | 73 => [.pl (spec_l03Greatest_e N)]
  | _ => []
def spec_l03Late_L : Nat → List (Nat × TK)
  | 3 => [(5, .own (.int .i64)), (6, .v (.int .i64))]
  | _ => []
theorem spec_l03Late_eq (N : Nat) : runF N tt (spec_l03Late_T N) spec_l03Late_L [(.sl (.pair (.int .i64) (.pair (.int .i64) (.pair (.sl (.int .i64)) (.sl (.int .i64)))))), (.int .i64)] [.own (.int .i64)] (bodyOf Try.f69) Try.f69.ntmps [4] = (spec_l03Late_e N).F := by
  funext x
  kernel_rfl
theorem spec_l03Late_sound (N : Nat) : SoundC Try.prog 69 (spec_l03Late_e N) := by
  have h := runF_sound (f := 69) (code := bodyOf Try.f69) (N := N) (T := spec_l03Late_T N) (L := spec_l03Late_L) (ins := [(.sl (.pair (.int .i64) (.pair (.int .i64) (.pair (.sl (.int .i64)) (.sl (.int .i64)))))), (.int .i64)]) (outs := [.own (.int .i64)]) (res := [4]) mixed tt_ok ?_ Try.func69 (by kernel_rfl) rfl (by kernel_rfl) (by kernel_rfl) (by decide +kernel)
  · rw [spec_l03Late_eq] at h
    exact h
  · intro f e he
    unfold spec_l03Late_T at he
    split at he
    · rw [List.mem_singleton.1 he]; exact spec_l03Greatest_sound N
    · cases he

/- spec.l03Slack -/
def spec_l03Slack (N : Nat) (x0 : List (Int × Int × (List Int) × List Int)) : Option (List (Int) × Unit) :=
  Option.bind (spec_l03Early N x0) fun r1 =>
  Option.bind (spec_l03End N x0 r1.1) fun r2 =>
  Option.bind (spec_l03Late N x0 r2.1) fun r3 =>
  loopN (fun (s4 : List (Int) × Int × Unit) next5 =>
    cond (decide (s4.2.1 < (List.length r3.1 : Int)))
      (cond (inB s4.2.1 (List.length r3.1))
        (Option.bind (r3.1[(Int.toNat s4.2.1)]?) fun v6 =>
        cond (inB s4.2.1 (List.length r1.1))
          (Option.bind (r1.1[(Int.toNat s4.2.1)]?) fun v7 =>
          cond (appOk (List.length s4.1) (List.length ([(w64 (v6 - v7))] : List Int)))
            (let xs8 := (s4.1 ++ ([(w64 (v6 - v7))] : List Int))
            next5 (xs8, (w64 (s4.2.1 + 1)), ())) none) none) none)
      (some (s4.1, ()))) N (([] : List Int), 0, ())
def spec_l03Slack_e (N : Nat) : Ent := { ins := [(.sl (.pair (.int .i64) (.pair (.int .i64) (.pair (.sl (.int .i64)) (.sl (.int .i64))))))], outs := [.own (.int .i64)], F := fun x => spec_l03Slack N x.1 }
def spec_l03Slack_T (N : Nat) : Nat → List EntX
  | 58 => [.pl (spec_l03Early_e N)]
  | 59 => [.pl (spec_l03End_e N)]
  | 69 => [.pl (spec_l03Late_e N)]
  | _ => []
def spec_l03Slack_L : Nat → List (Nat × TK)
  | 5 => [(5, .own (.int .i64)), (17, .v (.int .i64))]
  | _ => []
theorem spec_l03Slack_eq (N : Nat) : runF N tt (spec_l03Slack_T N) spec_l03Slack_L [(.sl (.pair (.int .i64) (.pair (.int .i64) (.pair (.sl (.int .i64)) (.sl (.int .i64))))))] [.own (.int .i64)] (bodyOf Try.f71) Try.f71.ntmps [2] = (spec_l03Slack_e N).F := by
  funext x
  kernel_rfl
theorem spec_l03Slack_sound (N : Nat) : SoundC Try.prog 71 (spec_l03Slack_e N) := by
  have h := runF_sound (f := 71) (code := bodyOf Try.f71) (N := N) (T := spec_l03Slack_T N) (L := spec_l03Slack_L) (ins := [(.sl (.pair (.int .i64) (.pair (.int .i64) (.pair (.sl (.int .i64)) (.sl (.int .i64))))))]) (outs := [.own (.int .i64)]) (res := [2]) mixed tt_ok ?_ Try.func71 (by kernel_rfl) rfl (by kernel_rfl) (by kernel_rfl) (by decide +kernel)
  · rw [spec_l03Slack_eq] at h
    exact h
  · intro f e he
    unfold spec_l03Slack_T at he
    split at he
    · rw [List.mem_singleton.1 he]; exact spec_l03Early_sound N
    · rw [List.mem_singleton.1 he]; exact spec_l03End_sound N
    · rw [List.mem_singleton.1 he]; exact spec_l03Late_sound N
    · cases he

/- spec.SlackOf -/
def spec_SlackOf (N : Nat) (x0 : List (Int × Int × (List Int) × List Int)) : Option (List (Int) × Bool × Unit) :=
  Option.bind (spec_l03Are N x0) fun r1 =>
  cond (!r1.1)
    (some ([], false, ()))
    (Option.bind (spec_l03Slack N x0) fun r2 =>
    some (r2.1, true, ()))
def spec_SlackOf_e (N : Nat) : Ent := { ins := [(.sl (.pair (.int .i64) (.pair (.int .i64) (.pair (.sl (.int .i64)) (.sl (.int .i64))))))], outs := [.own (.int .i64), .val .bool], F := fun x => spec_SlackOf N x.1 }
def spec_SlackOf_T (N : Nat) : Nat → List EntX
  | 57 => [.pl (spec_l03Are_e N)]
  | 71 => [.pl (spec_l03Slack_e N)]
  | _ => []
def spec_SlackOf_L : Nat → List (Nat × TK) := fun _ => []
theorem spec_SlackOf_eq (N : Nat) : runF N tt (spec_SlackOf_T N) spec_SlackOf_L [(.sl (.pair (.int .i64) (.pair (.int .i64) (.pair (.sl (.int .i64)) (.sl (.int .i64))))))] [.own (.int .i64), .val .bool] (bodyOf Try.f37) Try.f37.ntmps [2, 3] = (spec_SlackOf_e N).F := by
  funext x
  kernel_rfl
theorem spec_SlackOf_sound (N : Nat) : SoundC Try.prog 37 (spec_SlackOf_e N) := by
  have h := runF_sound (f := 37) (code := bodyOf Try.f37) (N := N) (T := spec_SlackOf_T N) (L := spec_SlackOf_L) (ins := [(.sl (.pair (.int .i64) (.pair (.int .i64) (.pair (.sl (.int .i64)) (.sl (.int .i64))))))]) (outs := [.own (.int .i64), .val .bool]) (res := [2, 3]) mixed tt_ok ?_ Try.func37 (by kernel_rfl) rfl (by kernel_rfl) (by kernel_rfl) (by decide +kernel)
  · rw [spec_SlackOf_eq] at h
    exact h
  · intro f e he
    unfold spec_SlackOf_T at he
    split at he
    · rw [List.mem_singleton.1 he]; exact spec_l03Are_sound N
    · rw [List.mem_singleton.1 he]; exact spec_l03Slack_sound N
    · cases he

/- impl.within -/
def impl_within (_N : Nat) (x0 : Int) (x1 : Int) (x2 : Int) : Option (Bool × Unit) :=
  cond (decide (x0 ≥ x1))
    (some ((decide (x0 ≤ x2)), ()))
    (some (false, ()))
def impl_within_e (N : Nat) : Ent := { ins := [(.int .i64), (.int .i64), (.int .i64)], outs := [.val .bool], F := fun x => impl_within N x.1 x.2.1 x.2.2.1 }
def impl_within_T (_ : Nat) : Nat → List EntX := fun _ => []
def impl_within_L : Nat → List (Nat × TK) := fun _ => []
theorem impl_within_eq (N : Nat) : runF N tt (impl_within_T N) impl_within_L [(.int .i64), (.int .i64), (.int .i64)] [.val .bool] (bodyOf Try.f55) Try.f55.ntmps [6] = (impl_within_e N).F := by
  funext x
  kernel_rfl
theorem impl_within_sound (N : Nat) : SoundC Try.prog 55 (impl_within_e N) := by
  have h := runF_sound (f := 55) (code := bodyOf Try.f55) (N := N) (T := impl_within_T N) (L := impl_within_L) (ins := [(.int .i64), (.int .i64), (.int .i64)]) (outs := [.val .bool]) (res := [6]) mixed tt_ok ?_ Try.func55 (by kernel_rfl) rfl (by kernel_rfl) (by kernel_rfl) (by decide +kernel)
  · rw [impl_within_eq] at h
    exact h
  · intro f e he
    cases he

/- impl.areWithin -/
def impl_areWithin (N : Nat) (x0 : List Int) (x1 : Int) (x2 : Int) : Option (Bool × Unit) :=
  loopN (fun (s1 : Int × Unit) next2 =>
    cond (decide (s1.1 < (List.length x0 : Int)))
      (Option.bind (idx x0 s1.1) fun v3 =>
      Option.bind (impl_within N v3 x1 x2) fun r4 =>
      cond (!r4.1)
        (some (false, ()))
        (next2 ((w64 (s1.1 + 1)), ())))
      (some (true, ()))) N (0, ())
def impl_areWithin_e (N : Nat) : Ent := { ins := [(.sl (.int .i64)), (.int .i64), (.int .i64)], outs := [.val .bool], F := fun x => impl_areWithin N x.1 x.2.1 x.2.2.1 }
def impl_areWithin_T (N : Nat) : Nat → List EntX
  | 55 => [.pl (impl_within_e N)]
  | _ => []
def impl_areWithin_L : Nat → List (Nat × TK)
  | 2 => [(11, .v (.int .i64))]
  | _ => []
theorem impl_areWithin_eq (N : Nat) : runF N tt (impl_areWithin_T N) impl_areWithin_L [(.sl (.int .i64)), (.int .i64), (.int .i64)] [.val .bool] (bodyOf Try.f68) Try.f68.ntmps [6] = (impl_areWithin_e N).F := by
  funext x
  kernel_rfl
theorem impl_areWithin_sound (N : Nat) : SoundC Try.prog 68 (impl_areWithin_e N) := by
  have h := runF_sound (f := 68) (code := bodyOf Try.f68) (N := N) (T := impl_areWithin_T N) (L := impl_areWithin_L) (ins := [(.sl (.int .i64)), (.int .i64), (.int .i64)]) (outs := [.val .bool]) (res := [6]) mixed tt_ok ?_ Try.func68 (by kernel_rfl) rfl (by kernel_rfl) (by kernel_rfl) (by decide +kernel)
  · rw [impl_areWithin_eq] at h
    exact h
  · intro f e he
    unfold impl_areWithin_T at he
    split at he
    · rw [List.mem_singleton.1 he]; exact impl_within_sound N
    · cases he

/- impl.AreTasks -/
def impl_AreTasks (N : Nat) (x0 : List (Int × Int × (List Int) × List Int)) : Option (Bool × Unit) :=
  loopN (fun (s1 : Int × Unit) next2 =>
    cond (decide (s1.1 < (List.length x0 : Int)))
      (Option.bind (idx x0 s1.1) fun v3 =>
      Option.bind (impl_within N v3.1 0 100) fun r4 =>
      cond (!r4.1)
        (some (false, ()))
        (Option.bind (impl_within N v3.2.1 0 20) fun r5 =>
        cond (!r5.1)
          (some (false, ()))
          (cond ((List.length v3.2.2.1 : Int) != (List.length v3.2.2.2 : Int))
            (some (false, ()))
            (Option.bind (impl_areWithin N v3.2.2.2 (-100) 100) fun r6 =>
            cond (!r6.1)
              (some (false, ()))
              (loopN (fun (s7 : Int × Unit) next8 =>
                cond (decide (s7.1 < (List.length v3.2.2.1 : Int)))
                  (Option.bind (idx v3.2.2.1 s7.1) fun v9 =>
                  Option.bind (impl_within N v9 0 (w64 (s1.1 - 1))) fun r10 =>
                  cond (!r10.1)
                    (some (false, ()))
                    (cond (decide (s7.1 > 0))
                      (Option.bind (idx v3.2.2.1 (w64 (s7.1 - 1))) fun v11 =>
                      cond (decide (v9 ≤ v11))
                        (some (false, ()))
                        (next8 ((w64 (s7.1 + 1)), ())))
                      (next8 ((w64 (s7.1 + 1)), ()))))
                  (next2 ((w64 (s1.1 + 1)), ()))) N (0, ()))))))
      (cond (decide ((List.length x0 : Int) ≥ 1))
        (some ((decide ((List.length x0 : Int) ≤ 16)), ()))
        (some (false, ())))) N (0, ())
def impl_AreTasks_e (N : Nat) : Ent := { ins := [(.sl (.pair (.int .i64) (.pair (.int .i64) (.pair (.sl (.int .i64)) (.sl (.int .i64))))))], outs := [.val .bool], F := fun x => impl_AreTasks N x.1 }
def impl_AreTasks_T (N : Nat) : Nat → List EntX
  | 55 => [.pl (impl_within_e N)]
  | 68 => [.pl (impl_areWithin_e N)]
  | _ => []
def impl_AreTasks_L : Nat → List (Nat × TK)
  | 2 => [(9, .v (.int .i64))]
  | 7 => [(42, .v (.int .i64))]
  | _ => []
theorem impl_AreTasks_eq (N : Nat) : runF N tt (impl_AreTasks_T N) impl_AreTasks_L [(.sl (.pair (.int .i64) (.pair (.int .i64) (.pair (.sl (.int .i64)) (.sl (.int .i64))))))] [.val .bool] (bodyOf Try.f53) Try.f53.ntmps [2] = (impl_AreTasks_e N).F := by
  funext x
  kernel_rfl
theorem impl_AreTasks_sound (N : Nat) : SoundC Try.prog 53 (impl_AreTasks_e N) := by
  have h := runF_sound (f := 53) (code := bodyOf Try.f53) (N := N) (T := impl_AreTasks_T N) (L := impl_AreTasks_L) (ins := [(.sl (.pair (.int .i64) (.pair (.int .i64) (.pair (.sl (.int .i64)) (.sl (.int .i64))))))]) (outs := [.val .bool]) (res := [2]) mixed tt_ok ?_ Try.func53 (by kernel_rfl) rfl (by kernel_rfl) (by kernel_rfl) (by decide +kernel)
  · rw [impl_AreTasks_eq] at h
    exact h
  · intro f e he
    unfold impl_AreTasks_T at he
    split at he
    · rw [List.mem_singleton.1 he]; exact impl_within_sound N
    · rw [List.mem_singleton.1 he]; exact impl_areWithin_sound N
    · cases he

/- impl.earliest -/
def impl_earliest (N : Nat) (x0 : List (Int × Int × (List Int) × List Int)) (x1 : List Int) (x2 : Int) : Option (Int × Unit) :=
  Option.bind (idx x0 x2) fun v1 =>
  loopN (fun (s2 : Int × Int × Unit) next3 =>
    cond (decide (s2.2.1 < (List.length v1.2.2.1 : Int)))
      (Option.bind (idx v1.2.2.1 s2.2.1) fun v4 =>
      Option.bind (idx x1 v4) fun v5 =>
      Option.bind (idx x0 v4) fun v6 =>
      Option.bind (idx x0 x2) fun v7 =>
      Option.bind (idx v7.2.2.2 s2.2.1) fun v8 =>
      next3 ((imax s2.1 (w64 ((w64 (v5 + v6.1)) + v8))), (w64 (s2.2.1 + 1)), ()))
      (some (s2.1, ()))) N (0, 0, ())
def impl_earliest_e (N : Nat) : Ent := { ins := [(.sl (.pair (.int .i64) (.pair (.int .i64) (.pair (.sl (.int .i64)) (.sl (.int .i64)))))), (.sl (.int .i64)), (.int .i64)], outs := [.val (.int .i64)], F := fun x => impl_earliest N x.1 x.2.1 x.2.2.1 }
def impl_earliest_T (_ : Nat) : Nat → List EntX := fun _ => []
def impl_earliest_L : Nat → List (Nat × TK)
  | 3 => [(7, .v (.int .i64)), (16, .v (.int .i64))]
  | _ => []
theorem impl_earliest_eq (N : Nat) : runF N tt (impl_earliest_T N) impl_earliest_L [(.sl (.pair (.int .i64) (.pair (.int .i64) (.pair (.sl (.int .i64)) (.sl (.int .i64)))))), (.sl (.int .i64)), (.int .i64)] [.val (.int .i64)] (bodyOf Try.f67) Try.f67.ntmps [6] = (impl_earliest_e N).F := by
  funext x
  kernel_rfl
theorem impl_earliest_sound (N : Nat) : SoundC Try.prog 67 (impl_earliest_e N) := by
  have h := runF_sound (f := 67) (code := bodyOf Try.f67) (N := N) (T := impl_earliest_T N) (L := impl_earliest_L) (ins := [(.sl (.pair (.int .i64) (.pair (.int .i64) (.pair (.sl (.int .i64)) (.sl (.int .i64)))))), (.sl (.int .i64)), (.int .i64)]) (outs := [.val (.int .i64)]) (res := [6]) mixed tt_ok ?_ Try.func67 (by kernel_rfl) rfl (by kernel_rfl) (by kernel_rfl) (by decide +kernel)
  · rw [impl_earliest_eq] at h
    exact h
  · intro f e he
    cases he

/- impl.earlyStarts -/
def impl_earlyStarts (N : Nat) (x0 : List (Int × Int × (List Int) × List Int)) : Option (List (Int) × Unit) :=
  cond (mkOk (List.length x0 : Int) (List.length x0 : Int))
    (let xs1 := (List.replicate (Int.toNat (List.length x0 : Int)) (0 : Int) : List (Int))
    loopN (fun (s2 : List (Int) × Int × Unit) next3 =>
      cond (decide (s2.2.1 < (List.length x0 : Int)))
        (Option.bind (impl_earliest N x0 s2.1 s2.2.1) fun r4 =>
        cond (inB s2.2.1 (List.length s2.1))
          (let xs5 := (List.set s2.1 (Int.toNat s2.2.1) r4.1)
          next3 (xs5, (w64 (s2.2.1 + 1)), ())) none)
        (some (s2.1, ()))) N (xs1, 0, ())) none
def impl_earlyStarts_e (N : Nat) : Ent := { ins := [(.sl (.pair (.int .i64) (.pair (.int .i64) (.pair (.sl (.int .i64)) (.sl (.int .i64))))))], outs := [.own (.int .i64)], F := fun x => impl_earlyStarts N x.1 }
def impl_earlyStarts_T (N : Nat) : Nat → List EntX
  | 67 => [.pl (impl_earliest_e N)]
  | _ => []
def impl_earlyStarts_L : Nat → List (Nat × TK)
  | 3 => [(3, .own (.int .i64)), (10, .v (.int .i64))]
  | _ => []
theorem impl_earlyStarts_eq (N : Nat) : runF N tt (impl_earlyStarts_T N) impl_earlyStarts_L [(.sl (.pair (.int .i64) (.pair (.int .i64) (.pair (.sl (.int .i64)) (.sl (.int .i64))))))] [.own (.int .i64)] (bodyOf Try.f60) Try.f60.ntmps [2] = (impl_earlyStarts_e N).F := by
  funext x
  kernel_rfl
theorem impl_earlyStarts_sound (N : Nat) : SoundC Try.prog 60 (impl_earlyStarts_e N) := by
  have h := runF_sound (f := 60) (code := bodyOf Try.f60) (N := N) (T := impl_earlyStarts_T N) (L := impl_earlyStarts_L) (ins := [(.sl (.pair (.int .i64) (.pair (.int .i64) (.pair (.sl (.int .i64)) (.sl (.int .i64))))))]) (outs := [.own (.int .i64)]) (res := [2]) mixed tt_ok ?_ Try.func60 (by kernel_rfl) rfl (by kernel_rfl) (by kernel_rfl) (by decide +kernel)
  · rw [impl_earlyStarts_eq] at h
    exact h
  · intro f e he
    unfold impl_earlyStarts_T at he
    split at he
    · rw [List.mem_singleton.1 he]; exact impl_earliest_sound N
    · cases he

/- impl.lastEnd -/
def impl_lastEnd (N : Nat) (x0 : List (Int × Int × (List Int) × List Int)) (x1 : List Int) : Option (Int × Unit) :=
  loopN (fun (s1 : Int × Int × Unit) next2 =>
    cond (decide (s1.2.1 < (List.length x0 : Int)))
      (Option.bind (idx x0 s1.2.1) fun v3 =>
      Option.bind (idx x1 s1.2.1) fun v4 =>
      next2 ((imax s1.1 (w64 (v4 + v3.1))), (w64 (s1.2.1 + 1)), ()))
      (some (s1.1, ()))) N (0, 0, ())
def impl_lastEnd_e (N : Nat) : Ent := { ins := [(.sl (.pair (.int .i64) (.pair (.int .i64) (.pair (.sl (.int .i64)) (.sl (.int .i64)))))), (.sl (.int .i64))], outs := [.val (.int .i64)], F := fun x => impl_lastEnd N x.1 x.2.1 }
def impl_lastEnd_T (_ : Nat) : Nat → List EntX := fun _ => []
def impl_lastEnd_L : Nat → List (Nat × TK)
  | 3 => [(5, .v (.int .i64)), (10, .v (.int .i64))]
  | _ => []
theorem impl_lastEnd_eq (N : Nat) : runF N tt (impl_lastEnd_T N) impl_lastEnd_L [(.sl (.pair (.int .i64) (.pair (.int .i64) (.pair (.sl (.int .i64)) (.sl (.int .i64)))))), (.sl (.int .i64))] [.val (.int .i64)] (bodyOf Try.f61) Try.f61.ntmps [4] = (impl_lastEnd_e N).F := by
  funext x
  kernel_rfl
theorem impl_lastEnd_sound (N : Nat) : SoundC Try.prog 61 (impl_lastEnd_e N) := by
  have h := runF_sound (f := 61) (code := bodyOf Try.f61) (N := N) (T := impl_lastEnd_T N) (L := impl_lastEnd_L) (ins := [(.sl (.pair (.int .i64) (.pair (.int .i64) (.pair (.sl (.int .i64)) (.sl (.int .i64)))))), (.sl (.int .i64))]) (outs := [.val (.int .i64)]) (res := [4]) mixed tt_ok ?_ Try.func61 (by kernel_rfl) rfl (by kernel_rfl) (by kernel_rfl) (by decide +kernel)
  · rw [impl_lastEnd_eq] at h
    exact h
  · intro f e he
    cases he

/- slices.Index[[]int64,int64] -/
def slices_Index_int64_int64 (N : Nat) (x0 : List Int) (x1 : Int) : Option (Int × Unit) :=
  loopN (fun (s1 : Int × Unit) next2 =>
    cond (decide (s1.1 < (List.length x0 : Int)))
      (Option.bind (idx x0 s1.1) fun v3 =>
      cond (x1 == v3)
        (some (s1.1, ()))
        (next2 ((w64 (s1.1 + 1)), ())))
      (some ((-1), ()))) N (0, ())
def slices_Index_int64_int64_e (N : Nat) : Ent := { ins := [(.sl (.int .i64)), (.int .i64)], outs := [.val (.int .i64)], F := fun x => slices_Index_int64_int64 N x.1 x.2.1 }
def slices_Index_int64_int64_T (_ : Nat) : Nat → List EntX := fun _ => []
def slices_Index_int64_int64_L : Nat → List (Nat × TK)
  | 2 => [(8, .v (.int .i64))]
  | _ => []
theorem slices_Index_int64_int64_eq (N : Nat) : runF N tt (slices_Index_int64_int64_T N) slices_Index_int64_int64_L [(.sl (.int .i64)), (.int .i64)] [.val (.int .i64)] (bodyOf Try.f88) Try.f88.ntmps [4] = (slices_Index_int64_int64_e N).F := by
  funext x
  kernel_rfl
theorem slices_Index_int64_int64_sound (N : Nat) : SoundC Try.prog 88 (slices_Index_int64_int64_e N) := by
  have h := runF_sound (f := 88) (code := bodyOf Try.f88) (N := N) (T := slices_Index_int64_int64_T N) (L := slices_Index_int64_int64_L) (ins := [(.sl (.int .i64)), (.int .i64)]) (outs := [.val (.int .i64)]) (res := [4]) mixed tt_ok ?_ Try.func88 (by kernel_rfl) rfl (by kernel_rfl) (by kernel_rfl) (by decide +kernel)
  · rw [slices_Index_int64_int64_eq] at h
    exact h
  · intro f e he
    cases he

/- impl.latest -/
def impl_latest (N : Nat) (x0 : List (Int × Int × (List Int) × List Int)) (x1 : List Int) (x2 : Int) (x3 : Int) : Option (Int × Unit) :=
  Option.bind (idx x0 x2) fun v1 =>
  loopN (fun (s2 : Int × Int × Unit) next3 =>
    cond (decide (s2.2.1 < (List.length x0 : Int)))
      (Option.bind (idx x0 s2.2.1) fun v4 =>
      Option.bind (slices_Index_int64_int64 N v4.2.2.1 x2) fun r5 =>
      cond (decide (r5.1 ≥ 0))
        (Option.bind (idx x1 s2.2.1) fun v6 =>
        Option.bind (idx x0 s2.2.1) fun v7 =>
        Option.bind (idx v7.2.2.2 r5.1) fun v8 =>
        Option.bind (idx x0 x2) fun v9 =>
        next3 ((imin s2.1 (w64 ((w64 (v6 - v8)) - v9.1))), (w64 (s2.2.1 + 1)), ()))
        (next3 (s2.1, (w64 (s2.2.1 + 1)), ())))
      (some (s2.1, ()))) N ((w64 (x3 - v1.1)), (w64 (x2 + 1)), ())
def impl_latest_e (N : Nat) : Ent := { ins := [(.sl (.pair (.int .i64) (.pair (.int .i64) (.pair (.sl (.int .i64)) (.sl (.int .i64)))))), (.sl (.int .i64)), (.int .i64), (.int .i64)], outs := [.val (.int .i64)], F := fun x => impl_latest N x.1 x.2.1 x.2.2.1 x.2.2.2.1 }
def impl_latest_T (N : Nat) : Nat → List EntX
  | 88 => [.pl (slices_Index_int64_int64_e N)]
  | _ => []
def impl_latest_L : Nat → List (Nat × TK)
  | 3 => [(9, .v (.int .i64)), (10, .v (.int .i64))]
  | _ => []
theorem impl_latest_eq (N : Nat) : runF N tt (impl_latest_T N) impl_latest_L [(.sl (.pair (.int .i64) (.pair (.int .i64) (.pair (.sl (.int .i64)) (.sl (.int .i64)))))), (.sl (.int .i64)), (.int .i64), (.int .i64)] [.val (.int .i64)] (bodyOf Try.f74) Try.f74.ntmps [8] = (impl_latest_e N).F := by
  funext x
  kernel_rfl
theorem impl_latest_sound (N : Nat) : SoundC Try.prog 74 (impl_latest_e N) := by
  have h := runF_sound (f := 74) (code := bodyOf Try.f74) (N := N) (T := impl_latest_T N) (L := impl_latest_L) (ins := [(.sl (.pair (.int .i64) (.pair (.int .i64) (.pair (.sl (.int .i64)) (.sl (.int .i64)))))), (.sl (.int .i64)), (.int .i64), (.int .i64)]) (outs := [.val (.int .i64)]) (res := [8]) mixed tt_ok ?_ Try.func74 (by kernel_rfl) rfl (by kernel_rfl) (by kernel_rfl) (by decide +kernel)
  · rw [impl_latest_eq] at h
    exact h
  · intro f e he
    unfold impl_latest_T at he
    split at he
    · rw [List.mem_singleton.1 he]; exact slices_Index_int64_int64_sound N
    · cases he

/- impl.lateStarts -/
def impl_lateStarts (N : Nat) (x0 : List (Int × Int × (List Int) × List Int)) (x1 : Int) : Option (List (Int) × Unit) :=
  cond (mkOk (List.length x0 : Int) (List.length x0 : Int))
    (let xs1 := (List.replicate (Int.toNat (List.length x0 : Int)) (0 : Int) : List (Int))
    loopN (fun (s2 : List (Int) × Int × Unit) next3 =>
      cond (decide (s2.2.1 ≥ 0))
        (Option.bind (impl_latest N x0 s2.1 s2.2.1 x1) fun r4 =>
        cond (inB s2.2.1 (List.length s2.1))
          (let xs5 := (List.set s2.1 (Int.toNat s2.2.1) r4.1)
          next3 (xs5, (w64 (s2.2.1 - 1)), ())) none)
        (some (s2.1, ()))) N (xs1, (w64 ((List.length x0 : Int) - 1)), ())) none
def impl_lateStarts_e (N : Nat) : Ent := { ins := [(.sl (.pair (.int .i64) (.pair (.int .i64) (.pair (.sl (.int .i64)) (.sl (.int .i64)))))), (.int .i64)], outs := [.own (.int .i64)], F := fun x => impl_lateStarts N x.1 x.2.1 }
def impl_lateStarts_T (N : Nat) : Nat → List EntX
  | 74 => [.pl (impl_latest_e N)]
  | _ => []
def impl_lateStarts_L : Nat → List (Nat × TK)
  | 3 => [(5, .own (.int .i64)), (6, .v (.int .i64))]
  | _ => []
theorem impl_lateStarts_eq (N : Nat) : runF N tt (impl_lateStarts_T N) impl_lateStarts_L [(.sl (.pair (.int .i64) (.pair (.int .i64) (.pair (.sl (.int .i64)) (.sl (.int .i64)))))), (.int .i64)] [.own (.int .i64)] (bodyOf Try.f70) Try.f70.ntmps [4] = (impl_lateStarts_e N).F := by
  funext x
  kernel_rfl
theorem impl_lateStarts_sound (N : Nat) : SoundC Try.prog 70 (impl_lateStarts_e N) := by
  have h := runF_sound (f := 70) (code := bodyOf Try.f70) (N := N) (T := impl_lateStarts_T N) (L := impl_lateStarts_L) (ins := [(.sl (.pair (.int .i64) (.pair (.int .i64) (.pair (.sl (.int .i64)) (.sl (.int .i64)))))), (.int .i64)]) (outs := [.own (.int .i64)]) (res := [4]) mixed tt_ok ?_ Try.func70 (by kernel_rfl) rfl (by kernel_rfl) (by kernel_rfl) (by decide +kernel)
  · rw [impl_lateStarts_eq] at h
    exact h
  · intro f e he
    unfold impl_lateStarts_T at he
    split at he
    · rw [List.mem_singleton.1 he]; exact impl_latest_sound N
    · cases he

/- impl.slack -/
def impl_slack (N : Nat) (x0 : List (Int × Int × (List Int) × List Int)) : Option (List (Int) × Unit) :=
  Option.bind (impl_earlyStarts N x0) fun r1 =>
  Option.bind (impl_lastEnd N x0 r1.1) fun r2 =>
  Option.bind (impl_lateStarts N x0 r2.1) fun r3 =>
  loopN (fun (s4 : List (Int) × Int × Unit) next5 =>
    cond (decide (s4.2.1 < (List.length r3.1 : Int)))
      (cond (inB s4.2.1 (List.length s4.1))
        (Option.bind (s4.1[(Int.toNat s4.2.1)]?) fun v6 =>
        cond (inB s4.2.1 (List.length r1.1))
          (Option.bind (r1.1[(Int.toNat s4.2.1)]?) fun v7 =>
          cond (inB s4.2.1 (List.length s4.1))
            (let xs8 := (List.set s4.1 (Int.toNat s4.2.1) (w64 (v6 - v7)))
            next5 (xs8, (w64 (s4.2.1 + 1)), ())) none) none) none)
      (some (s4.1, ()))) N (r3.1, 0, ())
def impl_slack_e (N : Nat) : Ent := { ins := [(.sl (.pair (.int .i64) (.pair (.int .i64) (.pair (.sl (.int .i64)) (.sl (.int .i64))))))], outs := [.own (.int .i64)], F := fun x => impl_slack N x.1 }
def impl_slack_T (N : Nat) : Nat → List EntX
  | 60 => [.pl (impl_earlyStarts_e N)]
  | 61 => [.pl (impl_lastEnd_e N)]
  | 70 => [.pl (impl_lateStarts_e N)]
  | _ => []
def impl_slack_L : Nat → List (Nat × TK)
  | 4 => [(4, .own (.int .i64)), (15, .v (.int .i64))]
  | _ => []
theorem impl_slack_eq (N : Nat) : runF N tt (impl_slack_T N) impl_slack_L [(.sl (.pair (.int .i64) (.pair (.int .i64) (.pair (.sl (.int .i64)) (.sl (.int .i64))))))] [.own (.int .i64)] (bodyOf Try.f72) Try.f72.ntmps [2] = (impl_slack_e N).F := by
  funext x
  kernel_rfl
theorem impl_slack_sound (N : Nat) : SoundC Try.prog 72 (impl_slack_e N) := by
  have h := runF_sound (f := 72) (code := bodyOf Try.f72) (N := N) (T := impl_slack_T N) (L := impl_slack_L) (ins := [(.sl (.pair (.int .i64) (.pair (.int .i64) (.pair (.sl (.int .i64)) (.sl (.int .i64))))))]) (outs := [.own (.int .i64)]) (res := [2]) mixed tt_ok ?_ Try.func72 (by kernel_rfl) rfl (by kernel_rfl) (by kernel_rfl) (by decide +kernel)
  · rw [impl_slack_eq] at h
    exact h
  · intro f e he
    unfold impl_slack_T at he
    split at he
    · rw [List.mem_singleton.1 he]; exact impl_earlyStarts_sound N
    · rw [List.mem_singleton.1 he]; exact impl_lastEnd_sound N
    · rw [List.mem_singleton.1 he]; exact impl_lateStarts_sound N
    · cases he

/- impl.SlackOf -/
def impl_SlackOf (N : Nat) (x0 : List (Int × Int × (List Int) × List Int)) : Option (List (Int) × Bool × Unit) :=
  Option.bind (impl_AreTasks N x0) fun r1 =>
  cond (!r1.1)
    (some ([], false, ()))
    (Option.bind (impl_slack N x0) fun r2 =>
    some (r2.1, true, ()))
def impl_SlackOf_e (N : Nat) : Ent := { ins := [(.sl (.pair (.int .i64) (.pair (.int .i64) (.pair (.sl (.int .i64)) (.sl (.int .i64))))))], outs := [.own (.int .i64), .val .bool], F := fun x => impl_SlackOf N x.1 }
def impl_SlackOf_T (N : Nat) : Nat → List EntX
  | 53 => [.pl (impl_AreTasks_e N)]
  | 72 => [.pl (impl_slack_e N)]
  | _ => []
def impl_SlackOf_L : Nat → List (Nat × TK) := fun _ => []
theorem impl_SlackOf_eq (N : Nat) : runF N tt (impl_SlackOf_T N) impl_SlackOf_L [(.sl (.pair (.int .i64) (.pair (.int .i64) (.pair (.sl (.int .i64)) (.sl (.int .i64))))))] [.own (.int .i64), .val .bool] (bodyOf Try.f38) Try.f38.ntmps [2, 3] = (impl_SlackOf_e N).F := by
  funext x
  kernel_rfl
theorem impl_SlackOf_sound (N : Nat) : SoundC Try.prog 38 (impl_SlackOf_e N) := by
  have h := runF_sound (f := 38) (code := bodyOf Try.f38) (N := N) (T := impl_SlackOf_T N) (L := impl_SlackOf_L) (ins := [(.sl (.pair (.int .i64) (.pair (.int .i64) (.pair (.sl (.int .i64)) (.sl (.int .i64))))))]) (outs := [.own (.int .i64), .val .bool]) (res := [2, 3]) mixed tt_ok ?_ Try.func38 (by kernel_rfl) rfl (by kernel_rfl) (by kernel_rfl) (by decide +kernel)
  · rw [impl_SlackOf_eq] at h
    exact h
  · intro f e he
    unfold impl_SlackOf_T at he
    split at he
    · rw [List.mem_singleton.1 he]; exact impl_AreTasks_sound N
    · rw [List.mem_singleton.1 he]; exact impl_slack_sound N
    · cases he

/- laws.FnExactSlackOf -/
def laws_FnExactSlackOf (N : Nat) (x0 : List (Int × Int × (List Int) × List Int)) : Option (Bool × Unit) :=
  Option.bind (laws_szTaskS N x0 1048576) fun r1 =>
  cond (decide (r1.1 < 0))
    (some (true, ()))
    (Option.bind (laws_toTaskS N x0) fun r2 =>
    Option.bind (spec_SlackOf N r2.1) fun r3 =>
    Option.bind (laws_toTaskS N x0) fun r4 =>
    Option.bind (impl_SlackOf N r4.1) fun r5 =>
    Option.bind (laws_eqInt64S N r5.1 r3.1) fun r6 =>
    cond (!r6.1)
      (some (false, ()))
      (cond (!(r5.2.1 == r3.2.1))
        (some (false, ()))
        (Option.bind (laws_toTaskS N x0) fun r7 =>
        Option.bind (laws_eqTaskS N r4.1 r7.1) fun r8 =>
        cond (!r8.1)
          (some (false, ()))
          (Option.bind (laws_markTaskS_d r4.1 1) fun r9 =>
          cond (decide (r9 < 0))
            (some (false, ()))
            (Option.bind (laws_eqInt64S N r5.1 r3.1) fun r10 =>
            cond (!r10.1)
              (some (false, ()))
              (cond (!(r5.2.1 == r3.2.1))
                (some (false, ()))
                (Option.bind (laws_markInt64S N r5.1 1) fun r11 =>
                cond (Nat.beq (List.length r11.1) (List.length r5.1))
                  (Option.bind (laws_heldInt64S N r11.1 1) fun r12 =>
                  cond (decide (r12.1 < 0))
                    (some (false, ()))
                    (cond (r12.1 != r11.2.1)
                      (some (false, ()))
                      (Option.bind (laws_toTaskS N x0) fun r13 =>
                      Option.bind (impl_SlackOf N r13.1) fun r14 =>
                      Option.bind (laws_eqInt64S N r14.1 r3.1) fun r15 =>
                      cond (!r15.1)
                        (some (false, ()))
                        (cond (!(r14.2.1 == r3.2.1))
                          (some (false, ()))
                          (Option.bind (laws_heldInt64S N r11.1 1) fun r16 =>
                          cond (decide (r16.1 < 0))
                            (some (false, ()))
                            (cond (r16.1 != r11.2.1)
                              (some (false, ()))
                              (some (true, ())))))))) none)))))))
def laws_FnExactSlackOf_e (N : Nat) : Ent := { ins := [(.sl (.pair (.int .i64) (.pair (.int .i64) (.pair (.sl (.int .i64)) (.sl (.int .i64))))))], outs := [.val .bool], F := fun x => laws_FnExactSlackOf N x.1 }
def laws_FnExactSlackOf_T (N : Nat) : Nat → List EntX
  | 15 => [.pl (laws_szTaskS_e N)]
  | 17 => [.pl (laws_toTaskS_e N)]
  | 20 => [.pl (laws_eqTaskS_e N)]
  | 21 => [.pl (laws_eqInt64S_e N)]
  | 24 => [.dp (laws_markTaskS_d_e N)]
  | 25 => [.mu (laws_markInt64S_e N)]
  | 26 => [.pl (laws_heldInt64S_e N)]
  | 37 => [.pl (spec_SlackOf_e N)]
  | 38 => [.pl (impl_SlackOf_e N)]
  | _ => []
def laws_FnExactSlackOf_L : Nat → List (Nat × TK) := fun _ => []
theorem laws_FnExactSlackOf_eq (N : Nat) : runL N tt (laws_FnExactSlackOf_T N) laws_FnExactSlackOf_L [(.sl (.pair (.int .i64) (.pair (.int .i64) (.pair (.sl (.int .i64)) (.sl (.int .i64))))))] [.val .bool] (bodyOf Try.f10) Try.f10.ntmps [2] = (laws_FnExactSlackOf_e N).F := by
  funext x
  kernel_rfl
theorem laws_FnExactSlackOf_sound (N : Nat) : SoundC Try.prog 10 (laws_FnExactSlackOf_e N) := by
  have h := runL_sound (f := 10) (code := bodyOf Try.f10) (N := N) (T := laws_FnExactSlackOf_T N) (L := laws_FnExactSlackOf_L) (ins := [(.sl (.pair (.int .i64) (.pair (.int .i64) (.pair (.sl (.int .i64)) (.sl (.int .i64))))))]) (outs := [.val .bool]) (res := [2]) mixed tt_ok ?_ Try.func10 (by kernel_rfl) rfl (by kernel_rfl) (by kernel_rfl) (by decide +kernel)
  · rw [laws_FnExactSlackOf_eq] at h
    exact h
  · intro f e he
    unfold laws_FnExactSlackOf_T at he
    split at he
    · rw [List.mem_singleton.1 he]; exact laws_szTaskS_sound N
    · rw [List.mem_singleton.1 he]; exact laws_toTaskS_sound N
    · rw [List.mem_singleton.1 he]; exact laws_eqTaskS_sound N
    · rw [List.mem_singleton.1 he]; exact laws_eqInt64S_sound N
    · rw [List.mem_singleton.1 he]; exact laws_markTaskS_d_sound N
    · rw [List.mem_singleton.1 he]; exact laws_markInt64S_sound N
    · rw [List.mem_singleton.1 he]; exact laws_heldInt64S_sound N
    · rw [List.mem_singleton.1 he]; exact spec_SlackOf_sound N
    · rw [List.mem_singleton.1 he]; exact impl_SlackOf_sound N
    · cases he

/- spec.FreeSlackOf -/
def spec_FreeSlackOf (N : Nat) (x0 : List (Int × Int × (List Int) × List Int)) : Option (List (Int) × Bool × Unit) :=
  Option.bind (spec_l03Are N x0) fun r1 =>
  cond (!r1.1)
    (some ([], false, ()))
    (Option.bind (spec_l03Early N x0) fun r2 =>
    Option.bind (spec_l03End N x0 r2.1) fun r3 =>
    loopN (fun (s4 : List (Int) × Int × Unit) next5 =>
      cond (decide (s4.2.1 < (List.length x0 : Int)))
        (Option.bind (spec_l03Greatest N x0 r2.1 s4.2.1 r3.1) fun r6 =>
        cond (inB s4.2.1 (List.length r2.1))
          (Option.bind (r2.1[(Int.toNat s4.2.1)]?) fun v7 =>
          cond (appOk (List.length s4.1) (List.length ([(w64 (r6.1 - v7))] : List Int)))
            (let xs8 := (s4.1 ++ ([(w64 (r6.1 - v7))] : List Int))
            next5 (xs8, (w64 (s4.2.1 + 1)), ())) none) none)
        (some (s4.1, true, ()))) N (([] : List Int), 0, ()))
def spec_FreeSlackOf_e (N : Nat) : Ent := { ins := [(.sl (.pair (.int .i64) (.pair (.int .i64) (.pair (.sl (.int .i64)) (.sl (.int .i64))))))], outs := [.own (.int .i64), .val .bool], F := fun x => spec_FreeSlackOf N x.1 }
def spec_FreeSlackOf_T (N : Nat) : Nat → List EntX
  | 57 => [.pl (spec_l03Are_e N)]
  | 58 => [.pl (spec_l03Early_e N)]
  | 59 => [.pl (spec_l03End_e N)]
  | 73 => [.pl (spec_l03Greatest_e N)]
  | _ => []
def spec_FreeSlackOf_L : Nat → List (Nat × TK)
  | 7 => [(6, .own (.int .i64)), (19, .v (.int .i64))]
  | _ => []
theorem spec_FreeSlackOf_eq (N : Nat) : runF N tt (spec_FreeSlackOf_T N) spec_FreeSlackOf_L [(.sl (.pair (.int .i64) (.pair (.int .i64) (.pair (.sl (.int .i64)) (.sl (.int .i64))))))] [.own (.int .i64), .val .bool] (bodyOf Try.f39) Try.f39.ntmps [2, 3] = (spec_FreeSlackOf_e N).F := by
  funext x
  kernel_rfl
theorem spec_FreeSlackOf_sound (N : Nat) : SoundC Try.prog 39 (spec_FreeSlackOf_e N) := by
  have h := runF_sound (f := 39) (code := bodyOf Try.f39) (N := N) (T := spec_FreeSlackOf_T N) (L := spec_FreeSlackOf_L) (ins := [(.sl (.pair (.int .i64) (.pair (.int .i64) (.pair (.sl (.int .i64)) (.sl (.int .i64))))))]) (outs := [.own (.int .i64), .val .bool]) (res := [2, 3]) mixed tt_ok ?_ Try.func39 (by kernel_rfl) rfl (by kernel_rfl) (by kernel_rfl) (by decide +kernel)
  · rw [spec_FreeSlackOf_eq] at h
    exact h
  · intro f e he
    unfold spec_FreeSlackOf_T at he
    split at he
    · rw [List.mem_singleton.1 he]; exact spec_l03Are_sound N
    · rw [List.mem_singleton.1 he]; exact spec_l03Early_sound N
    · rw [List.mem_singleton.1 he]; exact spec_l03End_sound N
    · rw [List.mem_singleton.1 he]; exact spec_l03Greatest_sound N
    · cases he

/- impl.EarlyStarts -/
def impl_EarlyStarts (N : Nat) (x0 : List (Int × Int × (List Int) × List Int)) : Option (List (Int) × Int × Bool × Unit) :=
  Option.bind (impl_AreTasks N x0) fun r1 =>
  cond (!r1.1)
    (some ([], 0, false, ()))
    (Option.bind (impl_earlyStarts N x0) fun r2 =>
    Option.bind (impl_lastEnd N x0 r2.1) fun r3 =>
    some (r2.1, r3.1, true, ()))
def impl_EarlyStarts_e (N : Nat) : Ent := { ins := [(.sl (.pair (.int .i64) (.pair (.int .i64) (.pair (.sl (.int .i64)) (.sl (.int .i64))))))], outs := [.own (.int .i64), .val (.int .i64), .val .bool], F := fun x => impl_EarlyStarts N x.1 }
def impl_EarlyStarts_T (N : Nat) : Nat → List EntX
  | 53 => [.pl (impl_AreTasks_e N)]
  | 60 => [.pl (impl_earlyStarts_e N)]
  | 61 => [.pl (impl_lastEnd_e N)]
  | _ => []
def impl_EarlyStarts_L : Nat → List (Nat × TK) := fun _ => []
theorem impl_EarlyStarts_eq (N : Nat) : runF N tt (impl_EarlyStarts_T N) impl_EarlyStarts_L [(.sl (.pair (.int .i64) (.pair (.int .i64) (.pair (.sl (.int .i64)) (.sl (.int .i64))))))] [.own (.int .i64), .val (.int .i64), .val .bool] (bodyOf Try.f28) Try.f28.ntmps [2, 3, 4] = (impl_EarlyStarts_e N).F := by
  funext x
  kernel_rfl
theorem impl_EarlyStarts_sound (N : Nat) : SoundC Try.prog 28 (impl_EarlyStarts_e N) := by
  have h := runF_sound (f := 28) (code := bodyOf Try.f28) (N := N) (T := impl_EarlyStarts_T N) (L := impl_EarlyStarts_L) (ins := [(.sl (.pair (.int .i64) (.pair (.int .i64) (.pair (.sl (.int .i64)) (.sl (.int .i64))))))]) (outs := [.own (.int .i64), .val (.int .i64), .val .bool]) (res := [2, 3, 4]) mixed tt_ok ?_ Try.func28 (by kernel_rfl) rfl (by kernel_rfl) (by kernel_rfl) (by decide +kernel)
  · rw [impl_EarlyStarts_eq] at h
    exact h
  · intro f e he
    unfold impl_EarlyStarts_T at he
    split at he
    · rw [List.mem_singleton.1 he]; exact impl_AreTasks_sound N
    · rw [List.mem_singleton.1 he]; exact impl_earlyStarts_sound N
    · rw [List.mem_singleton.1 he]; exact impl_lastEnd_sound N
    · cases he

/- impl.FreeSlackOf -/
def impl_FreeSlackOf (N : Nat) (x0 : List (Int × Int × (List Int) × List Int)) : Option (List (Int) × Bool × Unit) :=
  Option.bind (impl_EarlyStarts N x0) fun r1 =>
  cond (!r1.2.2.1)
    (some ([], false, ()))
    (loopN (fun (s2 : List (Int) × Int × Unit) next3 =>
      cond (decide (s2.2.1 < (List.length x0 : Int)))
        (Option.bind (impl_latest N x0 r1.1 s2.2.1 r1.2.1) fun r4 =>
        cond (inB s2.2.1 (List.length r1.1))
          (Option.bind (r1.1[(Int.toNat s2.2.1)]?) fun v5 =>
          cond (appOk (List.length s2.1) (List.length ([(w64 (r4.1 - v5))] : List Int)))
            (let xs6 := (s2.1 ++ ([(w64 (r4.1 - v5))] : List Int))
            next3 (xs6, (w64 (s2.2.1 + 1)), ())) none) none)
        (some (s2.1, true, ()))) N (([] : List Int), 0, ()))
def impl_FreeSlackOf_e (N : Nat) : Ent := { ins := [(.sl (.pair (.int .i64) (.pair (.int .i64) (.pair (.sl (.int .i64)) (.sl (.int .i64))))))], outs := [.own (.int .i64), .val .bool], F := fun x => impl_FreeSlackOf N x.1 }
def impl_FreeSlackOf_T (N : Nat) : Nat → List EntX
  | 28 => [.pl (impl_EarlyStarts_e N)]
  | 74 => [.pl (impl_latest_e N)]
  | _ => []
def impl_FreeSlackOf_L : Nat → List (Nat × TK)
  | 6 => [(7, .own (.int .i64)), (20, .v (.int .i64))]
  | _ => []
theorem impl_FreeSlackOf_eq (N : Nat) : runF N tt (impl_FreeSlackOf_T N) impl_FreeSlackOf_L [(.sl (.pair (.int .i64) (.pair (.int .i64) (.pair (.sl (.int .i64)) (.sl (.int .i64))))))] [.own (.int .i64), .val .bool] (bodyOf Try.f40) Try.f40.ntmps [2, 3] = (impl_FreeSlackOf_e N).F := by
  funext x
  kernel_rfl
theorem impl_FreeSlackOf_sound (N : Nat) : SoundC Try.prog 40 (impl_FreeSlackOf_e N) := by
  have h := runF_sound (f := 40) (code := bodyOf Try.f40) (N := N) (T := impl_FreeSlackOf_T N) (L := impl_FreeSlackOf_L) (ins := [(.sl (.pair (.int .i64) (.pair (.int .i64) (.pair (.sl (.int .i64)) (.sl (.int .i64))))))]) (outs := [.own (.int .i64), .val .bool]) (res := [2, 3]) mixed tt_ok ?_ Try.func40 (by kernel_rfl) rfl (by kernel_rfl) (by kernel_rfl) (by decide +kernel)
  · rw [impl_FreeSlackOf_eq] at h
    exact h
  · intro f e he
    unfold impl_FreeSlackOf_T at he
    split at he
    · rw [List.mem_singleton.1 he]; exact impl_EarlyStarts_sound N
    · rw [List.mem_singleton.1 he]; exact impl_latest_sound N
    · cases he

/- laws.FnExactFreeSlackOf -/
def laws_FnExactFreeSlackOf (N : Nat) (x0 : List (Int × Int × (List Int) × List Int)) : Option (Bool × Unit) :=
  Option.bind (laws_szTaskS N x0 1048576) fun r1 =>
  cond (decide (r1.1 < 0))
    (some (true, ()))
    (Option.bind (laws_toTaskS N x0) fun r2 =>
    Option.bind (spec_FreeSlackOf N r2.1) fun r3 =>
    Option.bind (laws_toTaskS N x0) fun r4 =>
    Option.bind (impl_FreeSlackOf N r4.1) fun r5 =>
    Option.bind (laws_eqInt64S N r5.1 r3.1) fun r6 =>
    cond (!r6.1)
      (some (false, ()))
      (cond (!(r5.2.1 == r3.2.1))
        (some (false, ()))
        (Option.bind (laws_toTaskS N x0) fun r7 =>
        Option.bind (laws_eqTaskS N r4.1 r7.1) fun r8 =>
        cond (!r8.1)
          (some (false, ()))
          (Option.bind (laws_markTaskS_d r4.1 1) fun r9 =>
          cond (decide (r9 < 0))
            (some (false, ()))
            (Option.bind (laws_eqInt64S N r5.1 r3.1) fun r10 =>
            cond (!r10.1)
              (some (false, ()))
              (cond (!(r5.2.1 == r3.2.1))
                (some (false, ()))
                (Option.bind (laws_markInt64S N r5.1 1) fun r11 =>
                cond (Nat.beq (List.length r11.1) (List.length r5.1))
                  (Option.bind (laws_heldInt64S N r11.1 1) fun r12 =>
                  cond (decide (r12.1 < 0))
                    (some (false, ()))
                    (cond (r12.1 != r11.2.1)
                      (some (false, ()))
                      (Option.bind (laws_toTaskS N x0) fun r13 =>
                      Option.bind (impl_FreeSlackOf N r13.1) fun r14 =>
                      Option.bind (laws_eqInt64S N r14.1 r3.1) fun r15 =>
                      cond (!r15.1)
                        (some (false, ()))
                        (cond (!(r14.2.1 == r3.2.1))
                          (some (false, ()))
                          (Option.bind (laws_heldInt64S N r11.1 1) fun r16 =>
                          cond (decide (r16.1 < 0))
                            (some (false, ()))
                            (cond (r16.1 != r11.2.1)
                              (some (false, ()))
                              (some (true, ())))))))) none)))))))
def laws_FnExactFreeSlackOf_e (N : Nat) : Ent := { ins := [(.sl (.pair (.int .i64) (.pair (.int .i64) (.pair (.sl (.int .i64)) (.sl (.int .i64))))))], outs := [.val .bool], F := fun x => laws_FnExactFreeSlackOf N x.1 }
def laws_FnExactFreeSlackOf_T (N : Nat) : Nat → List EntX
  | 15 => [.pl (laws_szTaskS_e N)]
  | 17 => [.pl (laws_toTaskS_e N)]
  | 20 => [.pl (laws_eqTaskS_e N)]
  | 21 => [.pl (laws_eqInt64S_e N)]
  | 24 => [.dp (laws_markTaskS_d_e N)]
  | 25 => [.mu (laws_markInt64S_e N)]
  | 26 => [.pl (laws_heldInt64S_e N)]
  | 39 => [.pl (spec_FreeSlackOf_e N)]
  | 40 => [.pl (impl_FreeSlackOf_e N)]
  | _ => []
def laws_FnExactFreeSlackOf_L : Nat → List (Nat × TK) := fun _ => []
theorem laws_FnExactFreeSlackOf_eq (N : Nat) : runL N tt (laws_FnExactFreeSlackOf_T N) laws_FnExactFreeSlackOf_L [(.sl (.pair (.int .i64) (.pair (.int .i64) (.pair (.sl (.int .i64)) (.sl (.int .i64))))))] [.val .bool] (bodyOf Try.f11) Try.f11.ntmps [2] = (laws_FnExactFreeSlackOf_e N).F := by
  funext x
  kernel_rfl
theorem laws_FnExactFreeSlackOf_sound (N : Nat) : SoundC Try.prog 11 (laws_FnExactFreeSlackOf_e N) := by
  have h := runL_sound (f := 11) (code := bodyOf Try.f11) (N := N) (T := laws_FnExactFreeSlackOf_T N) (L := laws_FnExactFreeSlackOf_L) (ins := [(.sl (.pair (.int .i64) (.pair (.int .i64) (.pair (.sl (.int .i64)) (.sl (.int .i64))))))]) (outs := [.val .bool]) (res := [2]) mixed tt_ok ?_ Try.func11 (by kernel_rfl) rfl (by kernel_rfl) (by kernel_rfl) (by decide +kernel)
  · rw [laws_FnExactFreeSlackOf_eq] at h
    exact h
  · intro f e he
    unfold laws_FnExactFreeSlackOf_T at he
    split at he
    · rw [List.mem_singleton.1 he]; exact laws_szTaskS_sound N
    · rw [List.mem_singleton.1 he]; exact laws_toTaskS_sound N
    · rw [List.mem_singleton.1 he]; exact laws_eqTaskS_sound N
    · rw [List.mem_singleton.1 he]; exact laws_eqInt64S_sound N
    · rw [List.mem_singleton.1 he]; exact laws_markTaskS_d_sound N
    · rw [List.mem_singleton.1 he]; exact laws_markInt64S_sound N
    · rw [List.mem_singleton.1 he]; exact laws_heldInt64S_sound N
    · rw [List.mem_singleton.1 he]; exact spec_FreeSlackOf_sound N
    · rw [List.mem_singleton.1 he]; exact impl_FreeSlackOf_sound N
    · cases he

/- spec.l03Crew -/
def spec_l03Crew (N : Nat) (x0 : List (Int × Int × (List Int) × List Int)) (x1 : Int) : Option (Bool × Unit) :=
  Option.bind (spec_l03Are N x0) fun r1 =>
  cond (!r1.1)
    (some (false, ()))
    (Option.bind (spec_l00In N x1 0 20) fun r2 =>
    cond (!r2.1)
      (some (false, ()))
      (loopN (fun (s3 : Int × Unit) next4 =>
        cond (decide (s3.1 < (List.length x0 : Int)))
          (Option.bind (idx x0 s3.1) fun v5 =>
          cond (decide (v5.2.1 > x1))
            (some (false, ()))
            (next4 ((w64 (s3.1 + 1)), ())))
          (some (true, ()))) N (0, ())))
def spec_l03Crew_e (N : Nat) : Ent := { ins := [(.sl (.pair (.int .i64) (.pair (.int .i64) (.pair (.sl (.int .i64)) (.sl (.int .i64)))))), (.int .i64)], outs := [.val .bool], F := fun x => spec_l03Crew N x.1 x.2.1 }
def spec_l03Crew_T (N : Nat) : Nat → List EntX
  | 49 => [.pl (spec_l00In_e N)]
  | 57 => [.pl (spec_l03Are_e N)]
  | _ => []
def spec_l03Crew_L : Nat → List (Nat × TK)
  | 4 => [(16, .v (.int .i64))]
  | _ => []
theorem spec_l03Crew_eq (N : Nat) : runF N tt (spec_l03Crew_T N) spec_l03Crew_L [(.sl (.pair (.int .i64) (.pair (.int .i64) (.pair (.sl (.int .i64)) (.sl (.int .i64)))))), (.int .i64)] [.val .bool] (bodyOf Try.f79) Try.f79.ntmps [4] = (spec_l03Crew_e N).F := by
  funext x
  kernel_rfl
theorem spec_l03Crew_sound (N : Nat) : SoundC Try.prog 79 (spec_l03Crew_e N) := by
  have h := runF_sound (f := 79) (code := bodyOf Try.f79) (N := N) (T := spec_l03Crew_T N) (L := spec_l03Crew_L) (ins := [(.sl (.pair (.int .i64) (.pair (.int .i64) (.pair (.sl (.int .i64)) (.sl (.int .i64)))))), (.int .i64)]) (outs := [.val .bool]) (res := [4]) mixed tt_ok ?_ Try.func79 (by kernel_rfl) rfl (by kernel_rfl) (by kernel_rfl) (by decide +kernel)
  · rw [spec_l03Crew_eq] at h
    exact h
  · intro f e he
    unfold spec_l03Crew_T at he
    split at he
    · rw [List.mem_singleton.1 he]; exact spec_l00In_sound N
    · rw [List.mem_singleton.1 he]; exact spec_l03Are_sound N
    · cases he

/- spec.PlanBound -/
def spec_PlanBound (N : Nat) (x0 : List (Int × Int × (List Int) × List Int)) (x1 : Int) : Option (Int × Bool × Unit) :=
  Option.bind (spec_l03Crew N x0 x1) fun r1 =>
  cond (!r1.1)
    (some (0, false, ()))
    (cond (decide (x1 < 1))
      (some (0, false, ()))
      (loopN (fun (s2 : Int × Int × Unit) next3 =>
        cond (decide (s2.2.1 < (List.length x0 : Int)))
          (Option.bind (idx x0 s2.2.1) fun v4 =>
          Option.bind (idx x0 s2.2.1) fun v5 =>
          Option.bind (idx x0 s2.2.1) fun v6 =>
          loopN (fun (s7 : Int × Unit) next8 =>
            cond (decide (s7.1 < (List.length v6.2.2.2 : Int)))
              (Option.bind (idx x0 s2.2.1) fun v9 =>
              Option.bind (idx v9.2.2.2 s7.1) fun v10 =>
              cond (decide (v10 < 0))
                (some (0, false, ()))
                (next8 ((w64 (s7.1 + 1)), ())))
              (next3 ((w64 (s2.1 + (w64 (v4.1 * v5.2.1)))), (w64 (s2.2.1 + 1)), ()))) N (0, ()))
          (Option.bind (spec_l03Early N x0) fun r11 =>
          Option.bind (spec_l03End N x0 r11.1) fun r12 =>
          cond (x1 == 0) none
            (Option.bind (spec_l00Max N r12.1 (w64 (Int.tdiv (w64 ((w64 (s2.1 + x1)) - 1)) x1))) fun r13 =>
            some (r13.1, true, ())))) N (0, 0, ())))
def spec_PlanBound_e (N : Nat) : Ent := { ins := [(.sl (.pair (.int .i64) (.pair (.int .i64) (.pair (.sl (.int .i64)) (.sl (.int .i64)))))), (.int .i64)], outs := [.val (.int .i64), .val .bool], F := fun x => spec_PlanBound N x.1 x.2.1 }
def spec_PlanBound_T (N : Nat) : Nat → List EntX
  | 50 => [.pl (spec_l00Max_e N)]
  | 58 => [.pl (spec_l03Early_e N)]
  | 59 => [.pl (spec_l03End_e N)]
  | 79 => [.pl (spec_l03Crew_e N)]
  | _ => []
def spec_PlanBound_L : Nat → List (Nat × TK)
  | 5 => [(6, .v (.int .i64)), (19, .v (.int .i64))]
  | 9 => [(41, .v (.int .i64))]
  | _ => []
theorem spec_PlanBound_eq (N : Nat) : runF N tt (spec_PlanBound_T N) spec_PlanBound_L [(.sl (.pair (.int .i64) (.pair (.int .i64) (.pair (.sl (.int .i64)) (.sl (.int .i64)))))), (.int .i64)] [.val (.int .i64), .val .bool] (bodyOf Try.f43) Try.f43.ntmps [4, 5] = (spec_PlanBound_e N).F := by
  funext x
  kernel_rfl
theorem spec_PlanBound_sound (N : Nat) : SoundC Try.prog 43 (spec_PlanBound_e N) := by
  have h := runF_sound (f := 43) (code := bodyOf Try.f43) (N := N) (T := spec_PlanBound_T N) (L := spec_PlanBound_L) (ins := [(.sl (.pair (.int .i64) (.pair (.int .i64) (.pair (.sl (.int .i64)) (.sl (.int .i64)))))), (.int .i64)]) (outs := [.val (.int .i64), .val .bool]) (res := [4, 5]) mixed tt_ok ?_ Try.func43 (by kernel_rfl) rfl (by kernel_rfl) (by kernel_rfl) (by decide +kernel)
  · rw [spec_PlanBound_eq] at h
    exact h
  · intro f e he
    unfold spec_PlanBound_T at he
    split at he
    · rw [List.mem_singleton.1 he]; exact spec_l00Max_sound N
    · rw [List.mem_singleton.1 he]; exact spec_l03Early_sound N
    · rw [List.mem_singleton.1 he]; exact spec_l03End_sound N
    · rw [List.mem_singleton.1 he]; exact spec_l03Crew_sound N
    · cases he

/- impl.PlanBound$1 -/
def impl_PlanBound_1 (_N : Nat) (x0 : Int) : Option (Bool × Unit) :=
  some ((decide (x0 < 0)), ())
def impl_PlanBound_1_e (N : Nat) : Ent := { ins := [(.int .i64)], outs := [.val .bool], F := fun x => impl_PlanBound_1 N x.1 }
def impl_PlanBound_1_T (_ : Nat) : Nat → List EntX := fun _ => []
def impl_PlanBound_1_L : Nat → List (Nat × TK) := fun _ => []
theorem impl_PlanBound_1_eq (N : Nat) : runF N tt (impl_PlanBound_1_T N) impl_PlanBound_1_L [(.int .i64)] [.val .bool] (bodyOf Try.f81) Try.f81.ntmps [2] = (impl_PlanBound_1_e N).F := by
  funext x
  kernel_rfl
theorem impl_PlanBound_1_sound (N : Nat) : SoundC Try.prog 81 (impl_PlanBound_1_e N) := by
  have h := runF_sound (f := 81) (code := bodyOf Try.f81) (N := N) (T := impl_PlanBound_1_T N) (L := impl_PlanBound_1_L) (ins := [(.int .i64)]) (outs := [.val .bool]) (res := [2]) mixed tt_ok ?_ Try.func81 (by kernel_rfl) rfl (by kernel_rfl) (by kernel_rfl) (by decide +kernel)
  · rw [impl_PlanBound_1_eq] at h
    exact h
  · intro f e he
    cases he

/- impl.upward -/
def impl_upward (_N : Nat) (x0 : Int) (x1 : Int) : Option (Int × Unit) :=
  cond (x1 == 0) none
    (some ((w64 (Int.tdiv (w64 ((w64 (x0 + x1)) - 1)) x1)), ()))
def impl_upward_e (N : Nat) : Ent := { ins := [(.int .i64), (.int .i64)], outs := [.val (.int .i64)], F := fun x => impl_upward N x.1 x.2.1 }
def impl_upward_T (_ : Nat) : Nat → List EntX := fun _ => []
def impl_upward_L : Nat → List (Nat × TK) := fun _ => []
theorem impl_upward_eq (N : Nat) : runF N tt (impl_upward_T N) impl_upward_L [(.int .i64), (.int .i64)] [.val (.int .i64)] (bodyOf Try.f82) Try.f82.ntmps [4] = (impl_upward_e N).F := by
  funext x
  kernel_rfl
theorem impl_upward_sound (N : Nat) : SoundC Try.prog 82 (impl_upward_e N) := by
  have h := runF_sound (f := 82) (code := bodyOf Try.f82) (N := N) (T := impl_upward_T N) (L := impl_upward_L) (ins := [(.int .i64), (.int .i64)]) (outs := [.val (.int .i64)]) (res := [4]) mixed tt_ok ?_ Try.func82 (by kernel_rfl) rfl (by kernel_rfl) (by kernel_rfl) (by decide +kernel)
  · rw [impl_upward_eq] at h
    exact h
  · intro f e he
    cases he

/- slices.IndexFunc[[]int64,int64] -/
def slices_IndexFunc_int64_int64_impl_PlanBound_1 (N : Nat) (x0 : List Int) (x1 : Unit) : Option (Int × Unit) :=
  loopN (fun (s1 : Int × Unit) next2 =>
    cond (decide (s1.1 < (List.length x0 : Int)))
      (Option.bind (idx x0 s1.1) fun v3 =>
      Option.bind (impl_PlanBound_1 N v3) fun r4 =>
      cond r4.1
        (some (s1.1, ()))
        (next2 ((w64 (s1.1 + 1)), ())))
      (some ((-1), ()))) N (0, ())
def slices_IndexFunc_int64_int64_impl_PlanBound_1_e (N : Nat) : Ent := { ins := [(.sl (.int .i64)), (.clo 81 .un)], outs := [.val (.int .i64)], F := fun x => slices_IndexFunc_int64_int64_impl_PlanBound_1 N x.1 x.2.1 }
def slices_IndexFunc_int64_int64_impl_PlanBound_1_T (N : Nat) : Nat → List EntX
  | 81 => [.pl (impl_PlanBound_1_e N)]
  | _ => []
def slices_IndexFunc_int64_int64_impl_PlanBound_1_L : Nat → List (Nat × TK)
  | 2 => [(8, .v (.int .i64))]
  | _ => []
theorem slices_IndexFunc_int64_int64_impl_PlanBound_1_eq (N : Nat) : runF N tt (slices_IndexFunc_int64_int64_impl_PlanBound_1_T N) slices_IndexFunc_int64_int64_impl_PlanBound_1_L [(.sl (.int .i64)), (.clo 81 .un)] [.val (.int .i64)] (bodyOf Try.f75) Try.f75.ntmps [4] = (slices_IndexFunc_int64_int64_impl_PlanBound_1_e N).F := by
  funext x
  kernel_rfl
theorem slices_IndexFunc_int64_int64_impl_PlanBound_1_sound (N : Nat) : SoundC Try.prog 75 (slices_IndexFunc_int64_int64_impl_PlanBound_1_e N) := by
  have h := runF_sound (f := 75) (code := bodyOf Try.f75) (N := N) (T := slices_IndexFunc_int64_int64_impl_PlanBound_1_T N) (L := slices_IndexFunc_int64_int64_impl_PlanBound_1_L) (ins := [(.sl (.int .i64)), (.clo 81 .un)]) (outs := [.val (.int .i64)]) (res := [4]) mixed tt_ok ?_ Try.func75 (by kernel_rfl) rfl (by kernel_rfl) (by kernel_rfl) (by decide +kernel)
  · rw [slices_IndexFunc_int64_int64_impl_PlanBound_1_eq] at h
    exact h
  · intro f e he
    unfold slices_IndexFunc_int64_int64_impl_PlanBound_1_T at he
    split at he
    · rw [List.mem_singleton.1 he]; exact impl_PlanBound_1_sound N
    · cases he

/- slices.ContainsFunc[[]int64,int64] -/
def slices_ContainsFunc_int64_int64_impl_PlanBound_1 (N : Nat) (x0 : List Int) (x1 : Unit) : Option (Bool × Unit) :=
  Option.bind (slices_IndexFunc_int64_int64_impl_PlanBound_1 N x0 x1) fun r1 =>
  some ((decide (r1.1 ≥ 0)), ())
def slices_ContainsFunc_int64_int64_impl_PlanBound_1_e (N : Nat) : Ent := { ins := [(.sl (.int .i64)), (.clo 81 .un)], outs := [.val .bool], F := fun x => slices_ContainsFunc_int64_int64_impl_PlanBound_1 N x.1 x.2.1 }
def slices_ContainsFunc_int64_int64_impl_PlanBound_1_T (N : Nat) : Nat → List EntX
  | 75 => [.pl (slices_IndexFunc_int64_int64_impl_PlanBound_1_e N)]
  | _ => []
def slices_ContainsFunc_int64_int64_impl_PlanBound_1_L : Nat → List (Nat × TK) := fun _ => []
theorem slices_ContainsFunc_int64_int64_impl_PlanBound_1_eq (N : Nat) : runF N tt (slices_ContainsFunc_int64_int64_impl_PlanBound_1_T N) slices_ContainsFunc_int64_int64_impl_PlanBound_1_L [(.sl (.int .i64)), (.clo 81 .un)] [.val .bool] (bodyOf Try.f80) Try.f80.ntmps [4] = (slices_ContainsFunc_int64_int64_impl_PlanBound_1_e N).F := by
  funext x
  kernel_rfl
theorem slices_ContainsFunc_int64_int64_impl_PlanBound_1_sound (N : Nat) : SoundC Try.prog 80 (slices_ContainsFunc_int64_int64_impl_PlanBound_1_e N) := by
  have h := runF_sound (f := 80) (code := bodyOf Try.f80) (N := N) (T := slices_ContainsFunc_int64_int64_impl_PlanBound_1_T N) (L := slices_ContainsFunc_int64_int64_impl_PlanBound_1_L) (ins := [(.sl (.int .i64)), (.clo 81 .un)]) (outs := [.val .bool]) (res := [4]) mixed tt_ok ?_ Try.func80 (by kernel_rfl) rfl (by kernel_rfl) (by kernel_rfl) (by decide +kernel)
  · rw [slices_ContainsFunc_int64_int64_impl_PlanBound_1_eq] at h
    exact h
  · intro f e he
    unfold slices_ContainsFunc_int64_int64_impl_PlanBound_1_T at he
    split at he
    · rw [List.mem_singleton.1 he]; exact slices_IndexFunc_int64_int64_impl_PlanBound_1_sound N
    · cases he

/- impl.PlanBound -/
def impl_PlanBound (N : Nat) (x0 : List (Int × Int × (List Int) × List Int)) (x1 : Int) : Option (Int × Bool × Unit) :=
  Option.bind (impl_EarlyStarts N x0) fun r1 =>
  cond (!r1.2.2.1)
    (some (0, false, ()))
    (Option.bind (impl_within N x1 1 20) fun r2 =>
    cond (!r2.1)
      (some (0, false, ()))
      (loopN (fun (s3 : Int × Int × Unit) next4 =>
        cond (decide (s3.2.1 < (List.length x0 : Int)))
          (Option.bind (idx x0 s3.2.1) fun v5 =>
          cond (decide (v5.2.1 > x1))
            (some (0, false, ()))
            (Option.bind (slices_ContainsFunc_int64_int64_impl_PlanBound_1 N v5.2.2.2 ()) fun r6 =>
            cond r6.1
              (some (0, false, ()))
              (next4 ((w64 (s3.1 + (w64 (v5.1 * v5.2.1)))), (w64 (s3.2.1 + 1)), ()))))
          (Option.bind (impl_upward N s3.1 x1) fun r7 =>
          some ((imax r1.2.1 r7.1), true, ()))) N (0, 0, ())))
def impl_PlanBound_e (N : Nat) : Ent := { ins := [(.sl (.pair (.int .i64) (.pair (.int .i64) (.pair (.sl (.int .i64)) (.sl (.int .i64)))))), (.int .i64)], outs := [.val (.int .i64), .val .bool], F := fun x => impl_PlanBound N x.1 x.2.1 }
def impl_PlanBound_T (N : Nat) : Nat → List EntX
  | 28 => [.pl (impl_EarlyStarts_e N)]
  | 55 => [.pl (impl_within_e N)]
  | 80 => [.pl (slices_ContainsFunc_int64_int64_impl_PlanBound_1_e N)]
  | 82 => [.pl (impl_upward_e N)]
  | _ => []
def impl_PlanBound_L : Nat → List (Nat × TK)
  | 6 => [(9, .v (.int .i64)), (27, .v (.int .i64))]
  | _ => []
theorem impl_PlanBound_eq (N : Nat) : runF N tt (impl_PlanBound_T N) impl_PlanBound_L [(.sl (.pair (.int .i64) (.pair (.int .i64) (.pair (.sl (.int .i64)) (.sl (.int .i64)))))), (.int .i64)] [.val (.int .i64), .val .bool] (bodyOf Try.f44) Try.f44.ntmps [4, 5] = (impl_PlanBound_e N).F := by
  funext x
  kernel_rfl
theorem impl_PlanBound_sound (N : Nat) : SoundC Try.prog 44 (impl_PlanBound_e N) := by
  have h := runF_sound (f := 44) (code := bodyOf Try.f44) (N := N) (T := impl_PlanBound_T N) (L := impl_PlanBound_L) (ins := [(.sl (.pair (.int .i64) (.pair (.int .i64) (.pair (.sl (.int .i64)) (.sl (.int .i64)))))), (.int .i64)]) (outs := [.val (.int .i64), .val .bool]) (res := [4, 5]) mixed tt_ok ?_ Try.func44 (by kernel_rfl) rfl (by kernel_rfl) (by kernel_rfl) (by decide +kernel)
  · rw [impl_PlanBound_eq] at h
    exact h
  · intro f e he
    unfold impl_PlanBound_T at he
    split at he
    · rw [List.mem_singleton.1 he]; exact impl_EarlyStarts_sound N
    · rw [List.mem_singleton.1 he]; exact impl_within_sound N
    · rw [List.mem_singleton.1 he]; exact slices_ContainsFunc_int64_int64_impl_PlanBound_1_sound N
    · rw [List.mem_singleton.1 he]; exact impl_upward_sound N
    · cases he

/- laws.FnExactPlanBound -/
def laws_FnExactPlanBound (N : Nat) (x0 : List (Int × Int × (List Int) × List Int)) (x1 : Int) : Option (Bool × Unit) :=
  Option.bind (laws_szTaskS N x0 1048576) fun r1 =>
  cond (decide (r1.1 < 0))
    (some (true, ()))
    (Option.bind (laws_toTaskS N x0) fun r2 =>
    Option.bind (spec_PlanBound N r2.1 x1) fun r3 =>
    Option.bind (laws_toTaskS N x0) fun r4 =>
    Option.bind (impl_PlanBound N r4.1 x1) fun r5 =>
    cond (r5.1 != r3.1)
      (some (false, ()))
      (cond (!(r5.2.1 == r3.2.1))
        (some (false, ()))
        (Option.bind (laws_toTaskS N x0) fun r6 =>
        Option.bind (laws_eqTaskS N r4.1 r6.1) fun r7 =>
        cond (!r7.1)
          (some (false, ()))
          (some (true, ())))))
def laws_FnExactPlanBound_e (N : Nat) : Ent := { ins := [(.sl (.pair (.int .i64) (.pair (.int .i64) (.pair (.sl (.int .i64)) (.sl (.int .i64)))))), (.int .i64)], outs := [.val .bool], F := fun x => laws_FnExactPlanBound N x.1 x.2.1 }
def laws_FnExactPlanBound_T (N : Nat) : Nat → List EntX
  | 15 => [.pl (laws_szTaskS_e N)]
  | 17 => [.pl (laws_toTaskS_e N)]
  | 20 => [.pl (laws_eqTaskS_e N)]
  | 43 => [.pl (spec_PlanBound_e N)]
  | 44 => [.pl (impl_PlanBound_e N)]
  | _ => []
def laws_FnExactPlanBound_L : Nat → List (Nat × TK) := fun _ => []
theorem laws_FnExactPlanBound_eq (N : Nat) : runF N tt (laws_FnExactPlanBound_T N) laws_FnExactPlanBound_L [(.sl (.pair (.int .i64) (.pair (.int .i64) (.pair (.sl (.int .i64)) (.sl (.int .i64)))))), (.int .i64)] [.val .bool] (bodyOf Try.f13) Try.f13.ntmps [4] = (laws_FnExactPlanBound_e N).F := by
  funext x
  kernel_rfl
theorem laws_FnExactPlanBound_sound (N : Nat) : SoundC Try.prog 13 (laws_FnExactPlanBound_e N) := by
  have h := runF_sound (f := 13) (code := bodyOf Try.f13) (N := N) (T := laws_FnExactPlanBound_T N) (L := laws_FnExactPlanBound_L) (ins := [(.sl (.pair (.int .i64) (.pair (.int .i64) (.pair (.sl (.int .i64)) (.sl (.int .i64)))))), (.int .i64)]) (outs := [.val .bool]) (res := [4]) mixed tt_ok ?_ Try.func13 (by kernel_rfl) rfl (by kernel_rfl) (by kernel_rfl) (by decide +kernel)
  · rw [laws_FnExactPlanBound_eq] at h
    exact h
  · intro f e he
    unfold laws_FnExactPlanBound_T at he
    split at he
    · rw [List.mem_singleton.1 he]; exact laws_szTaskS_sound N
    · rw [List.mem_singleton.1 he]; exact laws_toTaskS_sound N
    · rw [List.mem_singleton.1 he]; exact laws_eqTaskS_sound N
    · rw [List.mem_singleton.1 he]; exact spec_PlanBound_sound N
    · rw [List.mem_singleton.1 he]; exact impl_PlanBound_sound N
    · cases he

/- spec.l03Use -/
def spec_l03Use (N : Nat) (x0 : List (Int × Int × (List Int) × List Int)) (x1 : List Int) : Option (List (Int) × Unit) :=
  Option.bind (spec_l03End N x0 x1) fun r1 =>
  cond (mkOk r1.1 r1.1)
    (let xs2 := (List.replicate (Int.toNat r1.1) (0 : Int) : List (Int))
    loopN (fun (s3 : List (Int) × Int × Unit) next4 =>
      cond (decide (s3.2.1 < (List.length x0 : Int)))
        (Option.bind (idx x1 s3.2.1) fun v5 =>
        loopN (fun (s6 : List (Int) × Int × Unit) next7 =>
          Option.bind (idx x1 s3.2.1) fun v8 =>
          Option.bind (idx x0 s3.2.1) fun v9 =>
          cond (decide (s6.2.1 < (w64 (v8 + v9.1))))
            (cond (inB s6.2.1 (List.length s6.1))
              (Option.bind (s6.1[(Int.toNat s6.2.1)]?) fun v10 =>
              Option.bind (idx x0 s3.2.1) fun v11 =>
              cond (inB s6.2.1 (List.length s6.1))
                (let xs12 := (List.set s6.1 (Int.toNat s6.2.1) (w64 (v10 + v11.2.1)))
                next7 (xs12, (w64 (s6.2.1 + 1)), ())) none) none)
            (next4 (s6.1, (w64 (s3.2.1 + 1)), ()))) N (s3.1, v5, ()))
        (some (s3.1, ()))) N (xs2, 0, ())) none
def spec_l03Use_e (N : Nat) : Ent := { ins := [(.sl (.pair (.int .i64) (.pair (.int .i64) (.pair (.sl (.int .i64)) (.sl (.int .i64)))))), (.sl (.int .i64))], outs := [.own (.int .i64)], F := fun x => spec_l03Use N x.1 x.2.1 }
def spec_l03Use_T (N : Nat) : Nat → List EntX
  | 59 => [.pl (spec_l03End_e N)]
  | _ => []
def spec_l03Use_L : Nat → List (Nat × TK)
  | 3 => [(5, .own (.int .i64)), (14, .v (.int .i64))]
  | 6 => [(5, .own (.int .i64)), (7, .v (.int .i64))]
  | _ => []
theorem spec_l03Use_eq (N : Nat) : runF N tt (spec_l03Use_T N) spec_l03Use_L [(.sl (.pair (.int .i64) (.pair (.int .i64) (.pair (.sl (.int .i64)) (.sl (.int .i64)))))), (.sl (.int .i64))] [.own (.int .i64)] (bodyOf Try.f62) Try.f62.ntmps [4] = (spec_l03Use_e N).F := by
  funext x
  kernel_rfl
theorem spec_l03Use_sound (N : Nat) : SoundC Try.prog 62 (spec_l03Use_e N) := by
  have h := runF_sound (f := 62) (code := bodyOf Try.f62) (N := N) (T := spec_l03Use_T N) (L := spec_l03Use_L) (ins := [(.sl (.pair (.int .i64) (.pair (.int .i64) (.pair (.sl (.int .i64)) (.sl (.int .i64)))))), (.sl (.int .i64))]) (outs := [.own (.int .i64)]) (res := [4]) mixed tt_ok ?_ Try.func62 (by kernel_rfl) rfl (by kernel_rfl) (by kernel_rfl) (by decide +kernel)
  · rw [spec_l03Use_eq] at h
    exact h
  · intro f e he
    unfold spec_l03Use_T at he
    split at he
    · rw [List.mem_singleton.1 he]; exact spec_l03End_sound N
    · cases he

/- spec.l03Squares -/
def spec_l03Squares (N : Nat) (x0 : List (Int × Int × (List Int) × List Int)) (x1 : List Int) : Option (Int × Unit) :=
  Option.bind (spec_l03Use N x0 x1) fun r1 =>
  loopN (fun (s2 : Int × Int × Unit) next3 =>
    cond (decide (s2.2.1 < (List.length r1.1 : Int)))
      (cond (inB s2.2.1 (List.length r1.1))
        (Option.bind (r1.1[(Int.toNat s2.2.1)]?) fun v4 =>
        cond (inB s2.2.1 (List.length r1.1))
          (Option.bind (r1.1[(Int.toNat s2.2.1)]?) fun v5 =>
          next3 ((w64 (s2.1 + (w64 (v4 * v5)))), (w64 (s2.2.1 + 1)), ())) none) none)
      (some (s2.1, ()))) N (0, 0, ())
def spec_l03Squares_e (N : Nat) : Ent := { ins := [(.sl (.pair (.int .i64) (.pair (.int .i64) (.pair (.sl (.int .i64)) (.sl (.int .i64)))))), (.sl (.int .i64))], outs := [.val (.int .i64)], F := fun x => spec_l03Squares N x.1 x.2.1 }
def spec_l03Squares_T (N : Nat) : Nat → List EntX
  | 62 => [.pl (spec_l03Use_e N)]
  | _ => []
def spec_l03Squares_L : Nat → List (Nat × TK)
  | 4 => [(6, .v (.int .i64)), (13, .v (.int .i64))]
  | _ => []
theorem spec_l03Squares_eq (N : Nat) : runF N tt (spec_l03Squares_T N) spec_l03Squares_L [(.sl (.pair (.int .i64) (.pair (.int .i64) (.pair (.sl (.int .i64)) (.sl (.int .i64)))))), (.sl (.int .i64))] [.val (.int .i64)] (bodyOf Try.f83) Try.f83.ntmps [4] = (spec_l03Squares_e N).F := by
  funext x
  kernel_rfl
theorem spec_l03Squares_sound (N : Nat) : SoundC Try.prog 83 (spec_l03Squares_e N) := by
  have h := runF_sound (f := 83) (code := bodyOf Try.f83) (N := N) (T := spec_l03Squares_T N) (L := spec_l03Squares_L) (ins := [(.sl (.pair (.int .i64) (.pair (.int .i64) (.pair (.sl (.int .i64)) (.sl (.int .i64)))))), (.sl (.int .i64))]) (outs := [.val (.int .i64)]) (res := [4]) mixed tt_ok ?_ Try.func83 (by kernel_rfl) rfl (by kernel_rfl) (by kernel_rfl) (by decide +kernel)
  · rw [spec_l03Squares_eq] at h
    exact h
  · intro f e he
    unfold spec_l03Squares_T at he
    split at he
    · rw [List.mem_singleton.1 he]; exact spec_l03Use_sound N
    · cases he

/- spec.LevelPlan -/
def spec_LevelPlan (N : Nat) (x0 : List (Int × Int × (List Int) × List Int)) (x1 : Int) (x2 : Int) : Option (List (Int) × Int × Bool × Unit) :=
  Option.bind (spec_l03Are N x0) fun r1 =>
  cond (!r1.1)
    (some ([], 0, false, ()))
    (Option.bind (spec_l00In N x1 0 400) fun r2 =>
    cond (!r2.1)
      (some ([], 0, false, ()))
      (Option.bind (spec_l00In N x2 0 8) fun r3 =>
      cond (!r3.1)
        (some ([], 0, false, ()))
        (Option.bind (spec_l03Early N x0) fun r4 =>
        Option.bind (spec_l03End N x0 r4.1) fun r5 =>
        cond (decide (r5.1 > x1))
          (some ([], 0, false, ()))
          (loopN (fun (s6 : Int × List (Int) × Unit) next7 =>
            cond (decide (s6.1 > 0))
              (loopN (fun (s8 : List (Int) × Int × Unit) next9 =>
                cond (decide (s8.2.1 ≥ 0))
                  (Option.bind (spec_l03Least N x0 s8.1 s8.2.1) fun r10 =>
                  Option.bind (spec_l03Greatest N x0 s8.1 s8.2.1 x1) fun r11 =>
                  cond (inB s8.2.1 (List.length s8.1))
                    (Option.bind (s8.1[(Int.toNat s8.2.1)]?) fun v12 =>
                    loopN (fun (s13 : List (Int) × Int × Int × Int × Unit) next14 =>
                      cond (decide (s13.2.2.2.1 ≤ r11.1))
                        (cond (inB s8.2.1 (List.length s13.1))
                          (let xs15 := (List.set s13.1 (Int.toNat s8.2.1) s13.2.2.2.1)
                          Option.bind (spec_l03Squares N x0 xs15) fun r16 =>
                          cond (decide (s13.2.2.1 < 0))
                            (next14 (xs15, s13.2.2.2.1, r16.1, (w64 (s13.2.2.2.1 + 1)), ()))
                            (cond (decide (r16.1 ≤ s13.2.2.1))
                              (next14 (xs15, s13.2.2.2.1, r16.1, (w64 (s13.2.2.2.1 + 1)), ()))
                              (next14 (xs15, s13.2.1, s13.2.2.1, (w64 (s13.2.2.2.1 + 1)), ())))) none)
                        (cond (inB s8.2.1 (List.length s13.1))
                          (let xs17 := (List.set s13.1 (Int.toNat s8.2.1) s13.2.1)
                          next9 (xs17, (w64 (s8.2.1 - 1)), ())) none)) N (s8.1, v12, (-1), r10.1, ())) none)
                  (next7 ((w64 (s6.1 - 1)), s8.1, ()))) N (s6.2.1, (w64 ((List.length x0 : Int) - 1)), ()))
              (Option.bind (spec_l03Squares N x0 s6.2.1) fun r18 =>
              some (s6.2.1, r18.1, true, ()))) N (x2, r4.1, ())))))
def spec_LevelPlan_e (N : Nat) : Ent := { ins := [(.sl (.pair (.int .i64) (.pair (.int .i64) (.pair (.sl (.int .i64)) (.sl (.int .i64)))))), (.int .i64), (.int .i64)], outs := [.own (.int .i64), .val (.int .i64), .val .bool], F := fun x => spec_LevelPlan N x.1 x.2.1 x.2.2.1 }
def spec_LevelPlan_T (N : Nat) : Nat → List EntX
  | 49 => [.pl (spec_l00In_e N)]
  | 57 => [.pl (spec_l03Are_e N)]
  | 58 => [.pl (spec_l03Early_e N)]
  | 59 => [.pl (spec_l03End_e N)]
  | 65 => [.pl (spec_l03Least_e N)]
  | 73 => [.pl (spec_l03Greatest_e N)]
  | 83 => [.pl (spec_l03Squares_e N)]
  | _ => []
def spec_LevelPlan_L : Nat → List (Nat × TK)
  | 6 => [(2, .v (.int .i64)), (9, .own (.int .i64))]
  | 9 => [(9, .own (.int .i64)), (10, .v (.int .i64))]
  | 16 => [(9, .own (.int .i64)), (13, .v (.int .i64)), (14, .v (.int .i64)), (15, .v (.int .i64))]
  | _ => []
theorem spec_LevelPlan_eq (N : Nat) : runF N tt (spec_LevelPlan_T N) spec_LevelPlan_L [(.sl (.pair (.int .i64) (.pair (.int .i64) (.pair (.sl (.int .i64)) (.sl (.int .i64)))))), (.int .i64), (.int .i64)] [.own (.int .i64), .val (.int .i64), .val .bool] (bodyOf Try.f45) Try.f45.ntmps [6, 7, 8] = (spec_LevelPlan_e N).F := by
  funext x
  kernel_rfl
theorem spec_LevelPlan_sound (N : Nat) : SoundC Try.prog 45 (spec_LevelPlan_e N) := by
  have h := runF_sound (f := 45) (code := bodyOf Try.f45) (N := N) (T := spec_LevelPlan_T N) (L := spec_LevelPlan_L) (ins := [(.sl (.pair (.int .i64) (.pair (.int .i64) (.pair (.sl (.int .i64)) (.sl (.int .i64)))))), (.int .i64), (.int .i64)]) (outs := [.own (.int .i64), .val (.int .i64), .val .bool]) (res := [6, 7, 8]) mixed tt_ok ?_ Try.func45 (by kernel_rfl) rfl (by kernel_rfl) (by kernel_rfl) (by decide +kernel)
  · rw [spec_LevelPlan_eq] at h
    exact h
  · intro f e he
    unfold spec_LevelPlan_T at he
    split at he
    · rw [List.mem_singleton.1 he]; exact spec_l00In_sound N
    · rw [List.mem_singleton.1 he]; exact spec_l03Are_sound N
    · rw [List.mem_singleton.1 he]; exact spec_l03Early_sound N
    · rw [List.mem_singleton.1 he]; exact spec_l03End_sound N
    · rw [List.mem_singleton.1 he]; exact spec_l03Least_sound N
    · rw [List.mem_singleton.1 he]; exact spec_l03Greatest_sound N
    · rw [List.mem_singleton.1 he]; exact spec_l03Squares_sound N
    · cases he

/- impl.crewUse -/
def impl_crewUse (N : Nat) (x0 : List (Int × Int × (List Int) × List Int)) (x1 : List Int) : Option (List (Int) × Unit) :=
  Option.bind (impl_lastEnd N x0 x1) fun r1 =>
  cond (mkOk r1.1 r1.1)
    (let xs2 := (List.replicate (Int.toNat r1.1) (0 : Int) : List (Int))
    loopN (fun (s3 : List (Int) × Int × Unit) next4 =>
      cond (decide (s3.2.1 < (List.length x0 : Int)))
        (Option.bind (idx x0 s3.2.1) fun v5 =>
        Option.bind (idx x1 s3.2.1) fun v6 =>
        loopN (fun (s7 : List (Int) × Int × Unit) next8 =>
          Option.bind (idx x1 s3.2.1) fun v9 =>
          cond (decide (s7.2.1 < (w64 (v9 + v5.1))))
            (cond (inB s7.2.1 (List.length s7.1))
              (Option.bind (s7.1[(Int.toNat s7.2.1)]?) fun v10 =>
              cond (inB s7.2.1 (List.length s7.1))
                (let xs11 := (List.set s7.1 (Int.toNat s7.2.1) (w64 (v10 + v5.2.1)))
                next8 (xs11, (w64 (s7.2.1 + 1)), ())) none) none)
            (next4 (s7.1, (w64 (s3.2.1 + 1)), ()))) N (s3.1, v6, ()))
        (some (s3.1, ()))) N (xs2, 0, ())) none
def impl_crewUse_e (N : Nat) : Ent := { ins := [(.sl (.pair (.int .i64) (.pair (.int .i64) (.pair (.sl (.int .i64)) (.sl (.int .i64)))))), (.sl (.int .i64))], outs := [.own (.int .i64)], F := fun x => impl_crewUse N x.1 x.2.1 }
def impl_crewUse_T (N : Nat) : Nat → List EntX
  | 61 => [.pl (impl_lastEnd_e N)]
  | _ => []
def impl_crewUse_L : Nat → List (Nat × TK)
  | 3 => [(5, .own (.int .i64)), (15, .v (.int .i64))]
  | 6 => [(5, .own (.int .i64)), (8, .v (.int .i64))]
  | _ => []
theorem impl_crewUse_eq (N : Nat) : runF N tt (impl_crewUse_T N) impl_crewUse_L [(.sl (.pair (.int .i64) (.pair (.int .i64) (.pair (.sl (.int .i64)) (.sl (.int .i64)))))), (.sl (.int .i64))] [.own (.int .i64)] (bodyOf Try.f63) Try.f63.ntmps [4] = (impl_crewUse_e N).F := by
  funext x
  kernel_rfl
theorem impl_crewUse_sound (N : Nat) : SoundC Try.prog 63 (impl_crewUse_e N) := by
  have h := runF_sound (f := 63) (code := bodyOf Try.f63) (N := N) (T := impl_crewUse_T N) (L := impl_crewUse_L) (ins := [(.sl (.pair (.int .i64) (.pair (.int .i64) (.pair (.sl (.int .i64)) (.sl (.int .i64)))))), (.sl (.int .i64))]) (outs := [.own (.int .i64)]) (res := [4]) mixed tt_ok ?_ Try.func63 (by kernel_rfl) rfl (by kernel_rfl) (by kernel_rfl) (by decide +kernel)
  · rw [impl_crewUse_eq] at h
    exact h
  · intro f e he
    unfold impl_crewUse_T at he
    split at he
    · rw [List.mem_singleton.1 he]; exact impl_lastEnd_sound N
    · cases he

/- impl.squares -/
def impl_squares (N : Nat) (x0 : List (Int × Int × (List Int) × List Int)) (x1 : List Int) : Option (Int × Unit) :=
  Option.bind (impl_crewUse N x0 x1) fun r1 =>
  loopN (fun (s2 : Int × Int × Unit) next3 =>
    cond (decide (s2.2.1 < (List.length r1.1 : Int)))
      (cond (inB s2.2.1 (List.length r1.1))
        (Option.bind (r1.1[(Int.toNat s2.2.1)]?) fun v4 =>
        next3 ((w64 (s2.1 + (w64 (v4 * v4)))), (w64 (s2.2.1 + 1)), ())) none)
      (some (s2.1, ()))) N (0, 0, ())
def impl_squares_e (N : Nat) : Ent := { ins := [(.sl (.pair (.int .i64) (.pair (.int .i64) (.pair (.sl (.int .i64)) (.sl (.int .i64)))))), (.sl (.int .i64))], outs := [.val (.int .i64)], F := fun x => impl_squares N x.1 x.2.1 }
def impl_squares_T (N : Nat) : Nat → List EntX
  | 63 => [.pl (impl_crewUse_e N)]
  | _ => []
def impl_squares_L : Nat → List (Nat × TK)
  | 3 => [(5, .v (.int .i64)), (12, .v (.int .i64))]
  | _ => []
theorem impl_squares_eq (N : Nat) : runF N tt (impl_squares_T N) impl_squares_L [(.sl (.pair (.int .i64) (.pair (.int .i64) (.pair (.sl (.int .i64)) (.sl (.int .i64)))))), (.sl (.int .i64))] [.val (.int .i64)] (bodyOf Try.f84) Try.f84.ntmps [4] = (impl_squares_e N).F := by
  funext x
  kernel_rfl
theorem impl_squares_sound (N : Nat) : SoundC Try.prog 84 (impl_squares_e N) := by
  have h := runF_sound (f := 84) (code := bodyOf Try.f84) (N := N) (T := impl_squares_T N) (L := impl_squares_L) (ins := [(.sl (.pair (.int .i64) (.pair (.int .i64) (.pair (.sl (.int .i64)) (.sl (.int .i64)))))), (.sl (.int .i64))]) (outs := [.val (.int .i64)]) (res := [4]) mixed tt_ok ?_ Try.func84 (by kernel_rfl) rfl (by kernel_rfl) (by kernel_rfl) (by decide +kernel)
  · rw [impl_squares_eq] at h
    exact h
  · intro f e he
    unfold impl_squares_T at he
    split at he
    · rw [List.mem_singleton.1 he]; exact impl_crewUse_sound N
    · cases he

/- impl.LevelPlan -/
def impl_LevelPlan (N : Nat) (x0 : List (Int × Int × (List Int) × List Int)) (x1 : Int) (x2 : Int) : Option (List (Int) × Int × Bool × Unit) :=
  Option.bind (impl_EarlyStarts N x0) fun r1 =>
  cond (!r1.2.2.1)
    (some ([], 0, false, ()))
    (Option.bind (impl_within N x1 r1.2.1 400) fun r2 =>
    cond (!r2.1)
      (some ([], 0, false, ()))
      (Option.bind (impl_within N x2 0 8) fun r3 =>
      cond (!r3.1)
        (some ([], 0, false, ()))
        (loopN (fun (s4 : List (Int) × Int × Unit) next5 =>
          cond (decide (s4.2.1 < x2))
            (loopN (fun (s6 : List (Int) × Int × Unit) next7 =>
              cond (decide (s6.2.1 ≥ 0))
                (Option.bind (impl_earliest N x0 s6.1 s6.2.1) fun r8 =>
                Option.bind (impl_latest N x0 s6.1 s6.2.1 x1) fun r9 =>
                cond (inB s6.2.1 (List.length s6.1))
                  (Option.bind (s6.1[(Int.toNat s6.2.1)]?) fun v10 =>
                  loopN (fun (s11 : List (Int) × Int × Int × Int × Unit) next12 =>
                    cond (decide (s11.2.2.2.1 ≤ r9.1))
                      (cond (inB s6.2.1 (List.length s11.1))
                        (let xs13 := (List.set s11.1 (Int.toNat s6.2.1) s11.2.2.2.1)
                        Option.bind (impl_squares N x0 xs13) fun r14 =>
                        cond (decide (s11.2.2.1 < 0))
                          (next12 (xs13, s11.2.2.2.1, r14.1, (w64 (s11.2.2.2.1 + 1)), ()))
                          (cond (decide (r14.1 ≤ s11.2.2.1))
                            (next12 (xs13, s11.2.2.2.1, r14.1, (w64 (s11.2.2.2.1 + 1)), ()))
                            (next12 (xs13, s11.2.1, s11.2.2.1, (w64 (s11.2.2.2.1 + 1)), ())))) none)
                      (cond (inB s6.2.1 (List.length s11.1))
                        (let xs15 := (List.set s11.1 (Int.toNat s6.2.1) s11.2.1)
                        next7 (xs15, (w64 (s6.2.1 - 1)), ())) none)) N (s6.1, v10, (-1), r8.1, ())) none)
                (next5 (s6.1, (w64 (s4.2.1 + 1)), ()))) N (s4.1, (w64 ((List.length x0 : Int) - 1)), ()))
            (Option.bind (impl_squares N x0 s4.1) fun r16 =>
            some (s4.1, r16.1, true, ()))) N (r1.1, 0, ()))))
def impl_LevelPlan_e (N : Nat) : Ent := { ins := [(.sl (.pair (.int .i64) (.pair (.int .i64) (.pair (.sl (.int .i64)) (.sl (.int .i64)))))), (.int .i64), (.int .i64)], outs := [.own (.int .i64), .val (.int .i64), .val .bool], F := fun x => impl_LevelPlan N x.1 x.2.1 x.2.2.1 }
def impl_LevelPlan_T (N : Nat) : Nat → List EntX
  | 28 => [.pl (impl_EarlyStarts_e N)]
  | 55 => [.pl (impl_within_e N)]
  | 67 => [.pl (impl_earliest_e N)]
  | 74 => [.pl (impl_latest_e N)]
  | 84 => [.pl (impl_squares_e N)]
  | _ => []
def impl_LevelPlan_L : Nat → List (Nat × TK)
  | 5 => [(9, .own (.int .i64)), (39, .v (.int .i64))]
  | 7 => [(9, .own (.int .i64)), (12, .v (.int .i64))]
  | 12 => [(9, .own (.int .i64)), (15, .v (.int .i64)), (16, .v (.int .i64)), (17, .v (.int .i64))]
  | _ => []
theorem impl_LevelPlan_eq (N : Nat) : runF N tt (impl_LevelPlan_T N) impl_LevelPlan_L [(.sl (.pair (.int .i64) (.pair (.int .i64) (.pair (.sl (.int .i64)) (.sl (.int .i64)))))), (.int .i64), (.int .i64)] [.own (.int .i64), .val (.int .i64), .val .bool] (bodyOf Try.f46) Try.f46.ntmps [6, 7, 8] = (impl_LevelPlan_e N).F := by
  funext x
  kernel_rfl
theorem impl_LevelPlan_sound (N : Nat) : SoundC Try.prog 46 (impl_LevelPlan_e N) := by
  have h := runF_sound (f := 46) (code := bodyOf Try.f46) (N := N) (T := impl_LevelPlan_T N) (L := impl_LevelPlan_L) (ins := [(.sl (.pair (.int .i64) (.pair (.int .i64) (.pair (.sl (.int .i64)) (.sl (.int .i64)))))), (.int .i64), (.int .i64)]) (outs := [.own (.int .i64), .val (.int .i64), .val .bool]) (res := [6, 7, 8]) mixed tt_ok ?_ Try.func46 (by kernel_rfl) rfl (by kernel_rfl) (by kernel_rfl) (by decide +kernel)
  · rw [impl_LevelPlan_eq] at h
    exact h
  · intro f e he
    unfold impl_LevelPlan_T at he
    split at he
    · rw [List.mem_singleton.1 he]; exact impl_EarlyStarts_sound N
    · rw [List.mem_singleton.1 he]; exact impl_within_sound N
    · rw [List.mem_singleton.1 he]; exact impl_earliest_sound N
    · rw [List.mem_singleton.1 he]; exact impl_latest_sound N
    · rw [List.mem_singleton.1 he]; exact impl_squares_sound N
    · cases he

/- laws.FnExactLevelPlan -/
def laws_FnExactLevelPlan (N : Nat) (x0 : List (Int × Int × (List Int) × List Int)) (x1 : Int) (x2 : Int) : Option (Bool × Unit) :=
  Option.bind (laws_szTaskS N x0 1048576) fun r1 =>
  cond (decide (r1.1 < 0))
    (some (true, ()))
    (Option.bind (laws_toTaskS N x0) fun r2 =>
    Option.bind (spec_LevelPlan N r2.1 x1 x2) fun r3 =>
    Option.bind (laws_toTaskS N x0) fun r4 =>
    Option.bind (impl_LevelPlan N r4.1 x1 x2) fun r5 =>
    Option.bind (laws_eqInt64S N r5.1 r3.1) fun r6 =>
    cond (!r6.1)
      (some (false, ()))
      (cond (r5.2.1 != r3.2.1)
        (some (false, ()))
        (cond (!(r5.2.2.1 == r3.2.2.1))
          (some (false, ()))
          (Option.bind (laws_toTaskS N x0) fun r7 =>
          Option.bind (laws_eqTaskS N r4.1 r7.1) fun r8 =>
          cond (!r8.1)
            (some (false, ()))
            (Option.bind (laws_markTaskS_d r4.1 1) fun r9 =>
            cond (decide (r9 < 0))
              (some (false, ()))
              (Option.bind (laws_eqInt64S N r5.1 r3.1) fun r10 =>
              cond (!r10.1)
                (some (false, ()))
                (cond (r5.2.1 != r3.2.1)
                  (some (false, ()))
                  (cond (!(r5.2.2.1 == r3.2.2.1))
                    (some (false, ()))
                    (Option.bind (laws_markInt64S N r5.1 1) fun r11 =>
                    cond (Nat.beq (List.length r11.1) (List.length r5.1))
                      (Option.bind (laws_heldInt64S N r11.1 1) fun r12 =>
                      cond (decide (r12.1 < 0))
                        (some (false, ()))
                        (cond (r12.1 != r11.2.1)
                          (some (false, ()))
                          (Option.bind (laws_toTaskS N x0) fun r13 =>
                          Option.bind (impl_LevelPlan N r13.1 x1 x2) fun r14 =>
                          Option.bind (laws_eqInt64S N r14.1 r3.1) fun r15 =>
                          cond (!r15.1)
                            (some (false, ()))
                            (cond (r14.2.1 != r3.2.1)
                              (some (false, ()))
                              (cond (!(r14.2.2.1 == r3.2.2.1))
                                (some (false, ()))
                                (Option.bind (laws_heldInt64S N r11.1 1) fun r16 =>
                                cond (decide (r16.1 < 0))
                                  (some (false, ()))
                                  (cond (r16.1 != r11.2.1)
                                    (some (false, ()))
                                    (some (true, ()))))))))) none)))))))))
def laws_FnExactLevelPlan_e (N : Nat) : Ent := { ins := [(.sl (.pair (.int .i64) (.pair (.int .i64) (.pair (.sl (.int .i64)) (.sl (.int .i64)))))), (.int .i64), (.int .i64)], outs := [.val .bool], F := fun x => laws_FnExactLevelPlan N x.1 x.2.1 x.2.2.1 }
def laws_FnExactLevelPlan_T (N : Nat) : Nat → List EntX
  | 15 => [.pl (laws_szTaskS_e N)]
  | 17 => [.pl (laws_toTaskS_e N)]
  | 20 => [.pl (laws_eqTaskS_e N)]
  | 21 => [.pl (laws_eqInt64S_e N)]
  | 24 => [.dp (laws_markTaskS_d_e N)]
  | 25 => [.mu (laws_markInt64S_e N)]
  | 26 => [.pl (laws_heldInt64S_e N)]
  | 45 => [.pl (spec_LevelPlan_e N)]
  | 46 => [.pl (impl_LevelPlan_e N)]
  | _ => []
def laws_FnExactLevelPlan_L : Nat → List (Nat × TK) := fun _ => []
theorem laws_FnExactLevelPlan_eq (N : Nat) : runL N tt (laws_FnExactLevelPlan_T N) laws_FnExactLevelPlan_L [(.sl (.pair (.int .i64) (.pair (.int .i64) (.pair (.sl (.int .i64)) (.sl (.int .i64)))))), (.int .i64), (.int .i64)] [.val .bool] (bodyOf Try.f14) Try.f14.ntmps [6] = (laws_FnExactLevelPlan_e N).F := by
  funext x
  kernel_rfl
theorem laws_FnExactLevelPlan_sound (N : Nat) : SoundC Try.prog 14 (laws_FnExactLevelPlan_e N) := by
  have h := runL_sound (f := 14) (code := bodyOf Try.f14) (N := N) (T := laws_FnExactLevelPlan_T N) (L := laws_FnExactLevelPlan_L) (ins := [(.sl (.pair (.int .i64) (.pair (.int .i64) (.pair (.sl (.int .i64)) (.sl (.int .i64)))))), (.int .i64), (.int .i64)]) (outs := [.val .bool]) (res := [6]) mixed tt_ok ?_ Try.func14 (by kernel_rfl) rfl (by kernel_rfl) (by kernel_rfl) (by decide +kernel)
  · rw [laws_FnExactLevelPlan_eq] at h
    exact h
  · intro f e he
    unfold laws_FnExactLevelPlan_T at he
    split at he
    · rw [List.mem_singleton.1 he]; exact laws_szTaskS_sound N
    · rw [List.mem_singleton.1 he]; exact laws_toTaskS_sound N
    · rw [List.mem_singleton.1 he]; exact laws_eqTaskS_sound N
    · rw [List.mem_singleton.1 he]; exact laws_eqInt64S_sound N
    · rw [List.mem_singleton.1 he]; exact laws_markTaskS_d_sound N
    · rw [List.mem_singleton.1 he]; exact laws_markInt64S_sound N
    · rw [List.mem_singleton.1 he]; exact laws_heldInt64S_sound N
    · rw [List.mem_singleton.1 he]; exact spec_LevelPlan_sound N
    · rw [List.mem_singleton.1 he]; exact impl_LevelPlan_sound N
    · cases he

/- spec.LongestWay -/
def spec_LongestWay (N : Nat) (x0 : List (Int × Int × (List Int) × List Int)) : Option (List (Int) × Bool × Unit) :=
  Option.bind (spec_l03Are N x0) fun r1 =>
  cond (!r1.1)
    (some ([], false, ()))
    (Option.bind (spec_l03Early N x0) fun r2 =>
    Option.bind (spec_l03End N x0 r2.1) fun r3 =>
    loopN (fun (s4 : Int × Unit) next5 =>
      cond (inB s4.1 (List.length r2.1))
        (Option.bind (r2.1[(Int.toNat s4.1)]?) fun v6 =>
        Option.bind (idx x0 s4.1) fun v7 =>
        cond ((w64 (v6 + v7.1)) != r3.1)
          (next5 ((w64 (s4.1 + 1)), ()))
          (loopN (fun (s8 : Int × List (Int) × Unit) next9 =>
            cond (inB s8.1 (List.length r2.1))
              (Option.bind (r2.1[(Int.toNat s8.1)]?) fun v10 =>
              cond (decide (v10 > 0))
                (Option.bind (idx x0 s8.1) fun v11 =>
                loopN (fun (s12 : Int × Int × Unit) next13 =>
                  cond (decide (s12.2.1 < (List.length v11.2.2.1 : Int)))
                    (Option.bind (idx x0 s8.1) fun v14 =>
                    Option.bind (idx v14.2.2.1 s12.2.1) fun v15 =>
                    cond (decide (s12.1 < 0))
                      (cond (inB v15 (List.length r2.1))
                        (Option.bind (r2.1[(Int.toNat v15)]?) fun v16 =>
                        Option.bind (idx x0 v15) fun v17 =>
                        Option.bind (idx x0 s8.1) fun v18 =>
                        Option.bind (idx v18.2.2.2 s12.2.1) fun v19 =>
                        cond (inB s8.1 (List.length r2.1))
                          (Option.bind (r2.1[(Int.toNat s8.1)]?) fun v20 =>
                          cond ((w64 ((w64 (v16 + v17.1)) + v19)) == v20)
                            (next13 (v15, (w64 (s12.2.1 + 1)), ()))
                            (next13 (s12.1, (w64 (s12.2.1 + 1)), ()))) none) none)
                      (next13 (s12.1, (w64 (s12.2.1 + 1)), ())))
                    (cond (decide (s12.1 < 0))
                      (some (s8.2.1, true, ()))
                      (cond (appOk (List.length ([s12.1] : List Int)) (List.length s8.2.1))
                        (let xs21 := (([s12.1] : List Int) ++ s8.2.1)
                        next9 (s12.1, xs21, ())) none))) N ((-1), 0, ()))
                (some (s8.2.1, true, ()))) none) N (s4.1, ([s4.1] : List Int), ()))) none) N (0, ()))
def spec_LongestWay_e (N : Nat) : Ent := { ins := [(.sl (.pair (.int .i64) (.pair (.int .i64) (.pair (.sl (.int .i64)) (.sl (.int .i64))))))], outs := [.own (.int .i64), .val .bool], F := fun x => spec_LongestWay N x.1 }
def spec_LongestWay_T (N : Nat) : Nat → List EntX
  | 57 => [.pl (spec_l03Are_e N)]
  | 58 => [.pl (spec_l03Early_e N)]
  | 59 => [.pl (spec_l03End_e N)]
  | _ => []
def spec_LongestWay_L : Nat → List (Nat × TK)
  | 6 => [(6, .v (.int .i64))]
  | 9 => [(6, .v (.int .i64)), (7, .own (.int .i64))]
  | 12 => [(8, .v (.int .i64)), (46, .v (.int .i64))]
  | _ => []
theorem spec_LongestWay_eq (N : Nat) : runF N tt (spec_LongestWay_T N) spec_LongestWay_L [(.sl (.pair (.int .i64) (.pair (.int .i64) (.pair (.sl (.int .i64)) (.sl (.int .i64))))))] [.own (.int .i64), .val .bool] (bodyOf Try.f41) Try.f41.ntmps [2, 3] = (spec_LongestWay_e N).F := by
  funext x
  kernel_rfl
theorem spec_LongestWay_sound (N : Nat) : SoundC Try.prog 41 (spec_LongestWay_e N) := by
  have h := runF_sound (f := 41) (code := bodyOf Try.f41) (N := N) (T := spec_LongestWay_T N) (L := spec_LongestWay_L) (ins := [(.sl (.pair (.int .i64) (.pair (.int .i64) (.pair (.sl (.int .i64)) (.sl (.int .i64))))))]) (outs := [.own (.int .i64), .val .bool]) (res := [2, 3]) mixed tt_ok ?_ Try.func41 (by kernel_rfl) rfl (by kernel_rfl) (by kernel_rfl) (by decide +kernel)
  · rw [spec_LongestWay_eq] at h
    exact h
  · intro f e he
    unfold spec_LongestWay_T at he
    split at he
    · rw [List.mem_singleton.1 he]; exact spec_l03Are_sound N
    · rw [List.mem_singleton.1 he]; exact spec_l03Early_sound N
    · rw [List.mem_singleton.1 he]; exact spec_l03End_sound N
    · cases he

/- impl.counting -/
def impl_counting (N : Nat) (x0 : Int) : Option (List (Int) × Unit) :=
  loopN (fun (s1 : List (Int) × Int × Unit) next2 =>
    cond (decide (s1.2.1 < x0))
      (cond (appOk (List.length s1.1) (List.length ([s1.2.1] : List Int)))
        (let xs3 := (s1.1 ++ ([s1.2.1] : List Int))
        next2 (xs3, (w64 (s1.2.1 + 1)), ())) none)
      (some (s1.1, ()))) N (([] : List Int), 0, ())
def impl_counting_e (N : Nat) : Ent := { ins := [(.int .i64)], outs := [.own (.int .i64)], F := fun x => impl_counting N x.1 }
def impl_counting_T (_ : Nat) : Nat → List EntX := fun _ => []
def impl_counting_L : Nat → List (Nat × TK)
  | 3 => [(3, .own (.int .i64)), (7, .v (.int .i64))]
  | _ => []
theorem impl_counting_eq (N : Nat) : runF N tt (impl_counting_T N) impl_counting_L [(.int .i64)] [.own (.int .i64)] (bodyOf Try.f76) Try.f76.ntmps [2] = (impl_counting_e N).F := by
  funext x
  kernel_rfl
theorem impl_counting_sound (N : Nat) : SoundC Try.prog 76 (impl_counting_e N) := by
  have h := runF_sound (f := 76) (code := bodyOf Try.f76) (N := N) (T := impl_counting_T N) (L := impl_counting_L) (ins := [(.int .i64)]) (outs := [.own (.int .i64)]) (res := [2]) mixed tt_ok ?_ Try.func76 (by kernel_rfl) rfl (by kernel_rfl) (by kernel_rfl) (by decide +kernel)
  · rw [impl_counting_eq] at h
    exact h
  · intro f e he
    cases he

/- slices.Reverse[[]int64,int64] -/
def slices_Reverse_int64_int64 (N : Nat) (x0 : List Int) : Option (List (Int) × (Unit)) :=
  loopN (fun (s1 : List (Int) × Int × Int × Unit) next2 =>
    cond (decide (s1.2.1 < s1.2.2.1))
      (cond (inB s1.2.2.1 (List.length s1.1))
        (Option.bind (s1.1[(Int.toNat s1.2.2.1)]?) fun v3 =>
        cond (inB s1.2.1 (List.length s1.1))
          (Option.bind (s1.1[(Int.toNat s1.2.1)]?) fun v4 =>
          cond (inB s1.2.1 (List.length s1.1))
            (let xs5 := (List.set s1.1 (Int.toNat s1.2.1) v3)
            cond (inB s1.2.2.1 (List.length xs5))
              (let xs6 := (List.set xs5 (Int.toNat s1.2.2.1) v4)
              next2 (xs6, (w64 (s1.2.1 + 1)), (w64 (s1.2.2.1 - 1)), ())) none) none) none) none)
      (some (s1.1, ()))) N (x0, 0, (w64 ((List.length x0 : Int) - 1)), ())
def slices_Reverse_int64_int64_e (N : Nat) : EntM := { io := (.int .i64), ins := [], outs := [], F := fun xs x => slices_Reverse_int64_int64 N xs }
def slices_Reverse_int64_int64_T (_ : Nat) : Nat → List EntX := fun _ => []
def slices_Reverse_int64_int64_L : Nat → List (Nat × TK)
  | 1 => [(0, .own (.int .i64)), (2, .v (.int .i64)), (3, .v (.int .i64))]
  | _ => []
theorem slices_Reverse_int64_int64_eq (N : Nat) : runM N tt (slices_Reverse_int64_int64_T N) slices_Reverse_int64_int64_L (.int .i64) [] [] (bodyOf Try.f78) Try.f78.ntmps [] = (slices_Reverse_int64_int64_e N).F := by
  funext xs x
  kernel_rfl
theorem slices_Reverse_int64_int64_sound (N : Nat) : SoundM Try.prog 78 (slices_Reverse_int64_int64_e N) := by
  have h := runM_sound (f := 78) (code := bodyOf Try.f78) (N := N) (T := slices_Reverse_int64_int64_T N) (L := slices_Reverse_int64_int64_L) (io := (.int .i64)) (ins := []) (outs := []) (res := []) mixed tt_ok ?_ Try.func78 (by kernel_rfl) rfl (by kernel_rfl) (by kernel_rfl) (by decide +kernel)
  · rw [slices_Reverse_int64_int64_eq] at h
    exact h
  · intro f e he
    cases he

/- impl.LongestWay$1 -/
def impl_LongestWay_1_c0 (_N : Nat) (x0 : Int) (x1 : List Int) (x2 : List (Int × Int × (List Int) × List Int)) (x3 : Int) : Option (Bool × Unit) :=
  Option.bind (idx x1 x0) fun v1 =>
  Option.bind (idx x2 x0) fun v2 =>
  some (((w64 (v1 + v2.1)) == x3), ())
def impl_LongestWay_1_c0_e (N : Nat) : Ent := { ins := [(.int .i64), (.bx (.sl (.int .i64))), (.bx (.sl (.pair (.int .i64) (.pair (.int .i64) (.pair (.sl (.int .i64)) (.sl (.int .i64))))))), (.bx (.int .i64))], outs := [.val .bool], F := fun x => impl_LongestWay_1_c0 N x.1 x.2.1 x.2.2.1 x.2.2.2.1 }
def impl_LongestWay_1_c0_T (_ : Nat) : Nat → List EntX := fun _ => []
def impl_LongestWay_1_c0_L : Nat → List (Nat × TK) := fun _ => []
theorem impl_LongestWay_1_c0_eq (N : Nat) : runF N tt (impl_LongestWay_1_c0_T N) impl_LongestWay_1_c0_L [(.int .i64), (.bx (.sl (.int .i64))), (.bx (.sl (.pair (.int .i64) (.pair (.int .i64) (.pair (.sl (.int .i64)) (.sl (.int .i64))))))), (.bx (.int .i64))] [.val .bool] (bodyOf Try.f77) Try.f77.ntmps [5] = (impl_LongestWay_1_c0_e N).F := by
  funext x
  kernel_rfl
theorem impl_LongestWay_1_c0_sound (N : Nat) : SoundC Try.prog 77 (impl_LongestWay_1_c0_e N) := by
  have h := runF_sound (f := 77) (code := bodyOf Try.f77) (N := N) (T := impl_LongestWay_1_c0_T N) (L := impl_LongestWay_1_c0_L) (ins := [(.int .i64), (.bx (.sl (.int .i64))), (.bx (.sl (.pair (.int .i64) (.pair (.int .i64) (.pair (.sl (.int .i64)) (.sl (.int .i64))))))), (.bx (.int .i64))]) (outs := [.val .bool]) (res := [5]) mixed tt_ok ?_ Try.func77 (by kernel_rfl) rfl (by kernel_rfl) (by kernel_rfl) (by decide +kernel)
  · rw [impl_LongestWay_1_c0_eq] at h
    exact h
  · intro f e he
    cases he

/- slices.IndexFunc[[]int64,int64] -/
def slices_IndexFunc_int64_int64_impl_LongestWay_1 (N : Nat) (x0 : List Int) (x1 : (List Int) × (List (Int × Int × (List Int) × List Int)) × Int) : Option (Int × Unit) :=
  loopN (fun (s1 : Int × Unit) next2 =>
    cond (decide (s1.1 < (List.length x0 : Int)))
      (Option.bind (idx x0 s1.1) fun v3 =>
      Option.bind (impl_LongestWay_1_c0 N v3 x1.1 x1.2.1 x1.2.2) fun r4 =>
      cond r4.1
        (some (s1.1, ()))
        (next2 ((w64 (s1.1 + 1)), ())))
      (some ((-1), ()))) N (0, ())
def slices_IndexFunc_int64_int64_impl_LongestWay_1_e (N : Nat) : Ent := { ins := [(.sl (.int .i64)), (.clo 77 (.pair (.bx (.sl (.int .i64))) (.pair (.bx (.sl (.pair (.int .i64) (.pair (.int .i64) (.pair (.sl (.int .i64)) (.sl (.int .i64))))))) (.bx (.int .i64)))))], outs := [.val (.int .i64)], F := fun x => slices_IndexFunc_int64_int64_impl_LongestWay_1 N x.1 x.2.1 }
def slices_IndexFunc_int64_int64_impl_LongestWay_1_T (N : Nat) : Nat → List EntX
  | 77 => [.pl (impl_LongestWay_1_c0_e N)]
  | _ => []
def slices_IndexFunc_int64_int64_impl_LongestWay_1_L : Nat → List (Nat × TK)
  | 2 => [(8, .v (.int .i64))]
  | _ => []
theorem slices_IndexFunc_int64_int64_impl_LongestWay_1_eq (N : Nat) : runF N tt (slices_IndexFunc_int64_int64_impl_LongestWay_1_T N) slices_IndexFunc_int64_int64_impl_LongestWay_1_L [(.sl (.int .i64)), (.clo 77 (.pair (.bx (.sl (.int .i64))) (.pair (.bx (.sl (.pair (.int .i64) (.pair (.int .i64) (.pair (.sl (.int .i64)) (.sl (.int .i64))))))) (.bx (.int .i64)))))] [.val (.int .i64)] (bodyOf Try.f75) Try.f75.ntmps [4] = (slices_IndexFunc_int64_int64_impl_LongestWay_1_e N).F := by
  funext x
  kernel_rfl
theorem slices_IndexFunc_int64_int64_impl_LongestWay_1_sound (N : Nat) : SoundC Try.prog 75 (slices_IndexFunc_int64_int64_impl_LongestWay_1_e N) := by
  have h := runF_sound (f := 75) (code := bodyOf Try.f75) (N := N) (T := slices_IndexFunc_int64_int64_impl_LongestWay_1_T N) (L := slices_IndexFunc_int64_int64_impl_LongestWay_1_L) (ins := [(.sl (.int .i64)), (.clo 77 (.pair (.bx (.sl (.int .i64))) (.pair (.bx (.sl (.pair (.int .i64) (.pair (.int .i64) (.pair (.sl (.int .i64)) (.sl (.int .i64))))))) (.bx (.int .i64)))))]) (outs := [.val (.int .i64)]) (res := [4]) mixed tt_ok ?_ Try.func75 (by kernel_rfl) rfl (by kernel_rfl) (by kernel_rfl) (by decide +kernel)
  · rw [slices_IndexFunc_int64_int64_impl_LongestWay_1_eq] at h
    exact h
  · intro f e he
    unfold slices_IndexFunc_int64_int64_impl_LongestWay_1_T at he
    split at he
    · rw [List.mem_singleton.1 he]; exact impl_LongestWay_1_c0_sound N
    · cases he

/- impl.LongestWay -/
def impl_LongestWay (N : Nat) (x0 : List (Int × Int × (List Int) × List Int)) : Option (List (Int) × Bool × Unit) :=
  Option.bind (impl_EarlyStarts N x0) fun r1 =>
  cond (!r1.2.2.1)
    (some ([], false, ()))
    (Option.bind (impl_counting N (List.length x0 : Int)) fun r2 =>
    Option.bind (slices_IndexFunc_int64_int64_impl_LongestWay_1 N r2.1 (r1.1, (x0, r1.2.1))) fun r3 =>
    loopN (fun (s4 : Int × List (Int) × Unit) next5 =>
      cond (inB s4.1 (List.length r1.1))
        (Option.bind (r1.1[(Int.toNat s4.1)]?) fun v6 =>
        cond (decide (v6 > 0))
          (Option.bind (idx x0 s4.1) fun v7 =>
          loopN (fun (s8 : Int × Int × Unit) next9 =>
            cond (decide (s8.2.1 < (List.length v7.2.2.1 : Int)))
              (Option.bind (idx v7.2.2.1 s8.2.1) fun v10 =>
              cond (decide (s8.1 < 0))
                (cond (inB v10 (List.length r1.1))
                  (Option.bind (r1.1[(Int.toNat v10)]?) fun v11 =>
                  Option.bind (idx x0 v10) fun v12 =>
                  Option.bind (idx x0 s4.1) fun v13 =>
                  Option.bind (idx v13.2.2.2 s8.2.1) fun v14 =>
                  cond (inB s4.1 (List.length r1.1))
                    (Option.bind (r1.1[(Int.toNat s4.1)]?) fun v15 =>
                    cond ((w64 ((w64 (v11 + v12.1)) + v14)) == v15)
                      (next9 (v10, (w64 (s8.2.1 + 1)), ()))
                      (next9 (s8.1, (w64 (s8.2.1 + 1)), ()))) none) none)
                (next9 (s8.1, (w64 (s8.2.1 + 1)), ())))
              (cond (decide (s8.1 < 0))
                (Option.bind (slices_Reverse_int64_int64 N s4.2.1) fun r16 =>
                cond (Nat.beq (List.length r16.1) (List.length s4.2.1))
                  (some (r16.1, true, ())) none)
                (cond (appOk (List.length s4.2.1) (List.length ([s8.1] : List Int)))
                  (let xs17 := (s4.2.1 ++ ([s8.1] : List Int))
                  next5 (s8.1, xs17, ())) none))) N ((-1), 0, ()))
          (Option.bind (slices_Reverse_int64_int64 N s4.2.1) fun r18 =>
          cond (Nat.beq (List.length r18.1) (List.length s4.2.1))
            (some (r18.1, true, ())) none)) none) N (r3.1, ([r3.1] : List Int), ()))
def impl_LongestWay_e (N : Nat) : Ent := { ins := [(.sl (.pair (.int .i64) (.pair (.int .i64) (.pair (.sl (.int .i64)) (.sl (.int .i64))))))], outs := [.own (.int .i64), .val .bool], F := fun x => impl_LongestWay N x.1 }
def impl_LongestWay_T (N : Nat) : Nat → List EntX
  | 28 => [.pl (impl_EarlyStarts_e N)]
  | 75 => [.pl (slices_IndexFunc_int64_int64_impl_LongestWay_1_e N)]
  | 76 => [.pl (impl_counting_e N)]
  | 78 => [.mu (slices_Reverse_int64_int64_e N)]
  | _ => []
def impl_LongestWay_L : Nat → List (Nat × TK)
  | 6 => [(7, .v (.int .i64)), (8, .own (.int .i64))]
  | 9 => [(9, .v (.int .i64)), (38, .v (.int .i64))]
  | _ => []
theorem impl_LongestWay_eq (N : Nat) : runF N tt (impl_LongestWay_T N) impl_LongestWay_L [(.sl (.pair (.int .i64) (.pair (.int .i64) (.pair (.sl (.int .i64)) (.sl (.int .i64))))))] [.own (.int .i64), .val .bool] (bodyOf Try.f42) Try.f42.ntmps [2, 3] = (impl_LongestWay_e N).F := by
  funext x
  kernel_rfl
theorem impl_LongestWay_sound (N : Nat) : SoundC Try.prog 42 (impl_LongestWay_e N) := by
  have h := runF_sound (f := 42) (code := bodyOf Try.f42) (N := N) (T := impl_LongestWay_T N) (L := impl_LongestWay_L) (ins := [(.sl (.pair (.int .i64) (.pair (.int .i64) (.pair (.sl (.int .i64)) (.sl (.int .i64))))))]) (outs := [.own (.int .i64), .val .bool]) (res := [2, 3]) mixed tt_ok ?_ Try.func42 (by kernel_rfl) rfl (by kernel_rfl) (by kernel_rfl) (by decide +kernel)
  · rw [impl_LongestWay_eq] at h
    exact h
  · intro f e he
    unfold impl_LongestWay_T at he
    split at he
    · rw [List.mem_singleton.1 he]; exact impl_EarlyStarts_sound N
    · rw [List.mem_singleton.1 he]; exact slices_IndexFunc_int64_int64_impl_LongestWay_1_sound N
    · rw [List.mem_singleton.1 he]; exact impl_counting_sound N
    · rw [List.mem_singleton.1 he]; exact slices_Reverse_int64_int64_sound N
    · cases he

/- laws.FnExactLongestWay -/
def laws_FnExactLongestWay (N : Nat) (x0 : List (Int × Int × (List Int) × List Int)) : Option (Bool × Unit) :=
  Option.bind (laws_szTaskS N x0 1048576) fun r1 =>
  cond (decide (r1.1 < 0))
    (some (true, ()))
    (Option.bind (laws_toTaskS N x0) fun r2 =>
    Option.bind (spec_LongestWay N r2.1) fun r3 =>
    Option.bind (laws_toTaskS N x0) fun r4 =>
    Option.bind (impl_LongestWay N r4.1) fun r5 =>
    Option.bind (laws_eqInt64S N r5.1 r3.1) fun r6 =>
    cond (!r6.1)
      (some (false, ()))
      (cond (!(r5.2.1 == r3.2.1))
        (some (false, ()))
        (Option.bind (laws_toTaskS N x0) fun r7 =>
        Option.bind (laws_eqTaskS N r4.1 r7.1) fun r8 =>
        cond (!r8.1)
          (some (false, ()))
          (Option.bind (laws_markTaskS_d r4.1 1) fun r9 =>
          cond (decide (r9 < 0))
            (some (false, ()))
            (Option.bind (laws_eqInt64S N r5.1 r3.1) fun r10 =>
            cond (!r10.1)
              (some (false, ()))
              (cond (!(r5.2.1 == r3.2.1))
                (some (false, ()))
                (Option.bind (laws_markInt64S N r5.1 1) fun r11 =>
                cond (Nat.beq (List.length r11.1) (List.length r5.1))
                  (Option.bind (laws_heldInt64S N r11.1 1) fun r12 =>
                  cond (decide (r12.1 < 0))
                    (some (false, ()))
                    (cond (r12.1 != r11.2.1)
                      (some (false, ()))
                      (Option.bind (laws_toTaskS N x0) fun r13 =>
                      Option.bind (impl_LongestWay N r13.1) fun r14 =>
                      Option.bind (laws_eqInt64S N r14.1 r3.1) fun r15 =>
                      cond (!r15.1)
                        (some (false, ()))
                        (cond (!(r14.2.1 == r3.2.1))
                          (some (false, ()))
                          (Option.bind (laws_heldInt64S N r11.1 1) fun r16 =>
                          cond (decide (r16.1 < 0))
                            (some (false, ()))
                            (cond (r16.1 != r11.2.1)
                              (some (false, ()))
                              (some (true, ())))))))) none)))))))
def laws_FnExactLongestWay_e (N : Nat) : Ent := { ins := [(.sl (.pair (.int .i64) (.pair (.int .i64) (.pair (.sl (.int .i64)) (.sl (.int .i64))))))], outs := [.val .bool], F := fun x => laws_FnExactLongestWay N x.1 }
def laws_FnExactLongestWay_T (N : Nat) : Nat → List EntX
  | 15 => [.pl (laws_szTaskS_e N)]
  | 17 => [.pl (laws_toTaskS_e N)]
  | 20 => [.pl (laws_eqTaskS_e N)]
  | 21 => [.pl (laws_eqInt64S_e N)]
  | 24 => [.dp (laws_markTaskS_d_e N)]
  | 25 => [.mu (laws_markInt64S_e N)]
  | 26 => [.pl (laws_heldInt64S_e N)]
  | 41 => [.pl (spec_LongestWay_e N)]
  | 42 => [.pl (impl_LongestWay_e N)]
  | _ => []
def laws_FnExactLongestWay_L : Nat → List (Nat × TK) := fun _ => []
theorem laws_FnExactLongestWay_eq (N : Nat) : runL N tt (laws_FnExactLongestWay_T N) laws_FnExactLongestWay_L [(.sl (.pair (.int .i64) (.pair (.int .i64) (.pair (.sl (.int .i64)) (.sl (.int .i64))))))] [.val .bool] (bodyOf Try.f12) Try.f12.ntmps [2] = (laws_FnExactLongestWay_e N).F := by
  funext x
  kernel_rfl
theorem laws_FnExactLongestWay_sound (N : Nat) : SoundC Try.prog 12 (laws_FnExactLongestWay_e N) := by
  have h := runL_sound (f := 12) (code := bodyOf Try.f12) (N := N) (T := laws_FnExactLongestWay_T N) (L := laws_FnExactLongestWay_L) (ins := [(.sl (.pair (.int .i64) (.pair (.int .i64) (.pair (.sl (.int .i64)) (.sl (.int .i64))))))]) (outs := [.val .bool]) (res := [2]) mixed tt_ok ?_ Try.func12 (by kernel_rfl) rfl (by kernel_rfl) (by kernel_rfl) (by decide +kernel)
  · rw [laws_FnExactLongestWay_eq] at h
    exact h
  · intro f e he
    unfold laws_FnExactLongestWay_T at he
    split at he
    · rw [List.mem_singleton.1 he]; exact laws_szTaskS_sound N
    · rw [List.mem_singleton.1 he]; exact laws_toTaskS_sound N
    · rw [List.mem_singleton.1 he]; exact laws_eqTaskS_sound N
    · rw [List.mem_singleton.1 he]; exact laws_eqInt64S_sound N
    · rw [List.mem_singleton.1 he]; exact laws_markTaskS_d_sound N
    · rw [List.mem_singleton.1 he]; exact laws_markInt64S_sound N
    · rw [List.mem_singleton.1 he]; exact laws_heldInt64S_sound N
    · rw [List.mem_singleton.1 he]; exact spec_LongestWay_sound N
    · rw [List.mem_singleton.1 he]; exact impl_LongestWay_sound N
    · cases he

end Go.Proofs.Ytobgddikninjpaa
