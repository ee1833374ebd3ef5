/-
  The plain functions of this seat, printed by a program, each equal to the evaluator's run, with its contract. No condition.
-/
import Derived.Test.YtobgddikninjpaaFwV
import Derived.Test.YtobgddikninjpaaChecked
namespace Go.Proofs.Ytobgddikninjpaa
open Go Go.Proofs.Ytobgddikninjpaa.Fw
set_option maxRecDepth 100000
set_option linter.unusedVariables false

theorem mixed : Try.prog.follows .mixedOrders = true := Try.checked.mixed
def tt : Nat → TD
  | 2 => tdInt .i64
  | 3 => tdInt .i64
  | 4 => tdBool
  | 22 => tdSl (.pair (.int .i64) (.pair (.int .i64) (.pair (.sl (.int .i64)) (.sl (.int .i64))))) 64
  | 23 => tdSl (.int .i64) 8
  | 27 => tdSl (.pair (.int .i64) (.pair (.int .i64) (.pair (.sl (.int .i64)) (.sl (.int .i64))))) 64
  | 52 => tdSt 4 [(0, 1, false), (1, 1, false), (2, 1, false), (3, 1, false)] [.g (.int .i64) (0 : Int), .g (.int .i64) (0 : Int), .nil, .nil]
  | 55 => tdSt 4 [(0, 1, false), (1, 1, false), (2, 1, false), (3, 1, false)] [.g (.int .i64) (0 : Int), .g (.int .i64) (0 : Int), .nil, .nil]
  | 64 => tdSl .bool 1
  | 78 => tdInt .u64
  | 82 => tdInt .u32
  | 85 => tdInt .u64
  | _ => tdNone
theorem tt_2 : TDok Try.prog 2 (tdInt .i64) := tdok_int (b := 8) (by kernel_rfl) (by kernel_rfl)
theorem tt_3 : TDok Try.prog 3 (tdInt .i64) := tdok_int (b := 8) (by kernel_rfl) (by kernel_rfl)
theorem tt_4 : TDok Try.prog 4 (tdBool) := tdok_bool (b := 1) (by kernel_rfl) (by kernel_rfl)
theorem tt_22 : TDok Try.prog 22 (tdSl (.pair (.int .i64) (.pair (.int .i64) (.pair (.sl (.int .i64)) (.sl (.int .i64))))) 64) := tdok_sl (b := 24) (e := 52) (z := (.agg #[(.int .i64 0), (.int .i64 0), (.slice none 0 0), (.slice none 0 0)])) (by kernel_rfl) (by kernel_rfl) (by kernel_rfl) (by decide) (fun _ => by kernel_rfl)
theorem tt_23 : TDok Try.prog 23 (tdSl (.int .i64) 8) := tdok_sl (b := 24) (e := 2) (z := (.int .i64 0)) (by kernel_rfl) (by kernel_rfl) (by kernel_rfl) (by decide) (fun _ => by kernel_rfl)
theorem tt_27 : TDok Try.prog 27 (tdSl (.pair (.int .i64) (.pair (.int .i64) (.pair (.sl (.int .i64)) (.sl (.int .i64))))) 64) := tdok_sl (b := 24) (e := 55) (z := (.agg #[(.int .i64 0), (.int .i64 0), (.slice none 0 0), (.slice none 0 0)])) (by kernel_rfl) (by kernel_rfl) (by kernel_rfl) (by decide) (fun _ => by kernel_rfl)
theorem tt_52 : TDok Try.prog 52 (tdSt 4 [(0, 1, false), (1, 1, false), (2, 1, false), (3, 1, false)] [.g (.int .i64) (0 : Int), .g (.int .i64) (0 : Int), .nil, .nil]) := tdok_st (b := 64) (z := (.agg #[(.int .i64 0), (.int .i64 0), (.slice none 0 0), (.slice none 0 0)])) (by kernel_rfl) (by kernel_rfl) (by kernel_rfl) (by kernel_rfl) (by kernel_rfl)
theorem tt_55 : TDok Try.prog 55 (tdSt 4 [(0, 1, false), (1, 1, false), (2, 1, false), (3, 1, false)] [.g (.int .i64) (0 : Int), .g (.int .i64) (0 : Int), .nil, .nil]) := tdok_st (b := 64) (z := (.agg #[(.int .i64 0), (.int .i64 0), (.slice none 0 0), (.slice none 0 0)])) (by kernel_rfl) (by kernel_rfl) (by kernel_rfl) (by kernel_rfl) (by kernel_rfl)
theorem tt_64 : TDok Try.prog 64 (tdSl .bool 1) := tdok_sl (b := 24) (e := 4) (z := (.bool false)) (by kernel_rfl) (by kernel_rfl) (by kernel_rfl) (by decide) (fun _ => by kernel_rfl)
theorem tt_78 : TDok Try.prog 78 (tdInt .u64) := tdok_int (b := 8) (by kernel_rfl) (by kernel_rfl)
theorem tt_82 : TDok Try.prog 82 (tdInt .u32) := tdok_int (b := 4) (by kernel_rfl) (by kernel_rfl)
theorem tt_85 : TDok Try.prog 85 (tdInt .u64) := tdok_int (b := 8) (by kernel_rfl) (by kernel_rfl)
theorem tt_ok (t : Nat) : TDok Try.prog t (tt t) := by
  unfold tt
  split
  · exact tt_2
  · exact tt_3
  · exact tt_4
  · exact tt_22
  · exact tt_23
  · exact tt_27
  · exact tt_52
  · exact tt_55
  · exact tt_64
  · exact tt_78
  · exact tt_82
  · exact tt_85
  · exact tdok_none

/- laws.szInt64S -/
def laws_szInt64S (_N : Nat) (x0 : List Int) (x1 : Int) : Option (Int × Unit) :=
  cond (decide ((w64 (x1 - (List.length x0 : Int))) < 0))
    (some ((-1), ()))
    (some ((w64 (x1 - (List.length x0 : Int))), ()))
def laws_szInt64S_e (N : Nat) : Ent := { ins := [(.sl (.int .i64)), (.int .i64)], outs := [.val (.int .i64)], F := fun x => laws_szInt64S N x.1 x.2.1 }
def laws_szInt64S_T (_ : Nat) : Nat → List EntX := fun _ => []
def laws_szInt64S_L : Nat → List (Nat × TK) := fun _ => []
theorem laws_szInt64S_eq (N : Nat) : runF N tt (laws_szInt64S_T N) laws_szInt64S_L [(.sl (.int .i64)), (.int .i64)] [.val (.int .i64)] (bodyOf Try.f85) Try.f85.ntmps [4] = (laws_szInt64S_e N).F := by
  funext x
  kernel_rfl
theorem laws_szInt64S_sound (N : Nat) : SoundC Try.prog 85 (laws_szInt64S_e N) := by
  have h := runF_sound (f := 85) (code := bodyOf Try.f85) (N := N) (T := laws_szInt64S_T N) (L := laws_szInt64S_L) (ins := [(.sl (.int .i64)), (.int .i64)]) (outs := [.val (.int .i64)]) (res := [4]) mixed tt_ok ?_ Try.func85 (by kernel_rfl) rfl (by kernel_rfl) (by kernel_rfl) (by decide +kernel)
  · rw [laws_szInt64S_eq] at h
    exact h
  · intro f e he
    cases he

/- laws.szTask -/
def laws_szTask (N : Nat) (x0 : Int × Int × (List Int) × List Int) (x1 : Int) : Option (Int × Unit) :=
  Option.bind (laws_szInt64S N x0.2.2.1 x1) fun r1 =>
  cond (decide (r1.1 < 0))
    (some ((-1), ()))
    (Option.bind (laws_szInt64S N x0.2.2.2 r1.1) fun r2 =>
    cond (decide (r2.1 < 0))
      (some ((-1), ()))
      (some (r2.1, ())))
def laws_szTask_e (N : Nat) : Ent := { ins := [(.pair (.int .i64) (.pair (.int .i64) (.pair (.sl (.int .i64)) (.sl (.int .i64))))), (.int .i64)], outs := [.val (.int .i64)], F := fun x => laws_szTask N x.1 x.2.1 }
def laws_szTask_T (N : Nat) : Nat → List EntX
  | 85 => [.pl (laws_szInt64S_e N)]
  | _ => []
def laws_szTask_L : Nat → List (Nat × TK) := fun _ => []
theorem laws_szTask_eq (N : Nat) : runF N tt (laws_szTask_T N) laws_szTask_L [(.pair (.int .i64) (.pair (.int .i64) (.pair (.sl (.int .i64)) (.sl (.int .i64))))), (.int .i64)] [.val (.int .i64)] (bodyOf Try.f47) Try.f47.ntmps [4] = (laws_szTask_e N).F := by
  funext x
  kernel_rfl
theorem laws_szTask_sound (N : Nat) : SoundC Try.prog 47 (laws_szTask_e N) := by
  have h := runF_sound (f := 47) (code := bodyOf Try.f47) (N := N) (T := laws_szTask_T N) (L := laws_szTask_L) (ins := [(.pair (.int .i64) (.pair (.int .i64) (.pair (.sl (.int .i64)) (.sl (.int .i64))))), (.int .i64)]) (outs := [.val (.int .i64)]) (res := [4]) mixed tt_ok ?_ Try.func47 (by kernel_rfl) rfl (by kernel_rfl) (by kernel_rfl) (by decide +kernel)
  · rw [laws_szTask_eq] at h
    exact h
  · intro f e he
    unfold laws_szTask_T at he
    split at he
    · rw [List.mem_singleton.1 he]; exact laws_szInt64S_sound N
    · cases he

/- laws.szTaskS -/
def laws_szTaskS (N : Nat) (x0 : List (Int × Int × (List Int) × List Int)) (x1 : Int) : Option (Int × Unit) :=
  cond (decide ((w64 (x1 - (List.length x0 : Int))) < 0))
    (some ((-1), ()))
    (loopN (fun (s1 : Int × Int × Unit) next2 =>
      cond (decide (s1.2.1 < (List.length x0 : Int)))
        (Option.bind (idx x0 s1.2.1) fun v3 =>
        Option.bind (laws_szTask N v3 s1.1) fun r4 =>
        cond (decide (r4.1 < 0))
          (some ((-1), ()))
          (next2 (r4.1, (w64 (s1.2.1 + 1)), ())))
        (some (s1.1, ()))) N ((w64 (x1 - (List.length x0 : Int))), 0, ()))
def laws_szTaskS_e (N : Nat) : Ent := { ins := [(.sl (.pair (.int .i64) (.pair (.int .i64) (.pair (.sl (.int .i64)) (.sl (.int .i64)))))), (.int .i64)], outs := [.val (.int .i64)], F := fun x => laws_szTaskS N x.1 x.2.1 }
def laws_szTaskS_T (N : Nat) : Nat → List EntX
  | 47 => [.pl (laws_szTask_e N)]
  | _ => []
def laws_szTaskS_L : Nat → List (Nat × TK)
  | 5 => [(1, .v (.int .i64)), (5, .v (.int .i64))]
  | _ => []
theorem laws_szTaskS_eq (N : Nat) : runF N tt (laws_szTaskS_T N) laws_szTaskS_L [(.sl (.pair (.int .i64) (.pair (.int .i64) (.pair (.sl (.int .i64)) (.sl (.int .i64)))))), (.int .i64)] [.val (.int .i64)] (bodyOf Try.f15) Try.f15.ntmps [4] = (laws_szTaskS_e N).F := by
  funext x
  kernel_rfl
theorem laws_szTaskS_sound (N : Nat) : SoundC Try.prog 15 (laws_szTaskS_e N) := by
  have h := runF_sound (f := 15) (code := bodyOf Try.f15) (N := N) (T := laws_szTaskS_T N) (L := laws_szTaskS_L) (ins := [(.sl (.pair (.int .i64) (.pair (.int .i64) (.pair (.sl (.int .i64)) (.sl (.int .i64)))))), (.int .i64)]) (outs := [.val (.int .i64)]) (res := [4]) mixed tt_ok ?_ Try.func15 (by kernel_rfl) rfl (by kernel_rfl) (by kernel_rfl) (by decide +kernel)
  · rw [laws_szTaskS_eq] at h
    exact h
  · intro f e he
    unfold laws_szTaskS_T at he
    split at he
    · rw [List.mem_singleton.1 he]; exact laws_szTask_sound N
    · cases he

/- laws.toInt64S -/
def laws_toInt64S (N : Nat) (x0 : List Int) : Option (List (Int) × Unit) :=
  cond (mkOk (List.length x0 : Int) (List.length x0 : Int))
    (let xs1 := (List.replicate (Int.toNat (List.length x0 : Int)) (0 : Int) : List (Int))
    loopN (fun (s2 : List (Int) × Int × Unit) next3 =>
      cond (decide (s2.2.1 < (List.length x0 : Int)))
        (Option.bind (idx x0 s2.2.1) fun v4 =>
        cond (inB s2.2.1 (List.length s2.1))
          (let xs5 := (List.set s2.1 (Int.toNat s2.2.1) v4)
          next3 (xs5, (w64 (s2.2.1 + 1)), ())) none)
        (some (s2.1, ()))) N (xs1, 0, ())) none
def laws_toInt64S_e (N : Nat) : Ent := { ins := [(.sl (.int .i64))], outs := [.own (.int .i64)], F := fun x => laws_toInt64S N x.1 }
def laws_toInt64S_T (_ : Nat) : Nat → List EntX := fun _ => []
def laws_toInt64S_L : Nat → List (Nat × TK)
  | 3 => [(3, .own (.int .i64)), (4, .v (.int .i64))]
  | _ => []
theorem laws_toInt64S_eq (N : Nat) : runF N tt (laws_toInt64S_T N) laws_toInt64S_L [(.sl (.int .i64))] [.own (.int .i64)] (bodyOf Try.f18) Try.f18.ntmps [2] = (laws_toInt64S_e N).F := by
  funext x
  kernel_rfl
theorem laws_toInt64S_sound (N : Nat) : SoundC Try.prog 18 (laws_toInt64S_e N) := by
  have h := runF_sound (f := 18) (code := bodyOf Try.f18) (N := N) (T := laws_toInt64S_T N) (L := laws_toInt64S_L) (ins := [(.sl (.int .i64))]) (outs := [.own (.int .i64)]) (res := [2]) mixed tt_ok ?_ Try.func18 (by kernel_rfl) rfl (by kernel_rfl) (by kernel_rfl) (by decide +kernel)
  · rw [laws_toInt64S_eq] at h
    exact h
  · intro f e he
    cases he

/- laws.toTask -/
def laws_toTask (N : Nat) (x0 : Int × Int × (List Int) × List Int) : Option ((Int × Int × (List Int) × List Int) × Unit) :=
  Option.bind (laws_toInt64S N x0.2.2.1) fun r1 =>
  Option.bind (laws_toInt64S N x0.2.2.2) fun r2 =>
  some ((x0.1, (x0.2.1, (r1.1, r2.1))), ())
def laws_toTask_e (N : Nat) : Ent := { ins := [(.pair (.int .i64) (.pair (.int .i64) (.pair (.sl (.int .i64)) (.sl (.int .i64)))))], outs := [.val (.nw (.pair (.int .i64) (.pair (.int .i64) (.pair (.sl (.int .i64)) (.sl (.int .i64))))))], F := fun x => laws_toTask N x.1 }
def laws_toTask_T (N : Nat) : Nat → List EntX
  | 18 => [.pl (laws_toInt64S_e N)]
  | _ => []
def laws_toTask_L : Nat → List (Nat × TK) := fun _ => []
theorem laws_toTask_eq (N : Nat) : runC N tt (laws_toTask_T N) laws_toTask_L [(.pair (.int .i64) (.pair (.int .i64) (.pair (.sl (.int .i64)) (.sl (.int .i64)))))] [.val (.nw (.pair (.int .i64) (.pair (.int .i64) (.pair (.sl (.int .i64)) (.sl (.int .i64))))))] (bodyOf Try.f52) Try.f52.ntmps [2] [(2, 55)] = (laws_toTask_e N).F := by
  funext x
  kernel_rfl
theorem laws_toTask_sound (N : Nat) : SoundC Try.prog 52 (laws_toTask_e N) := by
  have h := runC_sound (f := 52) (code := bodyOf Try.f52) (N := N) (T := laws_toTask_T N) (L := laws_toTask_L) (ins := [(.pair (.int .i64) (.pair (.int .i64) (.pair (.sl (.int .i64)) (.sl (.int .i64)))))]) (outs := [.val (.nw (.pair (.int .i64) (.pair (.int .i64) (.pair (.sl (.int .i64)) (.sl (.int .i64))))))]) (res := [2]) (rs := [.cell 2 55]) (cells := [(2, 55)]) mixed tt_ok ?_ Try.func52 (by kernel_rfl) rfl (by kernel_rfl) (by kernel_rfl) rfl rfl (by decide) (by decide +kernel) (by decide +kernel)
  · rw [laws_toTask_eq] at h
    exact h
  · intro f e he
    unfold laws_toTask_T at he
    split at he
    · rw [List.mem_singleton.1 he]; exact laws_toInt64S_sound N
    · cases he

/- laws.toTaskS -/
def laws_toTaskS (N : Nat) (x0 : List (Int × Int × (List Int) × List Int)) : Option (List (Int × Int × (List Int) × List Int) × Unit) :=
  cond (mkOk (List.length x0 : Int) (List.length x0 : Int))
    (let xs1 := (List.replicate (Int.toNat (List.length x0 : Int)) ((0 : Int), ((0 : Int), ([], []))) : List (Int × Int × (List Int) × List Int))
    loopN (fun (s2 : List (Int × Int × (List Int) × List Int) × Int × Unit) next3 =>
      cond (decide (s2.2.1 < (List.length x0 : Int)))
        (Option.bind (idx x0 s2.2.1) fun v4 =>
        Option.bind (laws_toTask N v4) fun r5 =>
        cond (inB s2.2.1 (List.length s2.1))
          (let xs6 := (List.set s2.1 (Int.toNat s2.2.1) r5.1)
          next3 (xs6, (w64 (s2.2.1 + 1)), ())) none)
        (some (s2.1, ()))) N (xs1, 0, ())) none
def laws_toTaskS_e (N : Nat) : Ent := { ins := [(.sl (.pair (.int .i64) (.pair (.int .i64) (.pair (.sl (.int .i64)) (.sl (.int .i64))))))], outs := [.own (.nw (.pair (.int .i64) (.pair (.int .i64) (.pair (.sl (.int .i64)) (.sl (.int .i64))))))], F := fun x => laws_toTaskS N x.1 }
def laws_toTaskS_T (N : Nat) : Nat → List EntX
  | 52 => [.pl (laws_toTask_e N)]
  | _ => []
def laws_toTaskS_L : Nat → List (Nat × TK)
  | 3 => [(3, .own (.nw (.pair (.int .i64) (.pair (.int .i64) (.pair (.sl (.int .i64)) (.sl (.int .i64))))))), (4, .v (.int .i64))]
  | _ => []
theorem laws_toTaskS_eq (N : Nat) : runF N tt (laws_toTaskS_T N) laws_toTaskS_L [(.sl (.pair (.int .i64) (.pair (.int .i64) (.pair (.sl (.int .i64)) (.sl (.int .i64))))))] [.own (.nw (.pair (.int .i64) (.pair (.int .i64) (.pair (.sl (.int .i64)) (.sl (.int .i64))))))] (bodyOf Try.f17) Try.f17.ntmps [2] = (laws_toTaskS_e N).F := by
  funext x
  kernel_rfl
theorem laws_toTaskS_sound (N : Nat) : SoundC Try.prog 17 (laws_toTaskS_e N) := by
  have h := runF_sound (f := 17) (code := bodyOf Try.f17) (N := N) (T := laws_toTaskS_T N) (L := laws_toTaskS_L) (ins := [(.sl (.pair (.int .i64) (.pair (.int .i64) (.pair (.sl (.int .i64)) (.sl (.int .i64))))))]) (outs := [.own (.nw (.pair (.int .i64) (.pair (.int .i64) (.pair (.sl (.int .i64)) (.sl (.int .i64))))))]) (res := [2]) mixed tt_ok ?_ Try.func17 (by kernel_rfl) rfl (by kernel_rfl) (by kernel_rfl) (by decide +kernel)
  · rw [laws_toTaskS_eq] at h
    exact h
  · intro f e he
    unfold laws_toTaskS_T at he
    split at he
    · rw [List.mem_singleton.1 he]; exact laws_toTask_sound N
    · cases he

/- laws.eqInt64S -/
def laws_eqInt64S (N : Nat) (x0 : List Int) (x1 : List Int) : Option (Bool × Unit) :=
  cond ((List.length x0 : Int) != (List.length x1 : Int))
    (some (false, ()))
    (loopN (fun (s1 : Int × Unit) next2 =>
      cond (decide (s1.1 < (List.length x0 : Int)))
        (Option.bind (idx x0 s1.1) fun v3 =>
        Option.bind (idx x1 s1.1) fun v4 =>
        cond (v3 != v4)
          (some (false, ()))
          (next2 ((w64 (s1.1 + 1)), ())))
        (some (true, ()))) N (0, ()))
def laws_eqInt64S_e (N : Nat) : Ent := { ins := [(.sl (.int .i64)), (.sl (.int .i64))], outs := [.val .bool], F := fun x => laws_eqInt64S N x.1 x.2.1 }
def laws_eqInt64S_T (_ : Nat) : Nat → List EntX := fun _ => []
def laws_eqInt64S_L : Nat → List (Nat × TK)
  | 4 => [(5, .v (.int .i64))]
  | _ => []
theorem laws_eqInt64S_eq (N : Nat) : runF N tt (laws_eqInt64S_T N) laws_eqInt64S_L [(.sl (.int .i64)), (.sl (.int .i64))] [.val .bool] (bodyOf Try.f21) Try.f21.ntmps [4] = (laws_eqInt64S_e N).F := by
  funext x
  kernel_rfl
theorem laws_eqInt64S_sound (N : Nat) : SoundC Try.prog 21 (laws_eqInt64S_e N) := by
  have h := runF_sound (f := 21) (code := bodyOf Try.f21) (N := N) (T := laws_eqInt64S_T N) (L := laws_eqInt64S_L) (ins := [(.sl (.int .i64)), (.sl (.int .i64))]) (outs := [.val .bool]) (res := [4]) mixed tt_ok ?_ Try.func21 (by kernel_rfl) rfl (by kernel_rfl) (by kernel_rfl) (by decide +kernel)
  · rw [laws_eqInt64S_eq] at h
    exact h
  · intro f e he
    cases he

/- laws.eqTask -/
def laws_eqTask (N : Nat) (x0 : Int × Int × (List Int) × List Int) (x1 : Int × Int × (List Int) × List Int) : Option (Bool × Unit) :=
  cond (x0.1 != x1.1)
    (some (false, ()))
    (cond (x0.2.1 != x1.2.1)
      (some (false, ()))
      (Option.bind (laws_eqInt64S N x0.2.2.1 x1.2.2.1) fun r1 =>
      cond (!r1.1)
        (some (false, ()))
        (Option.bind (laws_eqInt64S N x0.2.2.2 x1.2.2.2) fun r2 =>
        cond (!r2.1)
          (some (false, ()))
          (some (true, ())))))
def laws_eqTask_e (N : Nat) : Ent := { ins := [(.pair (.int .i64) (.pair (.int .i64) (.pair (.sl (.int .i64)) (.sl (.int .i64))))), (.pair (.int .i64) (.pair (.int .i64) (.pair (.sl (.int .i64)) (.sl (.int .i64)))))], outs := [.val .bool], F := fun x => laws_eqTask N x.1 x.2.1 }
def laws_eqTask_T (N : Nat) : Nat → List EntX
  | 21 => [.pl (laws_eqInt64S_e N)]
  | _ => []
def laws_eqTask_L : Nat → List (Nat × TK) := fun _ => []
theorem laws_eqTask_eq (N : Nat) : runF N tt (laws_eqTask_T N) laws_eqTask_L [(.pair (.int .i64) (.pair (.int .i64) (.pair (.sl (.int .i64)) (.sl (.int .i64))))), (.pair (.int .i64) (.pair (.int .i64) (.pair (.sl (.int .i64)) (.sl (.int .i64)))))] [.val .bool] (bodyOf Try.f56) Try.f56.ntmps [4] = (laws_eqTask_e N).F := by
  funext x
  kernel_rfl
theorem laws_eqTask_sound (N : Nat) : SoundC Try.prog 56 (laws_eqTask_e N) := by
  have h := runF_sound (f := 56) (code := bodyOf Try.f56) (N := N) (T := laws_eqTask_T N) (L := laws_eqTask_L) (ins := [(.pair (.int .i64) (.pair (.int .i64) (.pair (.sl (.int .i64)) (.sl (.int .i64))))), (.pair (.int .i64) (.pair (.int .i64) (.pair (.sl (.int .i64)) (.sl (.int .i64)))))]) (outs := [.val .bool]) (res := [4]) mixed tt_ok ?_ Try.func56 (by kernel_rfl) rfl (by kernel_rfl) (by kernel_rfl) (by decide +kernel)
  · rw [laws_eqTask_eq] at h
    exact h
  · intro f e he
    unfold laws_eqTask_T at he
    split at he
    · rw [List.mem_singleton.1 he]; exact laws_eqInt64S_sound N
    · cases he

/- laws.eqTaskS -/
def laws_eqTaskS (N : Nat) (x0 : List (Int × Int × (List Int) × List Int)) (x1 : List (Int × Int × (List Int) × List Int)) : Option (Bool × Unit) :=
  cond ((List.length x0 : Int) != (List.length x1 : Int))
    (some (false, ()))
    (loopN (fun (s1 : Int × Unit) next2 =>
      cond (decide (s1.1 < (List.length x0 : Int)))
        (Option.bind (idx x0 s1.1) fun v3 =>
        Option.bind (idx x1 s1.1) fun v4 =>
        Option.bind (laws_eqTask N v3 v4) fun r5 =>
        cond (!r5.1)
          (some (false, ()))
          (next2 ((w64 (s1.1 + 1)), ())))
        (some (true, ()))) N (0, ()))
def laws_eqTaskS_e (N : Nat) : Ent := { ins := [(.sl (.pair (.int .i64) (.pair (.int .i64) (.pair (.sl (.int .i64)) (.sl (.int .i64)))))), (.sl (.pair (.int .i64) (.pair (.int .i64) (.pair (.sl (.int .i64)) (.sl (.int .i64))))))], outs := [.val .bool], F := fun x => laws_eqTaskS N x.1 x.2.1 }
def laws_eqTaskS_T (N : Nat) : Nat → List EntX
  | 56 => [.pl (laws_eqTask_e N)]
  | _ => []
def laws_eqTaskS_L : Nat → List (Nat × TK)
  | 4 => [(5, .v (.int .i64))]
  | _ => []
theorem laws_eqTaskS_eq (N : Nat) : runF N tt (laws_eqTaskS_T N) laws_eqTaskS_L [(.sl (.pair (.int .i64) (.pair (.int .i64) (.pair (.sl (.int .i64)) (.sl (.int .i64)))))), (.sl (.pair (.int .i64) (.pair (.int .i64) (.pair (.sl (.int .i64)) (.sl (.int .i64))))))] [.val .bool] (bodyOf Try.f20) Try.f20.ntmps [4] = (laws_eqTaskS_e N).F := by
  funext x
  kernel_rfl
theorem laws_eqTaskS_sound (N : Nat) : SoundC Try.prog 20 (laws_eqTaskS_e N) := by
  have h := runF_sound (f := 20) (code := bodyOf Try.f20) (N := N) (T := laws_eqTaskS_T N) (L := laws_eqTaskS_L) (ins := [(.sl (.pair (.int .i64) (.pair (.int .i64) (.pair (.sl (.int .i64)) (.sl (.int .i64)))))), (.sl (.pair (.int .i64) (.pair (.int .i64) (.pair (.sl (.int .i64)) (.sl (.int .i64))))))]) (outs := [.val .bool]) (res := [4]) mixed tt_ok ?_ Try.func20 (by kernel_rfl) rfl (by kernel_rfl) (by kernel_rfl) (by decide +kernel)
  · rw [laws_eqTaskS_eq] at h
    exact h
  · intro f e he
    unfold laws_eqTaskS_T at he
    split at he
    · rw [List.mem_singleton.1 he]; exact laws_eqTask_sound N
    · cases he

/- spec.l00In -/
def spec_l00In (_N : Nat) (x0 : Int) (x1 : Int) (x2 : Int) : Option (Bool × Unit) :=
  cond (decide (x0 ≥ x1))
    (some ((decide (x0 ≤ x2)), ()))
    (some (false, ()))
def spec_l00In_e (N : Nat) : Ent := { ins := [(.int .i64), (.int .i64), (.int .i64)], outs := [.val .bool], F := fun x => spec_l00In N x.1 x.2.1 x.2.2.1 }
def spec_l00In_T (_ : Nat) : Nat → List EntX := fun _ => []
def spec_l00In_L : Nat → List (Nat × TK) := fun _ => []
theorem spec_l00In_eq (N : Nat) : runF N tt (spec_l00In_T N) spec_l00In_L [(.int .i64), (.int .i64), (.int .i64)] [.val .bool] (bodyOf Try.f49) Try.f49.ntmps [6] = (spec_l00In_e N).F := by
  funext x
  kernel_rfl
theorem spec_l00In_sound (N : Nat) : SoundC Try.prog 49 (spec_l00In_e N) := by
  have h := runF_sound (f := 49) (code := bodyOf Try.f49) (N := N) (T := spec_l00In_T N) (L := spec_l00In_L) (ins := [(.int .i64), (.int .i64), (.int .i64)]) (outs := [.val .bool]) (res := [6]) mixed tt_ok ?_ Try.func49 (by kernel_rfl) rfl (by kernel_rfl) (by kernel_rfl) (by decide +kernel)
  · rw [spec_l00In_eq] at h
    exact h
  · intro f e he
    cases he

/- spec.l03Task -/
def spec_l03Task (N : Nat) (x0 : Int × Int × (List Int) × List Int) (x1 : Int) : Option (Bool × Unit) :=
  Option.bind (spec_l00In N x0.1 0 100) fun r1 =>
  cond (!r1.1)
    (some (false, ()))
    (Option.bind (spec_l00In N x0.2.1 0 20) fun r2 =>
    cond (!r2.1)
      (some (false, ()))
      (cond ((List.length x0.2.2.2 : Int) != (List.length x0.2.2.1 : Int))
        (some (false, ()))
        (loopN (fun (s3 : Int × Unit) next4 =>
          cond (decide (s3.1 < (List.length x0.2.2.1 : Int)))
            (Option.bind (idx x0.2.2.1 s3.1) fun v5 =>
            Option.bind (spec_l00In N v5 0 (w64 (x1 - 1))) fun r6 =>
            cond (!r6.1)
              (some (false, ()))
              (cond (decide (s3.1 > 0))
                (Option.bind (idx x0.2.2.1 s3.1) fun v7 =>
                Option.bind (idx x0.2.2.1 (w64 (s3.1 - 1))) fun v8 =>
                cond (decide (v7 ≤ v8))
                  (some (false, ()))
                  (Option.bind (idx x0.2.2.2 s3.1) fun v9 =>
                  Option.bind (spec_l00In N v9 (-100) 100) fun r10 =>
                  cond (!r10.1)
                    (some (false, ()))
                    (next4 ((w64 (s3.1 + 1)), ()))))
                (Option.bind (idx x0.2.2.2 s3.1) fun v11 =>
                Option.bind (spec_l00In N v11 (-100) 100) fun r12 =>
                cond (!r12.1)
                  (some (false, ()))
                  (next4 ((w64 (s3.1 + 1)), ())))))
            (some (true, ()))) N (0, ()))))
def spec_l03Task_e (N : Nat) : Ent := { ins := [(.bx (.pair (.int .i64) (.pair (.int .i64) (.pair (.sl (.int .i64)) (.sl (.int .i64)))))), (.int .i64)], outs := [.val .bool], F := fun x => spec_l03Task N x.1 x.2.1 }
def spec_l03Task_T (N : Nat) : Nat → List EntX
  | 49 => [.pl (spec_l00In_e N)]
  | _ => []
def spec_l03Task_L : Nat → List (Nat × TK)
  | 4 => [(38, .v (.int .i64))]
  | _ => []
theorem spec_l03Task_eq (N : Nat) : runF N tt (spec_l03Task_T N) spec_l03Task_L [(.bx (.pair (.int .i64) (.pair (.int .i64) (.pair (.sl (.int .i64)) (.sl (.int .i64)))))), (.int .i64)] [.val .bool] (bodyOf Try.f86) Try.f86.ntmps [4] = (spec_l03Task_e N).F := by
  funext x
  kernel_rfl
theorem spec_l03Task_sound (N : Nat) : SoundC Try.prog 86 (spec_l03Task_e N) := by
  have h := runF_sound (f := 86) (code := bodyOf Try.f86) (N := N) (T := spec_l03Task_T N) (L := spec_l03Task_L) (ins := [(.bx (.pair (.int .i64) (.pair (.int .i64) (.pair (.sl (.int .i64)) (.sl (.int .i64)))))), (.int .i64)]) (outs := [.val .bool]) (res := [4]) mixed tt_ok ?_ Try.func86 (by kernel_rfl) rfl (by kernel_rfl) (by kernel_rfl) (by decide +kernel)
  · rw [spec_l03Task_eq] at h
    exact h
  · intro f e he
    unfold spec_l03Task_T at he
    split at he
    · rw [List.mem_singleton.1 he]; exact spec_l00In_sound N
    · cases he

/- spec.l03Are -/
def spec_l03Are (N : Nat) (x0 : List (Int × Int × (List Int) × List Int)) : Option (Bool × Unit) :=
  loopN (fun (s1 : Int × Unit) next2 =>
    cond (decide (s1.1 < (List.length x0 : Int)))
      (Option.bind (idx x0 s1.1) fun v3 =>
      Option.bind (spec_l03Task N v3 s1.1) fun r4 =>
      cond (!r4.1)
        (some (false, ()))
        (next2 ((w64 (s1.1 + 1)), ())))
      (cond (decide ((List.length x0 : Int) ≥ 1))
        (some ((decide ((List.length x0 : Int) ≤ 16)), ()))
        (some (false, ())))) N (0, ())
def spec_l03Are_e (N : Nat) : Ent := { ins := [(.sl (.pair (.int .i64) (.pair (.int .i64) (.pair (.sl (.int .i64)) (.sl (.int .i64))))))], outs := [.val .bool], F := fun x => spec_l03Are N x.1 }
def spec_l03Are_T (N : Nat) : Nat → List EntX
  | 86 => [.pl (spec_l03Task_e N)]
  | _ => []
def spec_l03Are_L : Nat → List (Nat × TK)
  | 2 => [(6, .v (.int .i64))]
  | _ => []
theorem spec_l03Are_eq (N : Nat) : runF N tt (spec_l03Are_T N) spec_l03Are_L [(.sl (.pair (.int .i64) (.pair (.int .i64) (.pair (.sl (.int .i64)) (.sl (.int .i64))))))] [.val .bool] (bodyOf Try.f57) Try.f57.ntmps [2] = (spec_l03Are_e N).F := by
  funext x
  kernel_rfl
theorem spec_l03Are_sound (N : Nat) : SoundC Try.prog 57 (spec_l03Are_e N) := by
  have h := runF_sound (f := 57) (code := bodyOf Try.f57) (N := N) (T := spec_l03Are_T N) (L := spec_l03Are_L) (ins := [(.sl (.pair (.int .i64) (.pair (.int .i64) (.pair (.sl (.int .i64)) (.sl (.int .i64))))))]) (outs := [.val .bool]) (res := [2]) mixed tt_ok ?_ Try.func57 (by kernel_rfl) rfl (by kernel_rfl) (by kernel_rfl) (by decide +kernel)
  · rw [spec_l03Are_eq] at h
    exact h
  · intro f e he
    unfold spec_l03Are_T at he
    split at he
    · rw [List.mem_singleton.1 he]; exact spec_l03Task_sound N
    · cases he

/- spec.CountWays -/
def spec_CountWays (N : Nat) (x0 : List (Int × Int × (List Int) × List Int)) : Option (Int × Bool × Unit) :=
  Option.bind (spec_l03Are N x0) fun r1 =>
  cond (!r1.1)
    (some (0, false, ()))
    (cond (mkOk (List.length x0 : Int) (List.length x0 : Int))
      (let xs2 := (List.replicate (Int.toNat (List.length x0 : Int)) (0 : Int) : List (Int))
      cond (mkOk (List.length x0 : Int) (List.length x0 : Int))
        (let xs3 := (List.replicate (Int.toNat (List.length x0 : Int)) false : List (Bool))
        loopN (fun (s4 : List (Int) × List (Bool) × Int × Unit) next5 =>
          cond (decide (s4.2.2.1 < (List.length x0 : Int)))
            (Option.bind (idx x0 s4.2.2.1) fun v6 =>
            cond ((List.length v6.2.2.1 : Int) == 0)
              (cond (inB s4.2.2.1 (List.length s4.1))
                (let xs7 := (List.set s4.1 (Int.toNat s4.2.2.1) 1)
                Option.bind (idx x0 s4.2.2.1) fun v8 =>
                loopN (fun (s9 : List (Int) × List (Bool) × Int × Unit) next10 =>
                  cond (decide (s9.2.2.1 < (List.length v8.2.2.1 : Int)))
                    (cond (inB s4.2.2.1 (List.length s9.1))
                      (Option.bind (s9.1[(Int.toNat s4.2.2.1)]?) fun v11 =>
                      Option.bind (idx x0 s4.2.2.1) fun v12 =>
                      Option.bind (idx v12.2.2.1 s9.2.2.1) fun v13 =>
                      cond (inB v13 (List.length s9.1))
                        (Option.bind (s9.1[(Int.toNat v13)]?) fun v14 =>
                        cond (inB s4.2.2.1 (List.length s9.1))
                          (let xs15 := (List.set s9.1 (Int.toNat s4.2.2.1) (w64 (v11 + v14)))
                          Option.bind (idx x0 s4.2.2.1) fun v16 =>
                          Option.bind (idx v16.2.2.1 s9.2.2.1) fun v17 =>
                          cond (inB v17 (List.length s9.2.1))
                            (let xs18 := (List.set s9.2.1 (Int.toNat v17) true)
                            next10 (xs15, xs18, (w64 (s9.2.2.1 + 1)), ())) none) none) none) none)
                    (next5 (s9.1, s9.2.1, (w64 (s4.2.2.1 + 1)), ()))) N (xs7, s4.2.1, 0, ())) none)
              (Option.bind (idx x0 s4.2.2.1) fun v19 =>
              loopN (fun (s20 : List (Int) × List (Bool) × Int × Unit) next21 =>
                cond (decide (s20.2.2.1 < (List.length v19.2.2.1 : Int)))
                  (cond (inB s4.2.2.1 (List.length s20.1))
                    (Option.bind (s20.1[(Int.toNat s4.2.2.1)]?) fun v22 =>
                    Option.bind (idx x0 s4.2.2.1) fun v23 =>
                    Option.bind (idx v23.2.2.1 s20.2.2.1) fun v24 =>
                    cond (inB v24 (List.length s20.1))
                      (Option.bind (s20.1[(Int.toNat v24)]?) fun v25 =>
                      cond (inB s4.2.2.1 (List.length s20.1))
                        (let xs26 := (List.set s20.1 (Int.toNat s4.2.2.1) (w64 (v22 + v25)))
                        Option.bind (idx x0 s4.2.2.1) fun v27 =>
                        Option.bind (idx v27.2.2.1 s20.2.2.1) fun v28 =>
                        cond (inB v28 (List.length s20.2.1))
                          (let xs29 := (List.set s20.2.1 (Int.toNat v28) true)
                          next21 (xs26, xs29, (w64 (s20.2.2.1 + 1)), ())) none) none) none) none)
                  (next5 (s20.1, s20.2.1, (w64 (s4.2.2.1 + 1)), ()))) N (s4.1, s4.2.1, 0, ())))
            (loopN (fun (s30 : Int × Int × Unit) next31 =>
              cond (decide (s30.2.1 < (List.length x0 : Int)))
                (cond (inB s30.2.1 (List.length s4.2.1))
                  (Option.bind (s4.2.1[(Int.toNat s30.2.1)]?) fun v32 =>
                  cond (!v32)
                    (cond (inB s30.2.1 (List.length s4.1))
                      (Option.bind (s4.1[(Int.toNat s30.2.1)]?) fun v33 =>
                      next31 ((w64 (s30.1 + v33)), (w64 (s30.2.1 + 1)), ())) none)
                    (next31 (s30.1, (w64 (s30.2.1 + 1)), ()))) none)
                (some (s30.1, true, ()))) N (0, 0, ()))) N (xs2, xs3, 0, ())) none) none)
def spec_CountWays_e (N : Nat) : Ent := { ins := [(.sl (.pair (.int .i64) (.pair (.int .i64) (.pair (.sl (.int .i64)) (.sl (.int .i64))))))], outs := [.val (.int .i64), .val .bool], F := fun x => spec_CountWays N x.1 }
def spec_CountWays_T (N : Nat) : Nat → List EntX
  | 57 => [.pl (spec_l03Are_e N)]
  | _ => []
def spec_CountWays_L : Nat → List (Nat × TK)
  | 6 => [(4, .own (.int .i64)), (5, .own .bool), (21, .v (.int .i64))]
  | 11 => [(4, .own (.int .i64)), (5, .own .bool), (40, .v (.int .i64))]
  | 19 => [(8, .v (.int .i64)), (74, .v (.int .i64))]
  | _ => []
theorem spec_CountWays_eq (N : Nat) : runF N tt (spec_CountWays_T N) spec_CountWays_L [(.sl (.pair (.int .i64) (.pair (.int .i64) (.pair (.sl (.int .i64)) (.sl (.int .i64))))))] [.val (.int .i64), .val .bool] (bodyOf Try.f31) Try.f31.ntmps [2, 3] = (spec_CountWays_e N).F := by
  funext x
  kernel_rfl
theorem spec_CountWays_sound (N : Nat) : SoundC Try.prog 31 (spec_CountWays_e N) := by
  have h := runF_sound (f := 31) (code := bodyOf Try.f31) (N := N) (T := spec_CountWays_T N) (L := spec_CountWays_L) (ins := [(.sl (.pair (.int .i64) (.pair (.int .i64) (.pair (.sl (.int .i64)) (.sl (.int .i64))))))]) (outs := [.val (.int .i64), .val .bool]) (res := [2, 3]) mixed tt_ok ?_ Try.func31 (by kernel_rfl) rfl (by kernel_rfl) (by kernel_rfl) (by decide +kernel)
  · rw [spec_CountWays_eq] at h
    exact h
  · intro f e he
    unfold spec_CountWays_T at he
    split at he
    · rw [List.mem_singleton.1 he]; exact spec_l03Are_sound N
    · cases he

/- impl.within -/
def impl_within (_N : Nat) (x0 : Int) (x1 : Int) (x2 : Int) : Option (Bool × Unit) :=
  cond (decide (x0 ≥ x1))
    (some ((decide (x0 ≤ x2)), ()))
    (some (false, ()))
def impl_within_e (N : Nat) : Ent := { ins := [(.int .i64), (.int .i64), (.int .i64)], outs := [.val .bool], F := fun x => impl_within N x.1 x.2.1 x.2.2.1 }
def impl_within_T (_ : Nat) : Nat → List EntX := fun _ => []
def impl_within_L : Nat → List (Nat × TK) := fun _ => []
theorem impl_within_eq (N : Nat) : runF N tt (impl_within_T N) impl_within_L [(.int .i64), (.int .i64), (.int .i64)] [.val .bool] (bodyOf Try.f55) Try.f55.ntmps [6] = (impl_within_e N).F := by
  funext x
  kernel_rfl
theorem impl_within_sound (N : Nat) : SoundC Try.prog 55 (impl_within_e N) := by
  have h := runF_sound (f := 55) (code := bodyOf Try.f55) (N := N) (T := impl_within_T N) (L := impl_within_L) (ins := [(.int .i64), (.int .i64), (.int .i64)]) (outs := [.val .bool]) (res := [6]) mixed tt_ok ?_ Try.func55 (by kernel_rfl) rfl (by kernel_rfl) (by kernel_rfl) (by decide +kernel)
  · rw [impl_within_eq] at h
    exact h
  · intro f e he
    cases he

/- impl.areWithin -/
def impl_areWithin (N : Nat) (x0 : List Int) (x1 : Int) (x2 : Int) : Option (Bool × Unit) :=
  loopN (fun (s1 : Int × Unit) next2 =>
    cond (decide (s1.1 < (List.length x0 : Int)))
      (Option.bind (idx x0 s1.1) fun v3 =>
      Option.bind (impl_within N v3 x1 x2) fun r4 =>
      cond (!r4.1)
        (some (false, ()))
        (next2 ((w64 (s1.1 + 1)), ())))
      (some (true, ()))) N (0, ())
def impl_areWithin_e (N : Nat) : Ent := { ins := [(.sl (.int .i64)), (.int .i64), (.int .i64)], outs := [.val .bool], F := fun x => impl_areWithin N x.1 x.2.1 x.2.2.1 }
def impl_areWithin_T (N : Nat) : Nat → List EntX
  | 55 => [.pl (impl_within_e N)]
  | _ => []
def impl_areWithin_L : Nat → List (Nat × TK)
  | 2 => [(11, .v (.int .i64))]
  | _ => []
theorem impl_areWithin_eq (N : Nat) : runF N tt (impl_areWithin_T N) impl_areWithin_L [(.sl (.int .i64)), (.int .i64), (.int .i64)] [.val .bool] (bodyOf Try.f68) Try.f68.ntmps [6] = (impl_areWithin_e N).F := by
  funext x
  kernel_rfl
theorem impl_areWithin_sound (N : Nat) : SoundC Try.prog 68 (impl_areWithin_e N) := by
  have h := runF_sound (f := 68) (code := bodyOf Try.f68) (N := N) (T := impl_areWithin_T N) (L := impl_areWithin_L) (ins := [(.sl (.int .i64)), (.int .i64), (.int .i64)]) (outs := [.val .bool]) (res := [6]) mixed tt_ok ?_ Try.func68 (by kernel_rfl) rfl (by kernel_rfl) (by kernel_rfl) (by decide +kernel)
  · rw [impl_areWithin_eq] at h
    exact h
  · intro f e he
    unfold impl_areWithin_T at he
    split at he
    · rw [List.mem_singleton.1 he]; exact impl_within_sound N
    · cases he

/- impl.AreTasks -/
def impl_AreTasks (N : Nat) (x0 : List (Int × Int × (List Int) × List Int)) : Option (Bool × Unit) :=
  loopN (fun (s1 : Int × Unit) next2 =>
    cond (decide (s1.1 < (List.length x0 : Int)))
      (Option.bind (idx x0 s1.1) fun v3 =>
      Option.bind (impl_within N v3.1 0 100) fun r4 =>
      cond (!r4.1)
        (some (false, ()))
        (Option.bind (impl_within N v3.2.1 0 20) fun r5 =>
        cond (!r5.1)
          (some (false, ()))
          (cond ((List.length v3.2.2.1 : Int) != (List.length v3.2.2.2 : Int))
            (some (false, ()))
            (Option.bind (impl_areWithin N v3.2.2.2 (-100) 100) fun r6 =>
            cond (!r6.1)
              (some (false, ()))
              (loopN (fun (s7 : Int × Unit) next8 =>
                cond (decide (s7.1 < (List.length v3.2.2.1 : Int)))
                  (Option.bind (idx v3.2.2.1 s7.1) fun v9 =>
                  Option.bind (impl_within N v9 0 (w64 (s1.1 - 1))) fun r10 =>
                  cond (!r10.1)
                    (some (false, ()))
                    (cond (decide (s7.1 > 0))
                      (Option.bind (idx v3.2.2.1 (w64 (s7.1 - 1))) fun v11 =>
                      cond (decide (v9 ≤ v11))
                        (some (false, ()))
                        (next8 ((w64 (s7.1 + 1)), ())))
                      (next8 ((w64 (s7.1 + 1)), ()))))
                  (next2 ((w64 (s1.1 + 1)), ()))) N (0, ()))))))
      (cond (decide ((List.length x0 : Int) ≥ 1))
        (some ((decide ((List.length x0 : Int) ≤ 16)), ()))
        (some (false, ())))) N (0, ())
def impl_AreTasks_e (N : Nat) : Ent := { ins := [(.sl (.pair (.int .i64) (.pair (.int .i64) (.pair (.sl (.int .i64)) (.sl (.int .i64))))))], outs := [.val .bool], F := fun x => impl_AreTasks N x.1 }
def impl_AreTasks_T (N : Nat) : Nat → List EntX
  | 55 => [.pl (impl_within_e N)]
  | 68 => [.pl (impl_areWithin_e N)]
  | _ => []
def impl_AreTasks_L : Nat → List (Nat × TK)
  | 2 => [(9, .v (.int .i64))]
  | 7 => [(42, .v (.int .i64))]
  | _ => []
theorem impl_AreTasks_eq (N : Nat) : runF N tt (impl_AreTasks_T N) impl_AreTasks_L [(.sl (.pair (.int .i64) (.pair (.int .i64) (.pair (.sl (.int .i64)) (.sl (.int .i64))))))] [.val .bool] (bodyOf Try.f53) Try.f53.ntmps [2] = (impl_AreTasks_e N).F := by
  funext x
  kernel_rfl
theorem impl_AreTasks_sound (N : Nat) : SoundC Try.prog 53 (impl_AreTasks_e N) := by
  have h := runF_sound (f := 53) (code := bodyOf Try.f53) (N := N) (T := impl_AreTasks_T N) (L := impl_AreTasks_L) (ins := [(.sl (.pair (.int .i64) (.pair (.int .i64) (.pair (.sl (.int .i64)) (.sl (.int .i64))))))]) (outs := [.val .bool]) (res := [2]) mixed tt_ok ?_ Try.func53 (by kernel_rfl) rfl (by kernel_rfl) (by kernel_rfl) (by decide +kernel)
  · rw [impl_AreTasks_eq] at h
    exact h
  · intro f e he
    unfold impl_AreTasks_T at he
    split at he
    · rw [List.mem_singleton.1 he]; exact impl_within_sound N
    · rw [List.mem_singleton.1 he]; exact impl_areWithin_sound N
    · cases he

/- math/bits.Mul32 -/
def math_bits_Mul32 (_N : Nat) (x0 : Int) (x1 : Int) : Option (Int × Int × Unit) :=
  some ((IntKind.wrap .u32 (ishr .u64 (IntKind.wrap .u64 ((IntKind.wrap .u64 x0) * (IntKind.wrap .u64 x1))) 32)), (IntKind.wrap .u32 (IntKind.wrap .u64 ((IntKind.wrap .u64 x0) * (IntKind.wrap .u64 x1)))), ())
def math_bits_Mul32_e (N : Nat) : Ent := { ins := [(.int .u32), (.int .u32)], outs := [.val (.int .u32), .val (.int .u32)], F := fun x => math_bits_Mul32 N x.1 x.2.1 }
def math_bits_Mul32_T (_ : Nat) : Nat → List EntX := fun _ => []
def math_bits_Mul32_L : Nat → List (Nat × TK) := fun _ => []
theorem math_bits_Mul32_eq (N : Nat) : runF N tt (math_bits_Mul32_T N) math_bits_Mul32_L [(.int .u32), (.int .u32)] [.val (.int .u32), .val (.int .u32)] (bodyOf Try.f89) Try.f89.ntmps [4, 5] = (math_bits_Mul32_e N).F := by
  funext x
  kernel_rfl
theorem math_bits_Mul32_sound (N : Nat) : SoundC Try.prog 89 (math_bits_Mul32_e N) := by
  have h := runF_sound (f := 89) (code := bodyOf Try.f89) (N := N) (T := math_bits_Mul32_T N) (L := math_bits_Mul32_L) (ins := [(.int .u32), (.int .u32)]) (outs := [.val (.int .u32), .val (.int .u32)]) (res := [4, 5]) mixed tt_ok ?_ Try.func89 (by kernel_rfl) rfl (by kernel_rfl) (by kernel_rfl) (by decide +kernel)
  · rw [math_bits_Mul32_eq] at h
    exact h
  · intro f e he
    cases he

/- math/bits.Mul64 -/
def math_bits_Mul64 (_N : Nat) (x0 : Int) (x1 : Int) : Option (Int × Int × Unit) :=
  some ((IntKind.wrap .u64 ((IntKind.wrap .u64 ((IntKind.wrap .u64 ((ishr .u64 x0 32) * (ishr .u64 x1 32))) + (ishr .u64 (IntKind.wrap .u64 ((IntKind.wrap .u64 ((ishr .u64 x0 32) * (ibits .and .u64 x1 4294967295))) + (ishr .u64 (IntKind.wrap .u64 ((ibits .and .u64 x0 4294967295) * (ibits .and .u64 x1 4294967295))) 32))) 32))) + (ishr .u64 (IntKind.wrap .u64 ((ibits .and .u64 (IntKind.wrap .u64 ((IntKind.wrap .u64 ((ishr .u64 x0 32) * (ibits .and .u64 x1 4294967295))) + (ishr .u64 (IntKind.wrap .u64 ((ibits .and .u64 x0 4294967295) * (ibits .and .u64 x1 4294967295))) 32))) 4294967295) + (IntKind.wrap .u64 ((ibits .and .u64 x0 4294967295) * (ishr .u64 x1 32))))) 32))), (IntKind.wrap .u64 (x0 * x1)), ())
def math_bits_Mul64_e (N : Nat) : Ent := { ins := [(.int .u64), (.int .u64)], outs := [.val (.int .u64), .val (.int .u64)], F := fun x => math_bits_Mul64 N x.1 x.2.1 }
def math_bits_Mul64_T (_ : Nat) : Nat → List EntX := fun _ => []
def math_bits_Mul64_L : Nat → List (Nat × TK) := fun _ => []
theorem math_bits_Mul64_eq (N : Nat) : runF N tt (math_bits_Mul64_T N) math_bits_Mul64_L [(.int .u64), (.int .u64)] [.val (.int .u64), .val (.int .u64)] (bodyOf Try.f90) Try.f90.ntmps [4, 5] = (math_bits_Mul64_e N).F := by
  funext x
  kernel_rfl
theorem math_bits_Mul64_sound (N : Nat) : SoundC Try.prog 90 (math_bits_Mul64_e N) := by
  have h := runF_sound (f := 90) (code := bodyOf Try.f90) (N := N) (T := math_bits_Mul64_T N) (L := math_bits_Mul64_L) (ins := [(.int .u64), (.int .u64)]) (outs := [.val (.int .u64), .val (.int .u64)]) (res := [4, 5]) mixed tt_ok ?_ Try.func90 (by kernel_rfl) rfl (by kernel_rfl) (by kernel_rfl) (by decide +kernel)
  · rw [math_bits_Mul64_eq] at h
    exact h
  · intro f e he
    cases he

/- math/bits.Mul -/
def math_bits_Mul (N : Nat) (x0 : Int) (x1 : Int) : Option (Int × Int × Unit) :=
  Option.bind (math_bits_Mul64 N x0 x1) fun r1 =>
  some (r1.1, r1.2.1, ())
def math_bits_Mul_e (N : Nat) : Ent := { ins := [(.int .u64), (.int .u64)], outs := [.val (.int .u64), .val (.int .u64)], F := fun x => math_bits_Mul N x.1 x.2.1 }
def math_bits_Mul_T (N : Nat) : Nat → List EntX
  | 90 => [.pl (math_bits_Mul64_e N)]
  | _ => []
def math_bits_Mul_L : Nat → List (Nat × TK) := fun _ => []
theorem math_bits_Mul_eq (N : Nat) : runF N tt (math_bits_Mul_T N) math_bits_Mul_L [(.int .u64), (.int .u64)] [.val (.int .u64), .val (.int .u64)] (bodyOf Try.f87) Try.f87.ntmps [4, 5] = (math_bits_Mul_e N).F := by
  funext x
  kernel_rfl
theorem math_bits_Mul_sound (N : Nat) : SoundC Try.prog 87 (math_bits_Mul_e N) := by
  have h := runF_sound (f := 87) (code := bodyOf Try.f87) (N := N) (T := math_bits_Mul_T N) (L := math_bits_Mul_L) (ins := [(.int .u64), (.int .u64)]) (outs := [.val (.int .u64), .val (.int .u64)]) (res := [4, 5]) mixed tt_ok ?_ Try.func87 (by kernel_rfl) rfl (by kernel_rfl) (by kernel_rfl) (by decide +kernel)
  · rw [math_bits_Mul_eq] at h
    exact h
  · intro f e he
    unfold math_bits_Mul_T at he
    split at he
    · rw [List.mem_singleton.1 he]; exact math_bits_Mul64_sound N
    · cases he

/- slices.Repeat[[]bool,bool] -/
def slices_Repeat_bool_bool (N : Nat) (x0 : List Bool) (x1 : Int) : Option (List (Bool) × Unit) :=
  cond (decide (x1 < 0))
    (none)
    (Option.bind (math_bits_Mul N (IntKind.wrap .u64 (List.length x0 : Int)) (IntKind.wrap .u64 x1)) fun r1 =>
    cond (decide (r1.1 > 0))
      (none)
      (cond (decide (r1.2.1 > 9223372036854775807))
        (none)
        (cond (mkOk (IntKind.wrap .i64 r1.2.1) (IntKind.wrap .i64 r1.2.1))
          (let xs2 := (List.replicate (Int.toNat (IntKind.wrap .i64 r1.2.1)) false : List (Bool))
          let xs3 := (copyL xs2 0 (copyN (List.length xs2) x0) x0)
          loopN (fun (s4 : List (Bool) × Int × Unit) next5 =>
            cond (decide (s4.2.1 < (List.length s4.1 : Int)))
              (cond (decide (0 ≤ s4.2.1) && decide (s4.2.1 ≤ (List.length s4.1 : Int)) && decide ((List.length s4.1 : Int) ≤ (List.length s4.1 : Int)))
                (cond (decide (0 ≤ (0 : Int)) && decide ((0 : Int) ≤ s4.2.1) && decide (s4.2.1 ≤ (List.length s4.1 : Int)))
                  (let xs6 := (copyL s4.1 (Int.toNat s4.2.1) (copyN (Int.toNat (List.length s4.1 : Int) - Int.toNat s4.2.1) ((s4.1.drop (Int.toNat (0 : Int))).take (Int.toNat s4.2.1 - Int.toNat (0 : Int)))) ((s4.1.drop (Int.toNat (0 : Int))).take (Int.toNat s4.2.1 - Int.toNat (0 : Int))))
                  next5 (xs6, (w64 (s4.2.1 + ((copyN (Int.toNat (List.length s4.1 : Int) - Int.toNat s4.2.1) ((s4.1.drop (Int.toNat (0 : Int))).take (Int.toNat s4.2.1 - Int.toNat (0 : Int)))) : Int))), ())) none) none)
              (some (s4.1, ()))) N (xs3, ((copyN (List.length xs2) x0) : Int), ())) none)))
def slices_Repeat_bool_bool_e (N : Nat) : Ent := { ins := [(.sl .bool), (.int .i64)], outs := [.own .bool], F := fun x => slices_Repeat_bool_bool N x.1 x.2.1 }
def slices_Repeat_bool_bool_T (N : Nat) : Nat → List EntX
  | 87 => [.pl (math_bits_Mul_e N)]
  | _ => []
def slices_Repeat_bool_bool_L : Nat → List (Nat × TK)
  | 8 => [(7, .own .bool), (8, .v (.int .i64))]
  | _ => []
theorem slices_Repeat_bool_bool_eq (N : Nat) : runF N tt (slices_Repeat_bool_bool_T N) slices_Repeat_bool_bool_L [(.sl .bool), (.int .i64)] [.own .bool] (bodyOf Try.f64) Try.f64.ntmps [4] = (slices_Repeat_bool_bool_e N).F := by
  funext x
  kernel_rfl
theorem slices_Repeat_bool_bool_sound (N : Nat) : SoundC Try.prog 64 (slices_Repeat_bool_bool_e N) := by
  have h := runF_sound (f := 64) (code := bodyOf Try.f64) (N := N) (T := slices_Repeat_bool_bool_T N) (L := slices_Repeat_bool_bool_L) (ins := [(.sl .bool), (.int .i64)]) (outs := [.own .bool]) (res := [4]) mixed tt_ok ?_ Try.func64 (by kernel_rfl) rfl (by kernel_rfl) (by kernel_rfl) (by decide +kernel)
  · rw [slices_Repeat_bool_bool_eq] at h
    exact h
  · intro f e he
    unfold slices_Repeat_bool_bool_T at he
    split at he
    · rw [List.mem_singleton.1 he]; exact math_bits_Mul_sound N
    · cases he

/- impl.CountWays -/
def impl_CountWays (N : Nat) (x0 : List (Int × Int × (List Int) × List Int)) : Option (Int × Bool × Unit) :=
  Option.bind (impl_AreTasks N x0) fun r1 =>
  cond (!r1.1)
    (some (0, false, ()))
    (cond (mkOk (List.length x0 : Int) (List.length x0 : Int))
      (let xs2 := (List.replicate (Int.toNat (List.length x0 : Int)) (0 : Int) : List (Int))
      Option.bind (slices_Repeat_bool_bool N ([true] : List Bool) (List.length x0 : Int)) fun r3 =>
      loopN (fun (s4 : List (Int) × List (Bool) × Int × Unit) next5 =>
        cond (decide (s4.2.2.1 < (List.length x0 : Int)))
          (Option.bind (idx x0 s4.2.2.1) fun v6 =>
          cond ((List.length v6.2.2.1 : Int) == 0)
            (cond (inB s4.2.2.1 (List.length s4.1))
              (let xs7 := (List.set s4.1 (Int.toNat s4.2.2.1) 1)
              loopN (fun (s8 : List (Int) × List (Bool) × Int × Unit) next9 =>
                cond (decide (s8.2.2.1 < (List.length v6.2.2.1 : Int)))
                  (Option.bind (idx v6.2.2.1 s8.2.2.1) fun v10 =>
                  cond (inB s4.2.2.1 (List.length s8.1))
                    (Option.bind (s8.1[(Int.toNat s4.2.2.1)]?) fun v11 =>
                    cond (inB v10 (List.length s8.1))
                      (Option.bind (s8.1[(Int.toNat v10)]?) fun v12 =>
                      cond (inB s4.2.2.1 (List.length s8.1))
                        (let xs13 := (List.set s8.1 (Int.toNat s4.2.2.1) (w64 (v11 + v12)))
                        cond (inB v10 (List.length s8.2.1))
                          (let xs14 := (List.set s8.2.1 (Int.toNat v10) false)
                          next9 (xs13, xs14, (w64 (s8.2.2.1 + 1)), ())) none) none) none) none)
                  (next5 (s8.1, s8.2.1, (w64 (s4.2.2.1 + 1)), ()))) N (xs7, s4.2.1, 0, ())) none)
            (loopN (fun (s15 : List (Int) × List (Bool) × Int × Unit) next16 =>
              cond (decide (s15.2.2.1 < (List.length v6.2.2.1 : Int)))
                (Option.bind (idx v6.2.2.1 s15.2.2.1) fun v17 =>
                cond (inB s4.2.2.1 (List.length s15.1))
                  (Option.bind (s15.1[(Int.toNat s4.2.2.1)]?) fun v18 =>
                  cond (inB v17 (List.length s15.1))
                    (Option.bind (s15.1[(Int.toNat v17)]?) fun v19 =>
                    cond (inB s4.2.2.1 (List.length s15.1))
                      (let xs20 := (List.set s15.1 (Int.toNat s4.2.2.1) (w64 (v18 + v19)))
                      cond (inB v17 (List.length s15.2.1))
                        (let xs21 := (List.set s15.2.1 (Int.toNat v17) false)
                        next16 (xs20, xs21, (w64 (s15.2.2.1 + 1)), ())) none) none) none) none)
                (next5 (s15.1, s15.2.1, (w64 (s4.2.2.1 + 1)), ()))) N (s4.1, s4.2.1, 0, ())))
          (loopN (fun (s22 : Int × Int × Unit) next23 =>
            cond (decide (s22.2.1 < (List.length s4.2.1 : Int)))
              (cond (inB s22.2.1 (List.length s4.2.1))
                (Option.bind (s4.2.1[(Int.toNat s22.2.1)]?) fun v24 =>
                cond v24
                  (cond (inB s22.2.1 (List.length s4.1))
                    (Option.bind (s4.1[(Int.toNat s22.2.1)]?) fun v25 =>
                    next23 ((w64 (s22.1 + v25)), (w64 (s22.2.1 + 1)), ())) none)
                  (next23 (s22.1, (w64 (s22.2.1 + 1)), ()))) none)
              (some (s22.1, true, ()))) N (0, 0, ()))) N (xs2, r3.1, 0, ())) none)
def impl_CountWays_e (N : Nat) : Ent := { ins := [(.sl (.pair (.int .i64) (.pair (.int .i64) (.pair (.sl (.int .i64)) (.sl (.int .i64))))))], outs := [.val (.int .i64), .val .bool], F := fun x => impl_CountWays N x.1 }
def impl_CountWays_T (N : Nat) : Nat → List EntX
  | 53 => [.pl (impl_AreTasks_e N)]
  | 64 => [.pl (slices_Repeat_bool_bool_e N)]
  | _ => []
def impl_CountWays_L : Nat → List (Nat × TK)
  | 6 => [(4, .own (.int .i64)), (5, .own .bool), (25, .v (.int .i64))]
  | 11 => [(4, .own (.int .i64)), (5, .own .bool), (40, .v (.int .i64))]
  | 19 => [(10, .v (.int .i64)), (61, .v (.int .i64))]
  | _ => []
theorem impl_CountWays_eq (N : Nat) : runF N tt (impl_CountWays_T N) impl_CountWays_L [(.sl (.pair (.int .i64) (.pair (.int .i64) (.pair (.sl (.int .i64)) (.sl (.int .i64))))))] [.val (.int .i64), .val .bool] (bodyOf Try.f32) Try.f32.ntmps [2, 3] = (impl_CountWays_e N).F := by
  funext x
  kernel_rfl
theorem impl_CountWays_sound (N : Nat) : SoundC Try.prog 32 (impl_CountWays_e N) := by
  have h := runF_sound (f := 32) (code := bodyOf Try.f32) (N := N) (T := impl_CountWays_T N) (L := impl_CountWays_L) (ins := [(.sl (.pair (.int .i64) (.pair (.int .i64) (.pair (.sl (.int .i64)) (.sl (.int .i64))))))]) (outs := [.val (.int .i64), .val .bool]) (res := [2, 3]) mixed tt_ok ?_ Try.func32 (by kernel_rfl) rfl (by kernel_rfl) (by kernel_rfl) (by decide +kernel)
  · rw [impl_CountWays_eq] at h
    exact h
  · intro f e he
    unfold impl_CountWays_T at he
    split at he
    · rw [List.mem_singleton.1 he]; exact impl_AreTasks_sound N
    · rw [List.mem_singleton.1 he]; exact slices_Repeat_bool_bool_sound N
    · cases he

/- laws.FnExactCountWays -/
def laws_FnExactCountWays (N : Nat) (x0 : List (Int × Int × (List Int) × List Int)) : Option (Bool × Unit) :=
  Option.bind (laws_szTaskS N x0 1048576) fun r1 =>
  cond (decide (r1.1 < 0))
    (some (true, ()))
    (Option.bind (laws_toTaskS N x0) fun r2 =>
    Option.bind (spec_CountWays N r2.1) fun r3 =>
    Option.bind (laws_toTaskS N x0) fun r4 =>
    Option.bind (impl_CountWays N r4.1) fun r5 =>
    cond (r5.1 != r3.1)
      (some (false, ()))
      (cond (!(r5.2.1 == r3.2.1))
        (some (false, ()))
        (Option.bind (laws_toTaskS N x0) fun r6 =>
        Option.bind (laws_eqTaskS N r4.1 r6.1) fun r7 =>
        cond (!r7.1)
          (some (false, ()))
          (some (true, ())))))
def laws_FnExactCountWays_e (N : Nat) : Ent := { ins := [(.sl (.pair (.int .i64) (.pair (.int .i64) (.pair (.sl (.int .i64)) (.sl (.int .i64))))))], outs := [.val .bool], F := fun x => laws_FnExactCountWays N x.1 }
def laws_FnExactCountWays_T (N : Nat) : Nat → List EntX
  | 15 => [.pl (laws_szTaskS_e N)]
  | 17 => [.pl (laws_toTaskS_e N)]
  | 20 => [.pl (laws_eqTaskS_e N)]
  | 31 => [.pl (spec_CountWays_e N)]
  | 32 => [.pl (impl_CountWays_e N)]
  | _ => []
def laws_FnExactCountWays_L : Nat → List (Nat × TK) := fun _ => []
theorem laws_FnExactCountWays_eq (N : Nat) : runF N tt (laws_FnExactCountWays_T N) laws_FnExactCountWays_L [(.sl (.pair (.int .i64) (.pair (.int .i64) (.pair (.sl (.int .i64)) (.sl (.int .i64))))))] [.val .bool] (bodyOf Try.f7) Try.f7.ntmps [2] = (laws_FnExactCountWays_e N).F := by
  funext x
  kernel_rfl
theorem laws_FnExactCountWays_sound (N : Nat) : SoundC Try.prog 7 (laws_FnExactCountWays_e N) := by
  have h := runF_sound (f := 7) (code := bodyOf Try.f7) (N := N) (T := laws_FnExactCountWays_T N) (L := laws_FnExactCountWays_L) (ins := [(.sl (.pair (.int .i64) (.pair (.int .i64) (.pair (.sl (.int .i64)) (.sl (.int .i64))))))]) (outs := [.val .bool]) (res := [2]) mixed tt_ok ?_ Try.func7 (by kernel_rfl) rfl (by kernel_rfl) (by kernel_rfl) (by decide +kernel)
  · rw [laws_FnExactCountWays_eq] at h
    exact h
  · intro f e he
    unfold laws_FnExactCountWays_T at he
    split at he
    · rw [List.mem_singleton.1 he]; exact laws_szTaskS_sound N
    · rw [List.mem_singleton.1 he]; exact laws_toTaskS_sound N
    · rw [List.mem_singleton.1 he]; exact laws_eqTaskS_sound N
    · rw [List.mem_singleton.1 he]; exact spec_CountWays_sound N
    · rw [List.mem_singleton.1 he]; exact impl_CountWays_sound N
    · cases he

end Go.Proofs.Ytobgddikninjpaa
