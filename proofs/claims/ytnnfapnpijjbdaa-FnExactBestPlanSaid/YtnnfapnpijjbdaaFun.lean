/-
  The plain functions of this seat, printed by a program, each equal to the evaluator's run, with its contract. No condition.
-/
import Derived.Test.YtnnfapnpijjbdaaFwV
import Derived.Test.YtnnfapnpijjbdaaChecked
import Derived.Test.YtnnfapnpijjbdaaMark1
import Derived.Test.YtnnfapnpijjbdaaMark2
import Derived.Test.YtnnfapnpijjbdaaClo
import Derived.Test.YtnnfapnpijjbdaaPerm4
namespace Go.Proofs.Ytnnfapnpijjbdaa
open Go Go.Proofs.Ytnnfapnpijjbdaa.Fw
set_option maxRecDepth 100000
set_option linter.unusedVariables false

theorem mixed : Try.prog.follows .mixedOrders = true := Try.checked.mixed
def tt : Nat → TD
  | 2 => tdInt .i64
  | 3 => tdInt .i64
  | 4 => tdBool
  | 22 => tdSl (.int .i64) 8
  | 29 => tdSl (.pair (.int .i64) (.pair (.int .i64) (.pair (.sl (.int .i64)) (.sl (.int .i64))))) 64
  | 32 => tdSl (.pair (.int .i64) (.pair (.int .i64) (.pair (.sl (.int .i64)) (.sl (.int .i64))))) 64
  | 63 => tdSt 4 [(0, 1, false), (1, 1, false), (2, 1, false), (3, 1, false)] [.g (.int .i64) (0 : Int), .g (.int .i64) (0 : Int), .nil, .nil]
  | 66 => tdSt 4 [(0, 1, false), (1, 1, false), (2, 1, false), (3, 1, false)] [.g (.int .i64) (0 : Int), .g (.int .i64) (0 : Int), .nil, .nil]
  | 78 => tdSt 2 [(0, 1, false), (1, 1, false)] [.nil, .g (.int .i64) (0 : Int)]
  | 86 => tdInt .u64
  | 88 => tdSl .bool 1
  | 105 => tdSt 2 [(0, 1, false), (1, 1, false)] [.nil, .g (.int .i64) (0 : Int)]
  | 112 => tdInt .u32
  | 115 => tdInt .u64
  | _ => tdNone
theorem tt_2 : TDok Try.prog 2 (tdInt .i64) := tdok_int (b := 8) (by kernel_rfl) (by kernel_rfl)
theorem tt_3 : TDok Try.prog 3 (tdInt .i64) := tdok_int (b := 8) (by kernel_rfl) (by kernel_rfl)
theorem tt_4 : TDok Try.prog 4 (tdBool) := tdok_bool (b := 1) (by kernel_rfl) (by kernel_rfl)
theorem tt_22 : TDok Try.prog 22 (tdSl (.int .i64) 8) := tdok_sl (b := 24) (e := 2) (z := (.int .i64 0)) (by kernel_rfl) (by kernel_rfl) (by kernel_rfl) (by decide) (fun _ => by kernel_rfl)
theorem tt_29 : TDok Try.prog 29 (tdSl (.pair (.int .i64) (.pair (.int .i64) (.pair (.sl (.int .i64)) (.sl (.int .i64))))) 64) := tdok_sl (b := 24) (e := 63) (z := (.agg #[(.int .i64 0), (.int .i64 0), (.slice none 0 0), (.slice none 0 0)])) (by kernel_rfl) (by kernel_rfl) (by kernel_rfl) (by decide) (fun _ => by kernel_rfl)
theorem tt_32 : TDok Try.prog 32 (tdSl (.pair (.int .i64) (.pair (.int .i64) (.pair (.sl (.int .i64)) (.sl (.int .i64))))) 64) := tdok_sl (b := 24) (e := 66) (z := (.agg #[(.int .i64 0), (.int .i64 0), (.slice none 0 0), (.slice none 0 0)])) (by kernel_rfl) (by kernel_rfl) (by kernel_rfl) (by decide) (fun _ => by kernel_rfl)
theorem tt_63 : TDok Try.prog 63 (tdSt 4 [(0, 1, false), (1, 1, false), (2, 1, false), (3, 1, false)] [.g (.int .i64) (0 : Int), .g (.int .i64) (0 : Int), .nil, .nil]) := tdok_st (b := 64) (z := (.agg #[(.int .i64 0), (.int .i64 0), (.slice none 0 0), (.slice none 0 0)])) (by kernel_rfl) (by kernel_rfl) (by kernel_rfl) (by kernel_rfl) (by kernel_rfl)
theorem tt_66 : TDok Try.prog 66 (tdSt 4 [(0, 1, false), (1, 1, false), (2, 1, false), (3, 1, false)] [.g (.int .i64) (0 : Int), .g (.int .i64) (0 : Int), .nil, .nil]) := tdok_st (b := 64) (z := (.agg #[(.int .i64 0), (.int .i64 0), (.slice none 0 0), (.slice none 0 0)])) (by kernel_rfl) (by kernel_rfl) (by kernel_rfl) (by kernel_rfl) (by kernel_rfl)
theorem tt_78 : TDok Try.prog 78 (tdSt 2 [(0, 1, false), (1, 1, false)] [.nil, .g (.int .i64) (0 : Int)]) := tdok_st (b := 32) (z := (.agg #[(.slice none 0 0), (.int .i64 0)])) (by kernel_rfl) (by kernel_rfl) (by kernel_rfl) (by kernel_rfl) (by kernel_rfl)
theorem tt_86 : TDok Try.prog 86 (tdInt .u64) := tdok_int (b := 8) (by kernel_rfl) (by kernel_rfl)
theorem tt_88 : TDok Try.prog 88 (tdSl .bool 1) := tdok_sl (b := 24) (e := 4) (z := (.bool false)) (by kernel_rfl) (by kernel_rfl) (by kernel_rfl) (by decide) (fun _ => by kernel_rfl)
theorem tt_105 : TDok Try.prog 105 (tdSt 2 [(0, 1, false), (1, 1, false)] [.nil, .g (.int .i64) (0 : Int)]) := tdok_st (b := 32) (z := (.agg #[(.slice none 0 0), (.int .i64 0)])) (by kernel_rfl) (by kernel_rfl) (by kernel_rfl) (by kernel_rfl) (by kernel_rfl)
theorem tt_112 : TDok Try.prog 112 (tdInt .u32) := tdok_int (b := 4) (by kernel_rfl) (by kernel_rfl)
theorem tt_115 : TDok Try.prog 115 (tdInt .u64) := tdok_int (b := 8) (by kernel_rfl) (by kernel_rfl)
theorem tt_ok (t : Nat) : TDok Try.prog t (tt t) := by
  unfold tt
  split
  · exact tt_2
  · exact tt_3
  · exact tt_4
  · exact tt_22
  · exact tt_29
  · exact tt_32
  · exact tt_63
  · exact tt_66
  · exact tt_78
  · exact tt_86
  · exact tt_88
  · exact tt_105
  · exact tt_112
  · exact tt_115
  · exact tdok_none

/- laws.eqInt64S -/
def laws_eqInt64S (N : Nat) (x0 : List Int) (x1 : List Int) : Option (Bool × Unit) :=
  cond ((List.length x0 : Int) != (List.length x1 : Int))
    (some (false, ()))
    (loopN (fun (s1 : Int × Unit) next2 =>
      cond (decide (s1.1 < (List.length x0 : Int)))
        (Option.bind (idx x0 s1.1) fun v3 =>
        Option.bind (idx x1 s1.1) fun v4 =>
        cond (v3 != v4)
          (some (false, ()))
          (next2 ((w64 (s1.1 + 1)), ())))
        (some (true, ()))) N (0, ()))
def laws_eqInt64S_e (N : Nat) : Ent := { ins := [(.sl (.int .i64)), (.sl (.int .i64))], outs := [.val .bool], F := fun x => laws_eqInt64S N x.1 x.2.1 }
def laws_eqInt64S_T (_ : Nat) : Nat → List EntX := fun _ => []
def laws_eqInt64S_L : Nat → List (Nat × TK)
  | 4 => [(5, .v (.int .i64))]
  | _ => []
theorem laws_eqInt64S_eq (N : Nat) : runF N tt (laws_eqInt64S_T N) laws_eqInt64S_L [(.sl (.int .i64)), (.sl (.int .i64))] [.val .bool] (bodyOf Try.f10) Try.f10.ntmps [4] = (laws_eqInt64S_e N).F := by
  funext x
  kernel_rfl
theorem laws_eqInt64S_sound (N : Nat) : SoundC Try.prog 10 (laws_eqInt64S_e N) := by
  have h := runF_sound (f := 10) (code := bodyOf Try.f10) (N := N) (T := (laws_eqInt64S_T N)) (L := laws_eqInt64S_L) (ins := [(.sl (.int .i64)), (.sl (.int .i64))]) (outs := [.val .bool]) (res := [4]) mixed tt_ok ?_ Try.func10 (by kernel_rfl) rfl (by kernel_rfl) (by kernel_rfl) (by decide +kernel)
  · rw [laws_eqInt64S_eq] at h
    exact h
  · intro f e he
    cases he

/- laws.markInt64S -/
def laws_markInt64S (N : Nat) (x0 : List Int) (x1 : Int) : Option (List (Int) × (Int × Unit)) :=
  loopN (fun (s1 : List (Int) × Int × Int × Unit) next2 =>
    cond (decide (s1.2.2.1 < (List.length s1.1 : Int)))
      (cond (inB s1.2.2.1 (List.length s1.1))
        (let xs3 := (List.set s1.1 (Int.toNat s1.2.2.1) s1.2.1)
        next2 (xs3, (w64 (s1.2.1 + 1)), (w64 (s1.2.2.1 + 1)), ())) none)
      (some (s1.1, (s1.2.1, ())))) N (x0, x1, 0, ())
def laws_markInt64S_e (N : Nat) : EntM := { io := (.int .i64), ins := [(.int .i64)], outs := [.val (.int .i64)], F := fun xs x => laws_markInt64S N xs x.1 }
def laws_markInt64S_T (_ : Nat) : Nat → List EntX := fun _ => []
def laws_markInt64S_L : Nat → List (Nat × TK)
  | 2 => [(0, .own (.int .i64)), (1, .v (.int .i64)), (5, .v (.int .i64))]
  | _ => []
theorem laws_markInt64S_eq (N : Nat) : runM N tt (laws_markInt64S_T N) laws_markInt64S_L (.int .i64) [(.int .i64)] [.val (.int .i64)] (bodyOf Try.f11) Try.f11.ntmps [4] = (laws_markInt64S_e N).F := by
  funext xs x
  kernel_rfl
theorem laws_markInt64S_sound (N : Nat) : SoundM Try.prog 11 (laws_markInt64S_e N) := by
  have h := runM_sound (f := 11) (code := bodyOf Try.f11) (N := N) (T := (laws_markInt64S_T N)) (L := laws_markInt64S_L) (io := (.int .i64)) (ins := [(.int .i64)]) (outs := [.val (.int .i64)]) (res := [4]) mixed tt_ok ?_ Try.func11 (by kernel_rfl) rfl (by kernel_rfl) (by kernel_rfl) (by decide +kernel)
  · rw [laws_markInt64S_eq] at h
    exact h
  · intro f e he
    cases he

/- laws.heldInt64S -/
def laws_heldInt64S (N : Nat) (x0 : List Int) (x1 : Int) : Option (Int × Unit) :=
  loopN (fun (s1 : Int × Int × Unit) next2 =>
    cond (decide (s1.2.1 < (List.length x0 : Int)))
      (Option.bind (idx x0 s1.2.1) fun v3 =>
      cond (v3 != s1.1)
        (some ((-1), ()))
        (next2 ((w64 (s1.1 + 1)), (w64 (s1.2.1 + 1)), ())))
      (some (s1.1, ()))) N (x1, 0, ())
def laws_heldInt64S_e (N : Nat) : Ent := { ins := [(.sl (.int .i64)), (.int .i64)], outs := [.val (.int .i64)], F := fun x => laws_heldInt64S N x.1 x.2.1 }
def laws_heldInt64S_T (_ : Nat) : Nat → List EntX := fun _ => []
def laws_heldInt64S_L : Nat → List (Nat × TK)
  | 2 => [(1, .v (.int .i64)), (5, .v (.int .i64))]
  | _ => []
theorem laws_heldInt64S_eq (N : Nat) : runF N tt (laws_heldInt64S_T N) laws_heldInt64S_L [(.sl (.int .i64)), (.int .i64)] [.val (.int .i64)] (bodyOf Try.f12) Try.f12.ntmps [4] = (laws_heldInt64S_e N).F := by
  funext x
  kernel_rfl
theorem laws_heldInt64S_sound (N : Nat) : SoundC Try.prog 12 (laws_heldInt64S_e N) := by
  have h := runF_sound (f := 12) (code := bodyOf Try.f12) (N := N) (T := (laws_heldInt64S_T N)) (L := laws_heldInt64S_L) (ins := [(.sl (.int .i64)), (.int .i64)]) (outs := [.val (.int .i64)]) (res := [4]) mixed tt_ok ?_ Try.func12 (by kernel_rfl) rfl (by kernel_rfl) (by kernel_rfl) (by decide +kernel)
  · rw [laws_heldInt64S_eq] at h
    exact h
  · intro f e he
    cases he

/- laws.szInt64S -/
def laws_szInt64S (_N : Nat) (x0 : List Int) (x1 : Int) : Option (Int × Unit) :=
  cond (decide ((w64 (x1 - (List.length x0 : Int))) < 0))
    (some ((-1), ()))
    (some ((w64 (x1 - (List.length x0 : Int))), ()))
def laws_szInt64S_e (N : Nat) : Ent := { ins := [(.sl (.int .i64)), (.int .i64)], outs := [.val (.int .i64)], F := fun x => laws_szInt64S N x.1 x.2.1 }
def laws_szInt64S_T (_ : Nat) : Nat → List EntX := fun _ => []
def laws_szInt64S_L : Nat → List (Nat × TK) := fun _ => []
theorem laws_szInt64S_eq (N : Nat) : runF N tt (laws_szInt64S_T N) laws_szInt64S_L [(.sl (.int .i64)), (.int .i64)] [.val (.int .i64)] (bodyOf Try.f75) Try.f75.ntmps [4] = (laws_szInt64S_e N).F := by
  funext x
  kernel_rfl
theorem laws_szInt64S_sound (N : Nat) : SoundC Try.prog 75 (laws_szInt64S_e N) := by
  have h := runF_sound (f := 75) (code := bodyOf Try.f75) (N := N) (T := (laws_szInt64S_T N)) (L := laws_szInt64S_L) (ins := [(.sl (.int .i64)), (.int .i64)]) (outs := [.val (.int .i64)]) (res := [4]) mixed tt_ok ?_ Try.func75 (by kernel_rfl) rfl (by kernel_rfl) (by kernel_rfl) (by decide +kernel)
  · rw [laws_szInt64S_eq] at h
    exact h
  · intro f e he
    cases he

/- laws.szTask -/
def laws_szTask (N : Nat) (x0 : Int × Int × (List Int) × List Int) (x1 : Int) : Option (Int × Unit) :=
  Option.bind (laws_szInt64S N x0.2.2.1 x1) fun r1 =>
  cond (decide (r1.1 < 0))
    (some ((-1), ()))
    (Option.bind (laws_szInt64S N x0.2.2.2 r1.1) fun r2 =>
    cond (decide (r2.1 < 0))
      (some ((-1), ()))
      (some (r2.1, ())))
def laws_szTask_e (N : Nat) : Ent := { ins := [(.pair (.int .i64) (.pair (.int .i64) (.pair (.sl (.int .i64)) (.sl (.int .i64))))), (.int .i64)], outs := [.val (.int .i64)], F := fun x => laws_szTask N x.1 x.2.1 }
def laws_szTask_T (N : Nat) : Nat → List EntX
  | 75 => [.pl (laws_szInt64S_e N)]
  | _ => []
def laws_szTask_L : Nat → List (Nat × TK) := fun _ => []
theorem laws_szTask_eq (N : Nat) : runF N tt (laws_szTask_T N) laws_szTask_L [(.pair (.int .i64) (.pair (.int .i64) (.pair (.sl (.int .i64)) (.sl (.int .i64))))), (.int .i64)] [.val (.int .i64)] (bodyOf Try.f43) Try.f43.ntmps [4] = (laws_szTask_e N).F := by
  funext x
  kernel_rfl
theorem laws_szTask_sound (N : Nat) : SoundC Try.prog 43 (laws_szTask_e N) := by
  have h := runF_sound (f := 43) (code := bodyOf Try.f43) (N := N) (T := (laws_szTask_T N)) (L := laws_szTask_L) (ins := [(.pair (.int .i64) (.pair (.int .i64) (.pair (.sl (.int .i64)) (.sl (.int .i64))))), (.int .i64)]) (outs := [.val (.int .i64)]) (res := [4]) mixed tt_ok ?_ Try.func43 (by kernel_rfl) rfl (by kernel_rfl) (by kernel_rfl) (by decide +kernel)
  · rw [laws_szTask_eq] at h
    exact h
  · intro f e he
    unfold laws_szTask_T at he
    split at he
    · rw [List.mem_singleton.1 he]; exact laws_szInt64S_sound N
    · cases he

/- laws.szTaskS -/
def laws_szTaskS (N : Nat) (x0 : List (Int × Int × (List Int) × List Int)) (x1 : Int) : Option (Int × Unit) :=
  cond (decide ((w64 (x1 - (List.length x0 : Int))) < 0))
    (some ((-1), ()))
    (loopN (fun (s1 : Int × Int × Unit) next2 =>
      cond (decide (s1.2.1 < (List.length x0 : Int)))
        (Option.bind (idx x0 s1.2.1) fun v3 =>
        Option.bind (laws_szTask N v3 s1.1) fun r4 =>
        cond (decide (r4.1 < 0))
          (some ((-1), ()))
          (next2 (r4.1, (w64 (s1.2.1 + 1)), ())))
        (some (s1.1, ()))) N ((w64 (x1 - (List.length x0 : Int))), 0, ()))
def laws_szTaskS_e (N : Nat) : Ent := { ins := [(.sl (.pair (.int .i64) (.pair (.int .i64) (.pair (.sl (.int .i64)) (.sl (.int .i64)))))), (.int .i64)], outs := [.val (.int .i64)], F := fun x => laws_szTaskS N x.1 x.2.1 }
def laws_szTaskS_T (N : Nat) : Nat → List EntX
  | 43 => [.pl (laws_szTask_e N)]
  | _ => []
def laws_szTaskS_L : Nat → List (Nat × TK)
  | 5 => [(1, .v (.int .i64)), (5, .v (.int .i64))]
  | _ => []
theorem laws_szTaskS_eq (N : Nat) : runF N tt (laws_szTaskS_T N) laws_szTaskS_L [(.sl (.pair (.int .i64) (.pair (.int .i64) (.pair (.sl (.int .i64)) (.sl (.int .i64)))))), (.int .i64)] [.val (.int .i64)] (bodyOf Try.f15) Try.f15.ntmps [4] = (laws_szTaskS_e N).F := by
  funext x
  kernel_rfl
theorem laws_szTaskS_sound (N : Nat) : SoundC Try.prog 15 (laws_szTaskS_e N) := by
  have h := runF_sound (f := 15) (code := bodyOf Try.f15) (N := N) (T := (laws_szTaskS_T N)) (L := laws_szTaskS_L) (ins := [(.sl (.pair (.int .i64) (.pair (.int .i64) (.pair (.sl (.int .i64)) (.sl (.int .i64)))))), (.int .i64)]) (outs := [.val (.int .i64)]) (res := [4]) mixed tt_ok ?_ Try.func15 (by kernel_rfl) rfl (by kernel_rfl) (by kernel_rfl) (by decide +kernel)
  · rw [laws_szTaskS_eq] at h
    exact h
  · intro f e he
    unfold laws_szTaskS_T at he
    split at he
    · rw [List.mem_singleton.1 he]; exact laws_szTask_sound N
    · cases he

/- laws.toInt64S -/
def laws_toInt64S (N : Nat) (x0 : List Int) : Option (List (Int) × Unit) :=
  cond (mkOk (List.length x0 : Int) (List.length x0 : Int))
    (let xs1 := (List.replicate (Int.toNat (List.length x0 : Int)) (0 : Int) : List (Int))
    loopN (fun (s2 : List (Int) × Int × Unit) next3 =>
      cond (decide (s2.2.1 < (List.length x0 : Int)))
        (Option.bind (idx x0 s2.2.1) fun v4 =>
        cond (inB s2.2.1 (List.length s2.1))
          (let xs5 := (List.set s2.1 (Int.toNat s2.2.1) v4)
          next3 (xs5, (w64 (s2.2.1 + 1)), ())) none)
        (some (s2.1, ()))) N (xs1, 0, ())) none
def laws_toInt64S_e (N : Nat) : Ent := { ins := [(.sl (.int .i64))], outs := [.own (.int .i64)], F := fun x => laws_toInt64S N x.1 }
def laws_toInt64S_T (_ : Nat) : Nat → List EntX := fun _ => []
def laws_toInt64S_L : Nat → List (Nat × TK)
  | 3 => [(3, .own (.int .i64)), (4, .v (.int .i64))]
  | _ => []
theorem laws_toInt64S_eq (N : Nat) : runF N tt (laws_toInt64S_T N) laws_toInt64S_L [(.sl (.int .i64))] [.own (.int .i64)] (bodyOf Try.f8) Try.f8.ntmps [2] = (laws_toInt64S_e N).F := by
  funext x
  kernel_rfl
theorem laws_toInt64S_sound (N : Nat) : SoundC Try.prog 8 (laws_toInt64S_e N) := by
  have h := runF_sound (f := 8) (code := bodyOf Try.f8) (N := N) (T := (laws_toInt64S_T N)) (L := laws_toInt64S_L) (ins := [(.sl (.int .i64))]) (outs := [.own (.int .i64)]) (res := [2]) mixed tt_ok ?_ Try.func8 (by kernel_rfl) rfl (by kernel_rfl) (by kernel_rfl) (by decide +kernel)
  · rw [laws_toInt64S_eq] at h
    exact h
  · intro f e he
    cases he

/- laws.toTask -/
def laws_toTask (N : Nat) (x0 : Int × Int × (List Int) × List Int) : Option ((Int × Int × (List Int) × List Int) × Unit) :=
  Option.bind (laws_toInt64S N x0.2.2.1) fun r1 =>
  Option.bind (laws_toInt64S N x0.2.2.2) fun r2 =>
  some ((x0.1, (x0.2.1, (r1.1, r2.1))), ())
def laws_toTask_e (N : Nat) : Ent := { ins := [(.pair (.int .i64) (.pair (.int .i64) (.pair (.sl (.int .i64)) (.sl (.int .i64)))))], outs := [.val (.nw (.pair (.int .i64) (.pair (.int .i64) (.pair (.sl (.int .i64)) (.sl (.int .i64))))))], F := fun x => laws_toTask N x.1 }
def laws_toTask_T (N : Nat) : Nat → List EntX
  | 8 => [.pl (laws_toInt64S_e N)]
  | _ => []
def laws_toTask_L : Nat → List (Nat × TK) := fun _ => []
theorem laws_toTask_eq (N : Nat) : runC N tt (laws_toTask_T N) laws_toTask_L [(.pair (.int .i64) (.pair (.int .i64) (.pair (.sl (.int .i64)) (.sl (.int .i64)))))] [.val (.nw (.pair (.int .i64) (.pair (.int .i64) (.pair (.sl (.int .i64)) (.sl (.int .i64))))))] (bodyOf Try.f49) Try.f49.ntmps [2] [(2, 66)] = (laws_toTask_e N).F := by
  funext x
  kernel_rfl
theorem laws_toTask_sound (N : Nat) : SoundC Try.prog 49 (laws_toTask_e N) := by
  have h := runC_sound (f := 49) (code := bodyOf Try.f49) (N := N) (T := (laws_toTask_T N)) (L := laws_toTask_L) (ins := [(.pair (.int .i64) (.pair (.int .i64) (.pair (.sl (.int .i64)) (.sl (.int .i64)))))]) (outs := [.val (.nw (.pair (.int .i64) (.pair (.int .i64) (.pair (.sl (.int .i64)) (.sl (.int .i64))))))]) (res := [2]) (rs := [.cell 2 66]) (cells := [(2, 66)]) mixed tt_ok ?_ Try.func49 (by kernel_rfl) rfl (by kernel_rfl) (by kernel_rfl) rfl rfl (by decide) (by decide +kernel) (by decide +kernel)
  · rw [laws_toTask_eq] at h
    exact h
  · intro f e he
    unfold laws_toTask_T at he
    split at he
    · rw [List.mem_singleton.1 he]; exact laws_toInt64S_sound N
    · cases he

/- laws.toTaskS -/
def laws_toTaskS (N : Nat) (x0 : List (Int × Int × (List Int) × List Int)) : Option (List (Int × Int × (List Int) × List Int) × Unit) :=
  cond (mkOk (List.length x0 : Int) (List.length x0 : Int))
    (let xs1 := (List.replicate (Int.toNat (List.length x0 : Int)) ((0 : Int), ((0 : Int), ([], []))) : List (Int × Int × (List Int) × List Int))
    loopN (fun (s2 : List (Int × Int × (List Int) × List Int) × Int × Unit) next3 =>
      cond (decide (s2.2.1 < (List.length x0 : Int)))
        (Option.bind (idx x0 s2.2.1) fun v4 =>
        Option.bind (laws_toTask N v4) fun r5 =>
        cond (inB s2.2.1 (List.length s2.1))
          (let xs6 := (List.set s2.1 (Int.toNat s2.2.1) r5.1)
          next3 (xs6, (w64 (s2.2.1 + 1)), ())) none)
        (some (s2.1, ()))) N (xs1, 0, ())) none
def laws_toTaskS_e (N : Nat) : Ent := { ins := [(.sl (.pair (.int .i64) (.pair (.int .i64) (.pair (.sl (.int .i64)) (.sl (.int .i64))))))], outs := [.own (.nw (.pair (.int .i64) (.pair (.int .i64) (.pair (.sl (.int .i64)) (.sl (.int .i64))))))], F := fun x => laws_toTaskS N x.1 }
def laws_toTaskS_T (N : Nat) : Nat → List EntX
  | 49 => [.pl (laws_toTask_e N)]
  | _ => []
def laws_toTaskS_L : Nat → List (Nat × TK)
  | 3 => [(3, .own (.nw (.pair (.int .i64) (.pair (.int .i64) (.pair (.sl (.int .i64)) (.sl (.int .i64))))))), (4, .v (.int .i64))]
  | _ => []
theorem laws_toTaskS_eq (N : Nat) : runF N tt (laws_toTaskS_T N) laws_toTaskS_L [(.sl (.pair (.int .i64) (.pair (.int .i64) (.pair (.sl (.int .i64)) (.sl (.int .i64))))))] [.own (.nw (.pair (.int .i64) (.pair (.int .i64) (.pair (.sl (.int .i64)) (.sl (.int .i64))))))] (bodyOf Try.f17) Try.f17.ntmps [2] = (laws_toTaskS_e N).F := by
  funext x
  kernel_rfl
theorem laws_toTaskS_sound (N : Nat) : SoundC Try.prog 17 (laws_toTaskS_e N) := by
  have h := runF_sound (f := 17) (code := bodyOf Try.f17) (N := N) (T := (laws_toTaskS_T N)) (L := laws_toTaskS_L) (ins := [(.sl (.pair (.int .i64) (.pair (.int .i64) (.pair (.sl (.int .i64)) (.sl (.int .i64))))))]) (outs := [.own (.nw (.pair (.int .i64) (.pair (.int .i64) (.pair (.sl (.int .i64)) (.sl (.int .i64))))))]) (res := [2]) mixed tt_ok ?_ Try.func17 (by kernel_rfl) rfl (by kernel_rfl) (by kernel_rfl) (by decide +kernel)
  · rw [laws_toTaskS_eq] at h
    exact h
  · intro f e he
    unfold laws_toTaskS_T at he
    split at he
    · rw [List.mem_singleton.1 he]; exact laws_toTask_sound N
    · cases he

/- laws.eqTask -/
def laws_eqTask (N : Nat) (x0 : Int × Int × (List Int) × List Int) (x1 : Int × Int × (List Int) × List Int) : Option (Bool × Unit) :=
  cond (x0.1 != x1.1)
    (some (false, ()))
    (cond (x0.2.1 != x1.2.1)
      (some (false, ()))
      (Option.bind (laws_eqInt64S N x0.2.2.1 x1.2.2.1) fun r1 =>
      cond (!r1.1)
        (some (false, ()))
        (Option.bind (laws_eqInt64S N x0.2.2.2 x1.2.2.2) fun r2 =>
        cond (!r2.1)
          (some (false, ()))
          (some (true, ())))))
def laws_eqTask_e (N : Nat) : Ent := { ins := [(.pair (.int .i64) (.pair (.int .i64) (.pair (.sl (.int .i64)) (.sl (.int .i64))))), (.pair (.int .i64) (.pair (.int .i64) (.pair (.sl (.int .i64)) (.sl (.int .i64)))))], outs := [.val .bool], F := fun x => laws_eqTask N x.1 x.2.1 }
def laws_eqTask_T (N : Nat) : Nat → List EntX
  | 10 => [.pl (laws_eqInt64S_e N)]
  | _ => []
def laws_eqTask_L : Nat → List (Nat × TK) := fun _ => []
theorem laws_eqTask_eq (N : Nat) : runF N tt (laws_eqTask_T N) laws_eqTask_L [(.pair (.int .i64) (.pair (.int .i64) (.pair (.sl (.int .i64)) (.sl (.int .i64))))), (.pair (.int .i64) (.pair (.int .i64) (.pair (.sl (.int .i64)) (.sl (.int .i64)))))] [.val .bool] (bodyOf Try.f57) Try.f57.ntmps [4] = (laws_eqTask_e N).F := by
  funext x
  kernel_rfl
theorem laws_eqTask_sound (N : Nat) : SoundC Try.prog 57 (laws_eqTask_e N) := by
  have h := runF_sound (f := 57) (code := bodyOf Try.f57) (N := N) (T := (laws_eqTask_T N)) (L := laws_eqTask_L) (ins := [(.pair (.int .i64) (.pair (.int .i64) (.pair (.sl (.int .i64)) (.sl (.int .i64))))), (.pair (.int .i64) (.pair (.int .i64) (.pair (.sl (.int .i64)) (.sl (.int .i64)))))]) (outs := [.val .bool]) (res := [4]) mixed tt_ok ?_ Try.func57 (by kernel_rfl) rfl (by kernel_rfl) (by kernel_rfl) (by decide +kernel)
  · rw [laws_eqTask_eq] at h
    exact h
  · intro f e he
    unfold laws_eqTask_T at he
    split at he
    · rw [List.mem_singleton.1 he]; exact laws_eqInt64S_sound N
    · cases he

/- laws.eqTaskS -/
def laws_eqTaskS (N : Nat) (x0 : List (Int × Int × (List Int) × List Int)) (x1 : List (Int × Int × (List Int) × List Int)) : Option (Bool × Unit) :=
  cond ((List.length x0 : Int) != (List.length x1 : Int))
    (some (false, ()))
    (loopN (fun (s1 : Int × Unit) next2 =>
      cond (decide (s1.1 < (List.length x0 : Int)))
        (Option.bind (idx x0 s1.1) fun v3 =>
        Option.bind (idx x1 s1.1) fun v4 =>
        Option.bind (laws_eqTask N v3 v4) fun r5 =>
        cond (!r5.1)
          (some (false, ()))
          (next2 ((w64 (s1.1 + 1)), ())))
        (some (true, ()))) N (0, ()))
def laws_eqTaskS_e (N : Nat) : Ent := { ins := [(.sl (.pair (.int .i64) (.pair (.int .i64) (.pair (.sl (.int .i64)) (.sl (.int .i64)))))), (.sl (.pair (.int .i64) (.pair (.int .i64) (.pair (.sl (.int .i64)) (.sl (.int .i64))))))], outs := [.val .bool], F := fun x => laws_eqTaskS N x.1 x.2.1 }
def laws_eqTaskS_T (N : Nat) : Nat → List EntX
  | 57 => [.pl (laws_eqTask_e N)]
  | _ => []
def laws_eqTaskS_L : Nat → List (Nat × TK)
  | 4 => [(5, .v (.int .i64))]
  | _ => []
theorem laws_eqTaskS_eq (N : Nat) : runF N tt (laws_eqTaskS_T N) laws_eqTaskS_L [(.sl (.pair (.int .i64) (.pair (.int .i64) (.pair (.sl (.int .i64)) (.sl (.int .i64)))))), (.sl (.pair (.int .i64) (.pair (.int .i64) (.pair (.sl (.int .i64)) (.sl (.int .i64))))))] [.val .bool] (bodyOf Try.f19) Try.f19.ntmps [4] = (laws_eqTaskS_e N).F := by
  funext x
  kernel_rfl
theorem laws_eqTaskS_sound (N : Nat) : SoundC Try.prog 19 (laws_eqTaskS_e N) := by
  have h := runF_sound (f := 19) (code := bodyOf Try.f19) (N := N) (T := (laws_eqTaskS_T N)) (L := laws_eqTaskS_L) (ins := [(.sl (.pair (.int .i64) (.pair (.int .i64) (.pair (.sl (.int .i64)) (.sl (.int .i64)))))), (.sl (.pair (.int .i64) (.pair (.int .i64) (.pair (.sl (.int .i64)) (.sl (.int .i64))))))]) (outs := [.val .bool]) (res := [4]) mixed tt_ok ?_ Try.func19 (by kernel_rfl) rfl (by kernel_rfl) (by kernel_rfl) (by decide +kernel)
  · rw [laws_eqTaskS_eq] at h
    exact h
  · intro f e he
    unfold laws_eqTaskS_T at he
    split at he
    · rw [List.mem_singleton.1 he]; exact laws_eqTask_sound N
    · cases he

/- spec.l00In -/
def spec_l00In (_N : Nat) (x0 : Int) (x1 : Int) (x2 : Int) : Option (Bool × Unit) :=
  cond (decide (x0 ≥ x1))
    (some ((decide (x0 ≤ x2)), ()))
    (some (false, ()))
def spec_l00In_e (N : Nat) : Ent := { ins := [(.int .i64), (.int .i64), (.int .i64)], outs := [.val .bool], F := fun x => spec_l00In N x.1 x.2.1 x.2.2.1 }
def spec_l00In_T (_ : Nat) : Nat → List EntX := fun _ => []
def spec_l00In_L : Nat → List (Nat × TK) := fun _ => []
theorem spec_l00In_eq (N : Nat) : runF N tt (spec_l00In_T N) spec_l00In_L [(.int .i64), (.int .i64), (.int .i64)] [.val .bool] (bodyOf Try.f45) Try.f45.ntmps [6] = (spec_l00In_e N).F := by
  funext x
  kernel_rfl
theorem spec_l00In_sound (N : Nat) : SoundC Try.prog 45 (spec_l00In_e N) := by
  have h := runF_sound (f := 45) (code := bodyOf Try.f45) (N := N) (T := (spec_l00In_T N)) (L := spec_l00In_L) (ins := [(.int .i64), (.int .i64), (.int .i64)]) (outs := [.val .bool]) (res := [6]) mixed tt_ok ?_ Try.func45 (by kernel_rfl) rfl (by kernel_rfl) (by kernel_rfl) (by decide +kernel)
  · rw [spec_l00In_eq] at h
    exact h
  · intro f e he
    cases he

/- spec.l03Task -/
def spec_l03Task (N : Nat) (x0 : Int × Int × (List Int) × List Int) (x1 : Int) : Option (Bool × Unit) :=
  Option.bind (spec_l00In N x0.1 0 100) fun r1 =>
  cond (!r1.1)
    (some (false, ()))
    (Option.bind (spec_l00In N x0.2.1 0 20) fun r2 =>
    cond (!r2.1)
      (some (false, ()))
      (cond ((List.length x0.2.2.2 : Int) != (List.length x0.2.2.1 : Int))
        (some (false, ()))
        (loopN (fun (s3 : Int × Unit) next4 =>
          cond (decide (s3.1 < (List.length x0.2.2.1 : Int)))
            (Option.bind (idx x0.2.2.1 s3.1) fun v5 =>
            Option.bind (spec_l00In N v5 0 (w64 (x1 - 1))) fun r6 =>
            cond (!r6.1)
              (some (false, ()))
              (cond (decide (s3.1 > 0))
                (Option.bind (idx x0.2.2.1 s3.1) fun v7 =>
                Option.bind (idx x0.2.2.1 (w64 (s3.1 - 1))) fun v8 =>
                cond (decide (v7 ≤ v8))
                  (some (false, ()))
                  (Option.bind (idx x0.2.2.2 s3.1) fun v9 =>
                  Option.bind (spec_l00In N v9 (-100) 100) fun r10 =>
                  cond (!r10.1)
                    (some (false, ()))
                    (next4 ((w64 (s3.1 + 1)), ()))))
                (Option.bind (idx x0.2.2.2 s3.1) fun v11 =>
                Option.bind (spec_l00In N v11 (-100) 100) fun r12 =>
                cond (!r12.1)
                  (some (false, ()))
                  (next4 ((w64 (s3.1 + 1)), ())))))
            (some (true, ()))) N (0, ()))))
def spec_l03Task_e (N : Nat) : Ent := { ins := [(.bx (.pair (.int .i64) (.pair (.int .i64) (.pair (.sl (.int .i64)) (.sl (.int .i64)))))), (.int .i64)], outs := [.val .bool], F := fun x => spec_l03Task N x.1 x.2.1 }
def spec_l03Task_T (N : Nat) : Nat → List EntX
  | 45 => [.pl (spec_l00In_e N)]
  | _ => []
def spec_l03Task_L : Nat → List (Nat × TK)
  | 4 => [(38, .v (.int .i64))]
  | _ => []
theorem spec_l03Task_eq (N : Nat) : runF N tt (spec_l03Task_T N) spec_l03Task_L [(.bx (.pair (.int .i64) (.pair (.int .i64) (.pair (.sl (.int .i64)) (.sl (.int .i64)))))), (.int .i64)] [.val .bool] (bodyOf Try.f76) Try.f76.ntmps [4] = (spec_l03Task_e N).F := by
  funext x
  kernel_rfl
theorem spec_l03Task_sound (N : Nat) : SoundC Try.prog 76 (spec_l03Task_e N) := by
  have h := runF_sound (f := 76) (code := bodyOf Try.f76) (N := N) (T := (spec_l03Task_T N)) (L := spec_l03Task_L) (ins := [(.bx (.pair (.int .i64) (.pair (.int .i64) (.pair (.sl (.int .i64)) (.sl (.int .i64)))))), (.int .i64)]) (outs := [.val .bool]) (res := [4]) mixed tt_ok ?_ Try.func76 (by kernel_rfl) rfl (by kernel_rfl) (by kernel_rfl) (by decide +kernel)
  · rw [spec_l03Task_eq] at h
    exact h
  · intro f e he
    unfold spec_l03Task_T at he
    split at he
    · rw [List.mem_singleton.1 he]; exact spec_l00In_sound N
    · cases he

/- spec.l03Are -/
def spec_l03Are (N : Nat) (x0 : List (Int × Int × (List Int) × List Int)) : Option (Bool × Unit) :=
  loopN (fun (s1 : Int × Unit) next2 =>
    cond (decide (s1.1 < (List.length x0 : Int)))
      (Option.bind (idx x0 s1.1) fun v3 =>
      Option.bind (spec_l03Task N v3 s1.1) fun r4 =>
      cond (!r4.1)
        (some (false, ()))
        (next2 ((w64 (s1.1 + 1)), ())))
      (cond (decide ((List.length x0 : Int) ≥ 1))
        (some ((decide ((List.length x0 : Int) ≤ 16)), ()))
        (some (false, ())))) N (0, ())
def spec_l03Are_e (N : Nat) : Ent := { ins := [(.sl (.pair (.int .i64) (.pair (.int .i64) (.pair (.sl (.int .i64)) (.sl (.int .i64))))))], outs := [.val .bool], F := fun x => spec_l03Are N x.1 }
def spec_l03Are_T (N : Nat) : Nat → List EntX
  | 76 => [.pl (spec_l03Task_e N)]
  | _ => []
def spec_l03Are_L : Nat → List (Nat × TK)
  | 2 => [(6, .v (.int .i64))]
  | _ => []
theorem spec_l03Are_eq (N : Nat) : runF N tt (spec_l03Are_T N) spec_l03Are_L [(.sl (.pair (.int .i64) (.pair (.int .i64) (.pair (.sl (.int .i64)) (.sl (.int .i64))))))] [.val .bool] (bodyOf Try.f44) Try.f44.ntmps [2] = (spec_l03Are_e N).F := by
  funext x
  kernel_rfl
theorem spec_l03Are_sound (N : Nat) : SoundC Try.prog 44 (spec_l03Are_e N) := by
  have h := runF_sound (f := 44) (code := bodyOf Try.f44) (N := N) (T := (spec_l03Are_T N)) (L := spec_l03Are_L) (ins := [(.sl (.pair (.int .i64) (.pair (.int .i64) (.pair (.sl (.int .i64)) (.sl (.int .i64))))))]) (outs := [.val .bool]) (res := [2]) mixed tt_ok ?_ Try.func44 (by kernel_rfl) rfl (by kernel_rfl) (by kernel_rfl) (by decide +kernel)
  · rw [spec_l03Are_eq] at h
    exact h
  · intro f e he
    unfold spec_l03Are_T at he
    split at he
    · rw [List.mem_singleton.1 he]; exact spec_l03Task_sound N
    · cases he

/- spec.l03Crew -/
def spec_l03Crew (N : Nat) (x0 : List (Int × Int × (List Int) × List Int)) (x1 : Int) : Option (Bool × Unit) :=
  Option.bind (spec_l03Are N x0) fun r1 =>
  cond (!r1.1)
    (some (false, ()))
    (Option.bind (spec_l00In N x1 0 20) fun r2 =>
    cond (!r2.1)
      (some (false, ()))
      (loopN (fun (s3 : Int × Unit) next4 =>
        cond (decide (s3.1 < (List.length x0 : Int)))
          (Option.bind (idx x0 s3.1) fun v5 =>
          cond (decide (v5.2.1 > x1))
            (some (false, ()))
            (next4 ((w64 (s3.1 + 1)), ())))
          (some (true, ()))) N (0, ())))
def spec_l03Crew_e (N : Nat) : Ent := { ins := [(.sl (.pair (.int .i64) (.pair (.int .i64) (.pair (.sl (.int .i64)) (.sl (.int .i64)))))), (.int .i64)], outs := [.val .bool], F := fun x => spec_l03Crew N x.1 x.2.1 }
def spec_l03Crew_T (N : Nat) : Nat → List EntX
  | 44 => [.pl (spec_l03Are_e N)]
  | 45 => [.pl (spec_l00In_e N)]
  | _ => []
def spec_l03Crew_L : Nat → List (Nat × TK)
  | 4 => [(16, .v (.int .i64))]
  | _ => []
theorem spec_l03Crew_eq (N : Nat) : runF N tt (spec_l03Crew_T N) spec_l03Crew_L [(.sl (.pair (.int .i64) (.pair (.int .i64) (.pair (.sl (.int .i64)) (.sl (.int .i64)))))), (.int .i64)] [.val .bool] (bodyOf Try.f58) Try.f58.ntmps [4] = (spec_l03Crew_e N).F := by
  funext x
  kernel_rfl
theorem spec_l03Crew_sound (N : Nat) : SoundC Try.prog 58 (spec_l03Crew_e N) := by
  have h := runF_sound (f := 58) (code := bodyOf Try.f58) (N := N) (T := (spec_l03Crew_T N)) (L := spec_l03Crew_L) (ins := [(.sl (.pair (.int .i64) (.pair (.int .i64) (.pair (.sl (.int .i64)) (.sl (.int .i64)))))), (.int .i64)]) (outs := [.val .bool]) (res := [4]) mixed tt_ok ?_ Try.func58 (by kernel_rfl) rfl (by kernel_rfl) (by kernel_rfl) (by decide +kernel)
  · rw [spec_l03Crew_eq] at h
    exact h
  · intro f e he
    unfold spec_l03Crew_T at he
    split at he
    · rw [List.mem_singleton.1 he]; exact spec_l03Are_sound N
    · rw [List.mem_singleton.1 he]; exact spec_l00In_sound N
    · cases he

/- spec.l00Max -/
def spec_l00Max (_N : Nat) (x0 : Int) (x1 : Int) : Option (Int × Unit) :=
  cond (decide (x0 > x1))
    (some (x0, ()))
    (some (x1, ()))
def spec_l00Max_e (N : Nat) : Ent := { ins := [(.int .i64), (.int .i64)], outs := [.val (.int .i64)], F := fun x => spec_l00Max N x.1 x.2.1 }
def spec_l00Max_T (_ : Nat) : Nat → List EntX := fun _ => []
def spec_l00Max_L : Nat → List (Nat × TK) := fun _ => []
theorem spec_l00Max_eq (N : Nat) : runF N tt (spec_l00Max_T N) spec_l00Max_L [(.int .i64), (.int .i64)] [.val (.int .i64)] (bodyOf Try.f72) Try.f72.ntmps [4] = (spec_l00Max_e N).F := by
  funext x
  kernel_rfl
theorem spec_l00Max_sound (N : Nat) : SoundC Try.prog 72 (spec_l00Max_e N) := by
  have h := runF_sound (f := 72) (code := bodyOf Try.f72) (N := N) (T := (spec_l00Max_T N)) (L := spec_l00Max_L) (ins := [(.int .i64), (.int .i64)]) (outs := [.val (.int .i64)]) (res := [4]) mixed tt_ok ?_ Try.func72 (by kernel_rfl) rfl (by kernel_rfl) (by kernel_rfl) (by decide +kernel)
  · rw [spec_l00Max_eq] at h
    exact h
  · intro f e he
    cases he

/- spec.l03End -/
def spec_l03End (N : Nat) (x0 : List (Int × Int × (List Int) × List Int)) (x1 : List Int) : Option (Int × Unit) :=
  loopN (fun (s1 : Int × Int × Unit) next2 =>
    cond (decide (s1.2.1 < (List.length x0 : Int)))
      (Option.bind (idx x1 s1.2.1) fun v3 =>
      Option.bind (idx x0 s1.2.1) fun v4 =>
      Option.bind (spec_l00Max N s1.1 (w64 (v3 + v4.1))) fun r5 =>
      next2 (r5.1, (w64 (s1.2.1 + 1)), ()))
      (some (s1.1, ()))) N (0, 0, ())
def spec_l03End_e (N : Nat) : Ent := { ins := [(.sl (.pair (.int .i64) (.pair (.int .i64) (.pair (.sl (.int .i64)) (.sl (.int .i64)))))), (.sl (.int .i64))], outs := [.val (.int .i64)], F := fun x => spec_l03End N x.1 x.2.1 }
def spec_l03End_T (N : Nat) : Nat → List EntX
  | 72 => [.pl (spec_l00Max_e N)]
  | _ => []
def spec_l03End_L : Nat → List (Nat × TK)
  | 3 => [(5, .v (.int .i64)), (9, .v (.int .i64))]
  | _ => []
theorem spec_l03End_eq (N : Nat) : runF N tt (spec_l03End_T N) spec_l03End_L [(.sl (.pair (.int .i64) (.pair (.int .i64) (.pair (.sl (.int .i64)) (.sl (.int .i64)))))), (.sl (.int .i64))] [.val (.int .i64)] (bodyOf Try.f46) Try.f46.ntmps [4] = (spec_l03End_e N).F := by
  funext x
  kernel_rfl
theorem spec_l03End_sound (N : Nat) : SoundC Try.prog 46 (spec_l03End_e N) := by
  have h := runF_sound (f := 46) (code := bodyOf Try.f46) (N := N) (T := (spec_l03End_T N)) (L := spec_l03End_L) (ins := [(.sl (.pair (.int .i64) (.pair (.int .i64) (.pair (.sl (.int .i64)) (.sl (.int .i64)))))), (.sl (.int .i64))]) (outs := [.val (.int .i64)]) (res := [4]) mixed tt_ok ?_ Try.func46 (by kernel_rfl) rfl (by kernel_rfl) (by kernel_rfl) (by decide +kernel)
  · rw [spec_l03End_eq] at h
    exact h
  · intro f e he
    unfold spec_l03End_T at he
    split at he
    · rw [List.mem_singleton.1 he]; exact spec_l00Max_sound N
    · cases he

/- spec.l03Least -/
def spec_l03Least (N : Nat) (x0 : List (Int × Int × (List Int) × List Int)) (x1 : List Int) (x2 : Int) : Option (Int × Unit) :=
  Option.bind (idx x0 x2) fun v1 =>
  loopN (fun (s2 : Int × Int × Unit) next3 =>
    cond (decide (s2.2.1 < (List.length v1.2.2.1 : Int)))
      (Option.bind (idx x0 x2) fun v4 =>
      Option.bind (idx v4.2.2.1 s2.2.1) fun v5 =>
      Option.bind (idx x1 v5) fun v6 =>
      Option.bind (idx x0 v5) fun v7 =>
      Option.bind (idx x0 x2) fun v8 =>
      Option.bind (idx v8.2.2.2 s2.2.1) fun v9 =>
      Option.bind (spec_l00Max N s2.1 (w64 ((w64 (v6 + v7.1)) + v9))) fun r10 =>
      next3 (r10.1, (w64 (s2.2.1 + 1)), ()))
      (some (s2.1, ()))) N (0, 0, ())
def spec_l03Least_e (N : Nat) : Ent := { ins := [(.sl (.pair (.int .i64) (.pair (.int .i64) (.pair (.sl (.int .i64)) (.sl (.int .i64)))))), (.sl (.int .i64)), (.int .i64)], outs := [.val (.int .i64)], F := fun x => spec_l03Least N x.1 x.2.1 x.2.2.1 }
def spec_l03Least_T (N : Nat) : Nat → List EntX
  | 72 => [.pl (spec_l00Max_e N)]
  | _ => []
def spec_l03Least_L : Nat → List (Nat × TK)
  | 3 => [(7, .v (.int .i64)), (16, .v (.int .i64))]
  | _ => []
theorem spec_l03Least_eq (N : Nat) : runF N tt (spec_l03Least_T N) spec_l03Least_L [(.sl (.pair (.int .i64) (.pair (.int .i64) (.pair (.sl (.int .i64)) (.sl (.int .i64)))))), (.sl (.int .i64)), (.int .i64)] [.val (.int .i64)] (bodyOf Try.f77) Try.f77.ntmps [6] = (spec_l03Least_e N).F := by
  funext x
  kernel_rfl
theorem spec_l03Least_sound (N : Nat) : SoundC Try.prog 77 (spec_l03Least_e N) := by
  have h := runF_sound (f := 77) (code := bodyOf Try.f77) (N := N) (T := (spec_l03Least_T N)) (L := spec_l03Least_L) (ins := [(.sl (.pair (.int .i64) (.pair (.int .i64) (.pair (.sl (.int .i64)) (.sl (.int .i64)))))), (.sl (.int .i64)), (.int .i64)]) (outs := [.val (.int .i64)]) (res := [6]) mixed tt_ok ?_ Try.func77 (by kernel_rfl) rfl (by kernel_rfl) (by kernel_rfl) (by decide +kernel)
  · rw [spec_l03Least_eq] at h
    exact h
  · intro f e he
    unfold spec_l03Least_T at he
    split at he
    · rw [List.mem_singleton.1 he]; exact spec_l00Max_sound N
    · cases he

/- spec.l03Take -/
def spec_l03Take (N : Nat) (x0 : List (Int × Int × (List Int) × List Int)) (x1 : List Int) (x2 : Int) : Option (List (Int) × Unit) :=
  cond (mkOk (List.length x0 : Int) (List.length x0 : Int))
    (let xs1 := (List.replicate (Int.toNat (List.length x0 : Int)) (0 : Int) : List (Int))
    cond (mkOk (List.length x0 : Int) (List.length x0 : Int))
      (let xs2 := (List.replicate (Int.toNat (List.length x0 : Int)) false : List (Bool))
      loopN (fun (s3 : List (Int) × List (Bool) × Int × Unit) next4 =>
        cond (decide (s3.2.2.1 < (List.length x1 : Int)))
          (Option.bind (idx x1 s3.2.2.1) fun v5 =>
          Option.bind (spec_l03Least N x0 s3.1 v5) fun r6 =>
          loopN (fun (s7 : Int × Unit) next8 =>
            loopN (fun (s9 : Int × Int × Unit) next10 =>
              Option.bind (idx x0 v5) fun v11 =>
              cond (decide (s9.2.1 < (w64 (s7.1 + v11.1))))
                (cond (decide (s9.1 < 0))
                  (Option.bind (idx x0 v5) fun v12 =>
                  loopN (fun (s13 : Int × Int × Unit) next14 =>
                    cond (decide (s13.2.1 < (List.length x0 : Int)))
                      (cond (inB s13.2.1 (List.length s3.2.1))
                        (Option.bind (s3.2.1[(Int.toNat s13.2.1)]?) fun v15 =>
                        cond v15
                          (cond (inB s13.2.1 (List.length s3.1))
                            (Option.bind (s3.1[(Int.toNat s13.2.1)]?) fun v16 =>
                            cond (decide (v16 ≤ s9.2.1))
                              (cond (inB s13.2.1 (List.length s3.1))
                                (Option.bind (s3.1[(Int.toNat s13.2.1)]?) fun v17 =>
                                Option.bind (idx x0 s13.2.1) fun v18 =>
                                cond (decide (s9.2.1 < (w64 (v17 + v18.1))))
                                  (Option.bind (idx x0 s13.2.1) fun v19 =>
                                  next14 ((w64 (s13.1 + v19.2.1)), (w64 (s13.2.1 + 1)), ()))
                                  (next14 (s13.1, (w64 (s13.2.1 + 1)), ()))) none)
                              (next14 (s13.1, (w64 (s13.2.1 + 1)), ()))) none)
                          (next14 (s13.1, (w64 (s13.2.1 + 1)), ()))) none)
                      (cond (decide (s13.1 > x2))
                        (next10 (s9.2.1, (w64 (s9.2.1 + 1)), ()))
                        (next10 (s9.1, (w64 (s9.2.1 + 1)), ())))) N (v12.2.1, 0, ()))
                  (cond (decide (s9.1 < 0))
                    (cond (inB v5 (List.length s3.1))
                      (let xs20 := (List.set s3.1 (Int.toNat v5) s7.1)
                      cond (inB v5 (List.length s3.2.1))
                        (let xs21 := (List.set s3.2.1 (Int.toNat v5) true)
                        next4 (xs20, xs21, (w64 (s3.2.2.1 + 1)), ())) none) none)
                    (next8 ((w64 (s9.1 + 1)), ()))))
                (cond (decide (s9.1 < 0))
                  (cond (inB v5 (List.length s3.1))
                    (let xs22 := (List.set s3.1 (Int.toNat v5) s7.1)
                    cond (inB v5 (List.length s3.2.1))
                      (let xs23 := (List.set s3.2.1 (Int.toNat v5) true)
                      next4 (xs22, xs23, (w64 (s3.2.2.1 + 1)), ())) none) none)
                  (next8 ((w64 (s9.1 + 1)), ())))) N ((-1), s7.1, ())) N (r6.1, ()))
          (some (s3.1, ()))) N (xs1, xs2, 0, ())) none) none
def spec_l03Take_e (N : Nat) : Ent := { ins := [(.sl (.pair (.int .i64) (.pair (.int .i64) (.pair (.sl (.int .i64)) (.sl (.int .i64)))))), (.sl (.int .i64)), (.int .i64)], outs := [.own (.int .i64)], F := fun x => spec_l03Take N x.1 x.2.1 x.2.2.1 }
def spec_l03Take_T (N : Nat) : Nat → List EntX
  | 77 => [.pl (spec_l03Least_e N)]
  | _ => []
def spec_l03Take_L : Nat → List (Nat × TK)
  | 4 => [(7, .own (.int .i64)), (8, .own .bool), (24, .v (.int .i64))]
  | 8 => [(11, .v (.int .i64))]
  | 10 => [(12, .v (.int .i64)), (13, .v (.int .i64))]
  | 14 => [(14, .v (.int .i64)), (58, .v (.int .i64))]
  | _ => []
theorem spec_l03Take_eq (N : Nat) : runF N tt (spec_l03Take_T N) spec_l03Take_L [(.sl (.pair (.int .i64) (.pair (.int .i64) (.pair (.sl (.int .i64)) (.sl (.int .i64)))))), (.sl (.int .i64)), (.int .i64)] [.own (.int .i64)] (bodyOf Try.f80) Try.f80.ntmps [6] = (spec_l03Take_e N).F := by
  funext x
  kernel_rfl
theorem spec_l03Take_sound (N : Nat) : SoundC Try.prog 80 (spec_l03Take_e N) := by
  have h := runF_sound (f := 80) (code := bodyOf Try.f80) (N := N) (T := (spec_l03Take_T N)) (L := spec_l03Take_L) (ins := [(.sl (.pair (.int .i64) (.pair (.int .i64) (.pair (.sl (.int .i64)) (.sl (.int .i64)))))), (.sl (.int .i64)), (.int .i64)]) (outs := [.own (.int .i64)]) (res := [6]) mixed tt_ok ?_ Try.func80 (by kernel_rfl) rfl (by kernel_rfl) (by kernel_rfl) (by decide +kernel)
  · rw [spec_l03Take_eq] at h
    exact h
  · intro f e he
    unfold spec_l03Take_T at he
    split at he
    · rw [List.mem_singleton.1 he]; exact spec_l03Least_sound N
    · cases he

/- spec.l00Has -/
def spec_l00Has (N : Nat) (x0 : List Int) (x1 : Int) : Option (Bool × Unit) :=
  loopN (fun (s1 : Int × Unit) next2 =>
    cond (decide (s1.1 < (List.length x0 : Int)))
      (Option.bind (idx x0 s1.1) fun v3 =>
      cond (v3 == x1)
        (some (true, ()))
        (next2 ((w64 (s1.1 + 1)), ())))
      (some (false, ()))) N (0, ())
def spec_l00Has_e (N : Nat) : Ent := { ins := [(.sl (.int .i64)), (.int .i64)], outs := [.val .bool], F := fun x => spec_l00Has N x.1 x.2.1 }
def spec_l00Has_T (_ : Nat) : Nat → List EntX := fun _ => []
def spec_l00Has_L : Nat → List (Nat × TK)
  | 2 => [(5, .v (.int .i64))]
  | _ => []
theorem spec_l00Has_eq (N : Nat) : runF N tt (spec_l00Has_T N) spec_l00Has_L [(.sl (.int .i64)), (.int .i64)] [.val .bool] (bodyOf Try.f81) Try.f81.ntmps [4] = (spec_l00Has_e N).F := by
  funext x
  kernel_rfl
theorem spec_l00Has_sound (N : Nat) : SoundC Try.prog 81 (spec_l00Has_e N) := by
  have h := runF_sound (f := 81) (code := bodyOf Try.f81) (N := N) (T := (spec_l00Has_T N)) (L := spec_l00Has_L) (ins := [(.sl (.int .i64)), (.int .i64)]) (outs := [.val .bool]) (res := [4]) mixed tt_ok ?_ Try.func81 (by kernel_rfl) rfl (by kernel_rfl) (by kernel_rfl) (by decide +kernel)
  · rw [spec_l00Has_eq] at h
    exact h
  · intro f e he
    cases he

/- spec.l03Try -/
def spec_l03Try_step (N : Nat) (self : List (Int × Int × (List Int) × List Int) → List Int → Int → List Int → Int → Option ((List Int × Int) × (Unit))) (x0 : List (Int × Int × (List Int) × List Int)) (x1 : List Int) (x2 : Int) (x3 : List Int) (c0 : Int) : Option ((List Int × Int) × (Unit)) :=
  cond ((List.length x1 : Int) == (List.length x0 : Int))
    (Option.bind (spec_l03Take N x0 x1 x2) fun r1 =>
    Option.bind (spec_l03End N x0 r1.1) fun r2 =>
    cond (decide (c0 < 0))
      (some ((r1.1, r2.1), (())))
      (cond (decide (r2.1 < c0))
        (some ((r1.1, r2.1), (())))
        (some ((x3, c0), (())))))
    (loopN (fun (s3 : (List Int × Int) × Int × Unit) next4 =>
      cond (decide (s3.2.1 < (List.length x0 : Int)))
        (Option.bind (spec_l00Has N x1 s3.2.1) fun r5 =>
        Option.bind (idx x0 s3.2.1) fun v6 =>
        loopN (fun (s7 : Bool × Int × Unit) next8 =>
          cond (decide (s7.2.1 < (List.length v6.2.2.1 : Int)))
            (cond s7.1
              (Option.bind (idx x0 s3.2.1) fun v9 =>
              Option.bind (idx v9.2.2.1 s7.2.1) fun v10 =>
              Option.bind (spec_l00Has N x1 v10) fun r11 =>
              next8 (r11.1, (w64 (s7.2.1 + 1)), ()))
              (next8 (false, (w64 (s7.2.1 + 1)), ())))
            (cond s7.1
              (cond (appOk (List.length ([] : List Int)) (List.length x1))
                (let xs12 := (([] : List Int) ++ x1)
                cond (appOk (List.length xs12) (List.length ([s3.2.1] : List Int)))
                  (let xs13 := (xs12 ++ ([s3.2.1] : List Int))
                  Option.bind (self x0 xs13 x2 s3.1.1 s3.1.2) fun r14 =>
                  next4 ((r14.1.1, r14.1.2), (w64 (s3.2.1 + 1)), ())) none) none)
              (next4 ((s3.1.1, s3.1.2), (w64 (s3.2.1 + 1)), ())))) N ((!r5.1), 0, ()))
        (some ((s3.1.1, s3.1.2), (())))) N ((x3, c0), 0, ()))
def spec_l03Try_r (N : Nat) : Nat → List (Int × Int × (List Int) × List Int) → List Int → Int → List Int → Int → Option ((List Int × Int) × (Unit))
  | 0 => fun _ _ _ _ _ => none
  | F + 1 => spec_l03Try_step N (spec_l03Try_r N F)
def spec_l03Try (N : Nat) (x0 : List (Int × Int × (List Int) × List Int)) (x1 : List Int) (x2 : Int) (x3 : List Int) (c0 : Int) : Option ((List Int × Int) × (Unit)) := spec_l03Try_r N N x0 x1 x2 x3 c0
def spec_l03Try_ef (N F : Nat) : EntB := { pos := 3, ins := [(.sl (.pair (.int .i64) (.pair (.int .i64) (.pair (.sl (.int .i64)) (.sl (.int .i64)))))), (.sl (.int .i64)), (.int .i64)], outs := [], F := fun xs c x => spec_l03Try_r N F x.1 x.2.1 x.2.2.1 xs c }
def spec_l03Try_e (N : Nat) : EntB := spec_l03Try_ef N N
def spec_l03Try_T (N F : Nat) : Nat → List EntX
  | 46 => [.pl (spec_l03End_e N)]
  | 59 => [.bm (spec_l03Try_ef N F)]
  | 80 => [.pl (spec_l03Take_e N)]
  | 81 => [.pl (spec_l00Has_e N)]
  | _ => []
def spec_l03Try_L : Nat → List (Nat × TK)
  | 7 => [(3, .bx), (48, .v (.int .i64))]
  | 11 => [(11, .v .bool), (61, .v (.int .i64))]
  | _ => []
theorem spec_l03Try_eq (N F : Nat) : runB N tt (spec_l03Try_T N F) spec_l03Try_L 3 [(.sl (.pair (.int .i64) (.pair (.int .i64) (.pair (.sl (.int .i64)) (.sl (.int .i64)))))), (.sl (.int .i64)), (.int .i64)] [] (bodyOf Try.f59) Try.f59.ntmps [] = (fun xs c x => spec_l03Try_step N (spec_l03Try_r N F) x.1 x.2.1 x.2.2.1 xs c) := by
  funext xs c x
  kernel_rfl
theorem spec_l03Try_soundf (N F : Nat) : SoundB Try.prog 59 (spec_l03Try_ef N F) := by
  induction F with
  | zero =>
    intro p w bb cs0 e0 v ob vals xs c x z _ _ _ _ _ _ _ hF
    exact absurd (show none = some _ from hF) (by simp)
  | succ F ih =>
    have h := runB_sound (f := 59) (code := bodyOf Try.f59) (N := N) (T := (spec_l03Try_T N F)) (L := spec_l03Try_L) (pos := 3) (ins := [(.sl (.pair (.int .i64) (.pair (.int .i64) (.pair (.sl (.int .i64)) (.sl (.int .i64)))))), (.sl (.int .i64)), (.int .i64)]) (outs := []) (res := []) mixed tt_ok ?_ Try.func59 (by kernel_rfl) rfl (by kernel_rfl) (by kernel_rfl) (by decide +kernel) (by decide +kernel)
    · rw [spec_l03Try_eq] at h
      exact h
    · intro f e he
      unfold spec_l03Try_T at he
      split at he
      · rw [List.mem_singleton.1 he]; exact spec_l03End_sound N
      · rw [List.mem_singleton.1 he]; exact ih
      · rw [List.mem_singleton.1 he]; exact spec_l03Take_sound N
      · rw [List.mem_singleton.1 he]; exact spec_l00Has_sound N
      · cases he
theorem spec_l03Try_sound (N : Nat) : SoundB Try.prog 59 (spec_l03Try_e N) := spec_l03Try_soundf N N

/- spec.BestPlan -/
def spec_BestPlan (N : Nat) (x0 : List (Int × Int × (List Int) × List Int)) (x1 : Int) : Option (List (Int) × Int × Bool × Unit) :=
  Option.bind (spec_l03Crew N x0 x1) fun r1 =>
  cond (!r1.1)
    (some ([], 0, false, ()))
    (cond (decide ((List.length x0 : Int) > 7))
      (some ([], 0, false, ()))
      (Option.bind (spec_l03Try N x0 ([] : List Int) x1 ([]) (-1)) fun r2 =>
      some (r2.1.1, r2.1.2, true, ())))
def spec_BestPlan_e (N : Nat) : Ent := { ins := [(.sl (.pair (.int .i64) (.pair (.int .i64) (.pair (.sl (.int .i64)) (.sl (.int .i64)))))), (.int .i64)], outs := [.own (.int .i64), .val (.int .i64), .val .bool], F := fun x => spec_BestPlan N x.1 x.2.1 }
def spec_BestPlan_T (N : Nat) : Nat → List EntX
  | 58 => [.pl (spec_l03Crew_e N)]
  | 59 => [.bm (spec_l03Try_e N)]
  | _ => []
def spec_BestPlan_L : Nat → List (Nat × TK) := fun _ => []
theorem spec_BestPlan_eq (N : Nat) : runF N tt (spec_BestPlan_T N) spec_BestPlan_L [(.sl (.pair (.int .i64) (.pair (.int .i64) (.pair (.sl (.int .i64)) (.sl (.int .i64)))))), (.int .i64)] [.own (.int .i64), .val (.int .i64), .val .bool] (bodyOf Try.f21) Try.f21.ntmps [4, 5, 6] = (spec_BestPlan_e N).F := by
  funext x
  kernel_rfl
theorem spec_BestPlan_sound (N : Nat) : SoundC Try.prog 21 (spec_BestPlan_e N) := by
  have h := runF_sound (f := 21) (code := bodyOf Try.f21) (N := N) (T := (spec_BestPlan_T N)) (L := spec_BestPlan_L) (ins := [(.sl (.pair (.int .i64) (.pair (.int .i64) (.pair (.sl (.int .i64)) (.sl (.int .i64)))))), (.int .i64)]) (outs := [.own (.int .i64), .val (.int .i64), .val .bool]) (res := [4, 5, 6]) mixed tt_ok ?_ Try.func21 (by kernel_rfl) rfl (by kernel_rfl) (by kernel_rfl) (by decide +kernel)
  · rw [spec_BestPlan_eq] at h
    exact h
  · intro f e he
    unfold spec_BestPlan_T at he
    split at he
    · rw [List.mem_singleton.1 he]; exact spec_l03Crew_sound N
    · rw [List.mem_singleton.1 he]; exact spec_l03Try_sound N
    · cases he

/- impl.within -/
def impl_within (_N : Nat) (x0 : Int) (x1 : Int) (x2 : Int) : Option (Bool × Unit) :=
  cond (decide (x0 ≥ x1))
    (some ((decide (x0 ≤ x2)), ()))
    (some (false, ()))
def impl_within_e (N : Nat) : Ent := { ins := [(.int .i64), (.int .i64), (.int .i64)], outs := [.val .bool], F := fun x => impl_within N x.1 x.2.1 x.2.2.1 }
def impl_within_T (_ : Nat) : Nat → List EntX := fun _ => []
def impl_within_L : Nat → List (Nat × TK) := fun _ => []
theorem impl_within_eq (N : Nat) : runF N tt (impl_within_T N) impl_within_L [(.int .i64), (.int .i64), (.int .i64)] [.val .bool] (bodyOf Try.f52) Try.f52.ntmps [6] = (impl_within_e N).F := by
  funext x
  kernel_rfl
theorem impl_within_sound (N : Nat) : SoundC Try.prog 52 (impl_within_e N) := by
  have h := runF_sound (f := 52) (code := bodyOf Try.f52) (N := N) (T := (impl_within_T N)) (L := impl_within_L) (ins := [(.int .i64), (.int .i64), (.int .i64)]) (outs := [.val .bool]) (res := [6]) mixed tt_ok ?_ Try.func52 (by kernel_rfl) rfl (by kernel_rfl) (by kernel_rfl) (by decide +kernel)
  · rw [impl_within_eq] at h
    exact h
  · intro f e he
    cases he

/- impl.areWithin -/
def impl_areWithin (N : Nat) (x0 : List Int) (x1 : Int) (x2 : Int) : Option (Bool × Unit) :=
  loopN (fun (s1 : Int × Unit) next2 =>
    cond (decide (s1.1 < (List.length x0 : Int)))
      (Option.bind (idx x0 s1.1) fun v3 =>
      Option.bind (impl_within N v3 x1 x2) fun r4 =>
      cond (!r4.1)
        (some (false, ()))
        (next2 ((w64 (s1.1 + 1)), ())))
      (some (true, ()))) N (0, ())
def impl_areWithin_e (N : Nat) : Ent := { ins := [(.sl (.int .i64)), (.int .i64), (.int .i64)], outs := [.val .bool], F := fun x => impl_areWithin N x.1 x.2.1 x.2.2.1 }
def impl_areWithin_T (N : Nat) : Nat → List EntX
  | 52 => [.pl (impl_within_e N)]
  | _ => []
def impl_areWithin_L : Nat → List (Nat × TK)
  | 2 => [(11, .v (.int .i64))]
  | _ => []
theorem impl_areWithin_eq (N : Nat) : runF N tt (impl_areWithin_T N) impl_areWithin_L [(.sl (.int .i64)), (.int .i64), (.int .i64)] [.val .bool] (bodyOf Try.f78) Try.f78.ntmps [6] = (impl_areWithin_e N).F := by
  funext x
  kernel_rfl
theorem impl_areWithin_sound (N : Nat) : SoundC Try.prog 78 (impl_areWithin_e N) := by
  have h := runF_sound (f := 78) (code := bodyOf Try.f78) (N := N) (T := (impl_areWithin_T N)) (L := impl_areWithin_L) (ins := [(.sl (.int .i64)), (.int .i64), (.int .i64)]) (outs := [.val .bool]) (res := [6]) mixed tt_ok ?_ Try.func78 (by kernel_rfl) rfl (by kernel_rfl) (by kernel_rfl) (by decide +kernel)
  · rw [impl_areWithin_eq] at h
    exact h
  · intro f e he
    unfold impl_areWithin_T at he
    split at he
    · rw [List.mem_singleton.1 he]; exact impl_within_sound N
    · cases he

/- impl.AreTasks -/
def impl_AreTasks (N : Nat) (x0 : List (Int × Int × (List Int) × List Int)) : Option (Bool × Unit) :=
  loopN (fun (s1 : Int × Unit) next2 =>
    cond (decide (s1.1 < (List.length x0 : Int)))
      (Option.bind (idx x0 s1.1) fun v3 =>
      Option.bind (impl_within N v3.1 0 100) fun r4 =>
      cond (!r4.1)
        (some (false, ()))
        (Option.bind (impl_within N v3.2.1 0 20) fun r5 =>
        cond (!r5.1)
          (some (false, ()))
          (cond ((List.length v3.2.2.1 : Int) != (List.length v3.2.2.2 : Int))
            (some (false, ()))
            (Option.bind (impl_areWithin N v3.2.2.2 (-100) 100) fun r6 =>
            cond (!r6.1)
              (some (false, ()))
              (loopN (fun (s7 : Int × Unit) next8 =>
                cond (decide (s7.1 < (List.length v3.2.2.1 : Int)))
                  (Option.bind (idx v3.2.2.1 s7.1) fun v9 =>
                  Option.bind (impl_within N v9 0 (w64 (s1.1 - 1))) fun r10 =>
                  cond (!r10.1)
                    (some (false, ()))
                    (cond (decide (s7.1 > 0))
                      (Option.bind (idx v3.2.2.1 (w64 (s7.1 - 1))) fun v11 =>
                      cond (decide (v9 ≤ v11))
                        (some (false, ()))
                        (next8 ((w64 (s7.1 + 1)), ())))
                      (next8 ((w64 (s7.1 + 1)), ()))))
                  (next2 ((w64 (s1.1 + 1)), ()))) N (0, ()))))))
      (cond (decide ((List.length x0 : Int) ≥ 1))
        (some ((decide ((List.length x0 : Int) ≤ 16)), ()))
        (some (false, ())))) N (0, ())
def impl_AreTasks_e (N : Nat) : Ent := { ins := [(.sl (.pair (.int .i64) (.pair (.int .i64) (.pair (.sl (.int .i64)) (.sl (.int .i64))))))], outs := [.val .bool], F := fun x => impl_AreTasks N x.1 }
def impl_AreTasks_T (N : Nat) : Nat → List EntX
  | 52 => [.pl (impl_within_e N)]
  | 78 => [.pl (impl_areWithin_e N)]
  | _ => []
def impl_AreTasks_L : Nat → List (Nat × TK)
  | 2 => [(9, .v (.int .i64))]
  | 7 => [(42, .v (.int .i64))]
  | _ => []
theorem impl_AreTasks_eq (N : Nat) : runF N tt (impl_AreTasks_T N) impl_AreTasks_L [(.sl (.pair (.int .i64) (.pair (.int .i64) (.pair (.sl (.int .i64)) (.sl (.int .i64))))))] [.val .bool] (bodyOf Try.f50) Try.f50.ntmps [2] = (impl_AreTasks_e N).F := by
  funext x
  kernel_rfl
theorem impl_AreTasks_sound (N : Nat) : SoundC Try.prog 50 (impl_AreTasks_e N) := by
  have h := runF_sound (f := 50) (code := bodyOf Try.f50) (N := N) (T := (impl_AreTasks_T N)) (L := impl_AreTasks_L) (ins := [(.sl (.pair (.int .i64) (.pair (.int .i64) (.pair (.sl (.int .i64)) (.sl (.int .i64))))))]) (outs := [.val .bool]) (res := [2]) mixed tt_ok ?_ Try.func50 (by kernel_rfl) rfl (by kernel_rfl) (by kernel_rfl) (by decide +kernel)
  · rw [impl_AreTasks_eq] at h
    exact h
  · intro f e he
    unfold impl_AreTasks_T at he
    split at he
    · rw [List.mem_singleton.1 he]; exact impl_within_sound N
    · rw [List.mem_singleton.1 he]; exact impl_areWithin_sound N
    · cases he

/- impl.areCrew -/
def impl_areCrew (N : Nat) (x0 : Int) : Option (Bool × Unit) :=
  Option.bind (impl_within N x0 0 20) fun r1 =>
  some (r1.1, ())
def impl_areCrew_e (N : Nat) : Ent := { ins := [(.int .i64)], outs := [.val .bool], F := fun x => impl_areCrew N x.1 }
def impl_areCrew_T (N : Nat) : Nat → List EntX
  | 52 => [.pl (impl_within_e N)]
  | _ => []
def impl_areCrew_L : Nat → List (Nat × TK) := fun _ => []
theorem impl_areCrew_eq (N : Nat) : runF N tt (impl_areCrew_T N) impl_areCrew_L [(.int .i64)] [.val .bool] (bodyOf Try.f82) Try.f82.ntmps [2] = (impl_areCrew_e N).F := by
  funext x
  kernel_rfl
theorem impl_areCrew_sound (N : Nat) : SoundC Try.prog 82 (impl_areCrew_e N) := by
  have h := runF_sound (f := 82) (code := bodyOf Try.f82) (N := N) (T := (impl_areCrew_T N)) (L := impl_areCrew_L) (ins := [(.int .i64)]) (outs := [.val .bool]) (res := [2]) mixed tt_ok ?_ Try.func82 (by kernel_rfl) rfl (by kernel_rfl) (by kernel_rfl) (by decide +kernel)
  · rw [impl_areCrew_eq] at h
    exact h
  · intro f e he
    unfold impl_areCrew_T at he
    split at he
    · rw [List.mem_singleton.1 he]; exact impl_within_sound N
    · cases he

/- impl.fitsCrew$1 -/
def impl_fitsCrew_1_c0 (_N : Nat) (x0 : Int × Int × (List Int) × List Int) (x1 : Int) : Option (Bool × Unit) :=
  some ((decide (x0.2.1 > x1)), ())
def impl_fitsCrew_1_c0_e (N : Nat) : Ent := { ins := [(.pair (.int .i64) (.pair (.int .i64) (.pair (.sl (.int .i64)) (.sl (.int .i64))))), (.bx (.int .i64))], outs := [.val .bool], F := fun x => impl_fitsCrew_1_c0 N x.1 x.2.1 }
def impl_fitsCrew_1_c0_T (_ : Nat) : Nat → List EntX := fun _ => []
def impl_fitsCrew_1_c0_L : Nat → List (Nat × TK) := fun _ => []
theorem impl_fitsCrew_1_c0_eq (N : Nat) : runF N tt (impl_fitsCrew_1_c0_T N) impl_fitsCrew_1_c0_L [(.pair (.int .i64) (.pair (.int .i64) (.pair (.sl (.int .i64)) (.sl (.int .i64))))), (.bx (.int .i64))] [.val .bool] (bodyOf Try.f84) Try.f84.ntmps [3] = (impl_fitsCrew_1_c0_e N).F := by
  funext x
  kernel_rfl
theorem impl_fitsCrew_1_c0_sound (N : Nat) : SoundC Try.prog 84 (impl_fitsCrew_1_c0_e N) := by
  have h := runF_sound (f := 84) (code := bodyOf Try.f84) (N := N) (T := (impl_fitsCrew_1_c0_T N)) (L := impl_fitsCrew_1_c0_L) (ins := [(.pair (.int .i64) (.pair (.int .i64) (.pair (.sl (.int .i64)) (.sl (.int .i64))))), (.bx (.int .i64))]) (outs := [.val .bool]) (res := [3]) mixed tt_ok ?_ Try.func84 (by kernel_rfl) rfl (by kernel_rfl) (by kernel_rfl) (by decide +kernel)
  · rw [impl_fitsCrew_1_c0_eq] at h
    exact h
  · intro f e he
    cases he

/- slices.IndexFunc[[]impl.Task,impl.Task] -/
def slices_IndexFunc_impl_Task_impl_Task_impl_fitsCrew_1 (N : Nat) (x0 : List (Int × Int × (List Int) × List Int)) (x1 : Int) : Option (Int × Unit) :=
  loopN (fun (s1 : Int × Unit) next2 =>
    cond (decide (s1.1 < (List.length x0 : Int)))
      (Option.bind (idx x0 s1.1) fun v3 =>
      Option.bind (impl_fitsCrew_1_c0 N v3 x1) fun r4 =>
      cond r4.1
        (some (s1.1, ()))
        (next2 ((w64 (s1.1 + 1)), ())))
      (some ((-1), ()))) N (0, ())
def slices_IndexFunc_impl_Task_impl_Task_impl_fitsCrew_1_e (N : Nat) : Ent := { ins := [(.sl (.pair (.int .i64) (.pair (.int .i64) (.pair (.sl (.int .i64)) (.sl (.int .i64)))))), (.clo 84 (.bx (.int .i64)))], outs := [.val (.int .i64)], F := fun x => slices_IndexFunc_impl_Task_impl_Task_impl_fitsCrew_1 N x.1 x.2.1 }
def slices_IndexFunc_impl_Task_impl_Task_impl_fitsCrew_1_T (N : Nat) : Nat → List EntX
  | 84 => [.pl (impl_fitsCrew_1_c0_e N)]
  | _ => []
def slices_IndexFunc_impl_Task_impl_Task_impl_fitsCrew_1_L : Nat → List (Nat × TK)
  | 2 => [(8, .v (.int .i64))]
  | _ => []
theorem slices_IndexFunc_impl_Task_impl_Task_impl_fitsCrew_1_eq (N : Nat) : runF N tt (slices_IndexFunc_impl_Task_impl_Task_impl_fitsCrew_1_T N) slices_IndexFunc_impl_Task_impl_Task_impl_fitsCrew_1_L [(.sl (.pair (.int .i64) (.pair (.int .i64) (.pair (.sl (.int .i64)) (.sl (.int .i64)))))), (.clo 84 (.bx (.int .i64)))] [.val (.int .i64)] (bodyOf Try.f99) Try.f99.ntmps [4] = (slices_IndexFunc_impl_Task_impl_Task_impl_fitsCrew_1_e N).F := by
  funext x
  kernel_rfl
theorem slices_IndexFunc_impl_Task_impl_Task_impl_fitsCrew_1_sound (N : Nat) : SoundC Try.prog 99 (slices_IndexFunc_impl_Task_impl_Task_impl_fitsCrew_1_e N) := by
  have h := runF_sound (f := 99) (code := bodyOf Try.f99) (N := N) (T := (slices_IndexFunc_impl_Task_impl_Task_impl_fitsCrew_1_T N)) (L := slices_IndexFunc_impl_Task_impl_Task_impl_fitsCrew_1_L) (ins := [(.sl (.pair (.int .i64) (.pair (.int .i64) (.pair (.sl (.int .i64)) (.sl (.int .i64)))))), (.clo 84 (.bx (.int .i64)))]) (outs := [.val (.int .i64)]) (res := [4]) mixed tt_ok ?_ Try.func99 (by kernel_rfl) rfl (by kernel_rfl) (by kernel_rfl) (by decide +kernel)
  · rw [slices_IndexFunc_impl_Task_impl_Task_impl_fitsCrew_1_eq] at h
    exact h
  · intro f e he
    unfold slices_IndexFunc_impl_Task_impl_Task_impl_fitsCrew_1_T at he
    split at he
    · rw [List.mem_singleton.1 he]; exact impl_fitsCrew_1_c0_sound N
    · cases he

/- slices.ContainsFunc[[]impl.Task,impl.Task] -/
def slices_ContainsFunc_impl_Task_impl_Task_impl_fitsCrew_1 (N : Nat) (x0 : List (Int × Int × (List Int) × List Int)) (x1 : Int) : Option (Bool × Unit) :=
  Option.bind (slices_IndexFunc_impl_Task_impl_Task_impl_fitsCrew_1 N x0 x1) fun r1 =>
  some ((decide (r1.1 ≥ 0)), ())
def slices_ContainsFunc_impl_Task_impl_Task_impl_fitsCrew_1_e (N : Nat) : Ent := { ins := [(.sl (.pair (.int .i64) (.pair (.int .i64) (.pair (.sl (.int .i64)) (.sl (.int .i64)))))), (.clo 84 (.bx (.int .i64)))], outs := [.val .bool], F := fun x => slices_ContainsFunc_impl_Task_impl_Task_impl_fitsCrew_1 N x.1 x.2.1 }
def slices_ContainsFunc_impl_Task_impl_Task_impl_fitsCrew_1_T (N : Nat) : Nat → List EntX
  | 99 => [.pl (slices_IndexFunc_impl_Task_impl_Task_impl_fitsCrew_1_e N)]
  | _ => []
def slices_ContainsFunc_impl_Task_impl_Task_impl_fitsCrew_1_L : Nat → List (Nat × TK) := fun _ => []
theorem slices_ContainsFunc_impl_Task_impl_Task_impl_fitsCrew_1_eq (N : Nat) : runF N tt (slices_ContainsFunc_impl_Task_impl_Task_impl_fitsCrew_1_T N) slices_ContainsFunc_impl_Task_impl_Task_impl_fitsCrew_1_L [(.sl (.pair (.int .i64) (.pair (.int .i64) (.pair (.sl (.int .i64)) (.sl (.int .i64)))))), (.clo 84 (.bx (.int .i64)))] [.val .bool] (bodyOf Try.f83) Try.f83.ntmps [4] = (slices_ContainsFunc_impl_Task_impl_Task_impl_fitsCrew_1_e N).F := by
  funext x
  kernel_rfl
theorem slices_ContainsFunc_impl_Task_impl_Task_impl_fitsCrew_1_sound (N : Nat) : SoundC Try.prog 83 (slices_ContainsFunc_impl_Task_impl_Task_impl_fitsCrew_1_e N) := by
  have h := runF_sound (f := 83) (code := bodyOf Try.f83) (N := N) (T := (slices_ContainsFunc_impl_Task_impl_Task_impl_fitsCrew_1_T N)) (L := slices_ContainsFunc_impl_Task_impl_Task_impl_fitsCrew_1_L) (ins := [(.sl (.pair (.int .i64) (.pair (.int .i64) (.pair (.sl (.int .i64)) (.sl (.int .i64)))))), (.clo 84 (.bx (.int .i64)))]) (outs := [.val .bool]) (res := [4]) mixed tt_ok ?_ Try.func83 (by kernel_rfl) rfl (by kernel_rfl) (by kernel_rfl) (by decide +kernel)
  · rw [slices_ContainsFunc_impl_Task_impl_Task_impl_fitsCrew_1_eq] at h
    exact h
  · intro f e he
    unfold slices_ContainsFunc_impl_Task_impl_Task_impl_fitsCrew_1_T at he
    split at he
    · rw [List.mem_singleton.1 he]; exact slices_IndexFunc_impl_Task_impl_Task_impl_fitsCrew_1_sound N
    · cases he

/- impl.fitsCrew -/
def impl_fitsCrew (N : Nat) (x0 : List (Int × Int × (List Int) × List Int)) (x1 : Int) : Option (Bool × Unit) :=
  Option.bind (impl_AreTasks N x0) fun r1 =>
  cond r1.1
    (Option.bind (impl_areCrew N x1) fun r2 =>
    cond r2.1
      (Option.bind (slices_ContainsFunc_impl_Task_impl_Task_impl_fitsCrew_1 N x0 x1) fun r3 =>
      some ((!r3.1), ()))
      (some (false, ())))
    (some (false, ()))
def impl_fitsCrew_e (N : Nat) : Ent := { ins := [(.sl (.pair (.int .i64) (.pair (.int .i64) (.pair (.sl (.int .i64)) (.sl (.int .i64)))))), (.int .i64)], outs := [.val .bool], F := fun x => impl_fitsCrew N x.1 x.2.1 }
def impl_fitsCrew_T (N : Nat) : Nat → List EntX
  | 50 => [.pl (impl_AreTasks_e N)]
  | 82 => [.pl (impl_areCrew_e N)]
  | 83 => [.pl (slices_ContainsFunc_impl_Task_impl_Task_impl_fitsCrew_1_e N)]
  | _ => []
def impl_fitsCrew_L : Nat → List (Nat × TK) := fun _ => []
theorem impl_fitsCrew_eq (N : Nat) : runF N tt (impl_fitsCrew_T N) impl_fitsCrew_L [(.sl (.pair (.int .i64) (.pair (.int .i64) (.pair (.sl (.int .i64)) (.sl (.int .i64)))))), (.int .i64)] [.val .bool] (bodyOf Try.f60) Try.f60.ntmps [4] = (impl_fitsCrew_e N).F := by
  funext x
  kernel_rfl
theorem impl_fitsCrew_sound (N : Nat) : SoundC Try.prog 60 (impl_fitsCrew_e N) := by
  have h := runF_sound (f := 60) (code := bodyOf Try.f60) (N := N) (T := (impl_fitsCrew_T N)) (L := impl_fitsCrew_L) (ins := [(.sl (.pair (.int .i64) (.pair (.int .i64) (.pair (.sl (.int .i64)) (.sl (.int .i64)))))), (.int .i64)]) (outs := [.val .bool]) (res := [4]) mixed tt_ok ?_ Try.func60 (by kernel_rfl) rfl (by kernel_rfl) (by kernel_rfl) (by decide +kernel)
  · rw [impl_fitsCrew_eq] at h
    exact h
  · intro f e he
    unfold impl_fitsCrew_T at he
    split at he
    · rw [List.mem_singleton.1 he]; exact impl_AreTasks_sound N
    · rw [List.mem_singleton.1 he]; exact impl_areCrew_sound N
    · rw [List.mem_singleton.1 he]; exact slices_ContainsFunc_impl_Task_impl_Task_impl_fitsCrew_1_sound N
    · cases he

/- impl.lastEnd -/
def impl_lastEnd (N : Nat) (x0 : List (Int × Int × (List Int) × List Int)) (x1 : List Int) : Option (Int × Unit) :=
  loopN (fun (s1 : Int × Int × Unit) next2 =>
    cond (decide (s1.2.1 < (List.length x0 : Int)))
      (Option.bind (idx x0 s1.2.1) fun v3 =>
      Option.bind (idx x1 s1.2.1) fun v4 =>
      next2 ((imax s1.1 (w64 (v4 + v3.1))), (w64 (s1.2.1 + 1)), ()))
      (some (s1.1, ()))) N (0, 0, ())
def impl_lastEnd_e (N : Nat) : Ent := { ins := [(.sl (.pair (.int .i64) (.pair (.int .i64) (.pair (.sl (.int .i64)) (.sl (.int .i64)))))), (.sl (.int .i64))], outs := [.val (.int .i64)], F := fun x => impl_lastEnd N x.1 x.2.1 }
def impl_lastEnd_T (_ : Nat) : Nat → List EntX := fun _ => []
def impl_lastEnd_L : Nat → List (Nat × TK)
  | 3 => [(5, .v (.int .i64)), (10, .v (.int .i64))]
  | _ => []
theorem impl_lastEnd_eq (N : Nat) : runF N tt (impl_lastEnd_T N) impl_lastEnd_L [(.sl (.pair (.int .i64) (.pair (.int .i64) (.pair (.sl (.int .i64)) (.sl (.int .i64)))))), (.sl (.int .i64))] [.val (.int .i64)] (bodyOf Try.f55) Try.f55.ntmps [4] = (impl_lastEnd_e N).F := by
  funext x
  kernel_rfl
theorem impl_lastEnd_sound (N : Nat) : SoundC Try.prog 55 (impl_lastEnd_e N) := by
  have h := runF_sound (f := 55) (code := bodyOf Try.f55) (N := N) (T := (impl_lastEnd_T N)) (L := impl_lastEnd_L) (ins := [(.sl (.pair (.int .i64) (.pair (.int .i64) (.pair (.sl (.int .i64)) (.sl (.int .i64)))))), (.sl (.int .i64))]) (outs := [.val (.int .i64)]) (res := [4]) mixed tt_ok ?_ Try.func55 (by kernel_rfl) rfl (by kernel_rfl) (by kernel_rfl) (by decide +kernel)
  · rw [impl_lastEnd_eq] at h
    exact h
  · intro f e he
    cases he

/- impl.earliest -/
def impl_earliest (N : Nat) (x0 : List (Int × Int × (List Int) × List Int)) (x1 : List Int) (x2 : Int) : Option (Int × Unit) :=
  Option.bind (idx x0 x2) fun v1 =>
  loopN (fun (s2 : Int × Int × Unit) next3 =>
    cond (decide (s2.2.1 < (List.length v1.2.2.1 : Int)))
      (Option.bind (idx v1.2.2.1 s2.2.1) fun v4 =>
      Option.bind (idx x1 v4) fun v5 =>
      Option.bind (idx x0 v4) fun v6 =>
      Option.bind (idx x0 x2) fun v7 =>
      Option.bind (idx v7.2.2.2 s2.2.1) fun v8 =>
      next3 ((imax s2.1 (w64 ((w64 (v5 + v6.1)) + v8))), (w64 (s2.2.1 + 1)), ()))
      (some (s2.1, ()))) N (0, 0, ())
def impl_earliest_e (N : Nat) : Ent := { ins := [(.sl (.pair (.int .i64) (.pair (.int .i64) (.pair (.sl (.int .i64)) (.sl (.int .i64)))))), (.sl (.int .i64)), (.int .i64)], outs := [.val (.int .i64)], F := fun x => impl_earliest N x.1 x.2.1 x.2.2.1 }
def impl_earliest_T (_ : Nat) : Nat → List EntX := fun _ => []
def impl_earliest_L : Nat → List (Nat × TK)
  | 3 => [(7, .v (.int .i64)), (16, .v (.int .i64))]
  | _ => []
theorem impl_earliest_eq (N : Nat) : runF N tt (impl_earliest_T N) impl_earliest_L [(.sl (.pair (.int .i64) (.pair (.int .i64) (.pair (.sl (.int .i64)) (.sl (.int .i64)))))), (.sl (.int .i64)), (.int .i64)] [.val (.int .i64)] (bodyOf Try.f79) Try.f79.ntmps [6] = (impl_earliest_e N).F := by
  funext x
  kernel_rfl
theorem impl_earliest_sound (N : Nat) : SoundC Try.prog 79 (impl_earliest_e N) := by
  have h := runF_sound (f := 79) (code := bodyOf Try.f79) (N := N) (T := (impl_earliest_T N)) (L := impl_earliest_L) (ins := [(.sl (.pair (.int .i64) (.pair (.int .i64) (.pair (.sl (.int .i64)) (.sl (.int .i64)))))), (.sl (.int .i64)), (.int .i64)]) (outs := [.val (.int .i64)]) (res := [6]) mixed tt_ok ?_ Try.func79 (by kernel_rfl) rfl (by kernel_rfl) (by kernel_rfl) (by decide +kernel)
  · rw [impl_earliest_eq] at h
    exact h
  · intro f e he
    cases he

/- math/bits.Mul32 -/
def math_bits_Mul32 (_N : Nat) (x0 : Int) (x1 : Int) : Option (Int × Int × Unit) :=
  some ((IntKind.wrap .u32 (ishr .u64 (IntKind.wrap .u64 ((IntKind.wrap .u64 x0) * (IntKind.wrap .u64 x1))) 32)), (IntKind.wrap .u32 (IntKind.wrap .u64 ((IntKind.wrap .u64 x0) * (IntKind.wrap .u64 x1)))), ())
def math_bits_Mul32_e (N : Nat) : Ent := { ins := [(.int .u32), (.int .u32)], outs := [.val (.int .u32), .val (.int .u32)], F := fun x => math_bits_Mul32 N x.1 x.2.1 }
def math_bits_Mul32_T (_ : Nat) : Nat → List EntX := fun _ => []
def math_bits_Mul32_L : Nat → List (Nat × TK) := fun _ => []
theorem math_bits_Mul32_eq (N : Nat) : runF N tt (math_bits_Mul32_T N) math_bits_Mul32_L [(.int .u32), (.int .u32)] [.val (.int .u32), .val (.int .u32)] (bodyOf Try.f97) Try.f97.ntmps [4, 5] = (math_bits_Mul32_e N).F := by
  funext x
  kernel_rfl
theorem math_bits_Mul32_sound (N : Nat) : SoundC Try.prog 97 (math_bits_Mul32_e N) := by
  have h := runF_sound (f := 97) (code := bodyOf Try.f97) (N := N) (T := (math_bits_Mul32_T N)) (L := math_bits_Mul32_L) (ins := [(.int .u32), (.int .u32)]) (outs := [.val (.int .u32), .val (.int .u32)]) (res := [4, 5]) mixed tt_ok ?_ Try.func97 (by kernel_rfl) rfl (by kernel_rfl) (by kernel_rfl) (by decide +kernel)
  · rw [math_bits_Mul32_eq] at h
    exact h
  · intro f e he
    cases he

/- math/bits.Mul64 -/
def math_bits_Mul64 (_N : Nat) (x0 : Int) (x1 : Int) : Option (Int × Int × Unit) :=
  some ((IntKind.wrap .u64 ((IntKind.wrap .u64 ((IntKind.wrap .u64 ((ishr .u64 x0 32) * (ishr .u64 x1 32))) + (ishr .u64 (IntKind.wrap .u64 ((IntKind.wrap .u64 ((ishr .u64 x0 32) * (ibits .and .u64 x1 4294967295))) + (ishr .u64 (IntKind.wrap .u64 ((ibits .and .u64 x0 4294967295) * (ibits .and .u64 x1 4294967295))) 32))) 32))) + (ishr .u64 (IntKind.wrap .u64 ((ibits .and .u64 (IntKind.wrap .u64 ((IntKind.wrap .u64 ((ishr .u64 x0 32) * (ibits .and .u64 x1 4294967295))) + (ishr .u64 (IntKind.wrap .u64 ((ibits .and .u64 x0 4294967295) * (ibits .and .u64 x1 4294967295))) 32))) 4294967295) + (IntKind.wrap .u64 ((ibits .and .u64 x0 4294967295) * (ishr .u64 x1 32))))) 32))), (IntKind.wrap .u64 (x0 * x1)), ())
def math_bits_Mul64_e (N : Nat) : Ent := { ins := [(.int .u64), (.int .u64)], outs := [.val (.int .u64), .val (.int .u64)], F := fun x => math_bits_Mul64 N x.1 x.2.1 }
def math_bits_Mul64_T (_ : Nat) : Nat → List EntX := fun _ => []
def math_bits_Mul64_L : Nat → List (Nat × TK) := fun _ => []
theorem math_bits_Mul64_eq (N : Nat) : runF N tt (math_bits_Mul64_T N) math_bits_Mul64_L [(.int .u64), (.int .u64)] [.val (.int .u64), .val (.int .u64)] (bodyOf Try.f98) Try.f98.ntmps [4, 5] = (math_bits_Mul64_e N).F := by
  funext x
  kernel_rfl
theorem math_bits_Mul64_sound (N : Nat) : SoundC Try.prog 98 (math_bits_Mul64_e N) := by
  have h := runF_sound (f := 98) (code := bodyOf Try.f98) (N := N) (T := (math_bits_Mul64_T N)) (L := math_bits_Mul64_L) (ins := [(.int .u64), (.int .u64)]) (outs := [.val (.int .u64), .val (.int .u64)]) (res := [4, 5]) mixed tt_ok ?_ Try.func98 (by kernel_rfl) rfl (by kernel_rfl) (by kernel_rfl) (by decide +kernel)
  · rw [math_bits_Mul64_eq] at h
    exact h
  · intro f e he
    cases he

/- math/bits.Mul -/
def math_bits_Mul (N : Nat) (x0 : Int) (x1 : Int) : Option (Int × Int × Unit) :=
  Option.bind (math_bits_Mul64 N x0 x1) fun r1 =>
  some (r1.1, r1.2.1, ())
def math_bits_Mul_e (N : Nat) : Ent := { ins := [(.int .u64), (.int .u64)], outs := [.val (.int .u64), .val (.int .u64)], F := fun x => math_bits_Mul N x.1 x.2.1 }
def math_bits_Mul_T (N : Nat) : Nat → List EntX
  | 98 => [.pl (math_bits_Mul64_e N)]
  | _ => []
def math_bits_Mul_L : Nat → List (Nat × TK) := fun _ => []
theorem math_bits_Mul_eq (N : Nat) : runF N tt (math_bits_Mul_T N) math_bits_Mul_L [(.int .u64), (.int .u64)] [.val (.int .u64), .val (.int .u64)] (bodyOf Try.f74) Try.f74.ntmps [4, 5] = (math_bits_Mul_e N).F := by
  funext x
  kernel_rfl
theorem math_bits_Mul_sound (N : Nat) : SoundC Try.prog 74 (math_bits_Mul_e N) := by
  have h := runF_sound (f := 74) (code := bodyOf Try.f74) (N := N) (T := (math_bits_Mul_T N)) (L := math_bits_Mul_L) (ins := [(.int .u64), (.int .u64)]) (outs := [.val (.int .u64), .val (.int .u64)]) (res := [4, 5]) mixed tt_ok ?_ Try.func74 (by kernel_rfl) rfl (by kernel_rfl) (by kernel_rfl) (by decide +kernel)
  · rw [math_bits_Mul_eq] at h
    exact h
  · intro f e he
    unfold math_bits_Mul_T at he
    split at he
    · rw [List.mem_singleton.1 he]; exact math_bits_Mul64_sound N
    · cases he

/- slices.Repeat[[]int64,int64] -/
def slices_Repeat_int64_int64 (N : Nat) (x0 : List Int) (x1 : Int) : Option (List (Int) × Unit) :=
  cond (decide (x1 < 0))
    (none)
    (Option.bind (math_bits_Mul N (IntKind.wrap .u64 (List.length x0 : Int)) (IntKind.wrap .u64 x1)) fun r1 =>
    cond (decide (r1.1 > 0))
      (none)
      (cond (decide (r1.2.1 > 9223372036854775807))
        (none)
        (cond (mkOk (IntKind.wrap .i64 r1.2.1) (IntKind.wrap .i64 r1.2.1))
          (let xs2 := (List.replicate (Int.toNat (IntKind.wrap .i64 r1.2.1)) (0 : Int) : List (Int))
          let xs3 := (copyL xs2 0 (copyN (List.length xs2) x0) x0)
          loopN (fun (s4 : List (Int) × Int × Unit) next5 =>
            cond (decide (s4.2.1 < (List.length s4.1 : Int)))
              (cond (decide (0 ≤ s4.2.1) && decide (s4.2.1 ≤ (List.length s4.1 : Int)) && decide ((List.length s4.1 : Int) ≤ (List.length s4.1 : Int)))
                (cond (decide (0 ≤ (0 : Int)) && decide ((0 : Int) ≤ s4.2.1) && decide (s4.2.1 ≤ (List.length s4.1 : Int)))
                  (let xs6 := (copyL s4.1 (Int.toNat s4.2.1) (copyN (Int.toNat (List.length s4.1 : Int) - Int.toNat s4.2.1) ((s4.1.drop (Int.toNat (0 : Int))).take (Int.toNat s4.2.1 - Int.toNat (0 : Int)))) ((s4.1.drop (Int.toNat (0 : Int))).take (Int.toNat s4.2.1 - Int.toNat (0 : Int))))
                  next5 (xs6, (w64 (s4.2.1 + ((copyN (Int.toNat (List.length s4.1 : Int) - Int.toNat s4.2.1) ((s4.1.drop (Int.toNat (0 : Int))).take (Int.toNat s4.2.1 - Int.toNat (0 : Int)))) : Int))), ())) none) none)
              (some (s4.1, ()))) N (xs3, ((copyN (List.length xs2) x0) : Int), ())) none)))
def slices_Repeat_int64_int64_e (N : Nat) : Ent := { ins := [(.sl (.int .i64)), (.int .i64)], outs := [.own (.int .i64)], F := fun x => slices_Repeat_int64_int64 N x.1 x.2.1 }
def slices_Repeat_int64_int64_T (N : Nat) : Nat → List EntX
  | 74 => [.pl (math_bits_Mul_e N)]
  | _ => []
def slices_Repeat_int64_int64_L : Nat → List (Nat × TK)
  | 8 => [(7, .own (.int .i64)), (8, .v (.int .i64))]
  | _ => []
theorem slices_Repeat_int64_int64_eq (N : Nat) : runF N tt (slices_Repeat_int64_int64_T N) slices_Repeat_int64_int64_L [(.sl (.int .i64)), (.int .i64)] [.own (.int .i64)] (bodyOf Try.f40) Try.f40.ntmps [4] = (slices_Repeat_int64_int64_e N).F := by
  funext x
  kernel_rfl
theorem slices_Repeat_int64_int64_sound (N : Nat) : SoundC Try.prog 40 (slices_Repeat_int64_int64_e N) := by
  have h := runF_sound (f := 40) (code := bodyOf Try.f40) (N := N) (T := (slices_Repeat_int64_int64_T N)) (L := slices_Repeat_int64_int64_L) (ins := [(.sl (.int .i64)), (.int .i64)]) (outs := [.own (.int .i64)]) (res := [4]) mixed tt_ok ?_ Try.func40 (by kernel_rfl) rfl (by kernel_rfl) (by kernel_rfl) (by decide +kernel)
  · rw [slices_Repeat_int64_int64_eq] at h
    exact h
  · intro f e he
    unfold slices_Repeat_int64_int64_T at he
    split at he
    · rw [List.mem_singleton.1 he]; exact math_bits_Mul_sound N
    · cases he

/- impl.none -/
def impl_none (N : Nat) (x0 : Int) : Option (List (Int) × Unit) :=
  Option.bind (slices_Repeat_int64_int64 N ([(-1)] : List Int) x0) fun r1 =>
  some (r1.1, ())
def impl_none_e (N : Nat) : Ent := { ins := [(.int .i64)], outs := [.own (.int .i64)], F := fun x => impl_none N x.1 }
def impl_none_T (N : Nat) : Nat → List EntX
  | 40 => [.pl (slices_Repeat_int64_int64_e N)]
  | _ => []
def impl_none_L : Nat → List (Nat × TK) := fun _ => []
theorem impl_none_eq (N : Nat) : runF N tt (impl_none_T N) impl_none_L [(.int .i64)] [.own (.int .i64)] (bodyOf Try.f87) Try.f87.ntmps [2] = (impl_none_e N).F := by
  funext x
  kernel_rfl
theorem impl_none_sound (N : Nat) : SoundC Try.prog 87 (impl_none_e N) := by
  have h := runF_sound (f := 87) (code := bodyOf Try.f87) (N := N) (T := (impl_none_T N)) (L := impl_none_L) (ins := [(.int .i64)]) (outs := [.own (.int .i64)]) (res := [2]) mixed tt_ok ?_ Try.func87 (by kernel_rfl) rfl (by kernel_rfl) (by kernel_rfl) (by decide +kernel)
  · rw [impl_none_eq] at h
    exact h
  · intro f e he
    unfold impl_none_T at he
    split at he
    · rw [List.mem_singleton.1 he]; exact slices_Repeat_int64_int64_sound N
    · cases he

/- (*impl.crewTimes).fit -/
def impl_crewTimes_fit (N : Nat) (x0 : List Int) (c0 : Int) (x1 : Int × Int × (List Int) × List Int) (x2 : Int) : Option ((List Int × Int) × (Int × Unit)) :=
  loopN (fun (s1 : (List Int × Int) × Int × Unit) next2 =>
    loopN (fun (s3 : (List Int × Int) × Unit) next4 =>
      cond (decide ((List.length s3.1.1 : Int) < (w64 (s1.2.1 + x1.1))))
        (cond (appOk (List.length s3.1.1) (List.length ([0] : List Int)))
          (let xs5 := (s3.1.1 ++ ([0] : List Int))
          next4 ((xs5, s3.1.2), ())) none)
        (loopN (fun (s6 : Int × Int × Unit) next7 =>
          cond (decide (s6.2.1 < (w64 (s1.2.1 + x1.1))))
            (cond (inB s6.2.1 (List.length s3.1.1))
              (Option.bind (s3.1.1[(Int.toNat s6.2.1)]?) fun v8 =>
              cond (decide ((w64 (v8 + x1.2.1)) > s3.1.2))
                (next7 (s6.2.1, (w64 (s6.2.1 + 1)), ()))
                (next7 (s6.1, (w64 (s6.2.1 + 1)), ()))) none)
            (cond (decide (s6.1 < 0))
              (loopN (fun (s9 : (List Int × Int) × Int × Unit) next10 =>
                cond (decide (s9.2.1 < (w64 (s1.2.1 + x1.1))))
                  (cond (inB s9.2.1 (List.length s9.1.1))
                    (Option.bind (s9.1.1[(Int.toNat s9.2.1)]?) fun v11 =>
                    cond (inB s9.2.1 (List.length s9.1.1))
                      (let xs12 := (List.set s9.1.1 (Int.toNat s9.2.1) (w64 (v11 + x1.2.1)))
                      next10 ((xs12, s9.1.2), (w64 (s9.2.1 + 1)), ())) none) none)
                  (some ((s9.1.1, s9.1.2), (s1.2.1, ())))) N ((s3.1.1, s3.1.2), s1.2.1, ()))
              (next2 ((s3.1.1, s3.1.2), (w64 (s6.1 + 1)), ())))) N ((-1), s1.2.1, ()))) N ((s1.1.1, s1.1.2), ())) N ((x0, c0), x2, ())
def impl_crewTimes_fit_e (N : Nat) : EntB := { pos := 0, ins := [(.pair (.int .i64) (.pair (.int .i64) (.pair (.sl (.int .i64)) (.sl (.int .i64))))), (.int .i64)], outs := [.val (.int .i64)], F := fun xs c x => impl_crewTimes_fit N xs c x.1 x.2.1 }
def impl_crewTimes_fit_T (_ : Nat) : Nat → List EntX := fun _ => []
def impl_crewTimes_fit_L : Nat → List (Nat × TK)
  | 1 => [(0, .bx)]
  | 5 => [(7, .v (.int .i64)), (8, .v (.int .i64))]
  | 12 => [(0, .bx), (9, .v (.int .i64))]
  | 100001 => [(0, .bx), (2, .v (.int .i64))]
  | _ => []
theorem impl_crewTimes_fit_eq (N : Nat) : runB N tt (impl_crewTimes_fit_T N) impl_crewTimes_fit_L 0 [(.pair (.int .i64) (.pair (.int .i64) (.pair (.sl (.int .i64)) (.sl (.int .i64))))), (.int .i64)] [.val (.int .i64)] (bodyOf Try.f88) Try.f88.ntmps [6] = (impl_crewTimes_fit_e N).F := by
  funext xs c x
  kernel_rfl
theorem impl_crewTimes_fit_sound (N : Nat) : SoundB Try.prog 88 (impl_crewTimes_fit_e N) := by
  have h := runB_sound (f := 88) (code := bodyOf Try.f88) (N := N) (T := (impl_crewTimes_fit_T N)) (L := impl_crewTimes_fit_L) (pos := 0) (ins := [(.pair (.int .i64) (.pair (.int .i64) (.pair (.sl (.int .i64)) (.sl (.int .i64))))), (.int .i64)]) (outs := [.val (.int .i64)]) (res := [6]) mixed tt_ok ?_ Try.func88 (by kernel_rfl) rfl (by kernel_rfl) (by kernel_rfl) (by decide +kernel) (by decide +kernel)
  · rw [impl_crewTimes_fit_eq] at h
    exact h
  · intro f e he
    cases he

/- impl.orderPlan -/
def impl_orderPlan (N : Nat) (x0 : List (Int × Int × (List Int) × List Int)) (x1 : List Int) (x2 : Int) : Option (List (Int) × Int × Bool × Unit) :=
  Option.bind (impl_none N (List.length x0 : Int)) fun r1 =>
  loopN (fun (s2 : List (Int) × (List Int × Int) × Int × Unit) next3 =>
    cond (decide (s2.2.2.1 < (List.length x1 : Int)))
      (Option.bind (idx x1 s2.2.2.1) fun v4 =>
      Option.bind (idx x0 v4) fun v5 =>
      loopN (fun (s6 : Int × Unit) next7 =>
        cond (decide (s6.1 < (List.length v5.2.2.1 : Int)))
          (Option.bind (idx v5.2.2.1 s6.1) fun v8 =>
          cond (inB v8 (List.length s2.1))
            (Option.bind (s2.1[(Int.toNat v8)]?) fun v9 =>
            cond (decide (v9 < 0))
              (some ([], 0, false, ()))
              (next7 ((w64 (s6.1 + 1)), ()))) none)
          (Option.bind (idx x0 v4) fun v10 =>
          Option.bind (impl_earliest N x0 s2.1 v4) fun r11 =>
          Option.bind (impl_crewTimes_fit N s2.2.1.1 s2.2.1.2 v10 r11.1) fun r12 =>
          cond (inB v4 (List.length s2.1))
            (let xs13 := (List.set s2.1 (Int.toNat v4) r12.2.1)
            next3 (xs13, (r12.1.1, r12.1.2), (w64 (s2.2.2.1 + 1)), ())) none)) N (0, ()))
      (Option.bind (impl_lastEnd N x0 s2.1) fun r14 =>
      some (s2.1, r14.1, true, ()))) N (r1.1, ([], x2), 0, ())
def impl_orderPlan_e (N : Nat) : Ent := { ins := [(.sl (.pair (.int .i64) (.pair (.int .i64) (.pair (.sl (.int .i64)) (.sl (.int .i64)))))), (.sl (.int .i64)), (.int .i64)], outs := [.own (.int .i64), .val (.int .i64), .val .bool], F := fun x => impl_orderPlan N x.1 x.2.1 x.2.2.1 }
def impl_orderPlan_T (N : Nat) : Nat → List EntX
  | 55 => [.pl (impl_lastEnd_e N)]
  | 79 => [.pl (impl_earliest_e N)]
  | 87 => [.pl (impl_none_e N)]
  | 88 => [.bm (impl_crewTimes_fit_e N)]
  | _ => []
def impl_orderPlan_L : Nat → List (Nat × TK)
  | 4 => [(9, .own (.int .i64)), (10, .bx), (22, .v (.int .i64))]
  | 7 => [(32, .v (.int .i64))]
  | _ => []
theorem impl_orderPlan_eq (N : Nat) : runF N tt (impl_orderPlan_T N) impl_orderPlan_L [(.sl (.pair (.int .i64) (.pair (.int .i64) (.pair (.sl (.int .i64)) (.sl (.int .i64)))))), (.sl (.int .i64)), (.int .i64)] [.own (.int .i64), .val (.int .i64), .val .bool] (bodyOf Try.f63) Try.f63.ntmps [6, 7, 8] = (impl_orderPlan_e N).F := by
  funext x
  kernel_rfl
theorem impl_orderPlan_sound (N : Nat) : SoundC Try.prog 63 (impl_orderPlan_e N) := by
  have h := runF_sound (f := 63) (code := bodyOf Try.f63) (N := N) (T := (impl_orderPlan_T N)) (L := impl_orderPlan_L) (ins := [(.sl (.pair (.int .i64) (.pair (.int .i64) (.pair (.sl (.int .i64)) (.sl (.int .i64)))))), (.sl (.int .i64)), (.int .i64)]) (outs := [.own (.int .i64), .val (.int .i64), .val .bool]) (res := [6, 7, 8]) mixed tt_ok ?_ Try.func63 (by kernel_rfl) rfl (by kernel_rfl) (by kernel_rfl) (by decide +kernel)
  · rw [impl_orderPlan_eq] at h
    exact h
  · intro f e he
    unfold impl_orderPlan_T at he
    split at he
    · rw [List.mem_singleton.1 he]; exact impl_lastEnd_sound N
    · rw [List.mem_singleton.1 he]; exact impl_earliest_sound N
    · rw [List.mem_singleton.1 he]; exact impl_none_sound N
    · rw [List.mem_singleton.1 he]; exact impl_crewTimes_fit_sound N
    · cases he

/- impl.BestPlan$1 -/
def impl_BestPlan_1_c0 (N : Nat) (x0 : List Int) (x1 : List (Int × Int × (List Int) × List Int)) (x2 : Int) : Option (Int × Bool × Unit) :=
  Option.bind (impl_orderPlan N x1 x0 x2) fun r1 =>
  some (r1.2.1, r1.2.2.1, ())
def impl_BestPlan_1_c0_e (N : Nat) : Ent := { ins := [(.sl (.int .i64)), (.bx (.sl (.pair (.int .i64) (.pair (.int .i64) (.pair (.sl (.int .i64)) (.sl (.int .i64))))))), (.bx (.int .i64))], outs := [.val (.int .i64), .val .bool], F := fun x => impl_BestPlan_1_c0 N x.1 x.2.1 x.2.2.1 }
def impl_BestPlan_1_c0_T (N : Nat) : Nat → List EntX
  | 63 => [.pl (impl_orderPlan_e N)]
  | _ => []
def impl_BestPlan_1_c0_L : Nat → List (Nat × TK) := fun _ => []
theorem impl_BestPlan_1_c0_eq (N : Nat) : runF N tt (impl_BestPlan_1_c0_T N) impl_BestPlan_1_c0_L [(.sl (.int .i64)), (.bx (.sl (.pair (.int .i64) (.pair (.int .i64) (.pair (.sl (.int .i64)) (.sl (.int .i64))))))), (.bx (.int .i64))] [.val (.int .i64), .val .bool] (bodyOf Try.f62) Try.f62.ntmps [4, 5] = (impl_BestPlan_1_c0_e N).F := by
  funext x
  kernel_rfl
theorem impl_BestPlan_1_c0_sound (N : Nat) : SoundC Try.prog 62 (impl_BestPlan_1_c0_e N) := by
  have h := runF_sound (f := 62) (code := bodyOf Try.f62) (N := N) (T := (impl_BestPlan_1_c0_T N)) (L := impl_BestPlan_1_c0_L) (ins := [(.sl (.int .i64)), (.bx (.sl (.pair (.int .i64) (.pair (.int .i64) (.pair (.sl (.int .i64)) (.sl (.int .i64))))))), (.bx (.int .i64))]) (outs := [.val (.int .i64), .val .bool]) (res := [4, 5]) mixed tt_ok ?_ Try.func62 (by kernel_rfl) rfl (by kernel_rfl) (by kernel_rfl) (by decide +kernel)
  · rw [impl_BestPlan_1_c0_eq] at h
    exact h
  · intro f e he
    unfold impl_BestPlan_1_c0_T at he
    split at he
    · rw [List.mem_singleton.1 he]; exact impl_orderPlan_sound N
    · cases he

/- slices.Clone[[]int64,int64] -/
def slices_Clone_int64_int64_ne (_N : Nat) (x0 : List Int) : Option (List (Int) × Unit) :=
  cond (List.isEmpty x0) none
    (cond (appOk (List.length ([] : List Int)) (List.length x0))
      (let xs1 := (([] : List Int) ++ x0)
      some (xs1, ())) none)
def slices_Clone_int64_int64_ne_e (N : Nat) : Ent := { ins := [(.sl (.int .i64))], outs := [.own (.int .i64)], F := fun x => slices_Clone_int64_int64_ne N x.1 }
def slices_Clone_int64_int64_ne_T (_ : Nat) : Nat → List EntX := fun _ => []
def slices_Clone_int64_int64_ne_L : Nat → List (Nat × TK) := fun _ => []
theorem slices_Clone_int64_int64_ne_eq (N : Nat) : runF N tt (slices_Clone_int64_int64_ne_T N) slices_Clone_int64_int64_ne_L [(.sl (.int .i64))] [.own (.int .i64)] (bodyOf Try.f29) Try.f29.ntmps [2] = (slices_Clone_int64_int64_ne_e N).F := by
  funext x
  kernel_rfl
theorem slices_Clone_int64_int64_ne_sound (N : Nat) : SoundC Try.prog 29 (slices_Clone_int64_int64_ne_e N) := by
  have h := runF_sound (f := 29) (code := bodyOf Try.f29) (N := N) (T := (slices_Clone_int64_int64_ne_T N)) (L := slices_Clone_int64_int64_ne_L) (ins := [(.sl (.int .i64))]) (outs := [.own (.int .i64)]) (res := [2]) mixed tt_ok ?_ Try.func29 (by kernel_rfl) rfl (by kernel_rfl) (by kernel_rfl) (by decide +kernel)
  · rw [slices_Clone_int64_int64_ne_eq] at h
    exact h
  · intro f e he
    cases he

/- slices.Clone[[]int64,int64] -/
def slices_Clone_int64_int64 (_N : Nat) (x0 : List Int) : Option (List Int × Unit) := cond (appOk 0 (List.length x0)) (some (x0, ())) none
def slices_Clone_int64_int64_e (N : Nat) : Ent := { ins := [(.sl (.int .i64))], outs := [.own (.int .i64)], F := fun x => slices_Clone_int64_int64 N x.1 }
theorem slices_Clone_int64_int64_sound (N : Nat) : SoundC Try.prog 29 (slices_Clone_int64_int64_e N) := clone_sound (slices_Clone_int64_int64_ne_sound N) fun x h1 h2 => by
  show slices_Clone_int64_int64_ne N x.1 = _
  unfold slices_Clone_int64_int64_ne
  simp only [isEmpty_no h1, cond_false]
  exact congrArg (fun b => cond b _ _) h2

/- impl.firstLeast -/
def impl_firstLeast_impl_BestPlan_1 (N : Nat) (x0 : Int) (x1 : (List (Int × Int × (List Int) × List Int)) × Int) : Option (List (Int) × Int × Bool × Unit) :=
  leastF (fun o => impl_BestPlan_1_c0 N o x1.1 x1.2) x0
def impl_firstLeast_impl_BestPlan_1_e (N : Nat) : Ent := { ins := [(.int .i64), (.clo 62 (.pair (.bx (.sl (.pair (.int .i64) (.pair (.int .i64) (.pair (.sl (.int .i64)) (.sl (.int .i64))))))) (.bx (.int .i64))))], outs := [.own (.int .i64), .val (.int .i64), .val .bool], F := fun x => impl_firstLeast_impl_BestPlan_1 N x.1 x.2.1 }
theorem impl_firstLeast_impl_BestPlan_1_sound (N : Nat) : SoundC Try.prog 61 (impl_firstLeast_impl_BestPlan_1_e N) := least_sound2 (slices_Clone_int64_int64_sound N) (impl_BestPlan_1_c0_sound N)

/- impl.BestPlan -/
def impl_BestPlan (N : Nat) (x0 : List (Int × Int × (List Int) × List Int)) (x1 : Int) : Option (List (Int) × Int × Bool × Unit) :=
  Option.bind (impl_fitsCrew N x0 x1) fun r1 =>
  cond (!r1.1)
    (some ([], 0, false, ()))
    (cond (decide ((List.length x0 : Int) > 7))
      (some ([], 0, false, ()))
      (Option.bind (impl_firstLeast_impl_BestPlan_1 N (List.length x0 : Int) (x0, x1)) fun r2 =>
      cond (!r2.2.2.1)
        (some ([], 0, false, ()))
        (Option.bind (impl_orderPlan N x0 r2.1 x1) fun r3 =>
        some (r3.1, r3.2.1, r3.2.2.1, ()))))
def impl_BestPlan_e (N : Nat) : Ent := { ins := [(.sl (.pair (.int .i64) (.pair (.int .i64) (.pair (.sl (.int .i64)) (.sl (.int .i64)))))), (.int .i64)], outs := [.own (.int .i64), .val (.int .i64), .val .bool], F := fun x => impl_BestPlan N x.1 x.2.1 }
def impl_BestPlan_T (N : Nat) : Nat → List EntX
  | 60 => [.pl (impl_fitsCrew_e N)]
  | 61 => [.pl (impl_firstLeast_impl_BestPlan_1_e N)]
  | 63 => [.pl (impl_orderPlan_e N)]
  | _ => []
def impl_BestPlan_L : Nat → List (Nat × TK) := fun _ => []
theorem impl_BestPlan_eq (N : Nat) : runF N tt (impl_BestPlan_T N) impl_BestPlan_L [(.sl (.pair (.int .i64) (.pair (.int .i64) (.pair (.sl (.int .i64)) (.sl (.int .i64)))))), (.int .i64)] [.own (.int .i64), .val (.int .i64), .val .bool] (bodyOf Try.f22) Try.f22.ntmps [4, 5, 6] = (impl_BestPlan_e N).F := by
  funext x
  kernel_rfl
theorem impl_BestPlan_sound (N : Nat) : SoundC Try.prog 22 (impl_BestPlan_e N) := by
  have h := runF_sound (f := 22) (code := bodyOf Try.f22) (N := N) (T := (impl_BestPlan_T N)) (L := impl_BestPlan_L) (ins := [(.sl (.pair (.int .i64) (.pair (.int .i64) (.pair (.sl (.int .i64)) (.sl (.int .i64)))))), (.int .i64)]) (outs := [.own (.int .i64), .val (.int .i64), .val .bool]) (res := [4, 5, 6]) mixed tt_ok ?_ Try.func22 (by kernel_rfl) rfl (by kernel_rfl) (by kernel_rfl) (by decide +kernel)
  · rw [impl_BestPlan_eq] at h
    exact h
  · intro f e he
    unfold impl_BestPlan_T at he
    split at he
    · rw [List.mem_singleton.1 he]; exact impl_fitsCrew_sound N
    · rw [List.mem_singleton.1 he]; exact impl_firstLeast_impl_BestPlan_1_sound N
    · rw [List.mem_singleton.1 he]; exact impl_orderPlan_sound N
    · cases he

/- laws.FnExactBestPlan -/
def laws_FnExactBestPlan (N : Nat) (x0 : List (Int × Int × (List Int) × List Int)) (x1 : Int) : Option (Bool × Unit) :=
  Option.bind (laws_szTaskS N x0 1048576) fun r1 =>
  cond (decide (r1.1 < 0))
    (some (true, ()))
    (Option.bind (laws_toTaskS N x0) fun r2 =>
    Option.bind (spec_BestPlan N r2.1 x1) fun r3 =>
    Option.bind (laws_toTaskS N x0) fun r4 =>
    Option.bind (impl_BestPlan N r4.1 x1) fun r5 =>
    Option.bind (laws_eqInt64S N r5.1 r3.1) fun r6 =>
    cond (!r6.1)
      (some (false, ()))
      (cond (r5.2.1 != r3.2.1)
        (some (false, ()))
        (cond (!(r5.2.2.1 == r3.2.2.1))
          (some (false, ()))
          (Option.bind (laws_toTaskS N x0) fun r7 =>
          Option.bind (laws_eqTaskS N r4.1 r7.1) fun r8 =>
          cond (!r8.1)
            (some (false, ()))
            (Option.bind (laws_markTaskS_d r4.1 1) fun r9 =>
            cond (decide (r9 < 0))
              (some (false, ()))
              (Option.bind (laws_eqInt64S N r5.1 r3.1) fun r10 =>
              cond (!r10.1)
                (some (false, ()))
                (cond (r5.2.1 != r3.2.1)
                  (some (false, ()))
                  (cond (!(r5.2.2.1 == r3.2.2.1))
                    (some (false, ()))
                    (Option.bind (laws_markInt64S N r5.1 1) fun r11 =>
                    cond (Nat.beq (List.length r11.1) (List.length r5.1))
                      (Option.bind (laws_heldInt64S N r11.1 1) fun r12 =>
                      cond (decide (r12.1 < 0))
                        (some (false, ()))
                        (cond (r12.1 != r11.2.1)
                          (some (false, ()))
                          (Option.bind (laws_toTaskS N x0) fun r13 =>
                          Option.bind (impl_BestPlan N r13.1 x1) fun r14 =>
                          Option.bind (laws_eqInt64S N r14.1 r3.1) fun r15 =>
                          cond (!r15.1)
                            (some (false, ()))
                            (cond (r14.2.1 != r3.2.1)
                              (some (false, ()))
                              (cond (!(r14.2.2.1 == r3.2.2.1))
                                (some (false, ()))
                                (Option.bind (laws_heldInt64S N r11.1 1) fun r16 =>
                                cond (decide (r16.1 < 0))
                                  (some (false, ()))
                                  (cond (r16.1 != r11.2.1)
                                    (some (false, ()))
                                    (some (true, ()))))))))) none)))))))))
def laws_FnExactBestPlan_e (N : Nat) : Ent := { ins := [(.sl (.pair (.int .i64) (.pair (.int .i64) (.pair (.sl (.int .i64)) (.sl (.int .i64)))))), (.int .i64)], outs := [.val .bool], F := fun x => laws_FnExactBestPlan N x.1 x.2.1 }
def laws_FnExactBestPlan_T (N : Nat) : Nat → List EntX
  | 10 => [.pl (laws_eqInt64S_e N)]
  | 11 => [.mu (laws_markInt64S_e N)]
  | 12 => [.pl (laws_heldInt64S_e N)]
  | 15 => [.pl (laws_szTaskS_e N)]
  | 17 => [.pl (laws_toTaskS_e N)]
  | 19 => [.pl (laws_eqTaskS_e N)]
  | 20 => [.dp (laws_markTaskS_d_e N)]
  | 21 => [.pl (spec_BestPlan_e N)]
  | 22 => [.pl (impl_BestPlan_e N)]
  | _ => []
def laws_FnExactBestPlan_L : Nat → List (Nat × TK) := fun _ => []
theorem laws_FnExactBestPlan_eq (N : Nat) : runL N tt (laws_FnExactBestPlan_T N) laws_FnExactBestPlan_L [(.sl (.pair (.int .i64) (.pair (.int .i64) (.pair (.sl (.int .i64)) (.sl (.int .i64)))))), (.int .i64)] [.val .bool] (bodyOf Try.f6) Try.f6.ntmps [4] = (laws_FnExactBestPlan_e N).F := by
  funext x
  kernel_rfl
theorem laws_FnExactBestPlan_sound (N : Nat) : SoundC Try.prog 6 (laws_FnExactBestPlan_e N) := by
  have h := runL_sound (f := 6) (code := bodyOf Try.f6) (N := N) (T := (laws_FnExactBestPlan_T N)) (L := laws_FnExactBestPlan_L) (ins := [(.sl (.pair (.int .i64) (.pair (.int .i64) (.pair (.sl (.int .i64)) (.sl (.int .i64)))))), (.int .i64)]) (outs := [.val .bool]) (res := [4]) mixed tt_ok ?_ Try.func6 (by kernel_rfl) rfl (by kernel_rfl) (by kernel_rfl) (by decide +kernel)
  · rw [laws_FnExactBestPlan_eq] at h
    exact h
  · intro f e he
    unfold laws_FnExactBestPlan_T at he
    split at he
    · rw [List.mem_singleton.1 he]; exact laws_eqInt64S_sound N
    · rw [List.mem_singleton.1 he]; exact laws_markInt64S_sound N
    · rw [List.mem_singleton.1 he]; exact laws_heldInt64S_sound N
    · rw [List.mem_singleton.1 he]; exact laws_szTaskS_sound N
    · rw [List.mem_singleton.1 he]; exact laws_toTaskS_sound N
    · rw [List.mem_singleton.1 he]; exact laws_eqTaskS_sound N
    · rw [List.mem_singleton.1 he]; exact laws_markTaskS_d_sound N
    · rw [List.mem_singleton.1 he]; exact spec_BestPlan_sound N
    · rw [List.mem_singleton.1 he]; exact impl_BestPlan_sound N
    · cases he

end Go.Proofs.Ytnnfapnpijjbdaa
