/-
  The plain functions of this seat, printed by a program, each equal to the evaluator's run, with its contract. No condition.
-/
import Derived.Test.YtblmginpolckoaaFwV
import Derived.Test.YtblmginpolckoaaChecked
import Derived.Test.YtblmginpolckoaaSqrt
namespace Go.Proofs.Ytblmginpolckoaa
open Go Go.Proofs.Ytblmginpolckoaa.Fw
set_option maxRecDepth 100000
set_option linter.unusedVariables false

theorem mixed : Try.prog.follows .mixedOrders = true := Try.checked.mixed
def tt : Nat → TD
  | 2 => tdInt .i64
  | 3 => tdInt .i64
  | 4 => tdBool
  | 42 => tdSl (.flt .f32) 4
  | 43 => tdFlt .f32
  | 48 => tdFlt .f64
  | _ => tdNone
theorem tt_2 : TDok Try.prog 2 (tdInt .i64) := tdok_int (b := 8) (by kernel_rfl) (by kernel_rfl)
theorem tt_3 : TDok Try.prog 3 (tdInt .i64) := tdok_int (b := 8) (by kernel_rfl) (by kernel_rfl)
theorem tt_4 : TDok Try.prog 4 (tdBool) := tdok_bool (b := 1) (by kernel_rfl) (by kernel_rfl)
theorem tt_42 : TDok Try.prog 42 (tdSl (.flt .f32) 4) := tdok_sl (b := 24) (e := 43) (z := (.float .f32 0)) (by kernel_rfl) (by kernel_rfl) (by kernel_rfl) (by decide) (fun _ => by kernel_rfl)
theorem tt_43 : TDok Try.prog 43 (tdFlt .f32) := tdok_flt (b := 4) (by kernel_rfl) (by kernel_rfl)
theorem tt_48 : TDok Try.prog 48 (tdFlt .f64) := tdok_flt (b := 8) (by kernel_rfl) (by kernel_rfl)
theorem tt_ok (t : Nat) : TDok Try.prog t (tt t) := by
  unfold tt
  split
  · exact tt_2
  · exact tt_3
  · exact tt_4
  · exact tt_42
  · exact tt_43
  · exact tt_48
  · exact tdok_none

/- spec.l01Finite -/
def spec_l01Finite (_N : Nat) (x0 : Option Nat) : Option (Bool × Unit) :=
  some ((fcmp .eql .f32 (farith .sub .f32 x0 x0) (toF .f32 0)), ())
def spec_l01Finite_e (N : Nat) : Ent := { ins := [(.flt .f32)], outs := [.val .bool], F := fun x => spec_l01Finite N x.1 }
def spec_l01Finite_T (_ : Nat) : Nat → List EntX := fun _ => []
def spec_l01Finite_L : Nat → List (Nat × TK) := fun _ => []
theorem spec_l01Finite_eq (N : Nat) : runF N tt (spec_l01Finite_T N) spec_l01Finite_L [(.flt .f32)] [.val .bool] (bodyOf Try.f90) Try.f90.ntmps [2] = (spec_l01Finite_e N).F := by
  funext x
  kernel_rfl
theorem spec_l01Finite_sound (N : Nat) : SoundC Try.prog 90 (spec_l01Finite_e N) := by
  have h := runF_sound (f := 90) (code := bodyOf Try.f90) (N := N) (T := (spec_l01Finite_T N)) (L := spec_l01Finite_L) (ins := [(.flt .f32)]) (outs := [.val .bool]) (res := [2]) mixed tt_ok ?_ Try.func90 (by kernel_rfl) rfl (by kernel_rfl) (by kernel_rfl) (by decide +kernel)
  · rw [spec_l01Finite_eq] at h
    exact h
  · intro f e he
    cases he

/- spec.l03Sum -/
def spec_l03Sum (N : Nat) (x0 : List (Option Nat)) (x1 : Bool) : Option (Option Nat × Bool × Unit) :=
  loopN (fun (s1 : Option Nat × Int × Unit) next2 =>
    cond (decide (s1.2.1 < (List.length x0 : Int)))
      (Option.bind (idx x0 s1.2.1) fun v3 =>
      Option.bind (spec_l01Finite N v3) fun r4 =>
      cond (!r4.1)
        (some ((toF .f32 0), false, ()))
        (cond x1
          (Option.bind (idx x0 s1.2.1) fun v5 =>
          cond (fcmp .lss .f32 v5 (toF .f32 0))
            (some ((toF .f32 0), false, ()))
            (Option.bind (idx x0 s1.2.1) fun v6 =>
            next2 ((farith .add .f32 s1.1 v6), (w64 (s1.2.1 + 1)), ())))
          (Option.bind (idx x0 s1.2.1) fun v7 =>
          next2 ((farith .add .f32 s1.1 v7), (w64 (s1.2.1 + 1)), ()))))
      (cond (decide ((List.length x0 : Int) ≥ 1))
        (some (s1.1, (decide ((List.length x0 : Int) ≤ 16)), ()))
        (some (s1.1, false, ())))) N ((toF .f32 0), 0, ())
def spec_l03Sum_e (N : Nat) : Ent := { ins := [(.sl (.flt .f32)), .bool], outs := [.val (.flt .f32), .val .bool], F := fun x => spec_l03Sum N x.1 x.2.1 }
def spec_l03Sum_T (N : Nat) : Nat → List EntX
  | 90 => [.pl (spec_l01Finite_e N)]
  | _ => []
def spec_l03Sum_L : Nat → List (Nat × TK)
  | 3 => [(6, .v (.flt .f32)), (10, .v (.int .i64))]
  | _ => []
theorem spec_l03Sum_eq (N : Nat) : runF N tt (spec_l03Sum_T N) spec_l03Sum_L [(.sl (.flt .f32)), .bool] [.val (.flt .f32), .val .bool] (bodyOf Try.f89) Try.f89.ntmps [4, 5] = (spec_l03Sum_e N).F := by
  funext x
  kernel_rfl
theorem spec_l03Sum_sound (N : Nat) : SoundC Try.prog 89 (spec_l03Sum_e N) := by
  have h := runF_sound (f := 89) (code := bodyOf Try.f89) (N := N) (T := (spec_l03Sum_T N)) (L := spec_l03Sum_L) (ins := [(.sl (.flt .f32)), .bool]) (outs := [.val (.flt .f32), .val .bool]) (res := [4, 5]) mixed tt_ok ?_ Try.func89 (by kernel_rfl) rfl (by kernel_rfl) (by kernel_rfl) (by decide +kernel)
  · rw [spec_l03Sum_eq] at h
    exact h
  · intro f e he
    unfold spec_l03Sum_T at he
    split at he
    · rw [List.mem_singleton.1 he]; exact spec_l01Finite_sound N
    · cases he

/- spec.l02Number -/
def spec_l02Number (N : Nat) (x0 : Option Nat) : Option (Option Nat × Bool × Unit) :=
  Option.bind (spec_l01Finite N x0) fun r1 =>
  cond (!r1.1)
    (some ((toF .f32 0), false, ()))
    (some (x0, true, ()))
def spec_l02Number_e (N : Nat) : Ent := { ins := [(.flt .f32)], outs := [.val (.flt .f32), .val .bool], F := fun x => spec_l02Number N x.1 }
def spec_l02Number_T (N : Nat) : Nat → List EntX
  | 90 => [.pl (spec_l01Finite_e N)]
  | _ => []
def spec_l02Number_L : Nat → List (Nat × TK) := fun _ => []
theorem spec_l02Number_eq (N : Nat) : runF N tt (spec_l02Number_T N) spec_l02Number_L [(.flt .f32)] [.val (.flt .f32), .val .bool] (bodyOf Try.f91) Try.f91.ntmps [2, 3] = (spec_l02Number_e N).F := by
  funext x
  kernel_rfl
theorem spec_l02Number_sound (N : Nat) : SoundC Try.prog 91 (spec_l02Number_e N) := by
  have h := runF_sound (f := 91) (code := bodyOf Try.f91) (N := N) (T := (spec_l02Number_T N)) (L := spec_l02Number_L) (ins := [(.flt .f32)]) (outs := [.val (.flt .f32), .val .bool]) (res := [2, 3]) mixed tt_ok ?_ Try.func91 (by kernel_rfl) rfl (by kernel_rfl) (by kernel_rfl) (by decide +kernel)
  · rw [spec_l02Number_eq] at h
    exact h
  · intro f e he
    unfold spec_l02Number_T at he
    split at he
    · rw [List.mem_singleton.1 he]; exact spec_l01Finite_sound N
    · cases he

/- spec.l01Narrow -/
def spec_l01Narrow (_N : Nat) (x0 : Option Nat) : Option (Option Nat × Unit) :=
  fconvB .f64 x0 .f32 fun v1 =>
  some (v1, ())
def spec_l01Narrow_e (N : Nat) : Ent := { ins := [(.flt .f64)], outs := [.val (.flt .f32)], F := fun x => spec_l01Narrow N x.1 }
def spec_l01Narrow_T (_ : Nat) : Nat → List EntX := fun _ => []
def spec_l01Narrow_L : Nat → List (Nat × TK) := fun _ => []
theorem spec_l01Narrow_eq (N : Nat) : runF N tt (spec_l01Narrow_T N) spec_l01Narrow_L [(.flt .f64)] [.val (.flt .f32)] (bodyOf Try.f125) Try.f125.ntmps [2] = (spec_l01Narrow_e N).F := by
  funext x
  kernel_rfl
theorem spec_l01Narrow_sound (N : Nat) : SoundC Try.prog 125 (spec_l01Narrow_e N) := by
  have h := runF_sound (f := 125) (code := bodyOf Try.f125) (N := N) (T := (spec_l01Narrow_T N)) (L := spec_l01Narrow_L) (ins := [(.flt .f64)]) (outs := [.val (.flt .f32)]) (res := [2]) mixed tt_ok ?_ Try.func125 (by kernel_rfl) rfl (by kernel_rfl) (by kernel_rfl) (by decide +kernel)
  · rw [spec_l01Narrow_eq] at h
    exact h
  · intro f e he
    cases he

/- math.Sqrt -/
def math_Sqrt (_N : Nat) (x0 : Option Nat) : Option (Option Nat × Unit) :=
  some (fsqrtT x0, ())
def math_Sqrt_e (N : Nat) : Ent := { ins := [(.flt .f64)], outs := [.val (.flt .f64)], F := fun x => math_Sqrt N x.1 }
theorem math_Sqrt_sound (N : Nat) : SoundC Try.prog 126 (math_Sqrt_e N) := sqrt_sound

/- spec.l01Sqrt -/
def spec_l01Sqrt (N : Nat) (x0 : Option Nat) : Option (Option Nat × Unit) :=
  fconvB .f32 x0 .f64 fun v1 =>
  Option.bind (math_Sqrt N v1) fun r2 =>
  Option.bind (spec_l01Narrow N r2.1) fun r3 =>
  some (r3.1, ())
def spec_l01Sqrt_e (N : Nat) : Ent := { ins := [(.flt .f32)], outs := [.val (.flt .f32)], F := fun x => spec_l01Sqrt N x.1 }
def spec_l01Sqrt_T (N : Nat) : Nat → List EntX
  | 125 => [.pl (spec_l01Narrow_e N)]
  | 126 => [.pl (math_Sqrt_e N)]
  | _ => []
def spec_l01Sqrt_L : Nat → List (Nat × TK) := fun _ => []
theorem spec_l01Sqrt_eq (N : Nat) : runF N tt (spec_l01Sqrt_T N) spec_l01Sqrt_L [(.flt .f32)] [.val (.flt .f32)] (bodyOf Try.f92) Try.f92.ntmps [2] = (spec_l01Sqrt_e N).F := by
  funext x
  kernel_rfl
theorem spec_l01Sqrt_sound (N : Nat) : SoundC Try.prog 92 (spec_l01Sqrt_e N) := by
  have h := runF_sound (f := 92) (code := bodyOf Try.f92) (N := N) (T := (spec_l01Sqrt_T N)) (L := spec_l01Sqrt_L) (ins := [(.flt .f32)]) (outs := [.val (.flt .f32)]) (res := [2]) mixed tt_ok ?_ Try.func92 (by kernel_rfl) rfl (by kernel_rfl) (by kernel_rfl) (by decide +kernel)
  · rw [spec_l01Sqrt_eq] at h
    exact h
  · intro f e he
    unfold spec_l01Sqrt_T at he
    split at he
    · rw [List.mem_singleton.1 he]; exact spec_l01Narrow_sound N
    · rw [List.mem_singleton.1 he]; exact math_Sqrt_sound N
    · cases he

/- spec.BufferOf -/
def spec_BufferOf (N : Nat) (x0 : List (Option Nat)) (x1 : Option Nat) : Option (Option Nat × Bool × Unit) :=
  Option.bind (spec_l03Sum N x0 true) fun r1 =>
  cond (!r1.2.1)
    (some ((toF .f32 0), false, ()))
    (Option.bind (spec_l01Finite N x1) fun r2 =>
    cond (!r2.1)
      (some ((toF .f32 0), false, ()))
      (Option.bind (spec_l01Sqrt N r1.1) fun r3 =>
      Option.bind (spec_l02Number N (farith .mul .f32 x1 r3.1)) fun r4 =>
      some (r4.1, r4.2.1, ())))
def spec_BufferOf_e (N : Nat) : Ent := { ins := [(.sl (.flt .f32)), (.flt .f32)], outs := [.val (.flt .f32), .val .bool], F := fun x => spec_BufferOf N x.1 x.2.1 }
def spec_BufferOf_T (N : Nat) : Nat → List EntX
  | 89 => [.pl (spec_l03Sum_e N)]
  | 90 => [.pl (spec_l01Finite_e N)]
  | 91 => [.pl (spec_l02Number_e N)]
  | 92 => [.pl (spec_l01Sqrt_e N)]
  | _ => []
def spec_BufferOf_L : Nat → List (Nat × TK) := fun _ => []
theorem spec_BufferOf_eq (N : Nat) : runF N tt (spec_BufferOf_T N) spec_BufferOf_L [(.sl (.flt .f32)), (.flt .f32)] [.val (.flt .f32), .val .bool] (bodyOf Try.f37) Try.f37.ntmps [4, 5] = (spec_BufferOf_e N).F := by
  funext x
  kernel_rfl
theorem spec_BufferOf_sound (N : Nat) : SoundC Try.prog 37 (spec_BufferOf_e N) := by
  have h := runF_sound (f := 37) (code := bodyOf Try.f37) (N := N) (T := (spec_BufferOf_T N)) (L := spec_BufferOf_L) (ins := [(.sl (.flt .f32)), (.flt .f32)]) (outs := [.val (.flt .f32), .val .bool]) (res := [4, 5]) mixed tt_ok ?_ Try.func37 (by kernel_rfl) rfl (by kernel_rfl) (by kernel_rfl) (by decide +kernel)
  · rw [spec_BufferOf_eq] at h
    exact h
  · intro f e he
    unfold spec_BufferOf_T at he
    split at he
    · rw [List.mem_singleton.1 he]; exact spec_l03Sum_sound N
    · rw [List.mem_singleton.1 he]; exact spec_l01Finite_sound N
    · rw [List.mem_singleton.1 he]; exact spec_l02Number_sound N
    · rw [List.mem_singleton.1 he]; exact spec_l01Sqrt_sound N
    · cases he

/- laws.toFloat32S -/
def laws_toFloat32S (N : Nat) (x0 : List (Option Nat)) : Option (List (Option Nat) × Unit) :=
  cond (mkOk (List.length x0 : Int) (List.length x0 : Int))
    (let xs1 := (List.replicate (Int.toNat (List.length x0 : Int)) (some 0 : Option Nat) : List (Option Nat))
    loopN (fun (s2 : List (Option Nat) × Int × Unit) next3 =>
      cond (decide (s2.2.1 < (List.length x0 : Int)))
        (Option.bind (idx x0 s2.2.1) fun v4 =>
        cond (inB s2.2.1 (List.length s2.1))
          (let xs5 := (List.set s2.1 (Int.toNat s2.2.1) v4)
          next3 (xs5, (w64 (s2.2.1 + 1)), ())) none)
        (some (s2.1, ()))) N (xs1, 0, ())) none
def laws_toFloat32S_e (N : Nat) : Ent := { ins := [(.sl (.flt .f32))], outs := [.own (.flt .f32)], F := fun x => laws_toFloat32S N x.1 }
def laws_toFloat32S_T (_ : Nat) : Nat → List EntX := fun _ => []
def laws_toFloat32S_L : Nat → List (Nat × TK)
  | 3 => [(3, .own (.flt .f32)), (4, .v (.int .i64))]
  | _ => []
theorem laws_toFloat32S_eq (N : Nat) : runF N tt (laws_toFloat32S_T N) laws_toFloat32S_L [(.sl (.flt .f32))] [.own (.flt .f32)] (bodyOf Try.f38) Try.f38.ntmps [2] = (laws_toFloat32S_e N).F := by
  funext x
  kernel_rfl
theorem laws_toFloat32S_sound (N : Nat) : SoundC Try.prog 38 (laws_toFloat32S_e N) := by
  have h := runF_sound (f := 38) (code := bodyOf Try.f38) (N := N) (T := (laws_toFloat32S_T N)) (L := laws_toFloat32S_L) (ins := [(.sl (.flt .f32))]) (outs := [.own (.flt .f32)]) (res := [2]) mixed tt_ok ?_ Try.func38 (by kernel_rfl) rfl (by kernel_rfl) (by kernel_rfl) (by decide +kernel)
  · rw [laws_toFloat32S_eq] at h
    exact h
  · intro f e he
    cases he

/- impl.IsFinite -/
def impl_IsFinite (_N : Nat) (x0 : Option Nat) : Option (Bool × Unit) :=
  some ((fcmp .eql .f32 (farith .sub .f32 x0 x0) (toF .f32 0)), ())
def impl_IsFinite_e (N : Nat) : Ent := { ins := [(.flt .f32)], outs := [.val .bool], F := fun x => impl_IsFinite N x.1 }
def impl_IsFinite_T (_ : Nat) : Nat → List EntX := fun _ => []
def impl_IsFinite_L : Nat → List (Nat × TK) := fun _ => []
theorem impl_IsFinite_eq (N : Nat) : runF N tt (impl_IsFinite_T N) impl_IsFinite_L [(.flt .f32)] [.val .bool] (bodyOf Try.f94) Try.f94.ntmps [2] = (impl_IsFinite_e N).F := by
  funext x
  kernel_rfl
theorem impl_IsFinite_sound (N : Nat) : SoundC Try.prog 94 (impl_IsFinite_e N) := by
  have h := runF_sound (f := 94) (code := bodyOf Try.f94) (N := N) (T := (impl_IsFinite_T N)) (L := impl_IsFinite_L) (ins := [(.flt .f32)]) (outs := [.val .bool]) (res := [2]) mixed tt_ok ?_ Try.func94 (by kernel_rfl) rfl (by kernel_rfl) (by kernel_rfl) (by decide +kernel)
  · rw [impl_IsFinite_eq] at h
    exact h
  · intro f e he
    cases he

/- impl.areFinite$1 -/
def impl_areFinite_1 (N : Nat) (x0 : Option Nat) : Option (Bool × Unit) :=
  Option.bind (impl_IsFinite N x0) fun r1 =>
  some ((!r1.1), ())
def impl_areFinite_1_e (N : Nat) : Ent := { ins := [(.flt .f32)], outs := [.val .bool], F := fun x => impl_areFinite_1 N x.1 }
def impl_areFinite_1_T (N : Nat) : Nat → List EntX
  | 94 => [.pl (impl_IsFinite_e N)]
  | _ => []
def impl_areFinite_1_L : Nat → List (Nat × TK) := fun _ => []
theorem impl_areFinite_1_eq (N : Nat) : runF N tt (impl_areFinite_1_T N) impl_areFinite_1_L [(.flt .f32)] [.val .bool] (bodyOf Try.f129) Try.f129.ntmps [2] = (impl_areFinite_1_e N).F := by
  funext x
  kernel_rfl
theorem impl_areFinite_1_sound (N : Nat) : SoundC Try.prog 129 (impl_areFinite_1_e N) := by
  have h := runF_sound (f := 129) (code := bodyOf Try.f129) (N := N) (T := (impl_areFinite_1_T N)) (L := impl_areFinite_1_L) (ins := [(.flt .f32)]) (outs := [.val .bool]) (res := [2]) mixed tt_ok ?_ Try.func129 (by kernel_rfl) rfl (by kernel_rfl) (by kernel_rfl) (by decide +kernel)
  · rw [impl_areFinite_1_eq] at h
    exact h
  · intro f e he
    unfold impl_areFinite_1_T at he
    split at he
    · rw [List.mem_singleton.1 he]; exact impl_IsFinite_sound N
    · cases he

/- slices.IndexFunc[[]float32,float32] -/
def slices_IndexFunc_float32_float32_impl_areFinite_1 (N : Nat) (x0 : List (Option Nat)) (x1 : Unit) : Option (Int × Unit) :=
  loopN (fun (s1 : Int × Unit) next2 =>
    cond (decide (s1.1 < (List.length x0 : Int)))
      (Option.bind (idx x0 s1.1) fun v3 =>
      Option.bind (impl_areFinite_1 N v3) fun r4 =>
      cond r4.1
        (some (s1.1, ()))
        (next2 ((w64 (s1.1 + 1)), ())))
      (some ((-1), ()))) N (0, ())
def slices_IndexFunc_float32_float32_impl_areFinite_1_e (N : Nat) : Ent := { ins := [(.sl (.flt .f32)), (.clo 129 .un)], outs := [.val (.int .i64)], F := fun x => slices_IndexFunc_float32_float32_impl_areFinite_1 N x.1 x.2.1 }
def slices_IndexFunc_float32_float32_impl_areFinite_1_T (N : Nat) : Nat → List EntX
  | 129 => [.pl (impl_areFinite_1_e N)]
  | _ => []
def slices_IndexFunc_float32_float32_impl_areFinite_1_L : Nat → List (Nat × TK)
  | 2 => [(8, .v (.int .i64))]
  | _ => []
theorem slices_IndexFunc_float32_float32_impl_areFinite_1_eq (N : Nat) : runF N tt (slices_IndexFunc_float32_float32_impl_areFinite_1_T N) slices_IndexFunc_float32_float32_impl_areFinite_1_L [(.sl (.flt .f32)), (.clo 129 .un)] [.val (.int .i64)] (bodyOf Try.f138) Try.f138.ntmps [4] = (slices_IndexFunc_float32_float32_impl_areFinite_1_e N).F := by
  funext x
  kernel_rfl
theorem slices_IndexFunc_float32_float32_impl_areFinite_1_sound (N : Nat) : SoundC Try.prog 138 (slices_IndexFunc_float32_float32_impl_areFinite_1_e N) := by
  have h := runF_sound (f := 138) (code := bodyOf Try.f138) (N := N) (T := (slices_IndexFunc_float32_float32_impl_areFinite_1_T N)) (L := slices_IndexFunc_float32_float32_impl_areFinite_1_L) (ins := [(.sl (.flt .f32)), (.clo 129 .un)]) (outs := [.val (.int .i64)]) (res := [4]) mixed tt_ok ?_ Try.func138 (by kernel_rfl) rfl (by kernel_rfl) (by kernel_rfl) (by decide +kernel)
  · rw [slices_IndexFunc_float32_float32_impl_areFinite_1_eq] at h
    exact h
  · intro f e he
    unfold slices_IndexFunc_float32_float32_impl_areFinite_1_T at he
    split at he
    · rw [List.mem_singleton.1 he]; exact impl_areFinite_1_sound N
    · cases he

/- slices.ContainsFunc[[]float32,float32] -/
def slices_ContainsFunc_float32_float32_impl_areFinite_1 (N : Nat) (x0 : List (Option Nat)) (x1 : Unit) : Option (Bool × Unit) :=
  Option.bind (slices_IndexFunc_float32_float32_impl_areFinite_1 N x0 x1) fun r1 =>
  some ((decide (r1.1 ≥ 0)), ())
def slices_ContainsFunc_float32_float32_impl_areFinite_1_e (N : Nat) : Ent := { ins := [(.sl (.flt .f32)), (.clo 129 .un)], outs := [.val .bool], F := fun x => slices_ContainsFunc_float32_float32_impl_areFinite_1 N x.1 x.2.1 }
def slices_ContainsFunc_float32_float32_impl_areFinite_1_T (N : Nat) : Nat → List EntX
  | 138 => [.pl (slices_IndexFunc_float32_float32_impl_areFinite_1_e N)]
  | _ => []
def slices_ContainsFunc_float32_float32_impl_areFinite_1_L : Nat → List (Nat × TK) := fun _ => []
theorem slices_ContainsFunc_float32_float32_impl_areFinite_1_eq (N : Nat) : runF N tt (slices_ContainsFunc_float32_float32_impl_areFinite_1_T N) slices_ContainsFunc_float32_float32_impl_areFinite_1_L [(.sl (.flt .f32)), (.clo 129 .un)] [.val .bool] (bodyOf Try.f127) Try.f127.ntmps [4] = (slices_ContainsFunc_float32_float32_impl_areFinite_1_e N).F := by
  funext x
  kernel_rfl
theorem slices_ContainsFunc_float32_float32_impl_areFinite_1_sound (N : Nat) : SoundC Try.prog 127 (slices_ContainsFunc_float32_float32_impl_areFinite_1_e N) := by
  have h := runF_sound (f := 127) (code := bodyOf Try.f127) (N := N) (T := (slices_ContainsFunc_float32_float32_impl_areFinite_1_T N)) (L := slices_ContainsFunc_float32_float32_impl_areFinite_1_L) (ins := [(.sl (.flt .f32)), (.clo 129 .un)]) (outs := [.val .bool]) (res := [4]) mixed tt_ok ?_ Try.func127 (by kernel_rfl) rfl (by kernel_rfl) (by kernel_rfl) (by decide +kernel)
  · rw [slices_ContainsFunc_float32_float32_impl_areFinite_1_eq] at h
    exact h
  · intro f e he
    unfold slices_ContainsFunc_float32_float32_impl_areFinite_1_T at he
    split at he
    · rw [List.mem_singleton.1 he]; exact slices_IndexFunc_float32_float32_impl_areFinite_1_sound N
    · cases he

/- impl.areFinite -/
def impl_areFinite (N : Nat) (x0 : List (Option Nat)) : Option (Bool × Unit) :=
  Option.bind (slices_ContainsFunc_float32_float32_impl_areFinite_1 N x0 ()) fun r1 =>
  some ((!r1.1), ())
def impl_areFinite_e (N : Nat) : Ent := { ins := [(.sl (.flt .f32))], outs := [.val .bool], F := fun x => impl_areFinite N x.1 }
def impl_areFinite_T (N : Nat) : Nat → List EntX
  | 127 => [.pl (slices_ContainsFunc_float32_float32_impl_areFinite_1_e N)]
  | _ => []
def impl_areFinite_L : Nat → List (Nat × TK) := fun _ => []
theorem impl_areFinite_eq (N : Nat) : runF N tt (impl_areFinite_T N) impl_areFinite_L [(.sl (.flt .f32))] [.val .bool] (bodyOf Try.f98) Try.f98.ntmps [2] = (impl_areFinite_e N).F := by
  funext x
  kernel_rfl
theorem impl_areFinite_sound (N : Nat) : SoundC Try.prog 98 (impl_areFinite_e N) := by
  have h := runF_sound (f := 98) (code := bodyOf Try.f98) (N := N) (T := (impl_areFinite_T N)) (L := impl_areFinite_L) (ins := [(.sl (.flt .f32))]) (outs := [.val .bool]) (res := [2]) mixed tt_ok ?_ Try.func98 (by kernel_rfl) rfl (by kernel_rfl) (by kernel_rfl) (by decide +kernel)
  · rw [impl_areFinite_eq] at h
    exact h
  · intro f e he
    unfold impl_areFinite_T at he
    split at he
    · rw [List.mem_singleton.1 he]; exact slices_ContainsFunc_float32_float32_impl_areFinite_1_sound N
    · cases he

/- impl.areSpreads$1 -/
def impl_areSpreads_1 (_N : Nat) (x0 : Option Nat) : Option (Bool × Unit) :=
  some ((!(fcmp .geq .f32 x0 (toF .f32 0))), ())
def impl_areSpreads_1_e (N : Nat) : Ent := { ins := [(.flt .f32)], outs := [.val .bool], F := fun x => impl_areSpreads_1 N x.1 }
def impl_areSpreads_1_T (_ : Nat) : Nat → List EntX := fun _ => []
def impl_areSpreads_1_L : Nat → List (Nat × TK) := fun _ => []
theorem impl_areSpreads_1_eq (N : Nat) : runF N tt (impl_areSpreads_1_T N) impl_areSpreads_1_L [(.flt .f32)] [.val .bool] (bodyOf Try.f128) Try.f128.ntmps [2] = (impl_areSpreads_1_e N).F := by
  funext x
  kernel_rfl
theorem impl_areSpreads_1_sound (N : Nat) : SoundC Try.prog 128 (impl_areSpreads_1_e N) := by
  have h := runF_sound (f := 128) (code := bodyOf Try.f128) (N := N) (T := (impl_areSpreads_1_T N)) (L := impl_areSpreads_1_L) (ins := [(.flt .f32)]) (outs := [.val .bool]) (res := [2]) mixed tt_ok ?_ Try.func128 (by kernel_rfl) rfl (by kernel_rfl) (by kernel_rfl) (by decide +kernel)
  · rw [impl_areSpreads_1_eq] at h
    exact h
  · intro f e he
    cases he

/- slices.IndexFunc[[]float32,float32] -/
def slices_IndexFunc_float32_float32_impl_areSpreads_1 (N : Nat) (x0 : List (Option Nat)) (x1 : Unit) : Option (Int × Unit) :=
  loopN (fun (s1 : Int × Unit) next2 =>
    cond (decide (s1.1 < (List.length x0 : Int)))
      (Option.bind (idx x0 s1.1) fun v3 =>
      Option.bind (impl_areSpreads_1 N v3) fun r4 =>
      cond r4.1
        (some (s1.1, ()))
        (next2 ((w64 (s1.1 + 1)), ())))
      (some ((-1), ()))) N (0, ())
def slices_IndexFunc_float32_float32_impl_areSpreads_1_e (N : Nat) : Ent := { ins := [(.sl (.flt .f32)), (.clo 128 .un)], outs := [.val (.int .i64)], F := fun x => slices_IndexFunc_float32_float32_impl_areSpreads_1 N x.1 x.2.1 }
def slices_IndexFunc_float32_float32_impl_areSpreads_1_T (N : Nat) : Nat → List EntX
  | 128 => [.pl (impl_areSpreads_1_e N)]
  | _ => []
def slices_IndexFunc_float32_float32_impl_areSpreads_1_L : Nat → List (Nat × TK)
  | 2 => [(8, .v (.int .i64))]
  | _ => []
theorem slices_IndexFunc_float32_float32_impl_areSpreads_1_eq (N : Nat) : runF N tt (slices_IndexFunc_float32_float32_impl_areSpreads_1_T N) slices_IndexFunc_float32_float32_impl_areSpreads_1_L [(.sl (.flt .f32)), (.clo 128 .un)] [.val (.int .i64)] (bodyOf Try.f138) Try.f138.ntmps [4] = (slices_IndexFunc_float32_float32_impl_areSpreads_1_e N).F := by
  funext x
  kernel_rfl
theorem slices_IndexFunc_float32_float32_impl_areSpreads_1_sound (N : Nat) : SoundC Try.prog 138 (slices_IndexFunc_float32_float32_impl_areSpreads_1_e N) := by
  have h := runF_sound (f := 138) (code := bodyOf Try.f138) (N := N) (T := (slices_IndexFunc_float32_float32_impl_areSpreads_1_T N)) (L := slices_IndexFunc_float32_float32_impl_areSpreads_1_L) (ins := [(.sl (.flt .f32)), (.clo 128 .un)]) (outs := [.val (.int .i64)]) (res := [4]) mixed tt_ok ?_ Try.func138 (by kernel_rfl) rfl (by kernel_rfl) (by kernel_rfl) (by decide +kernel)
  · rw [slices_IndexFunc_float32_float32_impl_areSpreads_1_eq] at h
    exact h
  · intro f e he
    unfold slices_IndexFunc_float32_float32_impl_areSpreads_1_T at he
    split at he
    · rw [List.mem_singleton.1 he]; exact impl_areSpreads_1_sound N
    · cases he

/- slices.ContainsFunc[[]float32,float32] -/
def slices_ContainsFunc_float32_float32_impl_areSpreads_1 (N : Nat) (x0 : List (Option Nat)) (x1 : Unit) : Option (Bool × Unit) :=
  Option.bind (slices_IndexFunc_float32_float32_impl_areSpreads_1 N x0 x1) fun r1 =>
  some ((decide (r1.1 ≥ 0)), ())
def slices_ContainsFunc_float32_float32_impl_areSpreads_1_e (N : Nat) : Ent := { ins := [(.sl (.flt .f32)), (.clo 128 .un)], outs := [.val .bool], F := fun x => slices_ContainsFunc_float32_float32_impl_areSpreads_1 N x.1 x.2.1 }
def slices_ContainsFunc_float32_float32_impl_areSpreads_1_T (N : Nat) : Nat → List EntX
  | 138 => [.pl (slices_IndexFunc_float32_float32_impl_areSpreads_1_e N)]
  | _ => []
def slices_ContainsFunc_float32_float32_impl_areSpreads_1_L : Nat → List (Nat × TK) := fun _ => []
theorem slices_ContainsFunc_float32_float32_impl_areSpreads_1_eq (N : Nat) : runF N tt (slices_ContainsFunc_float32_float32_impl_areSpreads_1_T N) slices_ContainsFunc_float32_float32_impl_areSpreads_1_L [(.sl (.flt .f32)), (.clo 128 .un)] [.val .bool] (bodyOf Try.f127) Try.f127.ntmps [4] = (slices_ContainsFunc_float32_float32_impl_areSpreads_1_e N).F := by
  funext x
  kernel_rfl
theorem slices_ContainsFunc_float32_float32_impl_areSpreads_1_sound (N : Nat) : SoundC Try.prog 127 (slices_ContainsFunc_float32_float32_impl_areSpreads_1_e N) := by
  have h := runF_sound (f := 127) (code := bodyOf Try.f127) (N := N) (T := (slices_ContainsFunc_float32_float32_impl_areSpreads_1_T N)) (L := slices_ContainsFunc_float32_float32_impl_areSpreads_1_L) (ins := [(.sl (.flt .f32)), (.clo 128 .un)]) (outs := [.val .bool]) (res := [4]) mixed tt_ok ?_ Try.func127 (by kernel_rfl) rfl (by kernel_rfl) (by kernel_rfl) (by decide +kernel)
  · rw [slices_ContainsFunc_float32_float32_impl_areSpreads_1_eq] at h
    exact h
  · intro f e he
    unfold slices_ContainsFunc_float32_float32_impl_areSpreads_1_T at he
    split at he
    · rw [List.mem_singleton.1 he]; exact slices_IndexFunc_float32_float32_impl_areSpreads_1_sound N
    · cases he

/- impl.areSpreads -/
def impl_areSpreads (N : Nat) (x0 : List (Option Nat)) : Option (Bool × Unit) :=
  cond (decide ((List.length x0 : Int) ≥ 1))
    (cond (decide ((List.length x0 : Int) ≤ 16))
      (Option.bind (impl_areFinite N x0) fun r1 =>
      cond r1.1
        (Option.bind (slices_ContainsFunc_float32_float32_impl_areSpreads_1 N x0 ()) fun r2 =>
        some ((!r2.1), ()))
        (some (false, ())))
      (some (false, ())))
    (some (false, ()))
def impl_areSpreads_e (N : Nat) : Ent := { ins := [(.sl (.flt .f32))], outs := [.val .bool], F := fun x => impl_areSpreads N x.1 }
def impl_areSpreads_T (N : Nat) : Nat → List EntX
  | 98 => [.pl (impl_areFinite_e N)]
  | 127 => [.pl (slices_ContainsFunc_float32_float32_impl_areSpreads_1_e N)]
  | _ => []
def impl_areSpreads_L : Nat → List (Nat × TK) := fun _ => []
theorem impl_areSpreads_eq (N : Nat) : runF N tt (impl_areSpreads_T N) impl_areSpreads_L [(.sl (.flt .f32))] [.val .bool] (bodyOf Try.f93) Try.f93.ntmps [2] = (impl_areSpreads_e N).F := by
  funext x
  kernel_rfl
theorem impl_areSpreads_sound (N : Nat) : SoundC Try.prog 93 (impl_areSpreads_e N) := by
  have h := runF_sound (f := 93) (code := bodyOf Try.f93) (N := N) (T := (impl_areSpreads_T N)) (L := impl_areSpreads_L) (ins := [(.sl (.flt .f32))]) (outs := [.val .bool]) (res := [2]) mixed tt_ok ?_ Try.func93 (by kernel_rfl) rfl (by kernel_rfl) (by kernel_rfl) (by decide +kernel)
  · rw [impl_areSpreads_eq] at h
    exact h
  · intro f e he
    unfold impl_areSpreads_T at he
    split at he
    · rw [List.mem_singleton.1 he]; exact impl_areFinite_sound N
    · rw [List.mem_singleton.1 he]; exact slices_ContainsFunc_float32_float32_impl_areSpreads_1_sound N
    · cases he

/- impl.RootNumber -/
def impl_RootNumber (N : Nat) (x0 : Option Nat) : Option (Option Nat × Unit) :=
  fconvB .f32 x0 .f64 fun v1 =>
  Option.bind (math_Sqrt N v1) fun r2 =>
  fconvB .f64 r2.1 .f32 fun v3 =>
  some (v3, ())
def impl_RootNumber_e (N : Nat) : Ent := { ins := [(.flt .f32)], outs := [.val (.flt .f32)], F := fun x => impl_RootNumber N x.1 }
def impl_RootNumber_T (N : Nat) : Nat → List EntX
  | 126 => [.pl (math_Sqrt_e N)]
  | _ => []
def impl_RootNumber_L : Nat → List (Nat × TK) := fun _ => []
theorem impl_RootNumber_eq (N : Nat) : runF N tt (impl_RootNumber_T N) impl_RootNumber_L [(.flt .f32)] [.val (.flt .f32)] (bodyOf Try.f95) Try.f95.ntmps [2] = (impl_RootNumber_e N).F := by
  funext x
  kernel_rfl
theorem impl_RootNumber_sound (N : Nat) : SoundC Try.prog 95 (impl_RootNumber_e N) := by
  have h := runF_sound (f := 95) (code := bodyOf Try.f95) (N := N) (T := (impl_RootNumber_T N)) (L := impl_RootNumber_L) (ins := [(.flt .f32)]) (outs := [.val (.flt .f32)]) (res := [2]) mixed tt_ok ?_ Try.func95 (by kernel_rfl) rfl (by kernel_rfl) (by kernel_rfl) (by decide +kernel)
  · rw [impl_RootNumber_eq] at h
    exact h
  · intro f e he
    unfold impl_RootNumber_T at he
    split at he
    · rw [List.mem_singleton.1 he]; exact math_Sqrt_sound N
    · cases he

/- impl.addUp -/
def impl_addUp (N : Nat) (x0 : List (Option Nat)) : Option (Option Nat × Unit) :=
  loopN (fun (s1 : Option Nat × Int × Unit) next2 =>
    cond (decide (s1.2.1 < (List.length x0 : Int)))
      (Option.bind (idx x0 s1.2.1) fun v3 =>
      next2 ((farith .add .f32 s1.1 v3), (w64 (s1.2.1 + 1)), ()))
      (some (s1.1, ()))) N ((toF .f32 0), 0, ())
def impl_addUp_e (N : Nat) : Ent := { ins := [(.sl (.flt .f32))], outs := [.val (.flt .f32)], F := fun x => impl_addUp N x.1 }
def impl_addUp_T (_ : Nat) : Nat → List EntX := fun _ => []
def impl_addUp_L : Nat → List (Nat × TK)
  | 3 => [(3, .v (.flt .f32)), (8, .v (.int .i64))]
  | _ => []
theorem impl_addUp_eq (N : Nat) : runF N tt (impl_addUp_T N) impl_addUp_L [(.sl (.flt .f32))] [.val (.flt .f32)] (bodyOf Try.f96) Try.f96.ntmps [2] = (impl_addUp_e N).F := by
  funext x
  kernel_rfl
theorem impl_addUp_sound (N : Nat) : SoundC Try.prog 96 (impl_addUp_e N) := by
  have h := runF_sound (f := 96) (code := bodyOf Try.f96) (N := N) (T := (impl_addUp_T N)) (L := impl_addUp_L) (ins := [(.sl (.flt .f32))]) (outs := [.val (.flt .f32)]) (res := [2]) mixed tt_ok ?_ Try.func96 (by kernel_rfl) rfl (by kernel_rfl) (by kernel_rfl) (by decide +kernel)
  · rw [impl_addUp_eq] at h
    exact h
  · intro f e he
    cases he

/- impl.BufferOf -/
def impl_BufferOf (N : Nat) (x0 : List (Option Nat)) (x1 : Option Nat) : Option (Option Nat × Bool × Unit) :=
  Option.bind (impl_areSpreads N x0) fun r1 =>
  cond (!r1.1)
    (some ((toF .f32 0), false, ()))
    (Option.bind (impl_IsFinite N x1) fun r2 =>
    cond (!r2.1)
      (some ((toF .f32 0), false, ()))
      (Option.bind (impl_addUp N x0) fun r3 =>
      Option.bind (impl_RootNumber N r3.1) fun r4 =>
      Option.bind (impl_IsFinite N (farith .mul .f32 x1 r4.1)) fun r5 =>
      cond (!r5.1)
        (some ((toF .f32 0), false, ()))
        (some ((farith .mul .f32 x1 r4.1), true, ()))))
def impl_BufferOf_e (N : Nat) : Ent := { ins := [(.sl (.flt .f32)), (.flt .f32)], outs := [.val (.flt .f32), .val .bool], F := fun x => impl_BufferOf N x.1 x.2.1 }
def impl_BufferOf_T (N : Nat) : Nat → List EntX
  | 93 => [.pl (impl_areSpreads_e N)]
  | 94 => [.pl (impl_IsFinite_e N)]
  | 95 => [.pl (impl_RootNumber_e N)]
  | 96 => [.pl (impl_addUp_e N)]
  | _ => []
def impl_BufferOf_L : Nat → List (Nat × TK) := fun _ => []
theorem impl_BufferOf_eq (N : Nat) : runF N tt (impl_BufferOf_T N) impl_BufferOf_L [(.sl (.flt .f32)), (.flt .f32)] [.val (.flt .f32), .val .bool] (bodyOf Try.f39) Try.f39.ntmps [4, 5] = (impl_BufferOf_e N).F := by
  funext x
  kernel_rfl
theorem impl_BufferOf_sound (N : Nat) : SoundC Try.prog 39 (impl_BufferOf_e N) := by
  have h := runF_sound (f := 39) (code := bodyOf Try.f39) (N := N) (T := (impl_BufferOf_T N)) (L := impl_BufferOf_L) (ins := [(.sl (.flt .f32)), (.flt .f32)]) (outs := [.val (.flt .f32), .val .bool]) (res := [4, 5]) mixed tt_ok ?_ Try.func39 (by kernel_rfl) rfl (by kernel_rfl) (by kernel_rfl) (by decide +kernel)
  · rw [impl_BufferOf_eq] at h
    exact h
  · intro f e he
    unfold impl_BufferOf_T at he
    split at he
    · rw [List.mem_singleton.1 he]; exact impl_areSpreads_sound N
    · rw [List.mem_singleton.1 he]; exact impl_IsFinite_sound N
    · rw [List.mem_singleton.1 he]; exact impl_RootNumber_sound N
    · rw [List.mem_singleton.1 he]; exact impl_addUp_sound N
    · cases he

/- laws.sameFloat -/
def laws_sameFloat (_N : Nat) (x0 : Option Nat) (x1 : Option Nat) : Option (Bool × Unit) :=
  cond (fcmp .neq .f64 x0 x0)
    (cond (fcmp .neq .f64 x0 x0)
      (some ((fcmp .neq .f64 x1 x1), ()))
      (some (false, ())))
    (cond (fcmp .neq .f64 x1 x1)
      (cond (fcmp .neq .f64 x0 x0)
        (some ((fcmp .neq .f64 x1 x1), ()))
        (some (false, ())))
      (cond (fcmp .eql .f64 x0 (toF .f64 0))
        (cond (fcmp .eql .f64 x1 (toF .f64 0))
          (some (((fcmp .gtr .f64 (farith .quo .f64 (toF .f64 4607182418800017408) x0) (toF .f64 0)) == (fcmp .gtr .f64 (farith .quo .f64 (toF .f64 4607182418800017408) x1) (toF .f64 0))), ()))
          (some ((fcmp .eql .f64 x0 x1), ())))
        (some ((fcmp .eql .f64 x0 x1), ()))))
def laws_sameFloat_e (N : Nat) : Ent := { ins := [(.flt .f64), (.flt .f64)], outs := [.val .bool], F := fun x => laws_sameFloat N x.1 x.2.1 }
def laws_sameFloat_T (_ : Nat) : Nat → List EntX := fun _ => []
def laws_sameFloat_L : Nat → List (Nat × TK) := fun _ => []
theorem laws_sameFloat_eq (N : Nat) : runF N tt (laws_sameFloat_T N) laws_sameFloat_L [(.flt .f64), (.flt .f64)] [.val .bool] (bodyOf Try.f40) Try.f40.ntmps [4] = (laws_sameFloat_e N).F := by
  funext x
  kernel_rfl
theorem laws_sameFloat_sound (N : Nat) : SoundC Try.prog 40 (laws_sameFloat_e N) := by
  have h := runF_sound (f := 40) (code := bodyOf Try.f40) (N := N) (T := (laws_sameFloat_T N)) (L := laws_sameFloat_L) (ins := [(.flt .f64), (.flt .f64)]) (outs := [.val .bool]) (res := [4]) mixed tt_ok ?_ Try.func40 (by kernel_rfl) rfl (by kernel_rfl) (by kernel_rfl) (by decide +kernel)
  · rw [laws_sameFloat_eq] at h
    exact h
  · intro f e he
    cases he

/- laws.eqFloat32S -/
def laws_eqFloat32S (N : Nat) (x0 : List (Option Nat)) (x1 : List (Option Nat)) : Option (Bool × Unit) :=
  cond ((List.length x0 : Int) != (List.length x1 : Int))
    (some (false, ()))
    (loopN (fun (s1 : Int × Unit) next2 =>
      cond (decide (s1.1 < (List.length x0 : Int)))
        (Option.bind (idx x0 s1.1) fun v3 =>
        fconvB .f32 v3 .f64 fun v4 =>
        Option.bind (idx x1 s1.1) fun v5 =>
        fconvB .f32 v5 .f64 fun v6 =>
        Option.bind (laws_sameFloat N v4 v6) fun r7 =>
        cond (!r7.1)
          (some (false, ()))
          (next2 ((w64 (s1.1 + 1)), ())))
        (some (true, ()))) N (0, ()))
def laws_eqFloat32S_e (N : Nat) : Ent := { ins := [(.sl (.flt .f32)), (.sl (.flt .f32))], outs := [.val .bool], F := fun x => laws_eqFloat32S N x.1 x.2.1 }
def laws_eqFloat32S_T (N : Nat) : Nat → List EntX
  | 40 => [.pl (laws_sameFloat_e N)]
  | _ => []
def laws_eqFloat32S_L : Nat → List (Nat × TK)
  | 4 => [(5, .v (.int .i64))]
  | _ => []
theorem laws_eqFloat32S_eq (N : Nat) : runF N tt (laws_eqFloat32S_T N) laws_eqFloat32S_L [(.sl (.flt .f32)), (.sl (.flt .f32))] [.val .bool] (bodyOf Try.f41) Try.f41.ntmps [4] = (laws_eqFloat32S_e N).F := by
  funext x
  kernel_rfl
theorem laws_eqFloat32S_sound (N : Nat) : SoundC Try.prog 41 (laws_eqFloat32S_e N) := by
  have h := runF_sound (f := 41) (code := bodyOf Try.f41) (N := N) (T := (laws_eqFloat32S_T N)) (L := laws_eqFloat32S_L) (ins := [(.sl (.flt .f32)), (.sl (.flt .f32))]) (outs := [.val .bool]) (res := [4]) mixed tt_ok ?_ Try.func41 (by kernel_rfl) rfl (by kernel_rfl) (by kernel_rfl) (by decide +kernel)
  · rw [laws_eqFloat32S_eq] at h
    exact h
  · intro f e he
    unfold laws_eqFloat32S_T at he
    split at he
    · rw [List.mem_singleton.1 he]; exact laws_sameFloat_sound N
    · cases he

/- laws.FnExactBufferOf -/
def laws_FnExactBufferOf (N : Nat) (x0 : List (Option Nat)) (x1 : Option Nat) : Option (Bool × Unit) :=
  cond (decide ((List.length x0 : Int) > 1048576))
    (some (true, ()))
    (Option.bind (laws_toFloat32S N x0) fun r1 =>
    Option.bind (spec_BufferOf N r1.1 x1) fun r2 =>
    Option.bind (laws_toFloat32S N x0) fun r3 =>
    Option.bind (impl_BufferOf N r3.1 x1) fun r4 =>
    fconvB .f32 r4.1 .f64 fun v5 =>
    fconvB .f32 r2.1 .f64 fun v6 =>
    Option.bind (laws_sameFloat N v5 v6) fun r7 =>
    cond (!r7.1)
      (some (false, ()))
      (cond (!(r4.2.1 == r2.2.1))
        (some (false, ()))
        (Option.bind (laws_toFloat32S N x0) fun r8 =>
        Option.bind (laws_eqFloat32S N r3.1 r8.1) fun r9 =>
        cond (!r9.1)
          (some (false, ()))
          (some (true, ())))))
def laws_FnExactBufferOf_e (N : Nat) : Ent := { ins := [(.sl (.flt .f32)), (.flt .f32)], outs := [.val .bool], F := fun x => laws_FnExactBufferOf N x.1 x.2.1 }
def laws_FnExactBufferOf_T (N : Nat) : Nat → List EntX
  | 37 => [.pl (spec_BufferOf_e N)]
  | 38 => [.pl (laws_toFloat32S_e N)]
  | 39 => [.pl (impl_BufferOf_e N)]
  | 40 => [.pl (laws_sameFloat_e N)]
  | 41 => [.pl (laws_eqFloat32S_e N)]
  | _ => []
def laws_FnExactBufferOf_L : Nat → List (Nat × TK) := fun _ => []
theorem laws_FnExactBufferOf_eq (N : Nat) : runF N tt (laws_FnExactBufferOf_T N) laws_FnExactBufferOf_L [(.sl (.flt .f32)), (.flt .f32)] [.val .bool] (bodyOf Try.f12) Try.f12.ntmps [4] = (laws_FnExactBufferOf_e N).F := by
  funext x
  kernel_rfl
theorem laws_FnExactBufferOf_sound (N : Nat) : SoundC Try.prog 12 (laws_FnExactBufferOf_e N) := by
  have h := runF_sound (f := 12) (code := bodyOf Try.f12) (N := N) (T := (laws_FnExactBufferOf_T N)) (L := laws_FnExactBufferOf_L) (ins := [(.sl (.flt .f32)), (.flt .f32)]) (outs := [.val .bool]) (res := [4]) mixed tt_ok ?_ Try.func12 (by kernel_rfl) rfl (by kernel_rfl) (by kernel_rfl) (by decide +kernel)
  · rw [laws_FnExactBufferOf_eq] at h
    exact h
  · intro f e he
    unfold laws_FnExactBufferOf_T at he
    split at he
    · rw [List.mem_singleton.1 he]; exact spec_BufferOf_sound N
    · rw [List.mem_singleton.1 he]; exact laws_toFloat32S_sound N
    · rw [List.mem_singleton.1 he]; exact impl_BufferOf_sound N
    · rw [List.mem_singleton.1 he]; exact laws_sameFloat_sound N
    · rw [List.mem_singleton.1 he]; exact laws_eqFloat32S_sound N
    · cases he

/- spec.l03Three -/
def spec_l03Three (N : Nat) (x0 : Option Nat) (x1 : Option Nat) (x2 : Option Nat) : Option (Bool × Unit) :=
  Option.bind (spec_l01Finite N x0) fun r1 =>
  cond r1.1
    (Option.bind (spec_l01Finite N x1) fun r2 =>
    cond r2.1
      (Option.bind (spec_l01Finite N x2) fun r3 =>
      cond r3.1
        (cond (fcmp .leq .f32 x0 x1)
          (some ((fcmp .leq .f32 x1 x2), ()))
          (some (false, ())))
        (some (false, ())))
      (some (false, ())))
    (some (false, ()))
def spec_l03Three_e (N : Nat) : Ent := { ins := [(.flt .f32), (.flt .f32), (.flt .f32)], outs := [.val .bool], F := fun x => spec_l03Three N x.1 x.2.1 x.2.2.1 }
def spec_l03Three_T (N : Nat) : Nat → List EntX
  | 90 => [.pl (spec_l01Finite_e N)]
  | _ => []
def spec_l03Three_L : Nat → List (Nat × TK) := fun _ => []
theorem spec_l03Three_eq (N : Nat) : runF N tt (spec_l03Three_T N) spec_l03Three_L [(.flt .f32), (.flt .f32), (.flt .f32)] [.val .bool] (bodyOf Try.f97) Try.f97.ntmps [6] = (spec_l03Three_e N).F := by
  funext x
  kernel_rfl
theorem spec_l03Three_sound (N : Nat) : SoundC Try.prog 97 (spec_l03Three_e N) := by
  have h := runF_sound (f := 97) (code := bodyOf Try.f97) (N := N) (T := (spec_l03Three_T N)) (L := spec_l03Three_L) (ins := [(.flt .f32), (.flt .f32), (.flt .f32)]) (outs := [.val .bool]) (res := [6]) mixed tt_ok ?_ Try.func97 (by kernel_rfl) rfl (by kernel_rfl) (by kernel_rfl) (by decide +kernel)
  · rw [spec_l03Three_eq] at h
    exact h
  · intro f e he
    unfold spec_l03Three_T at he
    split at he
    · rw [List.mem_singleton.1 he]; exact spec_l01Finite_sound N
    · cases he

/- spec.l00In -/
def spec_l00In (_N : Nat) (x0 : Int) (x1 : Int) (x2 : Int) : Option (Bool × Unit) :=
  cond (decide (x0 ≥ x1))
    (some ((decide (x0 ≤ x2)), ()))
    (some (false, ()))
def spec_l00In_e (N : Nat) : Ent := { ins := [(.int .i64), (.int .i64), (.int .i64)], outs := [.val .bool], F := fun x => spec_l00In N x.1 x.2.1 x.2.2.1 }
def spec_l00In_T (_ : Nat) : Nat → List EntX := fun _ => []
def spec_l00In_L : Nat → List (Nat × TK) := fun _ => []
theorem spec_l00In_eq (N : Nat) : runF N tt (spec_l00In_T N) spec_l00In_L [(.int .i64), (.int .i64), (.int .i64)] [.val .bool] (bodyOf Try.f114) Try.f114.ntmps [6] = (spec_l00In_e N).F := by
  funext x
  kernel_rfl
theorem spec_l00In_sound (N : Nat) : SoundC Try.prog 114 (spec_l00In_e N) := by
  have h := runF_sound (f := 114) (code := bodyOf Try.f114) (N := N) (T := (spec_l00In_T N)) (L := spec_l00In_L) (ins := [(.int .i64), (.int .i64), (.int .i64)]) (outs := [.val .bool]) (res := [6]) mixed tt_ok ?_ Try.func114 (by kernel_rfl) rfl (by kernel_rfl) (by kernel_rfl) (by decide +kernel)
  · rw [spec_l00In_eq] at h
    exact h
  · intro f e he
    cases he

/- spec.l03Seed -/
def spec_l03Seed (N : Nat) (x0 : Int) : Option (Bool × Unit) :=
  Option.bind (spec_l00In N x0 0 4294967295) fun r1 =>
  some (r1.1, ())
def spec_l03Seed_e (N : Nat) : Ent := { ins := [(.int .i64)], outs := [.val .bool], F := fun x => spec_l03Seed N x.1 }
def spec_l03Seed_T (N : Nat) : Nat → List EntX
  | 114 => [.pl (spec_l00In_e N)]
  | _ => []
def spec_l03Seed_L : Nat → List (Nat × TK) := fun _ => []
theorem spec_l03Seed_eq (N : Nat) : runF N tt (spec_l03Seed_T N) spec_l03Seed_L [(.int .i64)] [.val .bool] (bodyOf Try.f99) Try.f99.ntmps [2] = (spec_l03Seed_e N).F := by
  funext x
  kernel_rfl
theorem spec_l03Seed_sound (N : Nat) : SoundC Try.prog 99 (spec_l03Seed_e N) := by
  have h := runF_sound (f := 99) (code := bodyOf Try.f99) (N := N) (T := (spec_l03Seed_T N)) (L := spec_l03Seed_L) (ins := [(.int .i64)]) (outs := [.val .bool]) (res := [2]) mixed tt_ok ?_ Try.func99 (by kernel_rfl) rfl (by kernel_rfl) (by kernel_rfl) (by decide +kernel)
  · rw [spec_l03Seed_eq] at h
    exact h
  · intro f e he
    unfold spec_l03Seed_T at he
    split at he
    · rw [List.mem_singleton.1 he]; exact spec_l00In_sound N
    · cases he

/- spec.l03Draw -/
def spec_l03Draw (N : Nat) (x0 : Option Nat) (x1 : Option Nat) (x2 : Option Nat) (x3 : Int) : Option (Option Nat × Int × Unit) :=
  cond (fcmp .lss .f32 (farith .quo .f32 (toF .f32 (FloatKind.nearest .f32 (w64 (Int.tdiv (Int.tmod (w64 ((w64 (1664525 * x3)) + 1013904223)) 4294967296) 256)))) (toF .f32 1266679808)) (farith .quo .f32 (farith .sub .f32 x1 x0) (farith .sub .f32 x2 x0)))
    (Option.bind (spec_l01Sqrt N (farith .mul .f32 (farith .mul .f32 (farith .quo .f32 (toF .f32 (FloatKind.nearest .f32 (w64 (Int.tdiv (Int.tmod (w64 ((w64 (1664525 * x3)) + 1013904223)) 4294967296) 256)))) (toF .f32 1266679808)) (farith .sub .f32 x2 x0)) (farith .sub .f32 x1 x0))) fun r1 =>
    some ((farith .add .f32 x0 r1.1), (Int.tmod (w64 ((w64 (1664525 * x3)) + 1013904223)) 4294967296), ()))
    (Option.bind (spec_l01Sqrt N (farith .mul .f32 (farith .mul .f32 (farith .sub .f32 (toF .f32 1065353216) (farith .quo .f32 (toF .f32 (FloatKind.nearest .f32 (w64 (Int.tdiv (Int.tmod (w64 ((w64 (1664525 * x3)) + 1013904223)) 4294967296) 256)))) (toF .f32 1266679808))) (farith .sub .f32 x2 x0)) (farith .sub .f32 x2 x1))) fun r2 =>
    some ((farith .sub .f32 x2 r2.1), (Int.tmod (w64 ((w64 (1664525 * x3)) + 1013904223)) 4294967296), ()))
def spec_l03Draw_e (N : Nat) : Ent := { ins := [(.flt .f32), (.flt .f32), (.flt .f32), (.int .i64)], outs := [.val (.flt .f32), .val (.int .i64)], F := fun x => spec_l03Draw N x.1 x.2.1 x.2.2.1 x.2.2.2.1 }
def spec_l03Draw_T (N : Nat) : Nat → List EntX
  | 92 => [.pl (spec_l01Sqrt_e N)]
  | _ => []
def spec_l03Draw_L : Nat → List (Nat × TK) := fun _ => []
theorem spec_l03Draw_eq (N : Nat) : runF N tt (spec_l03Draw_T N) spec_l03Draw_L [(.flt .f32), (.flt .f32), (.flt .f32), (.int .i64)] [.val (.flt .f32), .val (.int .i64)] (bodyOf Try.f100) Try.f100.ntmps [8, 9] = (spec_l03Draw_e N).F := by
  funext x
  kernel_rfl
theorem spec_l03Draw_sound (N : Nat) : SoundC Try.prog 100 (spec_l03Draw_e N) := by
  have h := runF_sound (f := 100) (code := bodyOf Try.f100) (N := N) (T := (spec_l03Draw_T N)) (L := spec_l03Draw_L) (ins := [(.flt .f32), (.flt .f32), (.flt .f32), (.int .i64)]) (outs := [.val (.flt .f32), .val (.int .i64)]) (res := [8, 9]) mixed tt_ok ?_ Try.func100 (by kernel_rfl) rfl (by kernel_rfl) (by kernel_rfl) (by decide +kernel)
  · rw [spec_l03Draw_eq] at h
    exact h
  · intro f e he
    unfold spec_l03Draw_T at he
    split at he
    · rw [List.mem_singleton.1 he]; exact spec_l01Sqrt_sound N
    · cases he

/- spec.TimeDrawn -/
def spec_TimeDrawn (N : Nat) (x0 : Option Nat) (x1 : Option Nat) (x2 : Option Nat) (x3 : Int) : Option (Option Nat × Int × Bool × Unit) :=
  Option.bind (spec_l03Three N x0 x1 x2) fun r1 =>
  cond (!r1.1)
    (some ((toF .f32 0), 0, false, ()))
    (cond (!(fcmp .gtr .f32 (farith .sub .f32 x2 x0) (toF .f32 0)))
      (some ((toF .f32 0), 0, false, ()))
      (Option.bind (spec_l03Seed N x3) fun r2 =>
      cond (!r2.1)
        (some ((toF .f32 0), 0, false, ()))
        (Option.bind (spec_l03Draw N x0 x1 x2 x3) fun r3 =>
        Option.bind (spec_l01Finite N r3.1) fun r4 =>
        cond (!r4.1)
          (some ((toF .f32 0), 0, false, ()))
          (some (r3.1, r3.2.1, true, ())))))
def spec_TimeDrawn_e (N : Nat) : Ent := { ins := [(.flt .f32), (.flt .f32), (.flt .f32), (.int .i64)], outs := [.val (.flt .f32), .val (.int .i64), .val .bool], F := fun x => spec_TimeDrawn N x.1 x.2.1 x.2.2.1 x.2.2.2.1 }
def spec_TimeDrawn_T (N : Nat) : Nat → List EntX
  | 90 => [.pl (spec_l01Finite_e N)]
  | 97 => [.pl (spec_l03Three_e N)]
  | 99 => [.pl (spec_l03Seed_e N)]
  | 100 => [.pl (spec_l03Draw_e N)]
  | _ => []
def spec_TimeDrawn_L : Nat → List (Nat × TK) := fun _ => []
theorem spec_TimeDrawn_eq (N : Nat) : runF N tt (spec_TimeDrawn_T N) spec_TimeDrawn_L [(.flt .f32), (.flt .f32), (.flt .f32), (.int .i64)] [.val (.flt .f32), .val (.int .i64), .val .bool] (bodyOf Try.f44) Try.f44.ntmps [8, 9, 10] = (spec_TimeDrawn_e N).F := by
  funext x
  kernel_rfl
theorem spec_TimeDrawn_sound (N : Nat) : SoundC Try.prog 44 (spec_TimeDrawn_e N) := by
  have h := runF_sound (f := 44) (code := bodyOf Try.f44) (N := N) (T := (spec_TimeDrawn_T N)) (L := spec_TimeDrawn_L) (ins := [(.flt .f32), (.flt .f32), (.flt .f32), (.int .i64)]) (outs := [.val (.flt .f32), .val (.int .i64), .val .bool]) (res := [8, 9, 10]) mixed tt_ok ?_ Try.func44 (by kernel_rfl) rfl (by kernel_rfl) (by kernel_rfl) (by decide +kernel)
  · rw [spec_TimeDrawn_eq] at h
    exact h
  · intro f e he
    unfold spec_TimeDrawn_T at he
    split at he
    · rw [List.mem_singleton.1 he]; exact spec_l01Finite_sound N
    · rw [List.mem_singleton.1 he]; exact spec_l03Three_sound N
    · rw [List.mem_singleton.1 he]; exact spec_l03Seed_sound N
    · rw [List.mem_singleton.1 he]; exact spec_l03Draw_sound N
    · cases he

/- impl.within -/
def impl_within (_N : Nat) (x0 : Int) (x1 : Int) (x2 : Int) : Option (Bool × Unit) :=
  cond (decide (x0 ≥ x1))
    (some ((decide (x0 ≤ x2)), ()))
    (some (false, ()))
def impl_within_e (N : Nat) : Ent := { ins := [(.int .i64), (.int .i64), (.int .i64)], outs := [.val .bool], F := fun x => impl_within N x.1 x.2.1 x.2.2.1 }
def impl_within_T (_ : Nat) : Nat → List EntX := fun _ => []
def impl_within_L : Nat → List (Nat × TK) := fun _ => []
theorem impl_within_eq (N : Nat) : runF N tt (impl_within_T N) impl_within_L [(.int .i64), (.int .i64), (.int .i64)] [.val .bool] (bodyOf Try.f117) Try.f117.ntmps [6] = (impl_within_e N).F := by
  funext x
  kernel_rfl
theorem impl_within_sound (N : Nat) : SoundC Try.prog 117 (impl_within_e N) := by
  have h := runF_sound (f := 117) (code := bodyOf Try.f117) (N := N) (T := (impl_within_T N)) (L := impl_within_L) (ins := [(.int .i64), (.int .i64), (.int .i64)]) (outs := [.val .bool]) (res := [6]) mixed tt_ok ?_ Try.func117 (by kernel_rfl) rfl (by kernel_rfl) (by kernel_rfl) (by decide +kernel)
  · rw [impl_within_eq] at h
    exact h
  · intro f e he
    cases he

/- impl.isSeed -/
def impl_isSeed (N : Nat) (x0 : Int) : Option (Bool × Unit) :=
  Option.bind (impl_within N x0 0 4294967295) fun r1 =>
  some (r1.1, ())
def impl_isSeed_e (N : Nat) : Ent := { ins := [(.int .i64)], outs := [.val .bool], F := fun x => impl_isSeed N x.1 }
def impl_isSeed_T (N : Nat) : Nat → List EntX
  | 117 => [.pl (impl_within_e N)]
  | _ => []
def impl_isSeed_L : Nat → List (Nat × TK) := fun _ => []
theorem impl_isSeed_eq (N : Nat) : runF N tt (impl_isSeed_T N) impl_isSeed_L [(.int .i64)] [.val .bool] (bodyOf Try.f101) Try.f101.ntmps [2] = (impl_isSeed_e N).F := by
  funext x
  kernel_rfl
theorem impl_isSeed_sound (N : Nat) : SoundC Try.prog 101 (impl_isSeed_e N) := by
  have h := runF_sound (f := 101) (code := bodyOf Try.f101) (N := N) (T := (impl_isSeed_T N)) (L := impl_isSeed_L) (ins := [(.int .i64)]) (outs := [.val .bool]) (res := [2]) mixed tt_ok ?_ Try.func101 (by kernel_rfl) rfl (by kernel_rfl) (by kernel_rfl) (by decide +kernel)
  · rw [impl_isSeed_eq] at h
    exact h
  · intro f e he
    unfold impl_isSeed_T at he
    split at he
    · rw [List.mem_singleton.1 he]; exact impl_within_sound N
    · cases he

/- impl.nextSeed -/
def impl_nextSeed (_N : Nat) (x0 : Int) : Option (Int × Option Nat × Unit) :=
  some ((Int.tmod (w64 ((w64 (1664525 * x0)) + 1013904223)) 4294967296), (farith .mul .f32 (toF .f32 (FloatKind.nearest .f32 (w64 (Int.tdiv (Int.tmod (w64 ((w64 (1664525 * x0)) + 1013904223)) 4294967296) 256)))) (toF .f32 864026624)), ())
def impl_nextSeed_e (N : Nat) : Ent := { ins := [(.int .i64)], outs := [.val (.int .i64), .val (.flt .f32)], F := fun x => impl_nextSeed N x.1 }
def impl_nextSeed_T (_ : Nat) : Nat → List EntX := fun _ => []
def impl_nextSeed_L : Nat → List (Nat × TK) := fun _ => []
theorem impl_nextSeed_eq (N : Nat) : runF N tt (impl_nextSeed_T N) impl_nextSeed_L [(.int .i64)] [.val (.int .i64), .val (.flt .f32)] (bodyOf Try.f130) Try.f130.ntmps [2, 3] = (impl_nextSeed_e N).F := by
  funext x
  kernel_rfl
theorem impl_nextSeed_sound (N : Nat) : SoundC Try.prog 130 (impl_nextSeed_e N) := by
  have h := runF_sound (f := 130) (code := bodyOf Try.f130) (N := N) (T := (impl_nextSeed_T N)) (L := impl_nextSeed_L) (ins := [(.int .i64)]) (outs := [.val (.int .i64), .val (.flt .f32)]) (res := [2, 3]) mixed tt_ok ?_ Try.func130 (by kernel_rfl) rfl (by kernel_rfl) (by kernel_rfl) (by decide +kernel)
  · rw [impl_nextSeed_eq] at h
    exact h
  · intro f e he
    cases he

/- impl.timeDrawn -/
def impl_timeDrawn (N : Nat) (x0 : Option Nat) (x1 : Option Nat) (x2 : Option Nat) (x3 : Int) : Option (Option Nat × Int × Unit) :=
  Option.bind (impl_nextSeed N x3) fun r1 =>
  cond (fcmp .lss .f32 r1.2.1 (farith .quo .f32 (farith .sub .f32 x1 x0) (farith .sub .f32 x2 x0)))
    (Option.bind (impl_RootNumber N (farith .mul .f32 (farith .mul .f32 r1.2.1 (farith .sub .f32 x2 x0)) (farith .sub .f32 x1 x0))) fun r2 =>
    some ((farith .add .f32 x0 r2.1), r1.1, ()))
    (Option.bind (impl_RootNumber N (farith .mul .f32 (farith .mul .f32 (farith .sub .f32 (toF .f32 1065353216) r1.2.1) (farith .sub .f32 x2 x0)) (farith .sub .f32 x2 x1))) fun r3 =>
    some ((farith .sub .f32 x2 r3.1), r1.1, ()))
def impl_timeDrawn_e (N : Nat) : Ent := { ins := [(.flt .f32), (.flt .f32), (.flt .f32), (.int .i64)], outs := [.val (.flt .f32), .val (.int .i64)], F := fun x => impl_timeDrawn N x.1 x.2.1 x.2.2.1 x.2.2.2.1 }
def impl_timeDrawn_T (N : Nat) : Nat → List EntX
  | 95 => [.pl (impl_RootNumber_e N)]
  | 130 => [.pl (impl_nextSeed_e N)]
  | _ => []
def impl_timeDrawn_L : Nat → List (Nat × TK) := fun _ => []
theorem impl_timeDrawn_eq (N : Nat) : runF N tt (impl_timeDrawn_T N) impl_timeDrawn_L [(.flt .f32), (.flt .f32), (.flt .f32), (.int .i64)] [.val (.flt .f32), .val (.int .i64)] (bodyOf Try.f102) Try.f102.ntmps [8, 9] = (impl_timeDrawn_e N).F := by
  funext x
  kernel_rfl
theorem impl_timeDrawn_sound (N : Nat) : SoundC Try.prog 102 (impl_timeDrawn_e N) := by
  have h := runF_sound (f := 102) (code := bodyOf Try.f102) (N := N) (T := (impl_timeDrawn_T N)) (L := impl_timeDrawn_L) (ins := [(.flt .f32), (.flt .f32), (.flt .f32), (.int .i64)]) (outs := [.val (.flt .f32), .val (.int .i64)]) (res := [8, 9]) mixed tt_ok ?_ Try.func102 (by kernel_rfl) rfl (by kernel_rfl) (by kernel_rfl) (by decide +kernel)
  · rw [impl_timeDrawn_eq] at h
    exact h
  · intro f e he
    unfold impl_timeDrawn_T at he
    split at he
    · rw [List.mem_singleton.1 he]; exact impl_RootNumber_sound N
    · rw [List.mem_singleton.1 he]; exact impl_nextSeed_sound N
    · cases he

/- impl.TimeDrawn -/
def impl_TimeDrawn (N : Nat) (x0 : Option Nat) (x1 : Option Nat) (x2 : Option Nat) (x3 : Int) : Option (Option Nat × Int × Bool × Unit) :=
  Option.bind (impl_areFinite N ([x0, x1, x2] : List (Option Nat))) fun r1 =>
  cond (!r1.1)
    (some ((toF .f32 0), 0, false, ()))
    (cond (fcmp .leq .f32 x0 x1)
      (cond (!(fcmp .leq .f32 x1 x2))
        (some ((toF .f32 0), 0, false, ()))
        (cond (!(fcmp .gtr .f32 (farith .sub .f32 x2 x0) (toF .f32 0)))
          (some ((toF .f32 0), 0, false, ()))
          (Option.bind (impl_isSeed N x3) fun r2 =>
          cond (!r2.1)
            (some ((toF .f32 0), 0, false, ()))
            (Option.bind (impl_timeDrawn N x0 x1 x2 x3) fun r3 =>
            Option.bind (impl_IsFinite N r3.1) fun r4 =>
            cond (!r4.1)
              (some ((toF .f32 0), 0, false, ()))
              (some (r3.1, r3.2.1, true, ()))))))
      (some ((toF .f32 0), 0, false, ())))
def impl_TimeDrawn_e (N : Nat) : Ent := { ins := [(.flt .f32), (.flt .f32), (.flt .f32), (.int .i64)], outs := [.val (.flt .f32), .val (.int .i64), .val .bool], F := fun x => impl_TimeDrawn N x.1 x.2.1 x.2.2.1 x.2.2.2.1 }
def impl_TimeDrawn_T (N : Nat) : Nat → List EntX
  | 94 => [.pl (impl_IsFinite_e N)]
  | 98 => [.pl (impl_areFinite_e N)]
  | 101 => [.pl (impl_isSeed_e N)]
  | 102 => [.pl (impl_timeDrawn_e N)]
  | _ => []
def impl_TimeDrawn_L : Nat → List (Nat × TK) := fun _ => []
theorem impl_TimeDrawn_eq (N : Nat) : runF N tt (impl_TimeDrawn_T N) impl_TimeDrawn_L [(.flt .f32), (.flt .f32), (.flt .f32), (.int .i64)] [.val (.flt .f32), .val (.int .i64), .val .bool] (bodyOf Try.f45) Try.f45.ntmps [8, 9, 10] = (impl_TimeDrawn_e N).F := by
  funext x
  kernel_rfl
theorem impl_TimeDrawn_sound (N : Nat) : SoundC Try.prog 45 (impl_TimeDrawn_e N) := by
  have h := runF_sound (f := 45) (code := bodyOf Try.f45) (N := N) (T := (impl_TimeDrawn_T N)) (L := impl_TimeDrawn_L) (ins := [(.flt .f32), (.flt .f32), (.flt .f32), (.int .i64)]) (outs := [.val (.flt .f32), .val (.int .i64), .val .bool]) (res := [8, 9, 10]) mixed tt_ok ?_ Try.func45 (by kernel_rfl) rfl (by kernel_rfl) (by kernel_rfl) (by decide +kernel)
  · rw [impl_TimeDrawn_eq] at h
    exact h
  · intro f e he
    unfold impl_TimeDrawn_T at he
    split at he
    · rw [List.mem_singleton.1 he]; exact impl_IsFinite_sound N
    · rw [List.mem_singleton.1 he]; exact impl_areFinite_sound N
    · rw [List.mem_singleton.1 he]; exact impl_isSeed_sound N
    · rw [List.mem_singleton.1 he]; exact impl_timeDrawn_sound N
    · cases he

/- laws.FnExactTimeDrawn -/
def laws_FnExactTimeDrawn (N : Nat) (x0 : Option Nat) (x1 : Option Nat) (x2 : Option Nat) (x3 : Int) : Option (Bool × Unit) :=
  Option.bind (spec_TimeDrawn N x0 x1 x2 x3) fun r1 =>
  Option.bind (impl_TimeDrawn N x0 x1 x2 x3) fun r2 =>
  fconvB .f32 r2.1 .f64 fun v3 =>
  fconvB .f32 r1.1 .f64 fun v4 =>
  Option.bind (laws_sameFloat N v3 v4) fun r5 =>
  cond (!r5.1)
    (some (false, ()))
    (cond (r2.2.1 != r1.2.1)
      (some (false, ()))
      (cond (!(r2.2.2.1 == r1.2.2.1))
        (some (false, ()))
        (some (true, ()))))
def laws_FnExactTimeDrawn_e (N : Nat) : Ent := { ins := [(.flt .f32), (.flt .f32), (.flt .f32), (.int .i64)], outs := [.val .bool], F := fun x => laws_FnExactTimeDrawn N x.1 x.2.1 x.2.2.1 x.2.2.2.1 }
def laws_FnExactTimeDrawn_T (N : Nat) : Nat → List EntX
  | 40 => [.pl (laws_sameFloat_e N)]
  | 44 => [.pl (spec_TimeDrawn_e N)]
  | 45 => [.pl (impl_TimeDrawn_e N)]
  | _ => []
def laws_FnExactTimeDrawn_L : Nat → List (Nat × TK) := fun _ => []
theorem laws_FnExactTimeDrawn_eq (N : Nat) : runF N tt (laws_FnExactTimeDrawn_T N) laws_FnExactTimeDrawn_L [(.flt .f32), (.flt .f32), (.flt .f32), (.int .i64)] [.val .bool] (bodyOf Try.f14) Try.f14.ntmps [8] = (laws_FnExactTimeDrawn_e N).F := by
  funext x
  kernel_rfl
theorem laws_FnExactTimeDrawn_sound (N : Nat) : SoundC Try.prog 14 (laws_FnExactTimeDrawn_e N) := by
  have h := runF_sound (f := 14) (code := bodyOf Try.f14) (N := N) (T := (laws_FnExactTimeDrawn_T N)) (L := laws_FnExactTimeDrawn_L) (ins := [(.flt .f32), (.flt .f32), (.flt .f32), (.int .i64)]) (outs := [.val .bool]) (res := [8]) mixed tt_ok ?_ Try.func14 (by kernel_rfl) rfl (by kernel_rfl) (by kernel_rfl) (by decide +kernel)
  · rw [laws_FnExactTimeDrawn_eq] at h
    exact h
  · intro f e he
    unfold laws_FnExactTimeDrawn_T at he
    split at he
    · rw [List.mem_singleton.1 he]; exact laws_sameFloat_sound N
    · rw [List.mem_singleton.1 he]; exact spec_TimeDrawn_sound N
    · rw [List.mem_singleton.1 he]; exact impl_TimeDrawn_sound N
    · cases he

end Go.Proofs.Ytblmginpolckoaa
