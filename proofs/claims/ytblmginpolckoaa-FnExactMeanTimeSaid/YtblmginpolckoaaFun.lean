/-
  The plain functions of this seat, printed by a program, each equal to the evaluator's run, with its contract. No condition.
-/
import Derived.Test.YtblmginpolckoaaFwV
import Derived.Test.YtblmginpolckoaaChecked
namespace Go.Proofs.Ytblmginpolckoaa
open Go Go.Proofs.Ytblmginpolckoaa.Fw
set_option maxRecDepth 100000
set_option linter.unusedVariables false

theorem mixed : Try.prog.follows .mixedOrders = true := Try.checked.mixed
def tt : Nat → TD
  | 3 => tdInt .i64
  | 4 => tdBool
  | 42 => tdSl (.flt .f32) 4
  | 43 => tdFlt .f32
  | 48 => tdFlt .f64
  | _ => tdNone
theorem tt_3 : TDok Try.prog 3 (tdInt .i64) := tdok_int (b := 8) (by kernel_rfl) (by kernel_rfl)
theorem tt_4 : TDok Try.prog 4 (tdBool) := tdok_bool (b := 1) (by kernel_rfl) (by kernel_rfl)
theorem tt_42 : TDok Try.prog 42 (tdSl (.flt .f32) 4) := tdok_sl (b := 24) (e := 43) (z := (.float .f32 0)) (by kernel_rfl) (by kernel_rfl) (by kernel_rfl) (by decide) (fun _ => by kernel_rfl)
theorem tt_43 : TDok Try.prog 43 (tdFlt .f32) := tdok_flt (b := 4) (by kernel_rfl) (by kernel_rfl)
theorem tt_48 : TDok Try.prog 48 (tdFlt .f64) := tdok_flt (b := 8) (by kernel_rfl) (by kernel_rfl)
theorem tt_ok (t : Nat) : TDok Try.prog t (tt t) := by
  unfold tt
  split
  · exact tt_3
  · exact tt_4
  · exact tt_42
  · exact tt_43
  · exact tt_48
  · exact tdok_none

/- laws.sameFloat -/
def laws_sameFloat (_N : Nat) (x0 : Option Nat) (x1 : Option Nat) : Option (Bool × Unit) :=
  cond (fcmp .neq .f64 x0 x0)
    (cond (fcmp .neq .f64 x0 x0)
      (some ((fcmp .neq .f64 x1 x1), ()))
      (some (false, ())))
    (cond (fcmp .neq .f64 x1 x1)
      (cond (fcmp .neq .f64 x0 x0)
        (some ((fcmp .neq .f64 x1 x1), ()))
        (some (false, ())))
      (cond (fcmp .eql .f64 x0 (toF .f64 0))
        (cond (fcmp .eql .f64 x1 (toF .f64 0))
          (some (((fcmp .gtr .f64 (farith .quo .f64 (toF .f64 4607182418800017408) x0) (toF .f64 0)) == (fcmp .gtr .f64 (farith .quo .f64 (toF .f64 4607182418800017408) x1) (toF .f64 0))), ()))
          (some ((fcmp .eql .f64 x0 x1), ())))
        (some ((fcmp .eql .f64 x0 x1), ()))))
def laws_sameFloat_e (N : Nat) : Ent := { ins := [(.flt .f64), (.flt .f64)], outs := [.val .bool], F := fun x => laws_sameFloat N x.1 x.2.1 }
def laws_sameFloat_T (_ : Nat) : Nat → List EntX := fun _ => []
def laws_sameFloat_L : Nat → List (Nat × TK) := fun _ => []
theorem laws_sameFloat_eq (N : Nat) : runF N tt (laws_sameFloat_T N) laws_sameFloat_L [(.flt .f64), (.flt .f64)] [.val .bool] (bodyOf Try.f40) Try.f40.ntmps [4] = (laws_sameFloat_e N).F := by
  funext x
  kernel_rfl
theorem laws_sameFloat_sound (N : Nat) : SoundC Try.prog 40 (laws_sameFloat_e N) := by
  have h := runF_sound (f := 40) (code := bodyOf Try.f40) (N := N) (T := (laws_sameFloat_T N)) (L := laws_sameFloat_L) (ins := [(.flt .f64), (.flt .f64)]) (outs := [.val .bool]) (res := [4]) mixed tt_ok ?_ Try.func40 (by kernel_rfl) rfl (by kernel_rfl) (by kernel_rfl) (by decide +kernel)
  · rw [laws_sameFloat_eq] at h
    exact h
  · intro f e he
    cases he

/- spec.l01Finite -/
def spec_l01Finite (_N : Nat) (x0 : Option Nat) : Option (Bool × Unit) :=
  some ((fcmp .eql .f32 (farith .sub .f32 x0 x0) (toF .f32 0)), ())
def spec_l01Finite_e (N : Nat) : Ent := { ins := [(.flt .f32)], outs := [.val .bool], F := fun x => spec_l01Finite N x.1 }
def spec_l01Finite_T (_ : Nat) : Nat → List EntX := fun _ => []
def spec_l01Finite_L : Nat → List (Nat × TK) := fun _ => []
theorem spec_l01Finite_eq (N : Nat) : runF N tt (spec_l01Finite_T N) spec_l01Finite_L [(.flt .f32)] [.val .bool] (bodyOf Try.f90) Try.f90.ntmps [2] = (spec_l01Finite_e N).F := by
  funext x
  kernel_rfl
theorem spec_l01Finite_sound (N : Nat) : SoundC Try.prog 90 (spec_l01Finite_e N) := by
  have h := runF_sound (f := 90) (code := bodyOf Try.f90) (N := N) (T := (spec_l01Finite_T N)) (L := spec_l01Finite_L) (ins := [(.flt .f32)]) (outs := [.val .bool]) (res := [2]) mixed tt_ok ?_ Try.func90 (by kernel_rfl) rfl (by kernel_rfl) (by kernel_rfl) (by decide +kernel)
  · rw [spec_l01Finite_eq] at h
    exact h
  · intro f e he
    cases he

/- spec.l03Three -/
def spec_l03Three (N : Nat) (x0 : Option Nat) (x1 : Option Nat) (x2 : Option Nat) : Option (Bool × Unit) :=
  Option.bind (spec_l01Finite N x0) fun r1 =>
  cond r1.1
    (Option.bind (spec_l01Finite N x1) fun r2 =>
    cond r2.1
      (Option.bind (spec_l01Finite N x2) fun r3 =>
      cond r3.1
        (cond (fcmp .leq .f32 x0 x1)
          (some ((fcmp .leq .f32 x1 x2), ()))
          (some (false, ())))
        (some (false, ())))
      (some (false, ())))
    (some (false, ()))
def spec_l03Three_e (N : Nat) : Ent := { ins := [(.flt .f32), (.flt .f32), (.flt .f32)], outs := [.val .bool], F := fun x => spec_l03Three N x.1 x.2.1 x.2.2.1 }
def spec_l03Three_T (N : Nat) : Nat → List EntX
  | 90 => [.pl (spec_l01Finite_e N)]
  | _ => []
def spec_l03Three_L : Nat → List (Nat × TK) := fun _ => []
theorem spec_l03Three_eq (N : Nat) : runF N tt (spec_l03Three_T N) spec_l03Three_L [(.flt .f32), (.flt .f32), (.flt .f32)] [.val .bool] (bodyOf Try.f97) Try.f97.ntmps [6] = (spec_l03Three_e N).F := by
  funext x
  kernel_rfl
theorem spec_l03Three_sound (N : Nat) : SoundC Try.prog 97 (spec_l03Three_e N) := by
  have h := runF_sound (f := 97) (code := bodyOf Try.f97) (N := N) (T := (spec_l03Three_T N)) (L := spec_l03Three_L) (ins := [(.flt .f32), (.flt .f32), (.flt .f32)]) (outs := [.val .bool]) (res := [6]) mixed tt_ok ?_ Try.func97 (by kernel_rfl) rfl (by kernel_rfl) (by kernel_rfl) (by decide +kernel)
  · rw [spec_l03Three_eq] at h
    exact h
  · intro f e he
    unfold spec_l03Three_T at he
    split at he
    · rw [List.mem_singleton.1 he]; exact spec_l01Finite_sound N
    · cases he

/- spec.MeanTime -/
def spec_MeanTime (N : Nat) (x0 : Option Nat) (x1 : Option Nat) (x2 : Option Nat) : Option (Option Nat × Option Nat × Bool × Unit) :=
  Option.bind (spec_l03Three N x0 x1 x2) fun r1 =>
  cond (!r1.1)
    (some ((toF .f32 0), (toF .f32 0), false, ()))
    (Option.bind (spec_l01Finite N (farith .quo .f32 (farith .add .f32 (farith .add .f32 x0 (farith .mul .f32 (toF .f32 1082130432) x1)) x2) (toF .f32 1086324736))) fun r2 =>
    cond (!r2.1)
      (some ((toF .f32 0), (toF .f32 0), false, ()))
      (Option.bind (spec_l01Finite N (farith .mul .f32 (farith .quo .f32 (farith .sub .f32 x2 x0) (toF .f32 1086324736)) (farith .quo .f32 (farith .sub .f32 x2 x0) (toF .f32 1086324736)))) fun r3 =>
      cond (!r3.1)
        (some ((toF .f32 0), (toF .f32 0), false, ()))
        (some ((farith .quo .f32 (farith .add .f32 (farith .add .f32 x0 (farith .mul .f32 (toF .f32 1082130432) x1)) x2) (toF .f32 1086324736)), (farith .mul .f32 (farith .quo .f32 (farith .sub .f32 x2 x0) (toF .f32 1086324736)) (farith .quo .f32 (farith .sub .f32 x2 x0) (toF .f32 1086324736))), true, ()))))
def spec_MeanTime_e (N : Nat) : Ent := { ins := [(.flt .f32), (.flt .f32), (.flt .f32)], outs := [.val (.flt .f32), .val (.flt .f32), .val .bool], F := fun x => spec_MeanTime N x.1 x.2.1 x.2.2.1 }
def spec_MeanTime_T (N : Nat) : Nat → List EntX
  | 90 => [.pl (spec_l01Finite_e N)]
  | 97 => [.pl (spec_l03Three_e N)]
  | _ => []
def spec_MeanTime_L : Nat → List (Nat × TK) := fun _ => []
theorem spec_MeanTime_eq (N : Nat) : runF N tt (spec_MeanTime_T N) spec_MeanTime_L [(.flt .f32), (.flt .f32), (.flt .f32)] [.val (.flt .f32), .val (.flt .f32), .val .bool] (bodyOf Try.f42) Try.f42.ntmps [6, 7, 8] = (spec_MeanTime_e N).F := by
  funext x
  kernel_rfl
theorem spec_MeanTime_sound (N : Nat) : SoundC Try.prog 42 (spec_MeanTime_e N) := by
  have h := runF_sound (f := 42) (code := bodyOf Try.f42) (N := N) (T := (spec_MeanTime_T N)) (L := spec_MeanTime_L) (ins := [(.flt .f32), (.flt .f32), (.flt .f32)]) (outs := [.val (.flt .f32), .val (.flt .f32), .val .bool]) (res := [6, 7, 8]) mixed tt_ok ?_ Try.func42 (by kernel_rfl) rfl (by kernel_rfl) (by kernel_rfl) (by decide +kernel)
  · rw [spec_MeanTime_eq] at h
    exact h
  · intro f e he
    unfold spec_MeanTime_T at he
    split at he
    · rw [List.mem_singleton.1 he]; exact spec_l01Finite_sound N
    · rw [List.mem_singleton.1 he]; exact spec_l03Three_sound N
    · cases he

/- impl.IsFinite -/
def impl_IsFinite (_N : Nat) (x0 : Option Nat) : Option (Bool × Unit) :=
  some ((fcmp .eql .f32 (farith .sub .f32 x0 x0) (toF .f32 0)), ())
def impl_IsFinite_e (N : Nat) : Ent := { ins := [(.flt .f32)], outs := [.val .bool], F := fun x => impl_IsFinite N x.1 }
def impl_IsFinite_T (_ : Nat) : Nat → List EntX := fun _ => []
def impl_IsFinite_L : Nat → List (Nat × TK) := fun _ => []
theorem impl_IsFinite_eq (N : Nat) : runF N tt (impl_IsFinite_T N) impl_IsFinite_L [(.flt .f32)] [.val .bool] (bodyOf Try.f94) Try.f94.ntmps [2] = (impl_IsFinite_e N).F := by
  funext x
  kernel_rfl
theorem impl_IsFinite_sound (N : Nat) : SoundC Try.prog 94 (impl_IsFinite_e N) := by
  have h := runF_sound (f := 94) (code := bodyOf Try.f94) (N := N) (T := (impl_IsFinite_T N)) (L := impl_IsFinite_L) (ins := [(.flt .f32)]) (outs := [.val .bool]) (res := [2]) mixed tt_ok ?_ Try.func94 (by kernel_rfl) rfl (by kernel_rfl) (by kernel_rfl) (by decide +kernel)
  · rw [impl_IsFinite_eq] at h
    exact h
  · intro f e he
    cases he

/- impl.areFinite$1 -/
def impl_areFinite_1 (N : Nat) (x0 : Option Nat) : Option (Bool × Unit) :=
  Option.bind (impl_IsFinite N x0) fun r1 =>
  some ((!r1.1), ())
def impl_areFinite_1_e (N : Nat) : Ent := { ins := [(.flt .f32)], outs := [.val .bool], F := fun x => impl_areFinite_1 N x.1 }
def impl_areFinite_1_T (N : Nat) : Nat → List EntX
  | 94 => [.pl (impl_IsFinite_e N)]
  | _ => []
def impl_areFinite_1_L : Nat → List (Nat × TK) := fun _ => []
theorem impl_areFinite_1_eq (N : Nat) : runF N tt (impl_areFinite_1_T N) impl_areFinite_1_L [(.flt .f32)] [.val .bool] (bodyOf Try.f129) Try.f129.ntmps [2] = (impl_areFinite_1_e N).F := by
  funext x
  kernel_rfl
theorem impl_areFinite_1_sound (N : Nat) : SoundC Try.prog 129 (impl_areFinite_1_e N) := by
  have h := runF_sound (f := 129) (code := bodyOf Try.f129) (N := N) (T := (impl_areFinite_1_T N)) (L := impl_areFinite_1_L) (ins := [(.flt .f32)]) (outs := [.val .bool]) (res := [2]) mixed tt_ok ?_ Try.func129 (by kernel_rfl) rfl (by kernel_rfl) (by kernel_rfl) (by decide +kernel)
  · rw [impl_areFinite_1_eq] at h
    exact h
  · intro f e he
    unfold impl_areFinite_1_T at he
    split at he
    · rw [List.mem_singleton.1 he]; exact impl_IsFinite_sound N
    · cases he

/- slices.IndexFunc[[]float32,float32] -/
def slices_IndexFunc_float32_float32_impl_areFinite_1 (N : Nat) (x0 : List (Option Nat)) (x1 : Unit) : Option (Int × Unit) :=
  loopN (fun (s1 : Int × Unit) next2 =>
    cond (decide (s1.1 < (List.length x0 : Int)))
      (Option.bind (idx x0 s1.1) fun v3 =>
      Option.bind (impl_areFinite_1 N v3) fun r4 =>
      cond r4.1
        (some (s1.1, ()))
        (next2 ((w64 (s1.1 + 1)), ())))
      (some ((-1), ()))) N (0, ())
def slices_IndexFunc_float32_float32_impl_areFinite_1_e (N : Nat) : Ent := { ins := [(.sl (.flt .f32)), (.clo 129 .un)], outs := [.val (.int .i64)], F := fun x => slices_IndexFunc_float32_float32_impl_areFinite_1 N x.1 x.2.1 }
def slices_IndexFunc_float32_float32_impl_areFinite_1_T (N : Nat) : Nat → List EntX
  | 129 => [.pl (impl_areFinite_1_e N)]
  | _ => []
def slices_IndexFunc_float32_float32_impl_areFinite_1_L : Nat → List (Nat × TK)
  | 2 => [(8, .v (.int .i64))]
  | _ => []
theorem slices_IndexFunc_float32_float32_impl_areFinite_1_eq (N : Nat) : runF N tt (slices_IndexFunc_float32_float32_impl_areFinite_1_T N) slices_IndexFunc_float32_float32_impl_areFinite_1_L [(.sl (.flt .f32)), (.clo 129 .un)] [.val (.int .i64)] (bodyOf Try.f138) Try.f138.ntmps [4] = (slices_IndexFunc_float32_float32_impl_areFinite_1_e N).F := by
  funext x
  kernel_rfl
theorem slices_IndexFunc_float32_float32_impl_areFinite_1_sound (N : Nat) : SoundC Try.prog 138 (slices_IndexFunc_float32_float32_impl_areFinite_1_e N) := by
  have h := runF_sound (f := 138) (code := bodyOf Try.f138) (N := N) (T := (slices_IndexFunc_float32_float32_impl_areFinite_1_T N)) (L := slices_IndexFunc_float32_float32_impl_areFinite_1_L) (ins := [(.sl (.flt .f32)), (.clo 129 .un)]) (outs := [.val (.int .i64)]) (res := [4]) mixed tt_ok ?_ Try.func138 (by kernel_rfl) rfl (by kernel_rfl) (by kernel_rfl) (by decide +kernel)
  · rw [slices_IndexFunc_float32_float32_impl_areFinite_1_eq] at h
    exact h
  · intro f e he
    unfold slices_IndexFunc_float32_float32_impl_areFinite_1_T at he
    split at he
    · rw [List.mem_singleton.1 he]; exact impl_areFinite_1_sound N
    · cases he

/- slices.ContainsFunc[[]float32,float32] -/
def slices_ContainsFunc_float32_float32_impl_areFinite_1 (N : Nat) (x0 : List (Option Nat)) (x1 : Unit) : Option (Bool × Unit) :=
  Option.bind (slices_IndexFunc_float32_float32_impl_areFinite_1 N x0 x1) fun r1 =>
  some ((decide (r1.1 ≥ 0)), ())
def slices_ContainsFunc_float32_float32_impl_areFinite_1_e (N : Nat) : Ent := { ins := [(.sl (.flt .f32)), (.clo 129 .un)], outs := [.val .bool], F := fun x => slices_ContainsFunc_float32_float32_impl_areFinite_1 N x.1 x.2.1 }
def slices_ContainsFunc_float32_float32_impl_areFinite_1_T (N : Nat) : Nat → List EntX
  | 138 => [.pl (slices_IndexFunc_float32_float32_impl_areFinite_1_e N)]
  | _ => []
def slices_ContainsFunc_float32_float32_impl_areFinite_1_L : Nat → List (Nat × TK) := fun _ => []
theorem slices_ContainsFunc_float32_float32_impl_areFinite_1_eq (N : Nat) : runF N tt (slices_ContainsFunc_float32_float32_impl_areFinite_1_T N) slices_ContainsFunc_float32_float32_impl_areFinite_1_L [(.sl (.flt .f32)), (.clo 129 .un)] [.val .bool] (bodyOf Try.f127) Try.f127.ntmps [4] = (slices_ContainsFunc_float32_float32_impl_areFinite_1_e N).F := by
  funext x
  kernel_rfl
theorem slices_ContainsFunc_float32_float32_impl_areFinite_1_sound (N : Nat) : SoundC Try.prog 127 (slices_ContainsFunc_float32_float32_impl_areFinite_1_e N) := by
  have h := runF_sound (f := 127) (code := bodyOf Try.f127) (N := N) (T := (slices_ContainsFunc_float32_float32_impl_areFinite_1_T N)) (L := slices_ContainsFunc_float32_float32_impl_areFinite_1_L) (ins := [(.sl (.flt .f32)), (.clo 129 .un)]) (outs := [.val .bool]) (res := [4]) mixed tt_ok ?_ Try.func127 (by kernel_rfl) rfl (by kernel_rfl) (by kernel_rfl) (by decide +kernel)
  · rw [slices_ContainsFunc_float32_float32_impl_areFinite_1_eq] at h
    exact h
  · intro f e he
    unfold slices_ContainsFunc_float32_float32_impl_areFinite_1_T at he
    split at he
    · rw [List.mem_singleton.1 he]; exact slices_IndexFunc_float32_float32_impl_areFinite_1_sound N
    · cases he

/- impl.areFinite -/
def impl_areFinite (N : Nat) (x0 : List (Option Nat)) : Option (Bool × Unit) :=
  Option.bind (slices_ContainsFunc_float32_float32_impl_areFinite_1 N x0 ()) fun r1 =>
  some ((!r1.1), ())
def impl_areFinite_e (N : Nat) : Ent := { ins := [(.sl (.flt .f32))], outs := [.val .bool], F := fun x => impl_areFinite N x.1 }
def impl_areFinite_T (N : Nat) : Nat → List EntX
  | 127 => [.pl (slices_ContainsFunc_float32_float32_impl_areFinite_1_e N)]
  | _ => []
def impl_areFinite_L : Nat → List (Nat × TK) := fun _ => []
theorem impl_areFinite_eq (N : Nat) : runF N tt (impl_areFinite_T N) impl_areFinite_L [(.sl (.flt .f32))] [.val .bool] (bodyOf Try.f98) Try.f98.ntmps [2] = (impl_areFinite_e N).F := by
  funext x
  kernel_rfl
theorem impl_areFinite_sound (N : Nat) : SoundC Try.prog 98 (impl_areFinite_e N) := by
  have h := runF_sound (f := 98) (code := bodyOf Try.f98) (N := N) (T := (impl_areFinite_T N)) (L := impl_areFinite_L) (ins := [(.sl (.flt .f32))]) (outs := [.val .bool]) (res := [2]) mixed tt_ok ?_ Try.func98 (by kernel_rfl) rfl (by kernel_rfl) (by kernel_rfl) (by decide +kernel)
  · rw [impl_areFinite_eq] at h
    exact h
  · intro f e he
    unfold impl_areFinite_T at he
    split at he
    · rw [List.mem_singleton.1 he]; exact slices_ContainsFunc_float32_float32_impl_areFinite_1_sound N
    · cases he

/- impl.MeanTime -/
def impl_MeanTime (N : Nat) (x0 : Option Nat) (x1 : Option Nat) (x2 : Option Nat) : Option (Option Nat × Option Nat × Bool × Unit) :=
  Option.bind (impl_areFinite N ([x0, x1, x2] : List (Option Nat))) fun r1 =>
  cond (!r1.1)
    (some ((toF .f32 0), (toF .f32 0), false, ()))
    (cond (fcmp .leq .f32 x0 x1)
      (cond (!(fcmp .leq .f32 x1 x2))
        (some ((toF .f32 0), (toF .f32 0), false, ()))
        (Option.bind (impl_areFinite N ([(farith .quo .f32 (farith .add .f32 (farith .add .f32 x0 (farith .mul .f32 (toF .f32 1082130432) x1)) x2) (toF .f32 1086324736)), (farith .mul .f32 (farith .quo .f32 (farith .sub .f32 x2 x0) (toF .f32 1086324736)) (farith .quo .f32 (farith .sub .f32 x2 x0) (toF .f32 1086324736)))] : List (Option Nat))) fun r2 =>
        cond (!r2.1)
          (some ((toF .f32 0), (toF .f32 0), false, ()))
          (some ((farith .quo .f32 (farith .add .f32 (farith .add .f32 x0 (farith .mul .f32 (toF .f32 1082130432) x1)) x2) (toF .f32 1086324736)), (farith .mul .f32 (farith .quo .f32 (farith .sub .f32 x2 x0) (toF .f32 1086324736)) (farith .quo .f32 (farith .sub .f32 x2 x0) (toF .f32 1086324736))), true, ()))))
      (some ((toF .f32 0), (toF .f32 0), false, ())))
def impl_MeanTime_e (N : Nat) : Ent := { ins := [(.flt .f32), (.flt .f32), (.flt .f32)], outs := [.val (.flt .f32), .val (.flt .f32), .val .bool], F := fun x => impl_MeanTime N x.1 x.2.1 x.2.2.1 }
def impl_MeanTime_T (N : Nat) : Nat → List EntX
  | 98 => [.pl (impl_areFinite_e N)]
  | _ => []
def impl_MeanTime_L : Nat → List (Nat × TK) := fun _ => []
theorem impl_MeanTime_eq (N : Nat) : runF N tt (impl_MeanTime_T N) impl_MeanTime_L [(.flt .f32), (.flt .f32), (.flt .f32)] [.val (.flt .f32), .val (.flt .f32), .val .bool] (bodyOf Try.f43) Try.f43.ntmps [6, 7, 8] = (impl_MeanTime_e N).F := by
  funext x
  kernel_rfl
theorem impl_MeanTime_sound (N : Nat) : SoundC Try.prog 43 (impl_MeanTime_e N) := by
  have h := runF_sound (f := 43) (code := bodyOf Try.f43) (N := N) (T := (impl_MeanTime_T N)) (L := impl_MeanTime_L) (ins := [(.flt .f32), (.flt .f32), (.flt .f32)]) (outs := [.val (.flt .f32), .val (.flt .f32), .val .bool]) (res := [6, 7, 8]) mixed tt_ok ?_ Try.func43 (by kernel_rfl) rfl (by kernel_rfl) (by kernel_rfl) (by decide +kernel)
  · rw [impl_MeanTime_eq] at h
    exact h
  · intro f e he
    unfold impl_MeanTime_T at he
    split at he
    · rw [List.mem_singleton.1 he]; exact impl_areFinite_sound N
    · cases he

/- laws.FnExactMeanTime -/
def laws_FnExactMeanTime (N : Nat) (x0 : Option Nat) (x1 : Option Nat) (x2 : Option Nat) : Option (Bool × Unit) :=
  Option.bind (spec_MeanTime N x0 x1 x2) fun r1 =>
  Option.bind (impl_MeanTime N x0 x1 x2) fun r2 =>
  Option.bind (fconvA .f32 r2.1 .f64) fun v3 =>
  Option.bind (fconvA .f32 r1.1 .f64) fun v4 =>
  Option.bind (laws_sameFloat N (toF .f64 v3) (toF .f64 v4)) fun r5 =>
  cond (!r5.1)
    (some (false, ()))
    (Option.bind (fconvA .f32 r2.2.1 .f64) fun v6 =>
    Option.bind (fconvA .f32 r1.2.1 .f64) fun v7 =>
    Option.bind (laws_sameFloat N (toF .f64 v6) (toF .f64 v7)) fun r8 =>
    cond (!r8.1)
      (some (false, ()))
      (cond (!(r2.2.2.1 == r1.2.2.1))
        (some (false, ()))
        (some (true, ()))))
def laws_FnExactMeanTime_e (N : Nat) : Ent := { ins := [(.flt .f32), (.flt .f32), (.flt .f32)], outs := [.val .bool], F := fun x => laws_FnExactMeanTime N x.1 x.2.1 x.2.2.1 }
def laws_FnExactMeanTime_T (N : Nat) : Nat → List EntX
  | 40 => [.pl (laws_sameFloat_e N)]
  | 42 => [.pl (spec_MeanTime_e N)]
  | 43 => [.pl (impl_MeanTime_e N)]
  | _ => []
def laws_FnExactMeanTime_L : Nat → List (Nat × TK) := fun _ => []
theorem laws_FnExactMeanTime_eq (N : Nat) : runF N tt (laws_FnExactMeanTime_T N) laws_FnExactMeanTime_L [(.flt .f32), (.flt .f32), (.flt .f32)] [.val .bool] (bodyOf Try.f13) Try.f13.ntmps [6] = (laws_FnExactMeanTime_e N).F := by
  funext x
  kernel_rfl
theorem laws_FnExactMeanTime_sound (N : Nat) : SoundC Try.prog 13 (laws_FnExactMeanTime_e N) := by
  have h := runF_sound (f := 13) (code := bodyOf Try.f13) (N := N) (T := (laws_FnExactMeanTime_T N)) (L := laws_FnExactMeanTime_L) (ins := [(.flt .f32), (.flt .f32), (.flt .f32)]) (outs := [.val .bool]) (res := [6]) mixed tt_ok ?_ Try.func13 (by kernel_rfl) rfl (by kernel_rfl) (by kernel_rfl) (by decide +kernel)
  · rw [laws_FnExactMeanTime_eq] at h
    exact h
  · intro f e he
    unfold laws_FnExactMeanTime_T at he
    split at he
    · rw [List.mem_singleton.1 he]; exact laws_sameFloat_sound N
    · rw [List.mem_singleton.1 he]; exact spec_MeanTime_sound N
    · rw [List.mem_singleton.1 he]; exact impl_MeanTime_sound N
    · cases he

end Go.Proofs.Ytblmginpolckoaa
