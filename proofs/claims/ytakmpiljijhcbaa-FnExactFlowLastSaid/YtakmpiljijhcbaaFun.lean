/-
  The plain functions of this seat, printed by a program, each equal to the evaluator's run, with its contract. No condition.
-/
import Derived.Test.YtakmpiljijhcbaaFwV
import Derived.Test.YtakmpiljijhcbaaChecked
namespace Go.Proofs.Ytakmpiljijhcbaa
open Go Go.Proofs.Ytakmpiljijhcbaa.Fw
set_option maxRecDepth 100000
set_option linter.unusedVariables false

theorem mixed : Try.prog.follows .mixedOrders = true := Try.checked.mixed
def tt : Nat → TD
  | 2 => tdInt .i64
  | 3 => tdInt .i64
  | 4 => tdBool
  | 22 => tdSl (.pair (.int .i64) (.pair (.int .i64) (.pair (.int .i64) (.int .i64)))) 32
  | 25 => tdSl (.pair (.int .i64) (.pair (.int .i64) (.pair (.int .i64) (.int .i64)))) 32
  | 28 => tdSl (.pair (.int .i64) (.pair (.int .i64) (.pair (.int .i64) (.int .i64)))) 32
  | 31 => tdSl (.pair (.int .i64) (.pair (.int .i64) (.pair (.int .i64) (.int .i64)))) 32
  | 34 => tdSl (.int .i64) 8
  | 43 => tdSl (.pair (.int .i64) (.pair (.int .i64) (.pair (.sl (.int .i64)) (.sl (.int .i64))))) 64
  | 46 => tdSl (.pair (.int .i64) (.pair (.int .i64) (.pair (.sl (.int .i64)) (.sl (.int .i64))))) 64
  | 58 => tdSt 4 [(0, 1, false), (1, 1, false), (2, 1, false), (3, 1, false)] [.g (.int .i64) (0 : Int), .g (.int .i64) (0 : Int), .g (.int .i64) (0 : Int), .g (.int .i64) (0 : Int)] (some (stI [.i64, .i64, .i64, .i64]))
  | 60 => tdSt 4 [(0, 1, false), (1, 1, false), (2, 1, false), (3, 1, false)] [.g (.int .i64) (0 : Int), .g (.int .i64) (0 : Int), .g (.int .i64) (0 : Int), .g (.int .i64) (0 : Int)]
  | 63 => tdSt 4 [(0, 1, false), (1, 1, false), (2, 1, false), (3, 1, false)] [.g (.int .i64) (0 : Int), .g (.int .i64) (0 : Int), .g (.int .i64) (0 : Int), .g (.int .i64) (0 : Int)] (some (stI [.i64, .i64, .i64, .i64]))
  | 65 => tdSt 4 [(0, 1, false), (1, 1, false), (2, 1, false), (3, 1, false)] [.g (.int .i64) (0 : Int), .g (.int .i64) (0 : Int), .g (.int .i64) (0 : Int), .g (.int .i64) (0 : Int)]
  | 76 => tdSt 4 [(0, 1, false), (1, 1, false), (2, 1, false), (3, 1, false)] [.g (.int .i64) (0 : Int), .g (.int .i64) (0 : Int), .nil, .nil]
  | 77 => tdSt 4 [(0, 1, false), (1, 1, false), (2, 1, false), (3, 1, false)] [.g (.int .i64) (0 : Int), .g (.int .i64) (0 : Int), .nil, .nil]
  | 84 => tdSt 3 [(0, 1, false), (1, 1, false), (2, 1, false)] [.nil, .g (.int .i64) (0 : Int), .g (.int .i64) (0 : Int)]
  | 96 => tdSl .bool 1
  | _ => tdNone
theorem tt_2 : TDok Try.prog 2 (tdInt .i64) := tdok_int (b := 8) (by kernel_rfl) (by kernel_rfl)
theorem tt_3 : TDok Try.prog 3 (tdInt .i64) := tdok_int (b := 8) (by kernel_rfl) (by kernel_rfl)
theorem tt_4 : TDok Try.prog 4 (tdBool) := tdok_bool (b := 1) (by kernel_rfl) (by kernel_rfl)
theorem tt_22 : TDok Try.prog 22 (tdSl (.pair (.int .i64) (.pair (.int .i64) (.pair (.int .i64) (.int .i64)))) 32) := tdok_sl (b := 24) (e := 60) (z := (.agg #[(.int .i64 0), (.int .i64 0), (.int .i64 0), (.int .i64 0)])) (by kernel_rfl) (by kernel_rfl) (by kernel_rfl) (by decide) (fun _ => by kernel_rfl)
theorem tt_25 : TDok Try.prog 25 (tdSl (.pair (.int .i64) (.pair (.int .i64) (.pair (.int .i64) (.int .i64)))) 32) := tdok_sl (b := 24) (e := 58) (z := (.agg #[(.int .i64 0), (.int .i64 0), (.int .i64 0), (.int .i64 0)])) (by kernel_rfl) (by kernel_rfl) (by kernel_rfl) (by decide) (fun _ => by kernel_rfl)
theorem tt_28 : TDok Try.prog 28 (tdSl (.pair (.int .i64) (.pair (.int .i64) (.pair (.int .i64) (.int .i64)))) 32) := tdok_sl (b := 24) (e := 65) (z := (.agg #[(.int .i64 0), (.int .i64 0), (.int .i64 0), (.int .i64 0)])) (by kernel_rfl) (by kernel_rfl) (by kernel_rfl) (by decide) (fun _ => by kernel_rfl)
theorem tt_31 : TDok Try.prog 31 (tdSl (.pair (.int .i64) (.pair (.int .i64) (.pair (.int .i64) (.int .i64)))) 32) := tdok_sl (b := 24) (e := 63) (z := (.agg #[(.int .i64 0), (.int .i64 0), (.int .i64 0), (.int .i64 0)])) (by kernel_rfl) (by kernel_rfl) (by kernel_rfl) (by decide) (fun _ => by kernel_rfl)
theorem tt_34 : TDok Try.prog 34 (tdSl (.int .i64) 8) := tdok_sl (b := 24) (e := 2) (z := (.int .i64 0)) (by kernel_rfl) (by kernel_rfl) (by kernel_rfl) (by decide) (fun _ => by kernel_rfl)
theorem tt_43 : TDok Try.prog 43 (tdSl (.pair (.int .i64) (.pair (.int .i64) (.pair (.sl (.int .i64)) (.sl (.int .i64))))) 64) := tdok_sl (b := 24) (e := 76) (z := (.agg #[(.int .i64 0), (.int .i64 0), (.slice none 0 0), (.slice none 0 0)])) (by kernel_rfl) (by kernel_rfl) (by kernel_rfl) (by decide) (fun _ => by kernel_rfl)
theorem tt_46 : TDok Try.prog 46 (tdSl (.pair (.int .i64) (.pair (.int .i64) (.pair (.sl (.int .i64)) (.sl (.int .i64))))) 64) := tdok_sl (b := 24) (e := 77) (z := (.agg #[(.int .i64 0), (.int .i64 0), (.slice none 0 0), (.slice none 0 0)])) (by kernel_rfl) (by kernel_rfl) (by kernel_rfl) (by decide) (fun _ => by kernel_rfl)
theorem tt_58 : TDok Try.prog 58 (tdSt 4 [(0, 1, false), (1, 1, false), (2, 1, false), (3, 1, false)] [.g (.int .i64) (0 : Int), .g (.int .i64) (0 : Int), .g (.int .i64) (0 : Int), .g (.int .i64) (0 : Int)] (some (stI [.i64, .i64, .i64, .i64]))) := tdok_stE (b := 32) (z := (.agg #[(.int .i64 0), (.int .i64 0), (.int .i64 0), (.int .i64 0)])) (by kernel_rfl) (by kernel_rfl) (by kernel_rfl) (by kernel_rfl) (by kernel_rfl) (fun s h => by cases h; exact eqs_st (ks := [.i64, .i64, .i64, .i64]) (by decide) (by kernel_rfl) (by kernel_rfl) (by kernel_rfl))
theorem tt_60 : TDok Try.prog 60 (tdSt 4 [(0, 1, false), (1, 1, false), (2, 1, false), (3, 1, false)] [.g (.int .i64) (0 : Int), .g (.int .i64) (0 : Int), .g (.int .i64) (0 : Int), .g (.int .i64) (0 : Int)]) := tdok_st (b := 32) (z := (.agg #[(.int .i64 0), (.int .i64 0), (.int .i64 0), (.int .i64 0)])) (by kernel_rfl) (by kernel_rfl) (by kernel_rfl) (by kernel_rfl) (by kernel_rfl)
theorem tt_63 : TDok Try.prog 63 (tdSt 4 [(0, 1, false), (1, 1, false), (2, 1, false), (3, 1, false)] [.g (.int .i64) (0 : Int), .g (.int .i64) (0 : Int), .g (.int .i64) (0 : Int), .g (.int .i64) (0 : Int)] (some (stI [.i64, .i64, .i64, .i64]))) := tdok_stE (b := 32) (z := (.agg #[(.int .i64 0), (.int .i64 0), (.int .i64 0), (.int .i64 0)])) (by kernel_rfl) (by kernel_rfl) (by kernel_rfl) (by kernel_rfl) (by kernel_rfl) (fun s h => by cases h; exact eqs_st (ks := [.i64, .i64, .i64, .i64]) (by decide) (by kernel_rfl) (by kernel_rfl) (by kernel_rfl))
theorem tt_65 : TDok Try.prog 65 (tdSt 4 [(0, 1, false), (1, 1, false), (2, 1, false), (3, 1, false)] [.g (.int .i64) (0 : Int), .g (.int .i64) (0 : Int), .g (.int .i64) (0 : Int), .g (.int .i64) (0 : Int)]) := tdok_st (b := 32) (z := (.agg #[(.int .i64 0), (.int .i64 0), (.int .i64 0), (.int .i64 0)])) (by kernel_rfl) (by kernel_rfl) (by kernel_rfl) (by kernel_rfl) (by kernel_rfl)
theorem tt_76 : TDok Try.prog 76 (tdSt 4 [(0, 1, false), (1, 1, false), (2, 1, false), (3, 1, false)] [.g (.int .i64) (0 : Int), .g (.int .i64) (0 : Int), .nil, .nil]) := tdok_st (b := 64) (z := (.agg #[(.int .i64 0), (.int .i64 0), (.slice none 0 0), (.slice none 0 0)])) (by kernel_rfl) (by kernel_rfl) (by kernel_rfl) (by kernel_rfl) (by kernel_rfl)
theorem tt_77 : TDok Try.prog 77 (tdSt 4 [(0, 1, false), (1, 1, false), (2, 1, false), (3, 1, false)] [.g (.int .i64) (0 : Int), .g (.int .i64) (0 : Int), .nil, .nil]) := tdok_st (b := 64) (z := (.agg #[(.int .i64 0), (.int .i64 0), (.slice none 0 0), (.slice none 0 0)])) (by kernel_rfl) (by kernel_rfl) (by kernel_rfl) (by kernel_rfl) (by kernel_rfl)
theorem tt_84 : TDok Try.prog 84 (tdSt 3 [(0, 1, false), (1, 1, false), (2, 1, false)] [.nil, .g (.int .i64) (0 : Int), .g (.int .i64) (0 : Int)]) := tdok_st (b := 40) (z := (.agg #[(.slice none 0 0), (.int .i64 0), (.int .i64 0)])) (by kernel_rfl) (by kernel_rfl) (by kernel_rfl) (by kernel_rfl) (by kernel_rfl)
theorem tt_96 : TDok Try.prog 96 (tdSl .bool 1) := tdok_sl (b := 24) (e := 4) (z := (.bool false)) (by kernel_rfl) (by kernel_rfl) (by kernel_rfl) (by decide) (fun _ => by kernel_rfl)
theorem tt_ok (t : Nat) : TDok Try.prog t (tt t) := by
  unfold tt
  split
  · exact tt_2
  · exact tt_3
  · exact tt_4
  · exact tt_22
  · exact tt_25
  · exact tt_28
  · exact tt_31
  · exact tt_34
  · exact tt_43
  · exact tt_46
  · exact tt_58
  · exact tt_60
  · exact tt_63
  · exact tt_65
  · exact tt_76
  · exact tt_77
  · exact tt_84
  · exact tt_96
  · exact tdok_none

/- laws.szArcS -/
def laws_szArcS (_N : Nat) (x0 : List (Int × Int × Int × Int)) (x1 : Int) : Option (Int × Unit) :=
  cond (decide ((w64 (x1 - (List.length x0 : Int))) < 0))
    (some ((-1), ()))
    (some ((w64 (x1 - (List.length x0 : Int))), ()))
def laws_szArcS_e (N : Nat) : Ent := { ins := [(.sl (.pair (.int .i64) (.pair (.int .i64) (.pair (.int .i64) (.int .i64))))), (.int .i64)], outs := [.val (.int .i64)], F := fun x => laws_szArcS N x.1 x.2.1 }
def laws_szArcS_T (_ : Nat) : Nat → List EntX := fun _ => []
def laws_szArcS_L : Nat → List (Nat × TK) := fun _ => []
theorem laws_szArcS_eq (N : Nat) : runF N tt (laws_szArcS_T N) laws_szArcS_L [(.sl (.pair (.int .i64) (.pair (.int .i64) (.pair (.int .i64) (.int .i64))))), (.int .i64)] [.val (.int .i64)] (bodyOf Try.f15) Try.f15.ntmps [4] = (laws_szArcS_e N).F := by
  funext x
  kernel_rfl
theorem laws_szArcS_sound (N : Nat) : SoundC Try.prog 15 (laws_szArcS_e N) := by
  have h := runF_sound (f := 15) (code := bodyOf Try.f15) (N := N) (T := laws_szArcS_T N) (L := laws_szArcS_L) (ins := [(.sl (.pair (.int .i64) (.pair (.int .i64) (.pair (.int .i64) (.int .i64))))), (.int .i64)]) (outs := [.val (.int .i64)]) (res := [4]) mixed tt_ok ?_ Try.func15 (by kernel_rfl) rfl (by kernel_rfl) (by kernel_rfl) (by decide +kernel)
  · rw [laws_szArcS_eq] at h
    exact h
  · intro f e he
    cases he

/- spec.SameArcs -/
def spec_SameArcs (N : Nat) (x0 : List (Int × Int × Int × Int)) (x1 : List (Int × Int × Int × Int)) : Option (Bool × Unit) :=
  cond ((List.length x0 : Int) != (List.length x1 : Int))
    (some (false, ()))
    (loopN (fun (s1 : Int × Unit) next2 =>
      cond (decide (s1.1 < (List.length x0 : Int)))
        (Option.bind (idx x0 s1.1) fun v3 =>
        Option.bind (idx x1 s1.1) fun v4 =>
        cond (!((v3.1 == v4.1) && ((v3.2.1 == v4.2.1) && ((v3.2.2.1 == v4.2.2.1) && (v3.2.2.2 == v4.2.2.2)))))
          (some (false, ()))
          (next2 ((w64 (s1.1 + 1)), ())))
        (some (true, ()))) N (0, ()))
def spec_SameArcs_e (N : Nat) : Ent := { ins := [(.sl (.pair (.int .i64) (.pair (.int .i64) (.pair (.int .i64) (.int .i64))))), (.sl (.pair (.int .i64) (.pair (.int .i64) (.pair (.int .i64) (.int .i64)))))], outs := [.val .bool], F := fun x => spec_SameArcs N x.1 x.2.1 }
def spec_SameArcs_T (_ : Nat) : Nat → List EntX := fun _ => []
def spec_SameArcs_L : Nat → List (Nat × TK)
  | 4 => [(13, .v (.int .i64))]
  | _ => []
theorem spec_SameArcs_eq (N : Nat) : runF N tt (spec_SameArcs_T N) spec_SameArcs_L [(.sl (.pair (.int .i64) (.pair (.int .i64) (.pair (.int .i64) (.int .i64))))), (.sl (.pair (.int .i64) (.pair (.int .i64) (.pair (.int .i64) (.int .i64)))))] [.val .bool] (bodyOf Try.f16) Try.f16.ntmps [4] = (spec_SameArcs_e N).F := by
  funext x
  kernel_rfl
theorem spec_SameArcs_sound (N : Nat) : SoundC Try.prog 16 (spec_SameArcs_e N) := by
  have h := runF_sound (f := 16) (code := bodyOf Try.f16) (N := N) (T := spec_SameArcs_T N) (L := spec_SameArcs_L) (ins := [(.sl (.pair (.int .i64) (.pair (.int .i64) (.pair (.int .i64) (.int .i64))))), (.sl (.pair (.int .i64) (.pair (.int .i64) (.pair (.int .i64) (.int .i64)))))]) (outs := [.val .bool]) (res := [4]) mixed tt_ok ?_ Try.func16 (by kernel_rfl) rfl (by kernel_rfl) (by kernel_rfl) (by decide +kernel)
  · rw [spec_SameArcs_eq] at h
    exact h
  · intro f e he
    cases he

/- laws.toArc -/
def laws_toArc (_N : Nat) (x0 : Int × Int × Int × Int) : Option ((Int × Int × Int × Int) × Unit) :=
  some ((x0.1, (x0.2.1, (x0.2.2.1, x0.2.2.2))), ())
def laws_toArc_e (N : Nat) : Ent := { ins := [(.pair (.int .i64) (.pair (.int .i64) (.pair (.int .i64) (.int .i64))))], outs := [.val (.pair (.int .i64) (.pair (.int .i64) (.pair (.int .i64) (.int .i64))))], F := fun x => laws_toArc N x.1 }
def laws_toArc_T (_ : Nat) : Nat → List EntX := fun _ => []
def laws_toArc_L : Nat → List (Nat × TK) := fun _ => []
theorem laws_toArc_eq (N : Nat) : runC N tt (laws_toArc_T N) laws_toArc_L [(.pair (.int .i64) (.pair (.int .i64) (.pair (.int .i64) (.int .i64))))] [.val (.pair (.int .i64) (.pair (.int .i64) (.pair (.int .i64) (.int .i64))))] (bodyOf Try.f52) Try.f52.ntmps [2] [(2, 58)] = (laws_toArc_e N).F := by
  funext x
  kernel_rfl
theorem laws_toArc_sound (N : Nat) : SoundC Try.prog 52 (laws_toArc_e N) := by
  have h := runC_sound (f := 52) (code := bodyOf Try.f52) (N := N) (T := laws_toArc_T N) (L := laws_toArc_L) (ins := [(.pair (.int .i64) (.pair (.int .i64) (.pair (.int .i64) (.int .i64))))]) (outs := [.val (.pair (.int .i64) (.pair (.int .i64) (.pair (.int .i64) (.int .i64))))]) (res := [2]) (rs := [.cell 2 58]) (cells := [(2, 58)]) mixed tt_ok ?_ Try.func52 (by kernel_rfl) rfl (by kernel_rfl) (by kernel_rfl) rfl rfl (by decide) (by decide +kernel) (by decide +kernel)
  · rw [laws_toArc_eq] at h
    exact h
  · intro f e he
    cases he

/- laws.toArcS -/
def laws_toArcS (N : Nat) (x0 : List (Int × Int × Int × Int)) : Option (List (Int × Int × Int × Int) × Unit) :=
  cond (mkOk (List.length x0 : Int) (List.length x0 : Int))
    (let xs1 := (List.replicate (Int.toNat (List.length x0 : Int)) ((0 : Int), ((0 : Int), ((0 : Int), (0 : Int)))) : List (Int × Int × Int × Int))
    loopN (fun (s2 : List (Int × Int × Int × Int) × Int × Unit) next3 =>
      cond (decide (s2.2.1 < (List.length x0 : Int)))
        (Option.bind (idx x0 s2.2.1) fun v4 =>
        Option.bind (laws_toArc N v4) fun r5 =>
        cond (inB s2.2.1 (List.length s2.1))
          (let xs6 := (List.set s2.1 (Int.toNat s2.2.1) r5.1)
          next3 (xs6, (w64 (s2.2.1 + 1)), ())) none)
        (some (s2.1, ()))) N (xs1, 0, ())) none
def laws_toArcS_e (N : Nat) : Ent := { ins := [(.sl (.pair (.int .i64) (.pair (.int .i64) (.pair (.int .i64) (.int .i64)))))], outs := [.own (.pair (.int .i64) (.pair (.int .i64) (.pair (.int .i64) (.int .i64))))], F := fun x => laws_toArcS N x.1 }
def laws_toArcS_T (N : Nat) : Nat → List EntX
  | 52 => [.pl (laws_toArc_e N)]
  | _ => []
def laws_toArcS_L : Nat → List (Nat × TK)
  | 3 => [(3, .own (.pair (.int .i64) (.pair (.int .i64) (.pair (.int .i64) (.int .i64))))), (4, .v (.int .i64))]
  | _ => []
theorem laws_toArcS_eq (N : Nat) : runF N tt (laws_toArcS_T N) laws_toArcS_L [(.sl (.pair (.int .i64) (.pair (.int .i64) (.pair (.int .i64) (.int .i64)))))] [.own (.pair (.int .i64) (.pair (.int .i64) (.pair (.int .i64) (.int .i64))))] (bodyOf Try.f17) Try.f17.ntmps [2] = (laws_toArcS_e N).F := by
  funext x
  kernel_rfl
theorem laws_toArcS_sound (N : Nat) : SoundC Try.prog 17 (laws_toArcS_e N) := by
  have h := runF_sound (f := 17) (code := bodyOf Try.f17) (N := N) (T := laws_toArcS_T N) (L := laws_toArcS_L) (ins := [(.sl (.pair (.int .i64) (.pair (.int .i64) (.pair (.int .i64) (.int .i64)))))]) (outs := [.own (.pair (.int .i64) (.pair (.int .i64) (.pair (.int .i64) (.int .i64))))]) (res := [2]) mixed tt_ok ?_ Try.func17 (by kernel_rfl) rfl (by kernel_rfl) (by kernel_rfl) (by decide +kernel)
  · rw [laws_toArcS_eq] at h
    exact h
  · intro f e he
    unfold laws_toArcS_T at he
    split at he
    · rw [List.mem_singleton.1 he]; exact laws_toArc_sound N
    · cases he

/- slices.Equal[[]impl.Arc,impl.Arc] -/
def slices_Equal_impl_Arc_impl_Arc (N : Nat) (x0 : List (Int × Int × Int × Int)) (x1 : List (Int × Int × Int × Int)) : Option (Bool × Unit) :=
  cond ((List.length x0 : Int) != (List.length x1 : Int))
    (some (false, ()))
    (loopN (fun (s1 : Int × Unit) next2 =>
      cond (decide (s1.1 < (List.length x0 : Int)))
        (Option.bind (idx x0 s1.1) fun v3 =>
        Option.bind (idx x1 s1.1) fun v4 =>
        cond (!((v3.1 == v4.1) && ((v3.2.1 == v4.2.1) && ((v3.2.2.1 == v4.2.2.1) && (v3.2.2.2 == v4.2.2.2)))))
          (some (false, ()))
          (next2 ((w64 (s1.1 + 1)), ())))
        (some (true, ()))) N (0, ()))
def slices_Equal_impl_Arc_impl_Arc_e (N : Nat) : Ent := { ins := [(.sl (.pair (.int .i64) (.pair (.int .i64) (.pair (.int .i64) (.int .i64))))), (.sl (.pair (.int .i64) (.pair (.int .i64) (.pair (.int .i64) (.int .i64)))))], outs := [.val .bool], F := fun x => slices_Equal_impl_Arc_impl_Arc N x.1 x.2.1 }
def slices_Equal_impl_Arc_impl_Arc_T (_ : Nat) : Nat → List EntX := fun _ => []
def slices_Equal_impl_Arc_impl_Arc_L : Nat → List (Nat × TK)
  | 4 => [(13, .v (.int .i64))]
  | _ => []
theorem slices_Equal_impl_Arc_impl_Arc_eq (N : Nat) : runF N tt (slices_Equal_impl_Arc_impl_Arc_T N) slices_Equal_impl_Arc_impl_Arc_L [(.sl (.pair (.int .i64) (.pair (.int .i64) (.pair (.int .i64) (.int .i64))))), (.sl (.pair (.int .i64) (.pair (.int .i64) (.pair (.int .i64) (.int .i64)))))] [.val .bool] (bodyOf Try.f53) Try.f53.ntmps [4] = (slices_Equal_impl_Arc_impl_Arc_e N).F := by
  funext x
  kernel_rfl
theorem slices_Equal_impl_Arc_impl_Arc_sound (N : Nat) : SoundC Try.prog 53 (slices_Equal_impl_Arc_impl_Arc_e N) := by
  have h := runF_sound (f := 53) (code := bodyOf Try.f53) (N := N) (T := slices_Equal_impl_Arc_impl_Arc_T N) (L := slices_Equal_impl_Arc_impl_Arc_L) (ins := [(.sl (.pair (.int .i64) (.pair (.int .i64) (.pair (.int .i64) (.int .i64))))), (.sl (.pair (.int .i64) (.pair (.int .i64) (.pair (.int .i64) (.int .i64)))))]) (outs := [.val .bool]) (res := [4]) mixed tt_ok ?_ Try.func53 (by kernel_rfl) rfl (by kernel_rfl) (by kernel_rfl) (by decide +kernel)
  · rw [slices_Equal_impl_Arc_impl_Arc_eq] at h
    exact h
  · intro f e he
    cases he

/- impl.SameArcs -/
def impl_SameArcs (N : Nat) (x0 : List (Int × Int × Int × Int)) (x1 : List (Int × Int × Int × Int)) : Option (Bool × Unit) :=
  Option.bind (slices_Equal_impl_Arc_impl_Arc N x0 x1) fun r1 =>
  some (r1.1, ())
def impl_SameArcs_e (N : Nat) : Ent := { ins := [(.sl (.pair (.int .i64) (.pair (.int .i64) (.pair (.int .i64) (.int .i64))))), (.sl (.pair (.int .i64) (.pair (.int .i64) (.pair (.int .i64) (.int .i64)))))], outs := [.val .bool], F := fun x => impl_SameArcs N x.1 x.2.1 }
def impl_SameArcs_T (N : Nat) : Nat → List EntX
  | 53 => [.pl (slices_Equal_impl_Arc_impl_Arc_e N)]
  | _ => []
def impl_SameArcs_L : Nat → List (Nat × TK) := fun _ => []
theorem impl_SameArcs_eq (N : Nat) : runF N tt (impl_SameArcs_T N) impl_SameArcs_L [(.sl (.pair (.int .i64) (.pair (.int .i64) (.pair (.int .i64) (.int .i64))))), (.sl (.pair (.int .i64) (.pair (.int .i64) (.pair (.int .i64) (.int .i64)))))] [.val .bool] (bodyOf Try.f18) Try.f18.ntmps [4] = (impl_SameArcs_e N).F := by
  funext x
  kernel_rfl
theorem impl_SameArcs_sound (N : Nat) : SoundC Try.prog 18 (impl_SameArcs_e N) := by
  have h := runF_sound (f := 18) (code := bodyOf Try.f18) (N := N) (T := impl_SameArcs_T N) (L := impl_SameArcs_L) (ins := [(.sl (.pair (.int .i64) (.pair (.int .i64) (.pair (.int .i64) (.int .i64))))), (.sl (.pair (.int .i64) (.pair (.int .i64) (.pair (.int .i64) (.int .i64)))))]) (outs := [.val .bool]) (res := [4]) mixed tt_ok ?_ Try.func18 (by kernel_rfl) rfl (by kernel_rfl) (by kernel_rfl) (by decide +kernel)
  · rw [impl_SameArcs_eq] at h
    exact h
  · intro f e he
    unfold impl_SameArcs_T at he
    split at he
    · rw [List.mem_singleton.1 he]; exact slices_Equal_impl_Arc_impl_Arc_sound N
    · cases he

/- laws.eqArc -/
def laws_eqArc (_N : Nat) (x0 : Int × Int × Int × Int) (x1 : Int × Int × Int × Int) : Option (Bool × Unit) :=
  cond (x0.1 != x1.1)
    (some (false, ()))
    (cond (x0.2.1 != x1.2.1)
      (some (false, ()))
      (cond (x0.2.2.1 != x1.2.2.1)
        (some (false, ()))
        (cond (x0.2.2.2 != x1.2.2.2)
          (some (false, ()))
          (some (true, ())))))
def laws_eqArc_e (N : Nat) : Ent := { ins := [(.pair (.int .i64) (.pair (.int .i64) (.pair (.int .i64) (.int .i64)))), (.pair (.int .i64) (.pair (.int .i64) (.pair (.int .i64) (.int .i64))))], outs := [.val .bool], F := fun x => laws_eqArc N x.1 x.2.1 }
def laws_eqArc_T (_ : Nat) : Nat → List EntX := fun _ => []
def laws_eqArc_L : Nat → List (Nat × TK) := fun _ => []
theorem laws_eqArc_eq (N : Nat) : runF N tt (laws_eqArc_T N) laws_eqArc_L [(.pair (.int .i64) (.pair (.int .i64) (.pair (.int .i64) (.int .i64)))), (.pair (.int .i64) (.pair (.int .i64) (.pair (.int .i64) (.int .i64))))] [.val .bool] (bodyOf Try.f54) Try.f54.ntmps [4] = (laws_eqArc_e N).F := by
  funext x
  kernel_rfl
theorem laws_eqArc_sound (N : Nat) : SoundC Try.prog 54 (laws_eqArc_e N) := by
  have h := runF_sound (f := 54) (code := bodyOf Try.f54) (N := N) (T := laws_eqArc_T N) (L := laws_eqArc_L) (ins := [(.pair (.int .i64) (.pair (.int .i64) (.pair (.int .i64) (.int .i64)))), (.pair (.int .i64) (.pair (.int .i64) (.pair (.int .i64) (.int .i64))))]) (outs := [.val .bool]) (res := [4]) mixed tt_ok ?_ Try.func54 (by kernel_rfl) rfl (by kernel_rfl) (by kernel_rfl) (by decide +kernel)
  · rw [laws_eqArc_eq] at h
    exact h
  · intro f e he
    cases he

/- laws.eqArcS -/
def laws_eqArcS (N : Nat) (x0 : List (Int × Int × Int × Int)) (x1 : List (Int × Int × Int × Int)) : Option (Bool × Unit) :=
  cond ((List.length x0 : Int) != (List.length x1 : Int))
    (some (false, ()))
    (loopN (fun (s1 : Int × Unit) next2 =>
      cond (decide (s1.1 < (List.length x0 : Int)))
        (Option.bind (idx x0 s1.1) fun v3 =>
        Option.bind (idx x1 s1.1) fun v4 =>
        Option.bind (laws_eqArc N v3 v4) fun r5 =>
        cond (!r5.1)
          (some (false, ()))
          (next2 ((w64 (s1.1 + 1)), ())))
        (some (true, ()))) N (0, ()))
def laws_eqArcS_e (N : Nat) : Ent := { ins := [(.sl (.pair (.int .i64) (.pair (.int .i64) (.pair (.int .i64) (.int .i64))))), (.sl (.pair (.int .i64) (.pair (.int .i64) (.pair (.int .i64) (.int .i64)))))], outs := [.val .bool], F := fun x => laws_eqArcS N x.1 x.2.1 }
def laws_eqArcS_T (N : Nat) : Nat → List EntX
  | 54 => [.pl (laws_eqArc_e N)]
  | _ => []
def laws_eqArcS_L : Nat → List (Nat × TK)
  | 4 => [(5, .v (.int .i64))]
  | _ => []
theorem laws_eqArcS_eq (N : Nat) : runF N tt (laws_eqArcS_T N) laws_eqArcS_L [(.sl (.pair (.int .i64) (.pair (.int .i64) (.pair (.int .i64) (.int .i64))))), (.sl (.pair (.int .i64) (.pair (.int .i64) (.pair (.int .i64) (.int .i64)))))] [.val .bool] (bodyOf Try.f19) Try.f19.ntmps [4] = (laws_eqArcS_e N).F := by
  funext x
  kernel_rfl
theorem laws_eqArcS_sound (N : Nat) : SoundC Try.prog 19 (laws_eqArcS_e N) := by
  have h := runF_sound (f := 19) (code := bodyOf Try.f19) (N := N) (T := laws_eqArcS_T N) (L := laws_eqArcS_L) (ins := [(.sl (.pair (.int .i64) (.pair (.int .i64) (.pair (.int .i64) (.int .i64))))), (.sl (.pair (.int .i64) (.pair (.int .i64) (.pair (.int .i64) (.int .i64)))))]) (outs := [.val .bool]) (res := [4]) mixed tt_ok ?_ Try.func19 (by kernel_rfl) rfl (by kernel_rfl) (by kernel_rfl) (by decide +kernel)
  · rw [laws_eqArcS_eq] at h
    exact h
  · intro f e he
    unfold laws_eqArcS_T at he
    split at he
    · rw [List.mem_singleton.1 he]; exact laws_eqArc_sound N
    · cases he

/- laws.FnExactSameArcs -/
def laws_FnExactSameArcs (N : Nat) (x0 : List (Int × Int × Int × Int)) (x1 : List (Int × Int × Int × Int)) : Option (Bool × Unit) :=
  Option.bind (laws_szArcS N x0 1048576) fun r1 =>
  cond (decide (r1.1 < 0))
    (some (true, ()))
    (Option.bind (laws_szArcS N x1 r1.1) fun r2 =>
    cond (decide (r2.1 < 0))
      (some (true, ()))
      (Option.bind (laws_toArcS N x0) fun r3 =>
      Option.bind (laws_toArcS N x1) fun r4 =>
      Option.bind (spec_SameArcs N r3.1 r4.1) fun r5 =>
      Option.bind (laws_toArcS N x0) fun r6 =>
      Option.bind (laws_toArcS N x1) fun r7 =>
      Option.bind (impl_SameArcs N r6.1 r7.1) fun r8 =>
      cond (!(r8.1 == r5.1))
        (some (false, ()))
        (Option.bind (laws_toArcS N x0) fun r9 =>
        Option.bind (laws_eqArcS N r6.1 r9.1) fun r10 =>
        cond (!r10.1)
          (some (false, ()))
          (Option.bind (laws_toArcS N x1) fun r11 =>
          Option.bind (laws_eqArcS N r7.1 r11.1) fun r12 =>
          cond (!r12.1)
            (some (false, ()))
            (some (true, ()))))))
def laws_FnExactSameArcs_e (N : Nat) : Ent := { ins := [(.sl (.pair (.int .i64) (.pair (.int .i64) (.pair (.int .i64) (.int .i64))))), (.sl (.pair (.int .i64) (.pair (.int .i64) (.pair (.int .i64) (.int .i64)))))], outs := [.val .bool], F := fun x => laws_FnExactSameArcs N x.1 x.2.1 }
def laws_FnExactSameArcs_T (N : Nat) : Nat → List EntX
  | 15 => [.pl (laws_szArcS_e N)]
  | 16 => [.pl (spec_SameArcs_e N)]
  | 17 => [.pl (laws_toArcS_e N)]
  | 18 => [.pl (impl_SameArcs_e N)]
  | 19 => [.pl (laws_eqArcS_e N)]
  | _ => []
def laws_FnExactSameArcs_L : Nat → List (Nat × TK) := fun _ => []
theorem laws_FnExactSameArcs_eq (N : Nat) : runF N tt (laws_FnExactSameArcs_T N) laws_FnExactSameArcs_L [(.sl (.pair (.int .i64) (.pair (.int .i64) (.pair (.int .i64) (.int .i64))))), (.sl (.pair (.int .i64) (.pair (.int .i64) (.pair (.int .i64) (.int .i64)))))] [.val .bool] (bodyOf Try.f3) Try.f3.ntmps [4] = (laws_FnExactSameArcs_e N).F := by
  funext x
  kernel_rfl
theorem laws_FnExactSameArcs_sound (N : Nat) : SoundC Try.prog 3 (laws_FnExactSameArcs_e N) := by
  have h := runF_sound (f := 3) (code := bodyOf Try.f3) (N := N) (T := laws_FnExactSameArcs_T N) (L := laws_FnExactSameArcs_L) (ins := [(.sl (.pair (.int .i64) (.pair (.int .i64) (.pair (.int .i64) (.int .i64))))), (.sl (.pair (.int .i64) (.pair (.int .i64) (.pair (.int .i64) (.int .i64)))))]) (outs := [.val .bool]) (res := [4]) mixed tt_ok ?_ Try.func3 (by kernel_rfl) rfl (by kernel_rfl) (by kernel_rfl) (by decide +kernel)
  · rw [laws_FnExactSameArcs_eq] at h
    exact h
  · intro f e he
    unfold laws_FnExactSameArcs_T at he
    split at he
    · rw [List.mem_singleton.1 he]; exact laws_szArcS_sound N
    · rw [List.mem_singleton.1 he]; exact spec_SameArcs_sound N
    · rw [List.mem_singleton.1 he]; exact laws_toArcS_sound N
    · rw [List.mem_singleton.1 he]; exact impl_SameArcs_sound N
    · rw [List.mem_singleton.1 he]; exact laws_eqArcS_sound N
    · cases he

/- laws.szRuleS -/
def laws_szRuleS (_N : Nat) (x0 : List (Int × Int × Int × Int)) (x1 : Int) : Option (Int × Unit) :=
  cond (decide ((w64 (x1 - (List.length x0 : Int))) < 0))
    (some ((-1), ()))
    (some ((w64 (x1 - (List.length x0 : Int))), ()))
def laws_szRuleS_e (N : Nat) : Ent := { ins := [(.sl (.pair (.int .i64) (.pair (.int .i64) (.pair (.int .i64) (.int .i64))))), (.int .i64)], outs := [.val (.int .i64)], F := fun x => laws_szRuleS N x.1 x.2.1 }
def laws_szRuleS_T (_ : Nat) : Nat → List EntX := fun _ => []
def laws_szRuleS_L : Nat → List (Nat × TK) := fun _ => []
theorem laws_szRuleS_eq (N : Nat) : runF N tt (laws_szRuleS_T N) laws_szRuleS_L [(.sl (.pair (.int .i64) (.pair (.int .i64) (.pair (.int .i64) (.int .i64))))), (.int .i64)] [.val (.int .i64)] (bodyOf Try.f20) Try.f20.ntmps [4] = (laws_szRuleS_e N).F := by
  funext x
  kernel_rfl
theorem laws_szRuleS_sound (N : Nat) : SoundC Try.prog 20 (laws_szRuleS_e N) := by
  have h := runF_sound (f := 20) (code := bodyOf Try.f20) (N := N) (T := laws_szRuleS_T N) (L := laws_szRuleS_L) (ins := [(.sl (.pair (.int .i64) (.pair (.int .i64) (.pair (.int .i64) (.int .i64))))), (.int .i64)]) (outs := [.val (.int .i64)]) (res := [4]) mixed tt_ok ?_ Try.func20 (by kernel_rfl) rfl (by kernel_rfl) (by kernel_rfl) (by decide +kernel)
  · rw [laws_szRuleS_eq] at h
    exact h
  · intro f e he
    cases he

/- spec.SameRules -/
def spec_SameRules (N : Nat) (x0 : List (Int × Int × Int × Int)) (x1 : List (Int × Int × Int × Int)) : Option (Bool × Unit) :=
  cond ((List.length x0 : Int) != (List.length x1 : Int))
    (some (false, ()))
    (loopN (fun (s1 : Int × Unit) next2 =>
      cond (decide (s1.1 < (List.length x0 : Int)))
        (Option.bind (idx x0 s1.1) fun v3 =>
        Option.bind (idx x1 s1.1) fun v4 =>
        cond (!((v3.1 == v4.1) && ((v3.2.1 == v4.2.1) && ((v3.2.2.1 == v4.2.2.1) && (v3.2.2.2 == v4.2.2.2)))))
          (some (false, ()))
          (next2 ((w64 (s1.1 + 1)), ())))
        (some (true, ()))) N (0, ()))
def spec_SameRules_e (N : Nat) : Ent := { ins := [(.sl (.pair (.int .i64) (.pair (.int .i64) (.pair (.int .i64) (.int .i64))))), (.sl (.pair (.int .i64) (.pair (.int .i64) (.pair (.int .i64) (.int .i64)))))], outs := [.val .bool], F := fun x => spec_SameRules N x.1 x.2.1 }
def spec_SameRules_T (_ : Nat) : Nat → List EntX := fun _ => []
def spec_SameRules_L : Nat → List (Nat × TK)
  | 4 => [(13, .v (.int .i64))]
  | _ => []
theorem spec_SameRules_eq (N : Nat) : runF N tt (spec_SameRules_T N) spec_SameRules_L [(.sl (.pair (.int .i64) (.pair (.int .i64) (.pair (.int .i64) (.int .i64))))), (.sl (.pair (.int .i64) (.pair (.int .i64) (.pair (.int .i64) (.int .i64)))))] [.val .bool] (bodyOf Try.f21) Try.f21.ntmps [4] = (spec_SameRules_e N).F := by
  funext x
  kernel_rfl
theorem spec_SameRules_sound (N : Nat) : SoundC Try.prog 21 (spec_SameRules_e N) := by
  have h := runF_sound (f := 21) (code := bodyOf Try.f21) (N := N) (T := spec_SameRules_T N) (L := spec_SameRules_L) (ins := [(.sl (.pair (.int .i64) (.pair (.int .i64) (.pair (.int .i64) (.int .i64))))), (.sl (.pair (.int .i64) (.pair (.int .i64) (.pair (.int .i64) (.int .i64)))))]) (outs := [.val .bool]) (res := [4]) mixed tt_ok ?_ Try.func21 (by kernel_rfl) rfl (by kernel_rfl) (by kernel_rfl) (by decide +kernel)
  · rw [spec_SameRules_eq] at h
    exact h
  · intro f e he
    cases he

/- laws.toRule -/
def laws_toRule (_N : Nat) (x0 : Int × Int × Int × Int) : Option ((Int × Int × Int × Int) × Unit) :=
  some ((x0.1, (x0.2.1, (x0.2.2.1, x0.2.2.2))), ())
def laws_toRule_e (N : Nat) : Ent := { ins := [(.pair (.int .i64) (.pair (.int .i64) (.pair (.int .i64) (.int .i64))))], outs := [.val (.pair (.int .i64) (.pair (.int .i64) (.pair (.int .i64) (.int .i64))))], F := fun x => laws_toRule N x.1 }
def laws_toRule_T (_ : Nat) : Nat → List EntX := fun _ => []
def laws_toRule_L : Nat → List (Nat × TK) := fun _ => []
theorem laws_toRule_eq (N : Nat) : runC N tt (laws_toRule_T N) laws_toRule_L [(.pair (.int .i64) (.pair (.int .i64) (.pair (.int .i64) (.int .i64))))] [.val (.pair (.int .i64) (.pair (.int .i64) (.pair (.int .i64) (.int .i64))))] (bodyOf Try.f55) Try.f55.ntmps [2] [(2, 63)] = (laws_toRule_e N).F := by
  funext x
  kernel_rfl
theorem laws_toRule_sound (N : Nat) : SoundC Try.prog 55 (laws_toRule_e N) := by
  have h := runC_sound (f := 55) (code := bodyOf Try.f55) (N := N) (T := laws_toRule_T N) (L := laws_toRule_L) (ins := [(.pair (.int .i64) (.pair (.int .i64) (.pair (.int .i64) (.int .i64))))]) (outs := [.val (.pair (.int .i64) (.pair (.int .i64) (.pair (.int .i64) (.int .i64))))]) (res := [2]) (rs := [.cell 2 63]) (cells := [(2, 63)]) mixed tt_ok ?_ Try.func55 (by kernel_rfl) rfl (by kernel_rfl) (by kernel_rfl) rfl rfl (by decide) (by decide +kernel) (by decide +kernel)
  · rw [laws_toRule_eq] at h
    exact h
  · intro f e he
    cases he

/- laws.toRuleS -/
def laws_toRuleS (N : Nat) (x0 : List (Int × Int × Int × Int)) : Option (List (Int × Int × Int × Int) × Unit) :=
  cond (mkOk (List.length x0 : Int) (List.length x0 : Int))
    (let xs1 := (List.replicate (Int.toNat (List.length x0 : Int)) ((0 : Int), ((0 : Int), ((0 : Int), (0 : Int)))) : List (Int × Int × Int × Int))
    loopN (fun (s2 : List (Int × Int × Int × Int) × Int × Unit) next3 =>
      cond (decide (s2.2.1 < (List.length x0 : Int)))
        (Option.bind (idx x0 s2.2.1) fun v4 =>
        Option.bind (laws_toRule N v4) fun r5 =>
        cond (inB s2.2.1 (List.length s2.1))
          (let xs6 := (List.set s2.1 (Int.toNat s2.2.1) r5.1)
          next3 (xs6, (w64 (s2.2.1 + 1)), ())) none)
        (some (s2.1, ()))) N (xs1, 0, ())) none
def laws_toRuleS_e (N : Nat) : Ent := { ins := [(.sl (.pair (.int .i64) (.pair (.int .i64) (.pair (.int .i64) (.int .i64)))))], outs := [.own (.pair (.int .i64) (.pair (.int .i64) (.pair (.int .i64) (.int .i64))))], F := fun x => laws_toRuleS N x.1 }
def laws_toRuleS_T (N : Nat) : Nat → List EntX
  | 55 => [.pl (laws_toRule_e N)]
  | _ => []
def laws_toRuleS_L : Nat → List (Nat × TK)
  | 3 => [(3, .own (.pair (.int .i64) (.pair (.int .i64) (.pair (.int .i64) (.int .i64))))), (4, .v (.int .i64))]
  | _ => []
theorem laws_toRuleS_eq (N : Nat) : runF N tt (laws_toRuleS_T N) laws_toRuleS_L [(.sl (.pair (.int .i64) (.pair (.int .i64) (.pair (.int .i64) (.int .i64)))))] [.own (.pair (.int .i64) (.pair (.int .i64) (.pair (.int .i64) (.int .i64))))] (bodyOf Try.f22) Try.f22.ntmps [2] = (laws_toRuleS_e N).F := by
  funext x
  kernel_rfl
theorem laws_toRuleS_sound (N : Nat) : SoundC Try.prog 22 (laws_toRuleS_e N) := by
  have h := runF_sound (f := 22) (code := bodyOf Try.f22) (N := N) (T := laws_toRuleS_T N) (L := laws_toRuleS_L) (ins := [(.sl (.pair (.int .i64) (.pair (.int .i64) (.pair (.int .i64) (.int .i64)))))]) (outs := [.own (.pair (.int .i64) (.pair (.int .i64) (.pair (.int .i64) (.int .i64))))]) (res := [2]) mixed tt_ok ?_ Try.func22 (by kernel_rfl) rfl (by kernel_rfl) (by kernel_rfl) (by decide +kernel)
  · rw [laws_toRuleS_eq] at h
    exact h
  · intro f e he
    unfold laws_toRuleS_T at he
    split at he
    · rw [List.mem_singleton.1 he]; exact laws_toRule_sound N
    · cases he

/- slices.Equal[[]impl.Rule,impl.Rule] -/
def slices_Equal_impl_Rule_impl_Rule (N : Nat) (x0 : List (Int × Int × Int × Int)) (x1 : List (Int × Int × Int × Int)) : Option (Bool × Unit) :=
  cond ((List.length x0 : Int) != (List.length x1 : Int))
    (some (false, ()))
    (loopN (fun (s1 : Int × Unit) next2 =>
      cond (decide (s1.1 < (List.length x0 : Int)))
        (Option.bind (idx x0 s1.1) fun v3 =>
        Option.bind (idx x1 s1.1) fun v4 =>
        cond (!((v3.1 == v4.1) && ((v3.2.1 == v4.2.1) && ((v3.2.2.1 == v4.2.2.1) && (v3.2.2.2 == v4.2.2.2)))))
          (some (false, ()))
          (next2 ((w64 (s1.1 + 1)), ())))
        (some (true, ()))) N (0, ()))
def slices_Equal_impl_Rule_impl_Rule_e (N : Nat) : Ent := { ins := [(.sl (.pair (.int .i64) (.pair (.int .i64) (.pair (.int .i64) (.int .i64))))), (.sl (.pair (.int .i64) (.pair (.int .i64) (.pair (.int .i64) (.int .i64)))))], outs := [.val .bool], F := fun x => slices_Equal_impl_Rule_impl_Rule N x.1 x.2.1 }
def slices_Equal_impl_Rule_impl_Rule_T (_ : Nat) : Nat → List EntX := fun _ => []
def slices_Equal_impl_Rule_impl_Rule_L : Nat → List (Nat × TK)
  | 4 => [(13, .v (.int .i64))]
  | _ => []
theorem slices_Equal_impl_Rule_impl_Rule_eq (N : Nat) : runF N tt (slices_Equal_impl_Rule_impl_Rule_T N) slices_Equal_impl_Rule_impl_Rule_L [(.sl (.pair (.int .i64) (.pair (.int .i64) (.pair (.int .i64) (.int .i64))))), (.sl (.pair (.int .i64) (.pair (.int .i64) (.pair (.int .i64) (.int .i64)))))] [.val .bool] (bodyOf Try.f56) Try.f56.ntmps [4] = (slices_Equal_impl_Rule_impl_Rule_e N).F := by
  funext x
  kernel_rfl
theorem slices_Equal_impl_Rule_impl_Rule_sound (N : Nat) : SoundC Try.prog 56 (slices_Equal_impl_Rule_impl_Rule_e N) := by
  have h := runF_sound (f := 56) (code := bodyOf Try.f56) (N := N) (T := slices_Equal_impl_Rule_impl_Rule_T N) (L := slices_Equal_impl_Rule_impl_Rule_L) (ins := [(.sl (.pair (.int .i64) (.pair (.int .i64) (.pair (.int .i64) (.int .i64))))), (.sl (.pair (.int .i64) (.pair (.int .i64) (.pair (.int .i64) (.int .i64)))))]) (outs := [.val .bool]) (res := [4]) mixed tt_ok ?_ Try.func56 (by kernel_rfl) rfl (by kernel_rfl) (by kernel_rfl) (by decide +kernel)
  · rw [slices_Equal_impl_Rule_impl_Rule_eq] at h
    exact h
  · intro f e he
    cases he

/- impl.SameRules -/
def impl_SameRules (N : Nat) (x0 : List (Int × Int × Int × Int)) (x1 : List (Int × Int × Int × Int)) : Option (Bool × Unit) :=
  Option.bind (slices_Equal_impl_Rule_impl_Rule N x0 x1) fun r1 =>
  some (r1.1, ())
def impl_SameRules_e (N : Nat) : Ent := { ins := [(.sl (.pair (.int .i64) (.pair (.int .i64) (.pair (.int .i64) (.int .i64))))), (.sl (.pair (.int .i64) (.pair (.int .i64) (.pair (.int .i64) (.int .i64)))))], outs := [.val .bool], F := fun x => impl_SameRules N x.1 x.2.1 }
def impl_SameRules_T (N : Nat) : Nat → List EntX
  | 56 => [.pl (slices_Equal_impl_Rule_impl_Rule_e N)]
  | _ => []
def impl_SameRules_L : Nat → List (Nat × TK) := fun _ => []
theorem impl_SameRules_eq (N : Nat) : runF N tt (impl_SameRules_T N) impl_SameRules_L [(.sl (.pair (.int .i64) (.pair (.int .i64) (.pair (.int .i64) (.int .i64))))), (.sl (.pair (.int .i64) (.pair (.int .i64) (.pair (.int .i64) (.int .i64)))))] [.val .bool] (bodyOf Try.f23) Try.f23.ntmps [4] = (impl_SameRules_e N).F := by
  funext x
  kernel_rfl
theorem impl_SameRules_sound (N : Nat) : SoundC Try.prog 23 (impl_SameRules_e N) := by
  have h := runF_sound (f := 23) (code := bodyOf Try.f23) (N := N) (T := impl_SameRules_T N) (L := impl_SameRules_L) (ins := [(.sl (.pair (.int .i64) (.pair (.int .i64) (.pair (.int .i64) (.int .i64))))), (.sl (.pair (.int .i64) (.pair (.int .i64) (.pair (.int .i64) (.int .i64)))))]) (outs := [.val .bool]) (res := [4]) mixed tt_ok ?_ Try.func23 (by kernel_rfl) rfl (by kernel_rfl) (by kernel_rfl) (by decide +kernel)
  · rw [impl_SameRules_eq] at h
    exact h
  · intro f e he
    unfold impl_SameRules_T at he
    split at he
    · rw [List.mem_singleton.1 he]; exact slices_Equal_impl_Rule_impl_Rule_sound N
    · cases he

/- laws.eqRule -/
def laws_eqRule (_N : Nat) (x0 : Int × Int × Int × Int) (x1 : Int × Int × Int × Int) : Option (Bool × Unit) :=
  cond (x0.1 != x1.1)
    (some (false, ()))
    (cond (x0.2.1 != x1.2.1)
      (some (false, ()))
      (cond (x0.2.2.1 != x1.2.2.1)
        (some (false, ()))
        (cond (x0.2.2.2 != x1.2.2.2)
          (some (false, ()))
          (some (true, ())))))
def laws_eqRule_e (N : Nat) : Ent := { ins := [(.pair (.int .i64) (.pair (.int .i64) (.pair (.int .i64) (.int .i64)))), (.pair (.int .i64) (.pair (.int .i64) (.pair (.int .i64) (.int .i64))))], outs := [.val .bool], F := fun x => laws_eqRule N x.1 x.2.1 }
def laws_eqRule_T (_ : Nat) : Nat → List EntX := fun _ => []
def laws_eqRule_L : Nat → List (Nat × TK) := fun _ => []
theorem laws_eqRule_eq (N : Nat) : runF N tt (laws_eqRule_T N) laws_eqRule_L [(.pair (.int .i64) (.pair (.int .i64) (.pair (.int .i64) (.int .i64)))), (.pair (.int .i64) (.pair (.int .i64) (.pair (.int .i64) (.int .i64))))] [.val .bool] (bodyOf Try.f57) Try.f57.ntmps [4] = (laws_eqRule_e N).F := by
  funext x
  kernel_rfl
theorem laws_eqRule_sound (N : Nat) : SoundC Try.prog 57 (laws_eqRule_e N) := by
  have h := runF_sound (f := 57) (code := bodyOf Try.f57) (N := N) (T := laws_eqRule_T N) (L := laws_eqRule_L) (ins := [(.pair (.int .i64) (.pair (.int .i64) (.pair (.int .i64) (.int .i64)))), (.pair (.int .i64) (.pair (.int .i64) (.pair (.int .i64) (.int .i64))))]) (outs := [.val .bool]) (res := [4]) mixed tt_ok ?_ Try.func57 (by kernel_rfl) rfl (by kernel_rfl) (by kernel_rfl) (by decide +kernel)
  · rw [laws_eqRule_eq] at h
    exact h
  · intro f e he
    cases he

/- laws.eqRuleS -/
def laws_eqRuleS (N : Nat) (x0 : List (Int × Int × Int × Int)) (x1 : List (Int × Int × Int × Int)) : Option (Bool × Unit) :=
  cond ((List.length x0 : Int) != (List.length x1 : Int))
    (some (false, ()))
    (loopN (fun (s1 : Int × Unit) next2 =>
      cond (decide (s1.1 < (List.length x0 : Int)))
        (Option.bind (idx x0 s1.1) fun v3 =>
        Option.bind (idx x1 s1.1) fun v4 =>
        Option.bind (laws_eqRule N v3 v4) fun r5 =>
        cond (!r5.1)
          (some (false, ()))
          (next2 ((w64 (s1.1 + 1)), ())))
        (some (true, ()))) N (0, ()))
def laws_eqRuleS_e (N : Nat) : Ent := { ins := [(.sl (.pair (.int .i64) (.pair (.int .i64) (.pair (.int .i64) (.int .i64))))), (.sl (.pair (.int .i64) (.pair (.int .i64) (.pair (.int .i64) (.int .i64)))))], outs := [.val .bool], F := fun x => laws_eqRuleS N x.1 x.2.1 }
def laws_eqRuleS_T (N : Nat) : Nat → List EntX
  | 57 => [.pl (laws_eqRule_e N)]
  | _ => []
def laws_eqRuleS_L : Nat → List (Nat × TK)
  | 4 => [(5, .v (.int .i64))]
  | _ => []
theorem laws_eqRuleS_eq (N : Nat) : runF N tt (laws_eqRuleS_T N) laws_eqRuleS_L [(.sl (.pair (.int .i64) (.pair (.int .i64) (.pair (.int .i64) (.int .i64))))), (.sl (.pair (.int .i64) (.pair (.int .i64) (.pair (.int .i64) (.int .i64)))))] [.val .bool] (bodyOf Try.f24) Try.f24.ntmps [4] = (laws_eqRuleS_e N).F := by
  funext x
  kernel_rfl
theorem laws_eqRuleS_sound (N : Nat) : SoundC Try.prog 24 (laws_eqRuleS_e N) := by
  have h := runF_sound (f := 24) (code := bodyOf Try.f24) (N := N) (T := laws_eqRuleS_T N) (L := laws_eqRuleS_L) (ins := [(.sl (.pair (.int .i64) (.pair (.int .i64) (.pair (.int .i64) (.int .i64))))), (.sl (.pair (.int .i64) (.pair (.int .i64) (.pair (.int .i64) (.int .i64)))))]) (outs := [.val .bool]) (res := [4]) mixed tt_ok ?_ Try.func24 (by kernel_rfl) rfl (by kernel_rfl) (by kernel_rfl) (by decide +kernel)
  · rw [laws_eqRuleS_eq] at h
    exact h
  · intro f e he
    unfold laws_eqRuleS_T at he
    split at he
    · rw [List.mem_singleton.1 he]; exact laws_eqRule_sound N
    · cases he

/- laws.FnExactSameRules -/
def laws_FnExactSameRules (N : Nat) (x0 : List (Int × Int × Int × Int)) (x1 : List (Int × Int × Int × Int)) : Option (Bool × Unit) :=
  Option.bind (laws_szRuleS N x0 1048576) fun r1 =>
  cond (decide (r1.1 < 0))
    (some (true, ()))
    (Option.bind (laws_szRuleS N x1 r1.1) fun r2 =>
    cond (decide (r2.1 < 0))
      (some (true, ()))
      (Option.bind (laws_toRuleS N x0) fun r3 =>
      Option.bind (laws_toRuleS N x1) fun r4 =>
      Option.bind (spec_SameRules N r3.1 r4.1) fun r5 =>
      Option.bind (laws_toRuleS N x0) fun r6 =>
      Option.bind (laws_toRuleS N x1) fun r7 =>
      Option.bind (impl_SameRules N r6.1 r7.1) fun r8 =>
      cond (!(r8.1 == r5.1))
        (some (false, ()))
        (Option.bind (laws_toRuleS N x0) fun r9 =>
        Option.bind (laws_eqRuleS N r6.1 r9.1) fun r10 =>
        cond (!r10.1)
          (some (false, ()))
          (Option.bind (laws_toRuleS N x1) fun r11 =>
          Option.bind (laws_eqRuleS N r7.1 r11.1) fun r12 =>
          cond (!r12.1)
            (some (false, ()))
            (some (true, ()))))))
def laws_FnExactSameRules_e (N : Nat) : Ent := { ins := [(.sl (.pair (.int .i64) (.pair (.int .i64) (.pair (.int .i64) (.int .i64))))), (.sl (.pair (.int .i64) (.pair (.int .i64) (.pair (.int .i64) (.int .i64)))))], outs := [.val .bool], F := fun x => laws_FnExactSameRules N x.1 x.2.1 }
def laws_FnExactSameRules_T (N : Nat) : Nat → List EntX
  | 20 => [.pl (laws_szRuleS_e N)]
  | 21 => [.pl (spec_SameRules_e N)]
  | 22 => [.pl (laws_toRuleS_e N)]
  | 23 => [.pl (impl_SameRules_e N)]
  | 24 => [.pl (laws_eqRuleS_e N)]
  | _ => []
def laws_FnExactSameRules_L : Nat → List (Nat × TK) := fun _ => []
theorem laws_FnExactSameRules_eq (N : Nat) : runF N tt (laws_FnExactSameRules_T N) laws_FnExactSameRules_L [(.sl (.pair (.int .i64) (.pair (.int .i64) (.pair (.int .i64) (.int .i64))))), (.sl (.pair (.int .i64) (.pair (.int .i64) (.pair (.int .i64) (.int .i64)))))] [.val .bool] (bodyOf Try.f4) Try.f4.ntmps [4] = (laws_FnExactSameRules_e N).F := by
  funext x
  kernel_rfl
theorem laws_FnExactSameRules_sound (N : Nat) : SoundC Try.prog 4 (laws_FnExactSameRules_e N) := by
  have h := runF_sound (f := 4) (code := bodyOf Try.f4) (N := N) (T := laws_FnExactSameRules_T N) (L := laws_FnExactSameRules_L) (ins := [(.sl (.pair (.int .i64) (.pair (.int .i64) (.pair (.int .i64) (.int .i64))))), (.sl (.pair (.int .i64) (.pair (.int .i64) (.pair (.int .i64) (.int .i64)))))]) (outs := [.val .bool]) (res := [4]) mixed tt_ok ?_ Try.func4 (by kernel_rfl) rfl (by kernel_rfl) (by kernel_rfl) (by decide +kernel)
  · rw [laws_FnExactSameRules_eq] at h
    exact h
  · intro f e he
    unfold laws_FnExactSameRules_T at he
    split at he
    · rw [List.mem_singleton.1 he]; exact laws_szRuleS_sound N
    · rw [List.mem_singleton.1 he]; exact spec_SameRules_sound N
    · rw [List.mem_singleton.1 he]; exact laws_toRuleS_sound N
    · rw [List.mem_singleton.1 he]; exact impl_SameRules_sound N
    · rw [List.mem_singleton.1 he]; exact laws_eqRuleS_sound N
    · cases he

/- laws.toInt64S -/
def laws_toInt64S (N : Nat) (x0 : List Int) : Option (List (Int) × Unit) :=
  cond (mkOk (List.length x0 : Int) (List.length x0 : Int))
    (let xs1 := (List.replicate (Int.toNat (List.length x0 : Int)) (0 : Int) : List (Int))
    loopN (fun (s2 : List (Int) × Int × Unit) next3 =>
      cond (decide (s2.2.1 < (List.length x0 : Int)))
        (Option.bind (idx x0 s2.2.1) fun v4 =>
        cond (inB s2.2.1 (List.length s2.1))
          (let xs5 := (List.set s2.1 (Int.toNat s2.2.1) v4)
          next3 (xs5, (w64 (s2.2.1 + 1)), ())) none)
        (some (s2.1, ()))) N (xs1, 0, ())) none
def laws_toInt64S_e (N : Nat) : Ent := { ins := [(.sl (.int .i64))], outs := [.own (.int .i64)], F := fun x => laws_toInt64S N x.1 }
def laws_toInt64S_T (_ : Nat) : Nat → List EntX := fun _ => []
def laws_toInt64S_L : Nat → List (Nat × TK)
  | 3 => [(3, .own (.int .i64)), (4, .v (.int .i64))]
  | _ => []
theorem laws_toInt64S_eq (N : Nat) : runF N tt (laws_toInt64S_T N) laws_toInt64S_L [(.sl (.int .i64))] [.own (.int .i64)] (bodyOf Try.f26) Try.f26.ntmps [2] = (laws_toInt64S_e N).F := by
  funext x
  kernel_rfl
theorem laws_toInt64S_sound (N : Nat) : SoundC Try.prog 26 (laws_toInt64S_e N) := by
  have h := runF_sound (f := 26) (code := bodyOf Try.f26) (N := N) (T := laws_toInt64S_T N) (L := laws_toInt64S_L) (ins := [(.sl (.int .i64))]) (outs := [.own (.int .i64)]) (res := [2]) mixed tt_ok ?_ Try.func26 (by kernel_rfl) rfl (by kernel_rfl) (by kernel_rfl) (by decide +kernel)
  · rw [laws_toInt64S_eq] at h
    exact h
  · intro f e he
    cases he

/- laws.eqInt64S -/
def laws_eqInt64S (N : Nat) (x0 : List Int) (x1 : List Int) : Option (Bool × Unit) :=
  cond ((List.length x0 : Int) != (List.length x1 : Int))
    (some (false, ()))
    (loopN (fun (s1 : Int × Unit) next2 =>
      cond (decide (s1.1 < (List.length x0 : Int)))
        (Option.bind (idx x0 s1.1) fun v3 =>
        Option.bind (idx x1 s1.1) fun v4 =>
        cond (v3 != v4)
          (some (false, ()))
          (next2 ((w64 (s1.1 + 1)), ())))
        (some (true, ()))) N (0, ()))
def laws_eqInt64S_e (N : Nat) : Ent := { ins := [(.sl (.int .i64)), (.sl (.int .i64))], outs := [.val .bool], F := fun x => laws_eqInt64S N x.1 x.2.1 }
def laws_eqInt64S_T (_ : Nat) : Nat → List EntX := fun _ => []
def laws_eqInt64S_L : Nat → List (Nat × TK)
  | 4 => [(5, .v (.int .i64))]
  | _ => []
theorem laws_eqInt64S_eq (N : Nat) : runF N tt (laws_eqInt64S_T N) laws_eqInt64S_L [(.sl (.int .i64)), (.sl (.int .i64))] [.val .bool] (bodyOf Try.f28) Try.f28.ntmps [4] = (laws_eqInt64S_e N).F := by
  funext x
  kernel_rfl
theorem laws_eqInt64S_sound (N : Nat) : SoundC Try.prog 28 (laws_eqInt64S_e N) := by
  have h := runF_sound (f := 28) (code := bodyOf Try.f28) (N := N) (T := laws_eqInt64S_T N) (L := laws_eqInt64S_L) (ins := [(.sl (.int .i64)), (.sl (.int .i64))]) (outs := [.val .bool]) (res := [4]) mixed tt_ok ?_ Try.func28 (by kernel_rfl) rfl (by kernel_rfl) (by kernel_rfl) (by decide +kernel)
  · rw [laws_eqInt64S_eq] at h
    exact h
  · intro f e he
    cases he

/- spec.l00In -/
def spec_l00In (_N : Nat) (x0 : Int) (x1 : Int) (x2 : Int) : Option (Bool × Unit) :=
  cond (decide (x0 ≥ x1))
    (some ((decide (x0 ≤ x2)), ()))
    (some (false, ()))
def spec_l00In_e (N : Nat) : Ent := { ins := [(.int .i64), (.int .i64), (.int .i64)], outs := [.val .bool], F := fun x => spec_l00In N x.1 x.2.1 x.2.2.1 }
def spec_l00In_T (_ : Nat) : Nat → List EntX := fun _ => []
def spec_l00In_L : Nat → List (Nat × TK) := fun _ => []
theorem spec_l00In_eq (N : Nat) : runF N tt (spec_l00In_T N) spec_l00In_L [(.int .i64), (.int .i64), (.int .i64)] [.val .bool] (bodyOf Try.f63) Try.f63.ntmps [6] = (spec_l00In_e N).F := by
  funext x
  kernel_rfl
theorem spec_l00In_sound (N : Nat) : SoundC Try.prog 63 (spec_l00In_e N) := by
  have h := runF_sound (f := 63) (code := bodyOf Try.f63) (N := N) (T := spec_l00In_T N) (L := spec_l00In_L) (ins := [(.int .i64), (.int .i64), (.int .i64)]) (outs := [.val .bool]) (res := [6]) mixed tt_ok ?_ Try.func63 (by kernel_rfl) rfl (by kernel_rfl) (by kernel_rfl) (by decide +kernel)
  · rw [spec_l00In_eq] at h
    exact h
  · intro f e he
    cases he

/- spec.l02Times -/
def spec_l02Times (N : Nat) (x0 : List Int) : Option (Bool × Unit) :=
  loopN (fun (s1 : Int × Unit) next2 =>
    cond (decide (s1.1 < (List.length x0 : Int)))
      (Option.bind (idx x0 s1.1) fun v3 =>
      Option.bind (spec_l00In N v3 1 10000) fun r4 =>
      cond (!r4.1)
        (some (false, ()))
        (next2 ((w64 (s1.1 + 1)), ())))
      (cond (decide ((List.length x0 : Int) ≥ 1))
        (some ((decide ((List.length x0 : Int) ≤ 24)), ()))
        (some (false, ())))) N (0, ())
def spec_l02Times_e (N : Nat) : Ent := { ins := [(.sl (.int .i64))], outs := [.val .bool], F := fun x => spec_l02Times N x.1 }
def spec_l02Times_T (N : Nat) : Nat → List EntX
  | 63 => [.pl (spec_l00In_e N)]
  | _ => []
def spec_l02Times_L : Nat → List (Nat × TK)
  | 2 => [(3, .v (.int .i64))]
  | _ => []
theorem spec_l02Times_eq (N : Nat) : runF N tt (spec_l02Times_T N) spec_l02Times_L [(.sl (.int .i64))] [.val .bool] (bodyOf Try.f98) Try.f98.ntmps [2] = (spec_l02Times_e N).F := by
  funext x
  kernel_rfl
theorem spec_l02Times_sound (N : Nat) : SoundC Try.prog 98 (spec_l02Times_e N) := by
  have h := runF_sound (f := 98) (code := bodyOf Try.f98) (N := N) (T := spec_l02Times_T N) (L := spec_l02Times_L) (ins := [(.sl (.int .i64))]) (outs := [.val .bool]) (res := [2]) mixed tt_ok ?_ Try.func98 (by kernel_rfl) rfl (by kernel_rfl) (by kernel_rfl) (by decide +kernel)
  · rw [spec_l02Times_eq] at h
    exact h
  · intro f e he
    unfold spec_l02Times_T at he
    split at he
    · rw [List.mem_singleton.1 he]; exact spec_l00In_sound N
    · cases he

/- spec.l04Tasks -/
def spec_l04Tasks (N : Nat) (x0 : List Int) : Option (Bool × Unit) :=
  Option.bind (spec_l02Times N x0) fun r1 =>
  cond r1.1
    (some ((decide ((List.length x0 : Int) ≤ 12)), ()))
    (some (false, ()))
def spec_l04Tasks_e (N : Nat) : Ent := { ins := [(.sl (.int .i64))], outs := [.val .bool], F := fun x => spec_l04Tasks N x.1 }
def spec_l04Tasks_T (N : Nat) : Nat → List EntX
  | 98 => [.pl (spec_l02Times_e N)]
  | _ => []
def spec_l04Tasks_L : Nat → List (Nat × TK) := fun _ => []
theorem spec_l04Tasks_eq (N : Nat) : runF N tt (spec_l04Tasks_T N) spec_l04Tasks_L [(.sl (.int .i64))] [.val .bool] (bodyOf Try.f62) Try.f62.ntmps [2] = (spec_l04Tasks_e N).F := by
  funext x
  kernel_rfl
theorem spec_l04Tasks_sound (N : Nat) : SoundC Try.prog 62 (spec_l04Tasks_e N) := by
  have h := runF_sound (f := 62) (code := bodyOf Try.f62) (N := N) (T := spec_l04Tasks_T N) (L := spec_l04Tasks_L) (ins := [(.sl (.int .i64))]) (outs := [.val .bool]) (res := [2]) mixed tt_ok ?_ Try.func62 (by kernel_rfl) rfl (by kernel_rfl) (by kernel_rfl) (by decide +kernel)
  · rw [spec_l04Tasks_eq] at h
    exact h
  · intro f e he
    unfold spec_l04Tasks_T at he
    split at he
    · rw [List.mem_singleton.1 he]; exact spec_l02Times_sound N
    · cases he

/- spec.l00Max -/
def spec_l00Max (_N : Nat) (x0 : Int) (x1 : Int) : Option (Int × Unit) :=
  cond (decide (x0 > x1))
    (some (x0, ()))
    (some (x1, ()))
def spec_l00Max_e (N : Nat) : Ent := { ins := [(.int .i64), (.int .i64)], outs := [.val (.int .i64)], F := fun x => spec_l00Max N x.1 x.2.1 }
def spec_l00Max_T (_ : Nat) : Nat → List EntX := fun _ => []
def spec_l00Max_L : Nat → List (Nat × TK) := fun _ => []
theorem spec_l00Max_eq (N : Nat) : runF N tt (spec_l00Max_T N) spec_l00Max_L [(.int .i64), (.int .i64)] [.val (.int .i64)] (bodyOf Try.f86) Try.f86.ntmps [4] = (spec_l00Max_e N).F := by
  funext x
  kernel_rfl
theorem spec_l00Max_sound (N : Nat) : SoundC Try.prog 86 (spec_l00Max_e N) := by
  have h := runF_sound (f := 86) (code := bodyOf Try.f86) (N := N) (T := spec_l00Max_T N) (L := spec_l00Max_L) (ins := [(.int .i64), (.int .i64)]) (outs := [.val (.int .i64)]) (res := [4]) mixed tt_ok ?_ Try.func86 (by kernel_rfl) rfl (by kernel_rfl) (by kernel_rfl) (by decide +kernel)
  · rw [spec_l00Max_eq] at h
    exact h
  · intro f e he
    cases he

/- spec.l02Greatest -/
def spec_l02Greatest (N : Nat) (x0 : List Int) : Option (Int × Unit) :=
  Option.bind (idx x0 0) fun v1 =>
  loopN (fun (s2 : Int × Int × Unit) next3 =>
    cond (decide (s2.2.1 < (List.length x0 : Int)))
      (Option.bind (idx x0 s2.2.1) fun v4 =>
      Option.bind (spec_l00Max N s2.1 v4) fun r5 =>
      next3 (r5.1, (w64 (s2.2.1 + 1)), ()))
      (some (s2.1, ()))) N (v1, 1, ())
def spec_l02Greatest_e (N : Nat) : Ent := { ins := [(.sl (.int .i64))], outs := [.val (.int .i64)], F := fun x => spec_l02Greatest N x.1 }
def spec_l02Greatest_T (N : Nat) : Nat → List EntX
  | 86 => [.pl (spec_l00Max_e N)]
  | _ => []
def spec_l02Greatest_L : Nat → List (Nat × TK)
  | 3 => [(3, .v (.int .i64)), (4, .v (.int .i64))]
  | _ => []
theorem spec_l02Greatest_eq (N : Nat) : runF N tt (spec_l02Greatest_T N) spec_l02Greatest_L [(.sl (.int .i64))] [.val (.int .i64)] (bodyOf Try.f64) Try.f64.ntmps [2] = (spec_l02Greatest_e N).F := by
  funext x
  kernel_rfl
theorem spec_l02Greatest_sound (N : Nat) : SoundC Try.prog 64 (spec_l02Greatest_e N) := by
  have h := runF_sound (f := 64) (code := bodyOf Try.f64) (N := N) (T := spec_l02Greatest_T N) (L := spec_l02Greatest_L) (ins := [(.sl (.int .i64))]) (outs := [.val (.int .i64)]) (res := [2]) mixed tt_ok ?_ Try.func64 (by kernel_rfl) rfl (by kernel_rfl) (by kernel_rfl) (by decide +kernel)
  · rw [spec_l02Greatest_eq] at h
    exact h
  · intro f e he
    unfold spec_l02Greatest_T at he
    split at he
    · rw [List.mem_singleton.1 he]; exact spec_l00Max_sound N
    · cases he

/- spec.LoadsOfLine -/
def spec_LoadsOfLine (N : Nat) (x0 : List Int) (x1 : List Int) : Option (List (Int) × Bool × Unit) :=
  Option.bind (spec_l04Tasks N x0) fun r1 =>
  cond (!r1.1)
    (some ([], false, ()))
    (cond ((List.length x1 : Int) != (List.length x0 : Int))
      (some ([], false, ()))
      (loopN (fun (s2 : Int × Unit) next3 =>
        cond (decide (s2.1 < (List.length x1 : Int)))
          (Option.bind (idx x1 s2.1) fun v4 =>
          Option.bind (spec_l00In N v4 0 11) fun r5 =>
          cond (!r5.1)
            (some ([], false, ()))
            (next3 ((w64 (s2.1 + 1)), ())))
          (Option.bind (spec_l02Greatest N x1) fun r6 =>
          cond (mkOk (w64 (r6.1 + 1)) (w64 (r6.1 + 1)))
            (let xs7 := (List.replicate (Int.toNat (w64 (r6.1 + 1))) (0 : Int) : List (Int))
            loopN (fun (s8 : List (Int) × Int × Unit) next9 =>
              cond (decide (s8.2.1 < (List.length x0 : Int)))
                (Option.bind (idx x1 s8.2.1) fun v10 =>
                cond (inB v10 (List.length s8.1))
                  (Option.bind (s8.1[(Int.toNat v10)]?) fun v11 =>
                  Option.bind (idx x0 s8.2.1) fun v12 =>
                  cond (inB v10 (List.length s8.1))
                    (let xs13 := (List.set s8.1 (Int.toNat v10) (w64 (v11 + v12)))
                    next9 (xs13, (w64 (s8.2.1 + 1)), ())) none) none)
                (some (s8.1, true, ()))) N (xs7, 0, ())) none)) N (0, ())))
def spec_LoadsOfLine_e (N : Nat) : Ent := { ins := [(.sl (.int .i64)), (.sl (.int .i64))], outs := [.own (.int .i64), .val .bool], F := fun x => spec_LoadsOfLine N x.1 x.2.1 }
def spec_LoadsOfLine_T (N : Nat) : Nat → List EntX
  | 62 => [.pl (spec_l04Tasks_e N)]
  | 63 => [.pl (spec_l00In_e N)]
  | 64 => [.pl (spec_l02Greatest_e N)]
  | _ => []
def spec_LoadsOfLine_L : Nat → List (Nat × TK)
  | 4 => [(6, .v (.int .i64))]
  | 10 => [(7, .own (.int .i64)), (8, .v (.int .i64))]
  | _ => []
theorem spec_LoadsOfLine_eq (N : Nat) : runF N tt (spec_LoadsOfLine_T N) spec_LoadsOfLine_L [(.sl (.int .i64)), (.sl (.int .i64))] [.own (.int .i64), .val .bool] (bodyOf Try.f29) Try.f29.ntmps [4, 5] = (spec_LoadsOfLine_e N).F := by
  funext x
  kernel_rfl
theorem spec_LoadsOfLine_sound (N : Nat) : SoundC Try.prog 29 (spec_LoadsOfLine_e N) := by
  have h := runF_sound (f := 29) (code := bodyOf Try.f29) (N := N) (T := spec_LoadsOfLine_T N) (L := spec_LoadsOfLine_L) (ins := [(.sl (.int .i64)), (.sl (.int .i64))]) (outs := [.own (.int .i64), .val .bool]) (res := [4, 5]) mixed tt_ok ?_ Try.func29 (by kernel_rfl) rfl (by kernel_rfl) (by kernel_rfl) (by decide +kernel)
  · rw [spec_LoadsOfLine_eq] at h
    exact h
  · intro f e he
    unfold spec_LoadsOfLine_T at he
    split at he
    · rw [List.mem_singleton.1 he]; exact spec_l04Tasks_sound N
    · rw [List.mem_singleton.1 he]; exact spec_l00In_sound N
    · rw [List.mem_singleton.1 he]; exact spec_l02Greatest_sound N
    · cases he

/- impl.within -/
def impl_within (_N : Nat) (x0 : Int) (x1 : Int) (x2 : Int) : Option (Bool × Unit) :=
  cond (decide (x0 ≥ x1))
    (some ((decide (x0 ≤ x2)), ()))
    (some (false, ()))
def impl_within_e (N : Nat) : Ent := { ins := [(.int .i64), (.int .i64), (.int .i64)], outs := [.val .bool], F := fun x => impl_within N x.1 x.2.1 x.2.2.1 }
def impl_within_T (_ : Nat) : Nat → List EntX := fun _ => []
def impl_within_L : Nat → List (Nat × TK) := fun _ => []
theorem impl_within_eq (N : Nat) : runF N tt (impl_within_T N) impl_within_L [(.int .i64), (.int .i64), (.int .i64)] [.val .bool] (bodyOf Try.f75) Try.f75.ntmps [6] = (impl_within_e N).F := by
  funext x
  kernel_rfl
theorem impl_within_sound (N : Nat) : SoundC Try.prog 75 (impl_within_e N) := by
  have h := runF_sound (f := 75) (code := bodyOf Try.f75) (N := N) (T := impl_within_T N) (L := impl_within_L) (ins := [(.int .i64), (.int .i64), (.int .i64)]) (outs := [.val .bool]) (res := [6]) mixed tt_ok ?_ Try.func75 (by kernel_rfl) rfl (by kernel_rfl) (by kernel_rfl) (by decide +kernel)
  · rw [impl_within_eq] at h
    exact h
  · intro f e he
    cases he

/- impl.areWithin -/
def impl_areWithin (N : Nat) (x0 : List Int) (x1 : Int) (x2 : Int) : Option (Bool × Unit) :=
  loopN (fun (s1 : Int × Unit) next2 =>
    cond (decide (s1.1 < (List.length x0 : Int)))
      (Option.bind (idx x0 s1.1) fun v3 =>
      Option.bind (impl_within N v3 x1 x2) fun r4 =>
      cond (!r4.1)
        (some (false, ()))
        (next2 ((w64 (s1.1 + 1)), ())))
      (some (true, ()))) N (0, ())
def impl_areWithin_e (N : Nat) : Ent := { ins := [(.sl (.int .i64)), (.int .i64), (.int .i64)], outs := [.val .bool], F := fun x => impl_areWithin N x.1 x.2.1 x.2.2.1 }
def impl_areWithin_T (N : Nat) : Nat → List EntX
  | 75 => [.pl (impl_within_e N)]
  | _ => []
def impl_areWithin_L : Nat → List (Nat × TK)
  | 2 => [(11, .v (.int .i64))]
  | _ => []
theorem impl_areWithin_eq (N : Nat) : runF N tt (impl_areWithin_T N) impl_areWithin_L [(.sl (.int .i64)), (.int .i64), (.int .i64)] [.val .bool] (bodyOf Try.f76) Try.f76.ntmps [6] = (impl_areWithin_e N).F := by
  funext x
  kernel_rfl
theorem impl_areWithin_sound (N : Nat) : SoundC Try.prog 76 (impl_areWithin_e N) := by
  have h := runF_sound (f := 76) (code := bodyOf Try.f76) (N := N) (T := impl_areWithin_T N) (L := impl_areWithin_L) (ins := [(.sl (.int .i64)), (.int .i64), (.int .i64)]) (outs := [.val .bool]) (res := [6]) mixed tt_ok ?_ Try.func76 (by kernel_rfl) rfl (by kernel_rfl) (by kernel_rfl) (by decide +kernel)
  · rw [impl_areWithin_eq] at h
    exact h
  · intro f e he
    unfold impl_areWithin_T at he
    split at he
    · rw [List.mem_singleton.1 he]; exact impl_within_sound N
    · cases he

/- impl.areMany -/
def impl_areMany (N : Nat) (x0 : List Int) (x1 : Int) (x2 : Int) (x3 : Int) (x4 : Int) : Option (Bool × Unit) :=
  cond (decide ((List.length x0 : Int) ≥ x1))
    (cond (decide ((List.length x0 : Int) ≤ x2))
      (Option.bind (impl_areWithin N x0 x3 x4) fun r1 =>
      some (r1.1, ()))
      (some (false, ())))
    (some (false, ()))
def impl_areMany_e (N : Nat) : Ent := { ins := [(.sl (.int .i64)), (.int .i64), (.int .i64), (.int .i64), (.int .i64)], outs := [.val .bool], F := fun x => impl_areMany N x.1 x.2.1 x.2.2.1 x.2.2.2.1 x.2.2.2.2.1 }
def impl_areMany_T (N : Nat) : Nat → List EntX
  | 76 => [.pl (impl_areWithin_e N)]
  | _ => []
def impl_areMany_L : Nat → List (Nat × TK) := fun _ => []
theorem impl_areMany_eq (N : Nat) : runF N tt (impl_areMany_T N) impl_areMany_L [(.sl (.int .i64)), (.int .i64), (.int .i64), (.int .i64), (.int .i64)] [.val .bool] (bodyOf Try.f66) Try.f66.ntmps [10] = (impl_areMany_e N).F := by
  funext x
  kernel_rfl
theorem impl_areMany_sound (N : Nat) : SoundC Try.prog 66 (impl_areMany_e N) := by
  have h := runF_sound (f := 66) (code := bodyOf Try.f66) (N := N) (T := impl_areMany_T N) (L := impl_areMany_L) (ins := [(.sl (.int .i64)), (.int .i64), (.int .i64), (.int .i64), (.int .i64)]) (outs := [.val .bool]) (res := [10]) mixed tt_ok ?_ Try.func66 (by kernel_rfl) rfl (by kernel_rfl) (by kernel_rfl) (by decide +kernel)
  · rw [impl_areMany_eq] at h
    exact h
  · intro f e he
    unfold impl_areMany_T at he
    split at he
    · rw [List.mem_singleton.1 he]; exact impl_areWithin_sound N
    · cases he

/- impl.areLine -/
def impl_areLine (N : Nat) (x0 : List Int) : Option (Bool × Unit) :=
  Option.bind (impl_areMany N x0 1 12 1 10000) fun r1 =>
  some (r1.1, ())
def impl_areLine_e (N : Nat) : Ent := { ins := [(.sl (.int .i64))], outs := [.val .bool], F := fun x => impl_areLine N x.1 }
def impl_areLine_T (N : Nat) : Nat → List EntX
  | 66 => [.pl (impl_areMany_e N)]
  | _ => []
def impl_areLine_L : Nat → List (Nat × TK) := fun _ => []
theorem impl_areLine_eq (N : Nat) : runF N tt (impl_areLine_T N) impl_areLine_L [(.sl (.int .i64))] [.val .bool] (bodyOf Try.f65) Try.f65.ntmps [2] = (impl_areLine_e N).F := by
  funext x
  kernel_rfl
theorem impl_areLine_sound (N : Nat) : SoundC Try.prog 65 (impl_areLine_e N) := by
  have h := runF_sound (f := 65) (code := bodyOf Try.f65) (N := N) (T := impl_areLine_T N) (L := impl_areLine_L) (ins := [(.sl (.int .i64))]) (outs := [.val .bool]) (res := [2]) mixed tt_ok ?_ Try.func65 (by kernel_rfl) rfl (by kernel_rfl) (by kernel_rfl) (by decide +kernel)
  · rw [impl_areLine_eq] at h
    exact h
  · intro f e he
    unfold impl_areLine_T at he
    split at he
    · rw [List.mem_singleton.1 he]; exact impl_areMany_sound N
    · cases he

/- slices.Max[[]int64,int64] -/
def slices_Max_int64_int64 (N : Nat) (x0 : List Int) : Option (Int × Unit) :=
  cond (decide ((List.length x0 : Int) < 1))
    (none)
    (Option.bind (idx x0 0) fun v1 =>
    loopN (fun (s2 : Int × Int × Unit) next3 =>
      cond (decide (s2.2.1 < (List.length x0 : Int)))
        (Option.bind (idx x0 s2.2.1) fun v4 =>
        next3 ((imax s2.1 v4), (w64 (s2.2.1 + 1)), ()))
        (some (s2.1, ()))) N (v1, 1, ()))
def slices_Max_int64_int64_e (N : Nat) : Ent := { ins := [(.sl (.int .i64))], outs := [.val (.int .i64)], F := fun x => slices_Max_int64_int64 N x.1 }
def slices_Max_int64_int64_T (_ : Nat) : Nat → List EntX := fun _ => []
def slices_Max_int64_int64_L : Nat → List (Nat × TK)
  | 5 => [(3, .v (.int .i64)), (4, .v (.int .i64))]
  | _ => []
theorem slices_Max_int64_int64_eq (N : Nat) : runF N tt (slices_Max_int64_int64_T N) slices_Max_int64_int64_L [(.sl (.int .i64))] [.val (.int .i64)] (bodyOf Try.f67) Try.f67.ntmps [2] = (slices_Max_int64_int64_e N).F := by
  funext x
  kernel_rfl
theorem slices_Max_int64_int64_sound (N : Nat) : SoundC Try.prog 67 (slices_Max_int64_int64_e N) := by
  have h := runF_sound (f := 67) (code := bodyOf Try.f67) (N := N) (T := slices_Max_int64_int64_T N) (L := slices_Max_int64_int64_L) (ins := [(.sl (.int .i64))]) (outs := [.val (.int .i64)]) (res := [2]) mixed tt_ok ?_ Try.func67 (by kernel_rfl) rfl (by kernel_rfl) (by kernel_rfl) (by decide +kernel)
  · rw [slices_Max_int64_int64_eq] at h
    exact h
  · intro f e he
    cases he

/- impl.LoadsOfLine -/
def impl_LoadsOfLine (N : Nat) (x0 : List Int) (x1 : List Int) : Option (List (Int) × Bool × Unit) :=
  Option.bind (impl_areLine N x0) fun r1 =>
  cond (!r1.1)
    (some ([], false, ()))
    (Option.bind (impl_areMany N x1 (List.length x0 : Int) (List.length x0 : Int) 0 11) fun r2 =>
    cond (!r2.1)
      (some ([], false, ()))
      (Option.bind (slices_Max_int64_int64 N x1) fun r3 =>
      cond (mkOk (w64 (r3.1 + 1)) (w64 (r3.1 + 1)))
        (let xs4 := (List.replicate (Int.toNat (w64 (r3.1 + 1))) (0 : Int) : List (Int))
        loopN (fun (s5 : List (Int) × Int × Unit) next6 =>
          cond (decide (s5.2.1 < (List.length x1 : Int)))
            (Option.bind (idx x1 s5.2.1) fun v7 =>
            cond (inB v7 (List.length s5.1))
              (Option.bind (s5.1[(Int.toNat v7)]?) fun v8 =>
              Option.bind (idx x0 s5.2.1) fun v9 =>
              cond (inB v7 (List.length s5.1))
                (let xs10 := (List.set s5.1 (Int.toNat v7) (w64 (v8 + v9)))
                next6 (xs10, (w64 (s5.2.1 + 1)), ())) none) none)
            (some (s5.1, true, ()))) N (xs4, 0, ())) none))
def impl_LoadsOfLine_e (N : Nat) : Ent := { ins := [(.sl (.int .i64)), (.sl (.int .i64))], outs := [.own (.int .i64), .val .bool], F := fun x => impl_LoadsOfLine N x.1 x.2.1 }
def impl_LoadsOfLine_T (N : Nat) : Nat → List EntX
  | 65 => [.pl (impl_areLine_e N)]
  | 66 => [.pl (impl_areMany_e N)]
  | 67 => [.pl (slices_Max_int64_int64_e N)]
  | _ => []
def impl_LoadsOfLine_L : Nat → List (Nat × TK)
  | 5 => [(6, .own (.int .i64)), (27, .v (.int .i64))]
  | _ => []
theorem impl_LoadsOfLine_eq (N : Nat) : runF N tt (impl_LoadsOfLine_T N) impl_LoadsOfLine_L [(.sl (.int .i64)), (.sl (.int .i64))] [.own (.int .i64), .val .bool] (bodyOf Try.f30) Try.f30.ntmps [4, 5] = (impl_LoadsOfLine_e N).F := by
  funext x
  kernel_rfl
theorem impl_LoadsOfLine_sound (N : Nat) : SoundC Try.prog 30 (impl_LoadsOfLine_e N) := by
  have h := runF_sound (f := 30) (code := bodyOf Try.f30) (N := N) (T := impl_LoadsOfLine_T N) (L := impl_LoadsOfLine_L) (ins := [(.sl (.int .i64)), (.sl (.int .i64))]) (outs := [.own (.int .i64), .val .bool]) (res := [4, 5]) mixed tt_ok ?_ Try.func30 (by kernel_rfl) rfl (by kernel_rfl) (by kernel_rfl) (by decide +kernel)
  · rw [impl_LoadsOfLine_eq] at h
    exact h
  · intro f e he
    unfold impl_LoadsOfLine_T at he
    split at he
    · rw [List.mem_singleton.1 he]; exact impl_areLine_sound N
    · rw [List.mem_singleton.1 he]; exact impl_areMany_sound N
    · rw [List.mem_singleton.1 he]; exact slices_Max_int64_int64_sound N
    · cases he

/- laws.markInt64S -/
def laws_markInt64S (N : Nat) (x0 : List Int) (x1 : Int) : Option (List (Int) × (Int × Unit)) :=
  loopN (fun (s1 : List (Int) × Int × Int × Unit) next2 =>
    cond (decide (s1.2.2.1 < (List.length s1.1 : Int)))
      (cond (inB s1.2.2.1 (List.length s1.1))
        (let xs3 := (List.set s1.1 (Int.toNat s1.2.2.1) s1.2.1)
        next2 (xs3, (w64 (s1.2.1 + 1)), (w64 (s1.2.2.1 + 1)), ())) none)
      (some (s1.1, (s1.2.1, ())))) N (x0, x1, 0, ())
def laws_markInt64S_e (N : Nat) : EntM := { io := (.int .i64), ins := [(.int .i64)], outs := [.val (.int .i64)], F := fun xs x => laws_markInt64S N xs x.1 }
def laws_markInt64S_T (_ : Nat) : Nat → List EntX := fun _ => []
def laws_markInt64S_L : Nat → List (Nat × TK)
  | 2 => [(0, .own (.int .i64)), (1, .v (.int .i64)), (5, .v (.int .i64))]
  | _ => []
theorem laws_markInt64S_eq (N : Nat) : runM N tt (laws_markInt64S_T N) laws_markInt64S_L (.int .i64) [(.int .i64)] [.val (.int .i64)] (bodyOf Try.f31) Try.f31.ntmps [4] = (laws_markInt64S_e N).F := by
  funext xs x
  kernel_rfl
theorem laws_markInt64S_sound (N : Nat) : SoundM Try.prog 31 (laws_markInt64S_e N) := by
  have h := runM_sound (f := 31) (code := bodyOf Try.f31) (N := N) (T := laws_markInt64S_T N) (L := laws_markInt64S_L) (io := (.int .i64)) (ins := [(.int .i64)]) (outs := [.val (.int .i64)]) (res := [4]) mixed tt_ok ?_ Try.func31 (by kernel_rfl) rfl (by kernel_rfl) (by kernel_rfl) (by decide +kernel)
  · rw [laws_markInt64S_eq] at h
    exact h
  · intro f e he
    cases he

/- laws.heldInt64S -/
def laws_heldInt64S (N : Nat) (x0 : List Int) (x1 : Int) : Option (Int × Unit) :=
  loopN (fun (s1 : Int × Int × Unit) next2 =>
    cond (decide (s1.2.1 < (List.length x0 : Int)))
      (Option.bind (idx x0 s1.2.1) fun v3 =>
      cond (v3 != s1.1)
        (some ((-1), ()))
        (next2 ((w64 (s1.1 + 1)), (w64 (s1.2.1 + 1)), ())))
      (some (s1.1, ()))) N (x1, 0, ())
def laws_heldInt64S_e (N : Nat) : Ent := { ins := [(.sl (.int .i64)), (.int .i64)], outs := [.val (.int .i64)], F := fun x => laws_heldInt64S N x.1 x.2.1 }
def laws_heldInt64S_T (_ : Nat) : Nat → List EntX := fun _ => []
def laws_heldInt64S_L : Nat → List (Nat × TK)
  | 2 => [(1, .v (.int .i64)), (5, .v (.int .i64))]
  | _ => []
theorem laws_heldInt64S_eq (N : Nat) : runF N tt (laws_heldInt64S_T N) laws_heldInt64S_L [(.sl (.int .i64)), (.int .i64)] [.val (.int .i64)] (bodyOf Try.f32) Try.f32.ntmps [4] = (laws_heldInt64S_e N).F := by
  funext x
  kernel_rfl
theorem laws_heldInt64S_sound (N : Nat) : SoundC Try.prog 32 (laws_heldInt64S_e N) := by
  have h := runF_sound (f := 32) (code := bodyOf Try.f32) (N := N) (T := laws_heldInt64S_T N) (L := laws_heldInt64S_L) (ins := [(.sl (.int .i64)), (.int .i64)]) (outs := [.val (.int .i64)]) (res := [4]) mixed tt_ok ?_ Try.func32 (by kernel_rfl) rfl (by kernel_rfl) (by kernel_rfl) (by decide +kernel)
  · rw [laws_heldInt64S_eq] at h
    exact h
  · intro f e he
    cases he

/- laws.FnExactLoadsOfLine -/
def laws_FnExactLoadsOfLine (N : Nat) (x0 : List Int) (x1 : List Int) : Option (Bool × Unit) :=
  cond (decide ((List.length x0 : Int) > 1048576))
    (some (true, ()))
    (cond (decide ((List.length x1 : Int) > 1048576))
      (some (true, ()))
      (Option.bind (laws_toInt64S N x0) fun r1 =>
      Option.bind (laws_toInt64S N x1) fun r2 =>
      Option.bind (spec_LoadsOfLine N r1.1 r2.1) fun r3 =>
      Option.bind (laws_toInt64S N x0) fun r4 =>
      Option.bind (laws_toInt64S N x1) fun r5 =>
      Option.bind (impl_LoadsOfLine N r4.1 r5.1) fun r6 =>
      Option.bind (laws_eqInt64S N r6.1 r3.1) fun r7 =>
      cond (!r7.1)
        (some (false, ()))
        (cond (!(r6.2.1 == r3.2.1))
          (some (false, ()))
          (Option.bind (laws_toInt64S N x0) fun r8 =>
          Option.bind (laws_eqInt64S N r4.1 r8.1) fun r9 =>
          cond (!r9.1)
            (some (false, ()))
            (Option.bind (laws_toInt64S N x1) fun r10 =>
            Option.bind (laws_eqInt64S N r5.1 r10.1) fun r11 =>
            cond (!r11.1)
              (some (false, ()))
              (Option.bind (laws_markInt64S N r4.1 1) fun r12 =>
              cond (Nat.beq (List.length r12.1) (List.length r4.1))
                (Option.bind (laws_markInt64S N r5.1 r12.2.1) fun r13 =>
                cond (Nat.beq (List.length r13.1) (List.length r5.1))
                  (cond (decide (r13.2.1 < 0))
                    (some (false, ()))
                    (Option.bind (laws_eqInt64S N r6.1 r3.1) fun r14 =>
                    cond (!r14.1)
                      (some (false, ()))
                      (cond (!(r6.2.1 == r3.2.1))
                        (some (false, ()))
                        (Option.bind (laws_markInt64S N r6.1 1) fun r15 =>
                        cond (Nat.beq (List.length r15.1) (List.length r6.1))
                          (Option.bind (laws_heldInt64S N r15.1 1) fun r16 =>
                          cond (decide (r16.1 < 0))
                            (some (false, ()))
                            (cond (r16.1 != r15.2.1)
                              (some (false, ()))
                              (Option.bind (laws_toInt64S N x0) fun r17 =>
                              Option.bind (laws_toInt64S N x1) fun r18 =>
                              Option.bind (impl_LoadsOfLine N r17.1 r18.1) fun r19 =>
                              Option.bind (laws_eqInt64S N r19.1 r3.1) fun r20 =>
                              cond (!r20.1)
                                (some (false, ()))
                                (cond (!(r19.2.1 == r3.2.1))
                                  (some (false, ()))
                                  (Option.bind (laws_heldInt64S N r15.1 1) fun r21 =>
                                  cond (decide (r21.1 < 0))
                                    (some (false, ()))
                                    (cond (r21.1 != r15.2.1)
                                      (some (false, ()))
                                      (some (true, ())))))))) none)))) none) none))))))
def laws_FnExactLoadsOfLine_e (N : Nat) : Ent := { ins := [(.sl (.int .i64)), (.sl (.int .i64))], outs := [.val .bool], F := fun x => laws_FnExactLoadsOfLine N x.1 x.2.1 }
def laws_FnExactLoadsOfLine_T (N : Nat) : Nat → List EntX
  | 26 => [.pl (laws_toInt64S_e N)]
  | 28 => [.pl (laws_eqInt64S_e N)]
  | 29 => [.pl (spec_LoadsOfLine_e N)]
  | 30 => [.pl (impl_LoadsOfLine_e N)]
  | 31 => [.mu (laws_markInt64S_e N)]
  | 32 => [.pl (laws_heldInt64S_e N)]
  | _ => []
def laws_FnExactLoadsOfLine_L : Nat → List (Nat × TK) := fun _ => []
theorem laws_FnExactLoadsOfLine_eq (N : Nat) : runF N tt (laws_FnExactLoadsOfLine_T N) laws_FnExactLoadsOfLine_L [(.sl (.int .i64)), (.sl (.int .i64))] [.val .bool] (bodyOf Try.f6) Try.f6.ntmps [4] = (laws_FnExactLoadsOfLine_e N).F := by
  funext x
  kernel_rfl
theorem laws_FnExactLoadsOfLine_sound (N : Nat) : SoundC Try.prog 6 (laws_FnExactLoadsOfLine_e N) := by
  have h := runF_sound (f := 6) (code := bodyOf Try.f6) (N := N) (T := laws_FnExactLoadsOfLine_T N) (L := laws_FnExactLoadsOfLine_L) (ins := [(.sl (.int .i64)), (.sl (.int .i64))]) (outs := [.val .bool]) (res := [4]) mixed tt_ok ?_ Try.func6 (by kernel_rfl) rfl (by kernel_rfl) (by kernel_rfl) (by decide +kernel)
  · rw [laws_FnExactLoadsOfLine_eq] at h
    exact h
  · intro f e he
    unfold laws_FnExactLoadsOfLine_T at he
    split at he
    · rw [List.mem_singleton.1 he]; exact laws_toInt64S_sound N
    · rw [List.mem_singleton.1 he]; exact laws_eqInt64S_sound N
    · rw [List.mem_singleton.1 he]; exact spec_LoadsOfLine_sound N
    · rw [List.mem_singleton.1 he]; exact impl_LoadsOfLine_sound N
    · rw [List.mem_singleton.1 he]; exact laws_markInt64S_sound N
    · rw [List.mem_singleton.1 he]; exact laws_heldInt64S_sound N
    · cases he

/- spec.l02Sum -/
def spec_l02Sum (N : Nat) (x0 : List Int) : Option (Int × Unit) :=
  loopN (fun (s1 : Int × Int × Unit) next2 =>
    cond (decide (s1.2.1 < (List.length x0 : Int)))
      (Option.bind (idx x0 s1.2.1) fun v3 =>
      next2 ((w64 (s1.1 + v3)), (w64 (s1.2.1 + 1)), ()))
      (some (s1.1, ()))) N (0, 0, ())
def spec_l02Sum_e (N : Nat) : Ent := { ins := [(.sl (.int .i64))], outs := [.val (.int .i64)], F := fun x => spec_l02Sum N x.1 }
def spec_l02Sum_T (_ : Nat) : Nat → List EntX := fun _ => []
def spec_l02Sum_L : Nat → List (Nat × TK)
  | 3 => [(3, .v (.int .i64)), (4, .v (.int .i64))]
  | _ => []
theorem spec_l02Sum_eq (N : Nat) : runF N tt (spec_l02Sum_T N) spec_l02Sum_L [(.sl (.int .i64))] [.val (.int .i64)] (bodyOf Try.f69) Try.f69.ntmps [2] = (spec_l02Sum_e N).F := by
  funext x
  kernel_rfl
theorem spec_l02Sum_sound (N : Nat) : SoundC Try.prog 69 (spec_l02Sum_e N) := by
  have h := runF_sound (f := 69) (code := bodyOf Try.f69) (N := N) (T := spec_l02Sum_T N) (L := spec_l02Sum_L) (ins := [(.sl (.int .i64))]) (outs := [.val (.int .i64)]) (res := [2]) mixed tt_ok ?_ Try.func69 (by kernel_rfl) rfl (by kernel_rfl) (by kernel_rfl) (by decide +kernel)
  · rw [spec_l02Sum_eq] at h
    exact h
  · intro f e he
    cases he

/- spec.l04Counts -/
def spec_l04Counts (N : Nat) (x0 : List Int) : Option (Bool × Unit) :=
  loopN (fun (s1 : Int × Unit) next2 =>
    cond (decide (s1.1 < (List.length x0 : Int)))
      (Option.bind (idx x0 s1.1) fun v3 =>
      Option.bind (spec_l00In N v3 0 16) fun r4 =>
      cond (!r4.1)
        (some (false, ()))
        (next2 ((w64 (s1.1 + 1)), ())))
      (cond (decide ((List.length x0 : Int) ≥ 1))
        (cond (decide ((List.length x0 : Int) ≤ 8))
          (Option.bind (spec_l02Sum N x0) fun r5 =>
          Option.bind (spec_l00In N r5.1 1 64) fun r6 =>
          some (r6.1, ()))
          (some (false, ())))
        (some (false, ())))) N (0, ())
def spec_l04Counts_e (N : Nat) : Ent := { ins := [(.sl (.int .i64))], outs := [.val .bool], F := fun x => spec_l04Counts N x.1 }
def spec_l04Counts_T (N : Nat) : Nat → List EntX
  | 63 => [.pl (spec_l00In_e N)]
  | 69 => [.pl (spec_l02Sum_e N)]
  | _ => []
def spec_l04Counts_L : Nat → List (Nat × TK)
  | 2 => [(3, .v (.int .i64))]
  | _ => []
theorem spec_l04Counts_eq (N : Nat) : runF N tt (spec_l04Counts_T N) spec_l04Counts_L [(.sl (.int .i64))] [.val .bool] (bodyOf Try.f68) Try.f68.ntmps [2] = (spec_l04Counts_e N).F := by
  funext x
  kernel_rfl
theorem spec_l04Counts_sound (N : Nat) : SoundC Try.prog 68 (spec_l04Counts_e N) := by
  have h := runF_sound (f := 68) (code := bodyOf Try.f68) (N := N) (T := spec_l04Counts_T N) (L := spec_l04Counts_L) (ins := [(.sl (.int .i64))]) (outs := [.val .bool]) (res := [2]) mixed tt_ok ?_ Try.func68 (by kernel_rfl) rfl (by kernel_rfl) (by kernel_rfl) (by decide +kernel)
  · rw [spec_l04Counts_eq] at h
    exact h
  · intro f e he
    unfold spec_l04Counts_T at he
    split at he
    · rw [List.mem_singleton.1 he]; exact spec_l00In_sound N
    · rw [List.mem_singleton.1 he]; exact spec_l02Sum_sound N
    · cases he

/- spec.MixedOrder -/
def spec_MixedOrder (N : Nat) (x0 : List Int) : Option (List (Int) × Bool × Unit) :=
  Option.bind (spec_l04Counts N x0) fun r1 =>
  cond (!r1.1)
    (some ([], false, ()))
    (Option.bind (spec_l02Sum N x0) fun r2 =>
    cond (mkOk (List.length x0 : Int) (List.length x0 : Int))
      (let xs3 := (List.replicate (Int.toNat (List.length x0 : Int)) (0 : Int) : List (Int))
      loopN (fun (s4 : List (Int) × List (Int) × Int × Unit) next5 =>
        cond (decide (s4.2.2.1 ≤ r2.1))
          (loopN (fun (s6 : Int × Int × Unit) next7 =>
            cond (decide (s6.2.1 < (List.length x0 : Int)))
              (cond (inB s6.2.1 (List.length s4.1))
                (Option.bind (s4.1[(Int.toNat s6.2.1)]?) fun v8 =>
                Option.bind (idx x0 s6.2.1) fun v9 =>
                cond (decide (v8 < v9))
                  (cond (decide (s6.1 < 0))
                    (next7 (s6.2.1, (w64 (s6.2.1 + 1)), ()))
                    (Option.bind (idx x0 s6.2.1) fun v10 =>
                    cond (inB s6.2.1 (List.length s4.1))
                      (Option.bind (s4.1[(Int.toNat s6.2.1)]?) fun v11 =>
                      Option.bind (idx x0 s6.1) fun v12 =>
                      cond (inB s6.1 (List.length s4.1))
                        (Option.bind (s4.1[(Int.toNat s6.1)]?) fun v13 =>
                        cond (decide ((w64 ((w64 (s4.2.2.1 * v10)) - (w64 (r2.1 * v11)))) > (w64 ((w64 (s4.2.2.1 * v12)) - (w64 (r2.1 * v13))))))
                          (next7 (s6.2.1, (w64 (s6.2.1 + 1)), ()))
                          (next7 (s6.1, (w64 (s6.2.1 + 1)), ()))) none) none))
                  (next7 (s6.1, (w64 (s6.2.1 + 1)), ()))) none)
              (cond (inB s6.1 (List.length s4.1))
                (Option.bind (s4.1[(Int.toNat s6.1)]?) fun v14 =>
                cond (inB s6.1 (List.length s4.1))
                  (let xs15 := (List.set s4.1 (Int.toNat s6.1) (w64 (v14 + 1)))
                  cond (appOk (List.length s4.2.1) (List.length ([s6.1] : List Int)))
                    (let xs16 := (s4.2.1 ++ ([s6.1] : List Int))
                    next5 (xs15, xs16, (w64 (s4.2.2.1 + 1)), ())) none) none) none)) N ((-1), 0, ()))
          (some (s4.2.1, true, ()))) N (xs3, ([] : List Int), 1, ())) none)
def spec_MixedOrder_e (N : Nat) : Ent := { ins := [(.sl (.int .i64))], outs := [.own (.int .i64), .val .bool], F := fun x => spec_MixedOrder N x.1 }
def spec_MixedOrder_T (N : Nat) : Nat → List EntX
  | 68 => [.pl (spec_l04Counts_e N)]
  | 69 => [.pl (spec_l02Sum_e N)]
  | _ => []
def spec_MixedOrder_L : Nat → List (Nat × TK)
  | 7 => [(5, .own (.int .i64)), (6, .own (.int .i64)), (7, .v (.int .i64))]
  | 11 => [(8, .v (.int .i64)), (9, .v (.int .i64))]
  | _ => []
theorem spec_MixedOrder_eq (N : Nat) : runF N tt (spec_MixedOrder_T N) spec_MixedOrder_L [(.sl (.int .i64))] [.own (.int .i64), .val .bool] (bodyOf Try.f33) Try.f33.ntmps [2, 3] = (spec_MixedOrder_e N).F := by
  funext x
  kernel_rfl
theorem spec_MixedOrder_sound (N : Nat) : SoundC Try.prog 33 (spec_MixedOrder_e N) := by
  have h := runF_sound (f := 33) (code := bodyOf Try.f33) (N := N) (T := spec_MixedOrder_T N) (L := spec_MixedOrder_L) (ins := [(.sl (.int .i64))]) (outs := [.own (.int .i64), .val .bool]) (res := [2, 3]) mixed tt_ok ?_ Try.func33 (by kernel_rfl) rfl (by kernel_rfl) (by kernel_rfl) (by decide +kernel)
  · rw [spec_MixedOrder_eq] at h
    exact h
  · intro f e he
    unfold spec_MixedOrder_T at he
    split at he
    · rw [List.mem_singleton.1 he]; exact spec_l04Counts_sound N
    · rw [List.mem_singleton.1 he]; exact spec_l02Sum_sound N
    · cases he

/- impl.sumOf -/
def impl_sumOf (N : Nat) (x0 : List Int) : Option (Int × Unit) :=
  loopN (fun (s1 : Int × Int × Unit) next2 =>
    cond (decide (s1.2.1 < (List.length x0 : Int)))
      (Option.bind (idx x0 s1.2.1) fun v3 =>
      next2 ((w64 (s1.1 + v3)), (w64 (s1.2.1 + 1)), ()))
      (some (s1.1, ()))) N (0, 0, ())
def impl_sumOf_e (N : Nat) : Ent := { ins := [(.sl (.int .i64))], outs := [.val (.int .i64)], F := fun x => impl_sumOf N x.1 }
def impl_sumOf_T (_ : Nat) : Nat → List EntX := fun _ => []
def impl_sumOf_L : Nat → List (Nat × TK)
  | 3 => [(3, .v (.int .i64)), (8, .v (.int .i64))]
  | _ => []
theorem impl_sumOf_eq (N : Nat) : runF N tt (impl_sumOf_T N) impl_sumOf_L [(.sl (.int .i64))] [.val (.int .i64)] (bodyOf Try.f71) Try.f71.ntmps [2] = (impl_sumOf_e N).F := by
  funext x
  kernel_rfl
theorem impl_sumOf_sound (N : Nat) : SoundC Try.prog 71 (impl_sumOf_e N) := by
  have h := runF_sound (f := 71) (code := bodyOf Try.f71) (N := N) (T := impl_sumOf_T N) (L := impl_sumOf_L) (ins := [(.sl (.int .i64))]) (outs := [.val (.int .i64)]) (res := [2]) mixed tt_ok ?_ Try.func71 (by kernel_rfl) rfl (by kernel_rfl) (by kernel_rfl) (by decide +kernel)
  · rw [impl_sumOf_eq] at h
    exact h
  · intro f e he
    cases he

/- impl.areCounts -/
def impl_areCounts (N : Nat) (x0 : List Int) : Option (Bool × Unit) :=
  Option.bind (impl_areMany N x0 1 8 0 16) fun r1 =>
  cond r1.1
    (Option.bind (impl_sumOf N x0) fun r2 =>
    Option.bind (impl_within N r2.1 1 64) fun r3 =>
    some (r3.1, ()))
    (some (false, ()))
def impl_areCounts_e (N : Nat) : Ent := { ins := [(.sl (.int .i64))], outs := [.val .bool], F := fun x => impl_areCounts N x.1 }
def impl_areCounts_T (N : Nat) : Nat → List EntX
  | 66 => [.pl (impl_areMany_e N)]
  | 71 => [.pl (impl_sumOf_e N)]
  | 75 => [.pl (impl_within_e N)]
  | _ => []
def impl_areCounts_L : Nat → List (Nat × TK) := fun _ => []
theorem impl_areCounts_eq (N : Nat) : runF N tt (impl_areCounts_T N) impl_areCounts_L [(.sl (.int .i64))] [.val .bool] (bodyOf Try.f70) Try.f70.ntmps [2] = (impl_areCounts_e N).F := by
  funext x
  kernel_rfl
theorem impl_areCounts_sound (N : Nat) : SoundC Try.prog 70 (impl_areCounts_e N) := by
  have h := runF_sound (f := 70) (code := bodyOf Try.f70) (N := N) (T := impl_areCounts_T N) (L := impl_areCounts_L) (ins := [(.sl (.int .i64))]) (outs := [.val .bool]) (res := [2]) mixed tt_ok ?_ Try.func70 (by kernel_rfl) rfl (by kernel_rfl) (by kernel_rfl) (by decide +kernel)
  · rw [impl_areCounts_eq] at h
    exact h
  · intro f e he
    unfold impl_areCounts_T at he
    split at he
    · rw [List.mem_singleton.1 he]; exact impl_areMany_sound N
    · rw [List.mem_singleton.1 he]; exact impl_sumOf_sound N
    · rw [List.mem_singleton.1 he]; exact impl_within_sound N
    · cases he

/- impl.MixedOrder -/
def impl_MixedOrder (N : Nat) (x0 : List Int) : Option (List (Int) × Bool × Unit) :=
  Option.bind (impl_areCounts N x0) fun r1 =>
  cond (!r1.1)
    (some ([], false, ()))
    (Option.bind (impl_sumOf N x0) fun r2 =>
    cond (mkOk (List.length x0 : Int) (List.length x0 : Int))
      (let xs3 := (List.replicate (Int.toNat (List.length x0 : Int)) (0 : Int) : List (Int))
      loopN (fun (s4 : List (Int) × List (Int) × Int × Unit) next5 =>
        cond (decide (s4.2.2.1 ≤ r2.1))
          (loopN (fun (s6 : Int × Int × Int × Unit) next7 =>
            cond (decide (s6.2.2.1 < (List.length x0 : Int)))
              (Option.bind (idx x0 s6.2.2.1) fun v8 =>
              cond (inB s6.2.2.1 (List.length s4.1))
                (Option.bind (s4.1[(Int.toNat s6.2.2.1)]?) fun v9 =>
                cond (inB s6.2.2.1 (List.length s4.1))
                  (Option.bind (s4.1[(Int.toNat s6.2.2.1)]?) fun v10 =>
                  cond (decide (v10 < v8))
                    (cond (decide (s6.1 < 0))
                      (next7 (s6.2.2.1, (w64 ((w64 (s4.2.2.1 * v8)) - (w64 (r2.1 * v9)))), (w64 (s6.2.2.1 + 1)), ()))
                      (cond (decide ((w64 ((w64 (s4.2.2.1 * v8)) - (w64 (r2.1 * v9)))) > s6.2.1))
                        (next7 (s6.2.2.1, (w64 ((w64 (s4.2.2.1 * v8)) - (w64 (r2.1 * v9)))), (w64 (s6.2.2.1 + 1)), ()))
                        (next7 (s6.1, s6.2.1, (w64 (s6.2.2.1 + 1)), ()))))
                    (next7 (s6.1, s6.2.1, (w64 (s6.2.2.1 + 1)), ()))) none) none)
              (cond (inB s6.1 (List.length s4.1))
                (Option.bind (s4.1[(Int.toNat s6.1)]?) fun v11 =>
                cond (inB s6.1 (List.length s4.1))
                  (let xs12 := (List.set s4.1 (Int.toNat s6.1) (w64 (v11 + 1)))
                  cond (appOk (List.length s4.2.1) (List.length ([s6.1] : List Int)))
                    (let xs13 := (s4.2.1 ++ ([s6.1] : List Int))
                    next5 (xs12, xs13, (w64 (s4.2.2.1 + 1)), ())) none) none) none)) N ((-1), 0, 0, ()))
          (some (s4.2.1, true, ()))) N (xs3, ([] : List Int), 1, ())) none)
def impl_MixedOrder_e (N : Nat) : Ent := { ins := [(.sl (.int .i64))], outs := [.own (.int .i64), .val .bool], F := fun x => impl_MixedOrder N x.1 }
def impl_MixedOrder_T (N : Nat) : Nat → List EntX
  | 70 => [.pl (impl_areCounts_e N)]
  | 71 => [.pl (impl_sumOf_e N)]
  | _ => []
def impl_MixedOrder_L : Nat → List (Nat × TK)
  | 7 => [(5, .own (.int .i64)), (6, .own (.int .i64)), (7, .v (.int .i64))]
  | 11 => [(8, .v (.int .i64)), (9, .v (.int .i64)), (29, .v (.int .i64))]
  | _ => []
theorem impl_MixedOrder_eq (N : Nat) : runF N tt (impl_MixedOrder_T N) impl_MixedOrder_L [(.sl (.int .i64))] [.own (.int .i64), .val .bool] (bodyOf Try.f34) Try.f34.ntmps [2, 3] = (impl_MixedOrder_e N).F := by
  funext x
  kernel_rfl
theorem impl_MixedOrder_sound (N : Nat) : SoundC Try.prog 34 (impl_MixedOrder_e N) := by
  have h := runF_sound (f := 34) (code := bodyOf Try.f34) (N := N) (T := impl_MixedOrder_T N) (L := impl_MixedOrder_L) (ins := [(.sl (.int .i64))]) (outs := [.own (.int .i64), .val .bool]) (res := [2, 3]) mixed tt_ok ?_ Try.func34 (by kernel_rfl) rfl (by kernel_rfl) (by kernel_rfl) (by decide +kernel)
  · rw [impl_MixedOrder_eq] at h
    exact h
  · intro f e he
    unfold impl_MixedOrder_T at he
    split at he
    · rw [List.mem_singleton.1 he]; exact impl_areCounts_sound N
    · rw [List.mem_singleton.1 he]; exact impl_sumOf_sound N
    · cases he

/- laws.FnExactMixedOrder -/
def laws_FnExactMixedOrder (N : Nat) (x0 : List Int) : Option (Bool × Unit) :=
  cond (decide ((List.length x0 : Int) > 1048576))
    (some (true, ()))
    (Option.bind (laws_toInt64S N x0) fun r1 =>
    Option.bind (spec_MixedOrder N r1.1) fun r2 =>
    Option.bind (laws_toInt64S N x0) fun r3 =>
    Option.bind (impl_MixedOrder N r3.1) fun r4 =>
    Option.bind (laws_eqInt64S N r4.1 r2.1) fun r5 =>
    cond (!r5.1)
      (some (false, ()))
      (cond (!(r4.2.1 == r2.2.1))
        (some (false, ()))
        (Option.bind (laws_toInt64S N x0) fun r6 =>
        Option.bind (laws_eqInt64S N r3.1 r6.1) fun r7 =>
        cond (!r7.1)
          (some (false, ()))
          (Option.bind (laws_markInt64S N r3.1 1) fun r8 =>
          cond (Nat.beq (List.length r8.1) (List.length r3.1))
            (cond (decide (r8.2.1 < 0))
              (some (false, ()))
              (Option.bind (laws_eqInt64S N r4.1 r2.1) fun r9 =>
              cond (!r9.1)
                (some (false, ()))
                (cond (!(r4.2.1 == r2.2.1))
                  (some (false, ()))
                  (Option.bind (laws_markInt64S N r4.1 1) fun r10 =>
                  cond (Nat.beq (List.length r10.1) (List.length r4.1))
                    (Option.bind (laws_heldInt64S N r10.1 1) fun r11 =>
                    cond (decide (r11.1 < 0))
                      (some (false, ()))
                      (cond (r11.1 != r10.2.1)
                        (some (false, ()))
                        (Option.bind (laws_toInt64S N x0) fun r12 =>
                        Option.bind (impl_MixedOrder N r12.1) fun r13 =>
                        Option.bind (laws_eqInt64S N r13.1 r2.1) fun r14 =>
                        cond (!r14.1)
                          (some (false, ()))
                          (cond (!(r13.2.1 == r2.2.1))
                            (some (false, ()))
                            (Option.bind (laws_heldInt64S N r10.1 1) fun r15 =>
                            cond (decide (r15.1 < 0))
                              (some (false, ()))
                              (cond (r15.1 != r10.2.1)
                                (some (false, ()))
                                (some (true, ())))))))) none)))) none))))
def laws_FnExactMixedOrder_e (N : Nat) : Ent := { ins := [(.sl (.int .i64))], outs := [.val .bool], F := fun x => laws_FnExactMixedOrder N x.1 }
def laws_FnExactMixedOrder_T (N : Nat) : Nat → List EntX
  | 26 => [.pl (laws_toInt64S_e N)]
  | 28 => [.pl (laws_eqInt64S_e N)]
  | 31 => [.mu (laws_markInt64S_e N)]
  | 32 => [.pl (laws_heldInt64S_e N)]
  | 33 => [.pl (spec_MixedOrder_e N)]
  | 34 => [.pl (impl_MixedOrder_e N)]
  | _ => []
def laws_FnExactMixedOrder_L : Nat → List (Nat × TK) := fun _ => []
theorem laws_FnExactMixedOrder_eq (N : Nat) : runF N tt (laws_FnExactMixedOrder_T N) laws_FnExactMixedOrder_L [(.sl (.int .i64))] [.val .bool] (bodyOf Try.f7) Try.f7.ntmps [2] = (laws_FnExactMixedOrder_e N).F := by
  funext x
  kernel_rfl
theorem laws_FnExactMixedOrder_sound (N : Nat) : SoundC Try.prog 7 (laws_FnExactMixedOrder_e N) := by
  have h := runF_sound (f := 7) (code := bodyOf Try.f7) (N := N) (T := laws_FnExactMixedOrder_T N) (L := laws_FnExactMixedOrder_L) (ins := [(.sl (.int .i64))]) (outs := [.val .bool]) (res := [2]) mixed tt_ok ?_ Try.func7 (by kernel_rfl) rfl (by kernel_rfl) (by kernel_rfl) (by decide +kernel)
  · rw [laws_FnExactMixedOrder_eq] at h
    exact h
  · intro f e he
    unfold laws_FnExactMixedOrder_T at he
    split at he
    · rw [List.mem_singleton.1 he]; exact laws_toInt64S_sound N
    · rw [List.mem_singleton.1 he]; exact laws_eqInt64S_sound N
    · rw [List.mem_singleton.1 he]; exact laws_markInt64S_sound N
    · rw [List.mem_singleton.1 he]; exact laws_heldInt64S_sound N
    · rw [List.mem_singleton.1 he]; exact spec_MixedOrder_sound N
    · rw [List.mem_singleton.1 he]; exact impl_MixedOrder_sound N
    · cases he

/- laws.szInt64S -/
def laws_szInt64S (_N : Nat) (x0 : List Int) (x1 : Int) : Option (Int × Unit) :=
  cond (decide ((w64 (x1 - (List.length x0 : Int))) < 0))
    (some ((-1), ()))
    (some ((w64 (x1 - (List.length x0 : Int))), ()))
def laws_szInt64S_e (N : Nat) : Ent := { ins := [(.sl (.int .i64)), (.int .i64)], outs := [.val (.int .i64)], F := fun x => laws_szInt64S N x.1 x.2.1 }
def laws_szInt64S_T (_ : Nat) : Nat → List EntX := fun _ => []
def laws_szInt64S_L : Nat → List (Nat × TK) := fun _ => []
theorem laws_szInt64S_eq (N : Nat) : runF N tt (laws_szInt64S_T N) laws_szInt64S_L [(.sl (.int .i64)), (.int .i64)] [.val (.int .i64)] (bodyOf Try.f99) Try.f99.ntmps [4] = (laws_szInt64S_e N).F := by
  funext x
  kernel_rfl
theorem laws_szInt64S_sound (N : Nat) : SoundC Try.prog 99 (laws_szInt64S_e N) := by
  have h := runF_sound (f := 99) (code := bodyOf Try.f99) (N := N) (T := laws_szInt64S_T N) (L := laws_szInt64S_L) (ins := [(.sl (.int .i64)), (.int .i64)]) (outs := [.val (.int .i64)]) (res := [4]) mixed tt_ok ?_ Try.func99 (by kernel_rfl) rfl (by kernel_rfl) (by kernel_rfl) (by decide +kernel)
  · rw [laws_szInt64S_eq] at h
    exact h
  · intro f e he
    cases he

/- laws.szTask -/
def laws_szTask (N : Nat) (x0 : Int × Int × (List Int) × List Int) (x1 : Int) : Option (Int × Unit) :=
  Option.bind (laws_szInt64S N x0.2.2.1 x1) fun r1 =>
  cond (decide (r1.1 < 0))
    (some ((-1), ()))
    (Option.bind (laws_szInt64S N x0.2.2.2 r1.1) fun r2 =>
    cond (decide (r2.1 < 0))
      (some ((-1), ()))
      (some (r2.1, ())))
def laws_szTask_e (N : Nat) : Ent := { ins := [(.pair (.int .i64) (.pair (.int .i64) (.pair (.sl (.int .i64)) (.sl (.int .i64))))), (.int .i64)], outs := [.val (.int .i64)], F := fun x => laws_szTask N x.1 x.2.1 }
def laws_szTask_T (N : Nat) : Nat → List EntX
  | 99 => [.pl (laws_szInt64S_e N)]
  | _ => []
def laws_szTask_L : Nat → List (Nat × TK) := fun _ => []
theorem laws_szTask_eq (N : Nat) : runF N tt (laws_szTask_T N) laws_szTask_L [(.pair (.int .i64) (.pair (.int .i64) (.pair (.sl (.int .i64)) (.sl (.int .i64))))), (.int .i64)] [.val (.int .i64)] (bodyOf Try.f72) Try.f72.ntmps [4] = (laws_szTask_e N).F := by
  funext x
  kernel_rfl
theorem laws_szTask_sound (N : Nat) : SoundC Try.prog 72 (laws_szTask_e N) := by
  have h := runF_sound (f := 72) (code := bodyOf Try.f72) (N := N) (T := laws_szTask_T N) (L := laws_szTask_L) (ins := [(.pair (.int .i64) (.pair (.int .i64) (.pair (.sl (.int .i64)) (.sl (.int .i64))))), (.int .i64)]) (outs := [.val (.int .i64)]) (res := [4]) mixed tt_ok ?_ Try.func72 (by kernel_rfl) rfl (by kernel_rfl) (by kernel_rfl) (by decide +kernel)
  · rw [laws_szTask_eq] at h
    exact h
  · intro f e he
    unfold laws_szTask_T at he
    split at he
    · rw [List.mem_singleton.1 he]; exact laws_szInt64S_sound N
    · cases he

/- laws.szTaskS -/
def laws_szTaskS (N : Nat) (x0 : List (Int × Int × (List Int) × List Int)) (x1 : Int) : Option (Int × Unit) :=
  cond (decide ((w64 (x1 - (List.length x0 : Int))) < 0))
    (some ((-1), ()))
    (loopN (fun (s1 : Int × Int × Unit) next2 =>
      cond (decide (s1.2.1 < (List.length x0 : Int)))
        (Option.bind (idx x0 s1.2.1) fun v3 =>
        Option.bind (laws_szTask N v3 s1.1) fun r4 =>
        cond (decide (r4.1 < 0))
          (some ((-1), ()))
          (next2 (r4.1, (w64 (s1.2.1 + 1)), ())))
        (some (s1.1, ()))) N ((w64 (x1 - (List.length x0 : Int))), 0, ()))
def laws_szTaskS_e (N : Nat) : Ent := { ins := [(.sl (.pair (.int .i64) (.pair (.int .i64) (.pair (.sl (.int .i64)) (.sl (.int .i64)))))), (.int .i64)], outs := [.val (.int .i64)], F := fun x => laws_szTaskS N x.1 x.2.1 }
def laws_szTaskS_T (N : Nat) : Nat → List EntX
  | 72 => [.pl (laws_szTask_e N)]
  | _ => []
def laws_szTaskS_L : Nat → List (Nat × TK)
  | 5 => [(1, .v (.int .i64)), (5, .v (.int .i64))]
  | _ => []
theorem laws_szTaskS_eq (N : Nat) : runF N tt (laws_szTaskS_T N) laws_szTaskS_L [(.sl (.pair (.int .i64) (.pair (.int .i64) (.pair (.sl (.int .i64)) (.sl (.int .i64)))))), (.int .i64)] [.val (.int .i64)] (bodyOf Try.f35) Try.f35.ntmps [4] = (laws_szTaskS_e N).F := by
  funext x
  kernel_rfl
theorem laws_szTaskS_sound (N : Nat) : SoundC Try.prog 35 (laws_szTaskS_e N) := by
  have h := runF_sound (f := 35) (code := bodyOf Try.f35) (N := N) (T := laws_szTaskS_T N) (L := laws_szTaskS_L) (ins := [(.sl (.pair (.int .i64) (.pair (.int .i64) (.pair (.sl (.int .i64)) (.sl (.int .i64)))))), (.int .i64)]) (outs := [.val (.int .i64)]) (res := [4]) mixed tt_ok ?_ Try.func35 (by kernel_rfl) rfl (by kernel_rfl) (by kernel_rfl) (by decide +kernel)
  · rw [laws_szTaskS_eq] at h
    exact h
  · intro f e he
    unfold laws_szTaskS_T at he
    split at he
    · rw [List.mem_singleton.1 he]; exact laws_szTask_sound N
    · cases he

/- spec.l03Task -/
def spec_l03Task (N : Nat) (x0 : Int × Int × (List Int) × List Int) (x1 : Int) : Option (Bool × Unit) :=
  Option.bind (spec_l00In N x0.1 0 100) fun r1 =>
  cond (!r1.1)
    (some (false, ()))
    (Option.bind (spec_l00In N x0.2.1 0 20) fun r2 =>
    cond (!r2.1)
      (some (false, ()))
      (cond ((List.length x0.2.2.2 : Int) != (List.length x0.2.2.1 : Int))
        (some (false, ()))
        (loopN (fun (s3 : Int × Unit) next4 =>
          cond (decide (s3.1 < (List.length x0.2.2.1 : Int)))
            (Option.bind (idx x0.2.2.1 s3.1) fun v5 =>
            Option.bind (spec_l00In N v5 0 (w64 (x1 - 1))) fun r6 =>
            cond (!r6.1)
              (some (false, ()))
              (cond (decide (s3.1 > 0))
                (Option.bind (idx x0.2.2.1 s3.1) fun v7 =>
                Option.bind (idx x0.2.2.1 (w64 (s3.1 - 1))) fun v8 =>
                cond (decide (v7 ≤ v8))
                  (some (false, ()))
                  (Option.bind (idx x0.2.2.2 s3.1) fun v9 =>
                  Option.bind (spec_l00In N v9 (-100) 100) fun r10 =>
                  cond (!r10.1)
                    (some (false, ()))
                    (next4 ((w64 (s3.1 + 1)), ()))))
                (Option.bind (idx x0.2.2.2 s3.1) fun v11 =>
                Option.bind (spec_l00In N v11 (-100) 100) fun r12 =>
                cond (!r12.1)
                  (some (false, ()))
                  (next4 ((w64 (s3.1 + 1)), ())))))
            (some (true, ()))) N (0, ()))))
def spec_l03Task_e (N : Nat) : Ent := { ins := [(.bx (.pair (.int .i64) (.pair (.int .i64) (.pair (.sl (.int .i64)) (.sl (.int .i64)))))), (.int .i64)], outs := [.val .bool], F := fun x => spec_l03Task N x.1 x.2.1 }
def spec_l03Task_T (N : Nat) : Nat → List EntX
  | 63 => [.pl (spec_l00In_e N)]
  | _ => []
def spec_l03Task_L : Nat → List (Nat × TK)
  | 4 => [(38, .v (.int .i64))]
  | _ => []
theorem spec_l03Task_eq (N : Nat) : runF N tt (spec_l03Task_T N) spec_l03Task_L [(.bx (.pair (.int .i64) (.pair (.int .i64) (.pair (.sl (.int .i64)) (.sl (.int .i64)))))), (.int .i64)] [.val .bool] (bodyOf Try.f100) Try.f100.ntmps [4] = (spec_l03Task_e N).F := by
  funext x
  kernel_rfl
theorem spec_l03Task_sound (N : Nat) : SoundC Try.prog 100 (spec_l03Task_e N) := by
  have h := runF_sound (f := 100) (code := bodyOf Try.f100) (N := N) (T := spec_l03Task_T N) (L := spec_l03Task_L) (ins := [(.bx (.pair (.int .i64) (.pair (.int .i64) (.pair (.sl (.int .i64)) (.sl (.int .i64)))))), (.int .i64)]) (outs := [.val .bool]) (res := [4]) mixed tt_ok ?_ Try.func100 (by kernel_rfl) rfl (by kernel_rfl) (by kernel_rfl) (by decide +kernel)
  · rw [spec_l03Task_eq] at h
    exact h
  · intro f e he
    unfold spec_l03Task_T at he
    split at he
    · rw [List.mem_singleton.1 he]; exact spec_l00In_sound N
    · cases he

/- spec.l03Are -/
def spec_l03Are (N : Nat) (x0 : List (Int × Int × (List Int) × List Int)) : Option (Bool × Unit) :=
  loopN (fun (s1 : Int × Unit) next2 =>
    cond (decide (s1.1 < (List.length x0 : Int)))
      (Option.bind (idx x0 s1.1) fun v3 =>
      Option.bind (spec_l03Task N v3 s1.1) fun r4 =>
      cond (!r4.1)
        (some (false, ()))
        (next2 ((w64 (s1.1 + 1)), ())))
      (cond (decide ((List.length x0 : Int) ≥ 1))
        (some ((decide ((List.length x0 : Int) ≤ 16)), ()))
        (some (false, ())))) N (0, ())
def spec_l03Are_e (N : Nat) : Ent := { ins := [(.sl (.pair (.int .i64) (.pair (.int .i64) (.pair (.sl (.int .i64)) (.sl (.int .i64))))))], outs := [.val .bool], F := fun x => spec_l03Are N x.1 }
def spec_l03Are_T (N : Nat) : Nat → List EntX
  | 100 => [.pl (spec_l03Task_e N)]
  | _ => []
def spec_l03Are_L : Nat → List (Nat × TK)
  | 2 => [(6, .v (.int .i64))]
  | _ => []
theorem spec_l03Are_eq (N : Nat) : runF N tt (spec_l03Are_T N) spec_l03Are_L [(.sl (.pair (.int .i64) (.pair (.int .i64) (.pair (.sl (.int .i64)) (.sl (.int .i64))))))] [.val .bool] (bodyOf Try.f73) Try.f73.ntmps [2] = (spec_l03Are_e N).F := by
  funext x
  kernel_rfl
theorem spec_l03Are_sound (N : Nat) : SoundC Try.prog 73 (spec_l03Are_e N) := by
  have h := runF_sound (f := 73) (code := bodyOf Try.f73) (N := N) (T := spec_l03Are_T N) (L := spec_l03Are_L) (ins := [(.sl (.pair (.int .i64) (.pair (.int .i64) (.pair (.sl (.int .i64)) (.sl (.int .i64))))))]) (outs := [.val .bool]) (res := [2]) mixed tt_ok ?_ Try.func73 (by kernel_rfl) rfl (by kernel_rfl) (by kernel_rfl) (by decide +kernel)
  · rw [spec_l03Are_eq] at h
    exact h
  · intro f e he
    unfold spec_l03Are_T at he
    split at he
    · rw [List.mem_singleton.1 he]; exact spec_l03Task_sound N
    · cases he

/- spec.AreTasks -/
def spec_AreTasks (N : Nat) (x0 : List (Int × Int × (List Int) × List Int)) : Option (Bool × Unit) :=
  Option.bind (spec_l03Are N x0) fun r1 =>
  some (r1.1, ())
def spec_AreTasks_e (N : Nat) : Ent := { ins := [(.sl (.pair (.int .i64) (.pair (.int .i64) (.pair (.sl (.int .i64)) (.sl (.int .i64))))))], outs := [.val .bool], F := fun x => spec_AreTasks N x.1 }
def spec_AreTasks_T (N : Nat) : Nat → List EntX
  | 73 => [.pl (spec_l03Are_e N)]
  | _ => []
def spec_AreTasks_L : Nat → List (Nat × TK) := fun _ => []
theorem spec_AreTasks_eq (N : Nat) : runF N tt (spec_AreTasks_T N) spec_AreTasks_L [(.sl (.pair (.int .i64) (.pair (.int .i64) (.pair (.sl (.int .i64)) (.sl (.int .i64))))))] [.val .bool] (bodyOf Try.f36) Try.f36.ntmps [2] = (spec_AreTasks_e N).F := by
  funext x
  kernel_rfl
theorem spec_AreTasks_sound (N : Nat) : SoundC Try.prog 36 (spec_AreTasks_e N) := by
  have h := runF_sound (f := 36) (code := bodyOf Try.f36) (N := N) (T := spec_AreTasks_T N) (L := spec_AreTasks_L) (ins := [(.sl (.pair (.int .i64) (.pair (.int .i64) (.pair (.sl (.int .i64)) (.sl (.int .i64))))))]) (outs := [.val .bool]) (res := [2]) mixed tt_ok ?_ Try.func36 (by kernel_rfl) rfl (by kernel_rfl) (by kernel_rfl) (by decide +kernel)
  · rw [spec_AreTasks_eq] at h
    exact h
  · intro f e he
    unfold spec_AreTasks_T at he
    split at he
    · rw [List.mem_singleton.1 he]; exact spec_l03Are_sound N
    · cases he

/- laws.toTask -/
def laws_toTask (N : Nat) (x0 : Int × Int × (List Int) × List Int) : Option ((Int × Int × (List Int) × List Int) × Unit) :=
  Option.bind (laws_toInt64S N x0.2.2.1) fun r1 =>
  Option.bind (laws_toInt64S N x0.2.2.2) fun r2 =>
  some ((x0.1, (x0.2.1, (r1.1, r2.1))), ())
def laws_toTask_e (N : Nat) : Ent := { ins := [(.pair (.int .i64) (.pair (.int .i64) (.pair (.sl (.int .i64)) (.sl (.int .i64)))))], outs := [.val (.nw (.pair (.int .i64) (.pair (.int .i64) (.pair (.sl (.int .i64)) (.sl (.int .i64))))))], F := fun x => laws_toTask N x.1 }
def laws_toTask_T (N : Nat) : Nat → List EntX
  | 26 => [.pl (laws_toInt64S_e N)]
  | _ => []
def laws_toTask_L : Nat → List (Nat × TK) := fun _ => []
theorem laws_toTask_eq (N : Nat) : runC N tt (laws_toTask_T N) laws_toTask_L [(.pair (.int .i64) (.pair (.int .i64) (.pair (.sl (.int .i64)) (.sl (.int .i64)))))] [.val (.nw (.pair (.int .i64) (.pair (.int .i64) (.pair (.sl (.int .i64)) (.sl (.int .i64))))))] (bodyOf Try.f74) Try.f74.ntmps [2] [(2, 77)] = (laws_toTask_e N).F := by
  funext x
  kernel_rfl
theorem laws_toTask_sound (N : Nat) : SoundC Try.prog 74 (laws_toTask_e N) := by
  have h := runC_sound (f := 74) (code := bodyOf Try.f74) (N := N) (T := laws_toTask_T N) (L := laws_toTask_L) (ins := [(.pair (.int .i64) (.pair (.int .i64) (.pair (.sl (.int .i64)) (.sl (.int .i64)))))]) (outs := [.val (.nw (.pair (.int .i64) (.pair (.int .i64) (.pair (.sl (.int .i64)) (.sl (.int .i64))))))]) (res := [2]) (rs := [.cell 2 77]) (cells := [(2, 77)]) mixed tt_ok ?_ Try.func74 (by kernel_rfl) rfl (by kernel_rfl) (by kernel_rfl) rfl rfl (by decide) (by decide +kernel) (by decide +kernel)
  · rw [laws_toTask_eq] at h
    exact h
  · intro f e he
    unfold laws_toTask_T at he
    split at he
    · rw [List.mem_singleton.1 he]; exact laws_toInt64S_sound N
    · cases he

/- laws.toTaskS -/
def laws_toTaskS (N : Nat) (x0 : List (Int × Int × (List Int) × List Int)) : Option (List (Int × Int × (List Int) × List Int) × Unit) :=
  cond (mkOk (List.length x0 : Int) (List.length x0 : Int))
    (let xs1 := (List.replicate (Int.toNat (List.length x0 : Int)) ((0 : Int), ((0 : Int), ([], []))) : List (Int × Int × (List Int) × List Int))
    loopN (fun (s2 : List (Int × Int × (List Int) × List Int) × Int × Unit) next3 =>
      cond (decide (s2.2.1 < (List.length x0 : Int)))
        (Option.bind (idx x0 s2.2.1) fun v4 =>
        Option.bind (laws_toTask N v4) fun r5 =>
        cond (inB s2.2.1 (List.length s2.1))
          (let xs6 := (List.set s2.1 (Int.toNat s2.2.1) r5.1)
          next3 (xs6, (w64 (s2.2.1 + 1)), ())) none)
        (some (s2.1, ()))) N (xs1, 0, ())) none
def laws_toTaskS_e (N : Nat) : Ent := { ins := [(.sl (.pair (.int .i64) (.pair (.int .i64) (.pair (.sl (.int .i64)) (.sl (.int .i64))))))], outs := [.own (.nw (.pair (.int .i64) (.pair (.int .i64) (.pair (.sl (.int .i64)) (.sl (.int .i64))))))], F := fun x => laws_toTaskS N x.1 }
def laws_toTaskS_T (N : Nat) : Nat → List EntX
  | 74 => [.pl (laws_toTask_e N)]
  | _ => []
def laws_toTaskS_L : Nat → List (Nat × TK)
  | 3 => [(3, .own (.nw (.pair (.int .i64) (.pair (.int .i64) (.pair (.sl (.int .i64)) (.sl (.int .i64))))))), (4, .v (.int .i64))]
  | _ => []
theorem laws_toTaskS_eq (N : Nat) : runF N tt (laws_toTaskS_T N) laws_toTaskS_L [(.sl (.pair (.int .i64) (.pair (.int .i64) (.pair (.sl (.int .i64)) (.sl (.int .i64))))))] [.own (.nw (.pair (.int .i64) (.pair (.int .i64) (.pair (.sl (.int .i64)) (.sl (.int .i64))))))] (bodyOf Try.f37) Try.f37.ntmps [2] = (laws_toTaskS_e N).F := by
  funext x
  kernel_rfl
theorem laws_toTaskS_sound (N : Nat) : SoundC Try.prog 37 (laws_toTaskS_e N) := by
  have h := runF_sound (f := 37) (code := bodyOf Try.f37) (N := N) (T := laws_toTaskS_T N) (L := laws_toTaskS_L) (ins := [(.sl (.pair (.int .i64) (.pair (.int .i64) (.pair (.sl (.int .i64)) (.sl (.int .i64))))))]) (outs := [.own (.nw (.pair (.int .i64) (.pair (.int .i64) (.pair (.sl (.int .i64)) (.sl (.int .i64))))))]) (res := [2]) mixed tt_ok ?_ Try.func37 (by kernel_rfl) rfl (by kernel_rfl) (by kernel_rfl) (by decide +kernel)
  · rw [laws_toTaskS_eq] at h
    exact h
  · intro f e he
    unfold laws_toTaskS_T at he
    split at he
    · rw [List.mem_singleton.1 he]; exact laws_toTask_sound N
    · cases he

/- impl.AreTasks -/
def impl_AreTasks (N : Nat) (x0 : List (Int × Int × (List Int) × List Int)) : Option (Bool × Unit) :=
  loopN (fun (s1 : Int × Unit) next2 =>
    cond (decide (s1.1 < (List.length x0 : Int)))
      (Option.bind (idx x0 s1.1) fun v3 =>
      Option.bind (impl_within N v3.1 0 100) fun r4 =>
      cond (!r4.1)
        (some (false, ()))
        (Option.bind (impl_within N v3.2.1 0 20) fun r5 =>
        cond (!r5.1)
          (some (false, ()))
          (cond ((List.length v3.2.2.1 : Int) != (List.length v3.2.2.2 : Int))
            (some (false, ()))
            (Option.bind (impl_areWithin N v3.2.2.2 (-100) 100) fun r6 =>
            cond (!r6.1)
              (some (false, ()))
              (loopN (fun (s7 : Int × Unit) next8 =>
                cond (decide (s7.1 < (List.length v3.2.2.1 : Int)))
                  (Option.bind (idx v3.2.2.1 s7.1) fun v9 =>
                  Option.bind (impl_within N v9 0 (w64 (s1.1 - 1))) fun r10 =>
                  cond (!r10.1)
                    (some (false, ()))
                    (cond (decide (s7.1 > 0))
                      (Option.bind (idx v3.2.2.1 (w64 (s7.1 - 1))) fun v11 =>
                      cond (decide (v9 ≤ v11))
                        (some (false, ()))
                        (next8 ((w64 (s7.1 + 1)), ())))
                      (next8 ((w64 (s7.1 + 1)), ()))))
                  (next2 ((w64 (s1.1 + 1)), ()))) N (0, ()))))))
      (cond (decide ((List.length x0 : Int) ≥ 1))
        (some ((decide ((List.length x0 : Int) ≤ 16)), ()))
        (some (false, ())))) N (0, ())
def impl_AreTasks_e (N : Nat) : Ent := { ins := [(.sl (.pair (.int .i64) (.pair (.int .i64) (.pair (.sl (.int .i64)) (.sl (.int .i64))))))], outs := [.val .bool], F := fun x => impl_AreTasks N x.1 }
def impl_AreTasks_T (N : Nat) : Nat → List EntX
  | 75 => [.pl (impl_within_e N)]
  | 76 => [.pl (impl_areWithin_e N)]
  | _ => []
def impl_AreTasks_L : Nat → List (Nat × TK)
  | 2 => [(9, .v (.int .i64))]
  | 7 => [(42, .v (.int .i64))]
  | _ => []
theorem impl_AreTasks_eq (N : Nat) : runF N tt (impl_AreTasks_T N) impl_AreTasks_L [(.sl (.pair (.int .i64) (.pair (.int .i64) (.pair (.sl (.int .i64)) (.sl (.int .i64))))))] [.val .bool] (bodyOf Try.f38) Try.f38.ntmps [2] = (impl_AreTasks_e N).F := by
  funext x
  kernel_rfl
theorem impl_AreTasks_sound (N : Nat) : SoundC Try.prog 38 (impl_AreTasks_e N) := by
  have h := runF_sound (f := 38) (code := bodyOf Try.f38) (N := N) (T := impl_AreTasks_T N) (L := impl_AreTasks_L) (ins := [(.sl (.pair (.int .i64) (.pair (.int .i64) (.pair (.sl (.int .i64)) (.sl (.int .i64))))))]) (outs := [.val .bool]) (res := [2]) mixed tt_ok ?_ Try.func38 (by kernel_rfl) rfl (by kernel_rfl) (by kernel_rfl) (by decide +kernel)
  · rw [impl_AreTasks_eq] at h
    exact h
  · intro f e he
    unfold impl_AreTasks_T at he
    split at he
    · rw [List.mem_singleton.1 he]; exact impl_within_sound N
    · rw [List.mem_singleton.1 he]; exact impl_areWithin_sound N
    · cases he

/- laws.eqTask -/
def laws_eqTask (N : Nat) (x0 : Int × Int × (List Int) × List Int) (x1 : Int × Int × (List Int) × List Int) : Option (Bool × Unit) :=
  cond (x0.1 != x1.1)
    (some (false, ()))
    (cond (x0.2.1 != x1.2.1)
      (some (false, ()))
      (Option.bind (laws_eqInt64S N x0.2.2.1 x1.2.2.1) fun r1 =>
      cond (!r1.1)
        (some (false, ()))
        (Option.bind (laws_eqInt64S N x0.2.2.2 x1.2.2.2) fun r2 =>
        cond (!r2.1)
          (some (false, ()))
          (some (true, ())))))
def laws_eqTask_e (N : Nat) : Ent := { ins := [(.pair (.int .i64) (.pair (.int .i64) (.pair (.sl (.int .i64)) (.sl (.int .i64))))), (.pair (.int .i64) (.pair (.int .i64) (.pair (.sl (.int .i64)) (.sl (.int .i64)))))], outs := [.val .bool], F := fun x => laws_eqTask N x.1 x.2.1 }
def laws_eqTask_T (N : Nat) : Nat → List EntX
  | 28 => [.pl (laws_eqInt64S_e N)]
  | _ => []
def laws_eqTask_L : Nat → List (Nat × TK) := fun _ => []
theorem laws_eqTask_eq (N : Nat) : runF N tt (laws_eqTask_T N) laws_eqTask_L [(.pair (.int .i64) (.pair (.int .i64) (.pair (.sl (.int .i64)) (.sl (.int .i64))))), (.pair (.int .i64) (.pair (.int .i64) (.pair (.sl (.int .i64)) (.sl (.int .i64)))))] [.val .bool] (bodyOf Try.f77) Try.f77.ntmps [4] = (laws_eqTask_e N).F := by
  funext x
  kernel_rfl
theorem laws_eqTask_sound (N : Nat) : SoundC Try.prog 77 (laws_eqTask_e N) := by
  have h := runF_sound (f := 77) (code := bodyOf Try.f77) (N := N) (T := laws_eqTask_T N) (L := laws_eqTask_L) (ins := [(.pair (.int .i64) (.pair (.int .i64) (.pair (.sl (.int .i64)) (.sl (.int .i64))))), (.pair (.int .i64) (.pair (.int .i64) (.pair (.sl (.int .i64)) (.sl (.int .i64)))))]) (outs := [.val .bool]) (res := [4]) mixed tt_ok ?_ Try.func77 (by kernel_rfl) rfl (by kernel_rfl) (by kernel_rfl) (by decide +kernel)
  · rw [laws_eqTask_eq] at h
    exact h
  · intro f e he
    unfold laws_eqTask_T at he
    split at he
    · rw [List.mem_singleton.1 he]; exact laws_eqInt64S_sound N
    · cases he

/- laws.eqTaskS -/
def laws_eqTaskS (N : Nat) (x0 : List (Int × Int × (List Int) × List Int)) (x1 : List (Int × Int × (List Int) × List Int)) : Option (Bool × Unit) :=
  cond ((List.length x0 : Int) != (List.length x1 : Int))
    (some (false, ()))
    (loopN (fun (s1 : Int × Unit) next2 =>
      cond (decide (s1.1 < (List.length x0 : Int)))
        (Option.bind (idx x0 s1.1) fun v3 =>
        Option.bind (idx x1 s1.1) fun v4 =>
        Option.bind (laws_eqTask N v3 v4) fun r5 =>
        cond (!r5.1)
          (some (false, ()))
          (next2 ((w64 (s1.1 + 1)), ())))
        (some (true, ()))) N (0, ()))
def laws_eqTaskS_e (N : Nat) : Ent := { ins := [(.sl (.pair (.int .i64) (.pair (.int .i64) (.pair (.sl (.int .i64)) (.sl (.int .i64)))))), (.sl (.pair (.int .i64) (.pair (.int .i64) (.pair (.sl (.int .i64)) (.sl (.int .i64))))))], outs := [.val .bool], F := fun x => laws_eqTaskS N x.1 x.2.1 }
def laws_eqTaskS_T (N : Nat) : Nat → List EntX
  | 77 => [.pl (laws_eqTask_e N)]
  | _ => []
def laws_eqTaskS_L : Nat → List (Nat × TK)
  | 4 => [(5, .v (.int .i64))]
  | _ => []
theorem laws_eqTaskS_eq (N : Nat) : runF N tt (laws_eqTaskS_T N) laws_eqTaskS_L [(.sl (.pair (.int .i64) (.pair (.int .i64) (.pair (.sl (.int .i64)) (.sl (.int .i64)))))), (.sl (.pair (.int .i64) (.pair (.int .i64) (.pair (.sl (.int .i64)) (.sl (.int .i64))))))] [.val .bool] (bodyOf Try.f39) Try.f39.ntmps [4] = (laws_eqTaskS_e N).F := by
  funext x
  kernel_rfl
theorem laws_eqTaskS_sound (N : Nat) : SoundC Try.prog 39 (laws_eqTaskS_e N) := by
  have h := runF_sound (f := 39) (code := bodyOf Try.f39) (N := N) (T := laws_eqTaskS_T N) (L := laws_eqTaskS_L) (ins := [(.sl (.pair (.int .i64) (.pair (.int .i64) (.pair (.sl (.int .i64)) (.sl (.int .i64)))))), (.sl (.pair (.int .i64) (.pair (.int .i64) (.pair (.sl (.int .i64)) (.sl (.int .i64))))))]) (outs := [.val .bool]) (res := [4]) mixed tt_ok ?_ Try.func39 (by kernel_rfl) rfl (by kernel_rfl) (by kernel_rfl) (by decide +kernel)
  · rw [laws_eqTaskS_eq] at h
    exact h
  · intro f e he
    unfold laws_eqTaskS_T at he
    split at he
    · rw [List.mem_singleton.1 he]; exact laws_eqTask_sound N
    · cases he

/- laws.FnExactAreTasks -/
def laws_FnExactAreTasks (N : Nat) (x0 : List (Int × Int × (List Int) × List Int)) : Option (Bool × Unit) :=
  Option.bind (laws_szTaskS N x0 1048576) fun r1 =>
  cond (decide (r1.1 < 0))
    (some (true, ()))
    (Option.bind (laws_toTaskS N x0) fun r2 =>
    Option.bind (spec_AreTasks N r2.1) fun r3 =>
    Option.bind (laws_toTaskS N x0) fun r4 =>
    Option.bind (impl_AreTasks N r4.1) fun r5 =>
    cond (!(r5.1 == r3.1))
      (some (false, ()))
      (Option.bind (laws_toTaskS N x0) fun r6 =>
      Option.bind (laws_eqTaskS N r4.1 r6.1) fun r7 =>
      cond (!r7.1)
        (some (false, ()))
        (some (true, ()))))
def laws_FnExactAreTasks_e (N : Nat) : Ent := { ins := [(.sl (.pair (.int .i64) (.pair (.int .i64) (.pair (.sl (.int .i64)) (.sl (.int .i64))))))], outs := [.val .bool], F := fun x => laws_FnExactAreTasks N x.1 }
def laws_FnExactAreTasks_T (N : Nat) : Nat → List EntX
  | 35 => [.pl (laws_szTaskS_e N)]
  | 36 => [.pl (spec_AreTasks_e N)]
  | 37 => [.pl (laws_toTaskS_e N)]
  | 38 => [.pl (impl_AreTasks_e N)]
  | 39 => [.pl (laws_eqTaskS_e N)]
  | _ => []
def laws_FnExactAreTasks_L : Nat → List (Nat × TK) := fun _ => []
theorem laws_FnExactAreTasks_eq (N : Nat) : runF N tt (laws_FnExactAreTasks_T N) laws_FnExactAreTasks_L [(.sl (.pair (.int .i64) (.pair (.int .i64) (.pair (.sl (.int .i64)) (.sl (.int .i64))))))] [.val .bool] (bodyOf Try.f8) Try.f8.ntmps [2] = (laws_FnExactAreTasks_e N).F := by
  funext x
  kernel_rfl
theorem laws_FnExactAreTasks_sound (N : Nat) : SoundC Try.prog 8 (laws_FnExactAreTasks_e N) := by
  have h := runF_sound (f := 8) (code := bodyOf Try.f8) (N := N) (T := laws_FnExactAreTasks_T N) (L := laws_FnExactAreTasks_L) (ins := [(.sl (.pair (.int .i64) (.pair (.int .i64) (.pair (.sl (.int .i64)) (.sl (.int .i64))))))]) (outs := [.val .bool]) (res := [2]) mixed tt_ok ?_ Try.func8 (by kernel_rfl) rfl (by kernel_rfl) (by kernel_rfl) (by decide +kernel)
  · rw [laws_FnExactAreTasks_eq] at h
    exact h
  · intro f e he
    unfold laws_FnExactAreTasks_T at he
    split at he
    · rw [List.mem_singleton.1 he]; exact laws_szTaskS_sound N
    · rw [List.mem_singleton.1 he]; exact spec_AreTasks_sound N
    · rw [List.mem_singleton.1 he]; exact laws_toTaskS_sound N
    · rw [List.mem_singleton.1 he]; exact impl_AreTasks_sound N
    · rw [List.mem_singleton.1 he]; exact laws_eqTaskS_sound N
    · cases he

/- spec.l02Machines -/
def spec_l02Machines (N : Nat) (x0 : Int) : Option (Bool × Unit) :=
  Option.bind (spec_l00In N x0 1 8) fun r1 =>
  some (r1.1, ())
def spec_l02Machines_e (N : Nat) : Ent := { ins := [(.int .i64)], outs := [.val .bool], F := fun x => spec_l02Machines N x.1 }
def spec_l02Machines_T (N : Nat) : Nat → List EntX
  | 63 => [.pl (spec_l00In_e N)]
  | _ => []
def spec_l02Machines_L : Nat → List (Nat × TK) := fun _ => []
theorem spec_l02Machines_eq (N : Nat) : runF N tt (spec_l02Machines_T N) spec_l02Machines_L [(.int .i64)] [.val .bool] (bodyOf Try.f95) Try.f95.ntmps [2] = (spec_l02Machines_e N).F := by
  funext x
  kernel_rfl
theorem spec_l02Machines_sound (N : Nat) : SoundC Try.prog 95 (spec_l02Machines_e N) := by
  have h := runF_sound (f := 95) (code := bodyOf Try.f95) (N := N) (T := spec_l02Machines_T N) (L := spec_l02Machines_L) (ins := [(.int .i64)]) (outs := [.val .bool]) (res := [2]) mixed tt_ok ?_ Try.func95 (by kernel_rfl) rfl (by kernel_rfl) (by kernel_rfl) (by decide +kernel)
  · rw [spec_l02Machines_eq] at h
    exact h
  · intro f e he
    unfold spec_l02Machines_T at he
    split at he
    · rw [List.mem_singleton.1 he]; exact spec_l00In_sound N
    · cases he

/- spec.l02Unlike -/
def spec_l02Unlike (N : Nat) (x0 : List Int) (x1 : Int) : Option (Bool × Unit) :=
  Option.bind (spec_l02Machines N x1) fun r1 =>
  cond (!r1.1)
    (some (false, ()))
    (cond (decide ((List.length x0 : Int) < 1))
      (some (false, ()))
      (cond (x1 == 0) none
        (cond ((Int.tmod (List.length x0 : Int) x1) != 0)
          (some (false, ()))
          (cond (x1 == 0) none
            (cond (decide ((w64 (Int.tdiv (List.length x0 : Int) x1)) > 24))
              (some (false, ()))
              (loopN (fun (s2 : Int × Unit) next3 =>
                cond (decide (s2.1 < (List.length x0 : Int)))
                  (Option.bind (idx x0 s2.1) fun v4 =>
                  Option.bind (spec_l00In N v4 1 10000) fun r5 =>
                  cond (!r5.1)
                    (some (false, ()))
                    (next3 ((w64 (s2.1 + 1)), ())))
                  (some (true, ()))) N (0, ())))))))
def spec_l02Unlike_e (N : Nat) : Ent := { ins := [(.sl (.int .i64)), (.int .i64)], outs := [.val .bool], F := fun x => spec_l02Unlike N x.1 x.2.1 }
def spec_l02Unlike_T (N : Nat) : Nat → List EntX
  | 63 => [.pl (spec_l00In_e N)]
  | 95 => [.pl (spec_l02Machines_e N)]
  | _ => []
def spec_l02Unlike_L : Nat → List (Nat × TK)
  | 5 => [(6, .v (.int .i64))]
  | _ => []
theorem spec_l02Unlike_eq (N : Nat) : runF N tt (spec_l02Unlike_T N) spec_l02Unlike_L [(.sl (.int .i64)), (.int .i64)] [.val .bool] (bodyOf Try.f101) Try.f101.ntmps [4] = (spec_l02Unlike_e N).F := by
  funext x
  kernel_rfl
theorem spec_l02Unlike_sound (N : Nat) : SoundC Try.prog 101 (spec_l02Unlike_e N) := by
  have h := runF_sound (f := 101) (code := bodyOf Try.f101) (N := N) (T := spec_l02Unlike_T N) (L := spec_l02Unlike_L) (ins := [(.sl (.int .i64)), (.int .i64)]) (outs := [.val .bool]) (res := [4]) mixed tt_ok ?_ Try.func101 (by kernel_rfl) rfl (by kernel_rfl) (by kernel_rfl) (by decide +kernel)
  · rw [spec_l02Unlike_eq] at h
    exact h
  · intro f e he
    unfold spec_l02Unlike_T at he
    split at he
    · rw [List.mem_singleton.1 he]; exact spec_l00In_sound N
    · rw [List.mem_singleton.1 he]; exact spec_l02Machines_sound N
    · cases he

/- spec.l04Can -/
def spec_l04Can (N : Nat) (x0 : List Int) (x1 : Int) : Option (Bool × Unit) :=
  Option.bind (spec_l02Unlike N x0 x1) fun r1 =>
  some (r1.1, ())
def spec_l04Can_e (N : Nat) : Ent := { ins := [(.sl (.int .i64)), (.int .i64)], outs := [.val .bool], F := fun x => spec_l04Can N x.1 x.2.1 }
def spec_l04Can_T (N : Nat) : Nat → List EntX
  | 101 => [.pl (spec_l02Unlike_e N)]
  | _ => []
def spec_l04Can_L : Nat → List (Nat × TK) := fun _ => []
theorem spec_l04Can_eq (N : Nat) : runF N tt (spec_l04Can_T N) spec_l04Can_L [(.sl (.int .i64)), (.int .i64)] [.val .bool] (bodyOf Try.f78) Try.f78.ntmps [4] = (spec_l04Can_e N).F := by
  funext x
  kernel_rfl
theorem spec_l04Can_sound (N : Nat) : SoundC Try.prog 78 (spec_l04Can_e N) := by
  have h := runF_sound (f := 78) (code := bodyOf Try.f78) (N := N) (T := spec_l04Can_T N) (L := spec_l04Can_L) (ins := [(.sl (.int .i64)), (.int .i64)]) (outs := [.val .bool]) (res := [4]) mixed tt_ok ?_ Try.func78 (by kernel_rfl) rfl (by kernel_rfl) (by kernel_rfl) (by decide +kernel)
  · rw [spec_l04Can_eq] at h
    exact h
  · intro f e he
    unfold spec_l04Can_T at he
    split at he
    · rw [List.mem_singleton.1 he]; exact spec_l02Unlike_sound N
    · cases he

/- spec.l04Count -/
def spec_l04Count (_N : Nat) (x0 : List Int) (x1 : Int) : Option (Int × Unit) :=
  cond (x1 == 0) none
    (some ((w64 (Int.tdiv (List.length x0 : Int) x1)), ()))
def spec_l04Count_e (N : Nat) : Ent := { ins := [(.sl (.int .i64)), (.int .i64)], outs := [.val (.int .i64)], F := fun x => spec_l04Count N x.1 x.2.1 }
def spec_l04Count_T (_ : Nat) : Nat → List EntX := fun _ => []
def spec_l04Count_L : Nat → List (Nat × TK) := fun _ => []
theorem spec_l04Count_eq (N : Nat) : runF N tt (spec_l04Count_T N) spec_l04Count_L [(.sl (.int .i64)), (.int .i64)] [.val (.int .i64)] (bodyOf Try.f79) Try.f79.ntmps [4] = (spec_l04Count_e N).F := by
  funext x
  kernel_rfl
theorem spec_l04Count_sound (N : Nat) : SoundC Try.prog 79 (spec_l04Count_e N) := by
  have h := runF_sound (f := 79) (code := bodyOf Try.f79) (N := N) (T := spec_l04Count_T N) (L := spec_l04Count_L) (ins := [(.sl (.int .i64)), (.int .i64)]) (outs := [.val (.int .i64)]) (res := [4]) mixed tt_ok ?_ Try.func79 (by kernel_rfl) rfl (by kernel_rfl) (by kernel_rfl) (by decide +kernel)
  · rw [spec_l04Count_eq] at h
    exact h
  · intro f e he
    cases he

/- spec.l04Gap -/
def spec_l04Gap (N : Nat) (x0 : List Int) (x1 : Int) (x2 : Int) (x3 : Int) : Option (Int × Unit) :=
  loopN (fun (s1 : Int × Int × Int × Int × Unit) next2 =>
    cond (decide (s1.2.2.2.1 < x1))
      (Option.bind (idx x0 (w64 ((w64 (x2 * x1)) + s1.2.2.2.1))) fun v3 =>
      Option.bind (spec_l00Max N s1.1 (w64 ((w64 (s1.2.1 + v3)) - s1.2.2.1))) fun r4 =>
      Option.bind (idx x0 (w64 ((w64 (x3 * x1)) + s1.2.2.2.1))) fun v5 =>
      next2 (r4.1, (w64 (s1.2.1 + v3)), (w64 (s1.2.2.1 + v5)), (w64 (s1.2.2.2.1 + 1)), ()))
      (some (s1.1, ()))) N (0, 0, 0, 0, ())
def spec_l04Gap_e (N : Nat) : Ent := { ins := [(.sl (.int .i64)), (.int .i64), (.int .i64), (.int .i64)], outs := [.val (.int .i64)], F := fun x => spec_l04Gap N x.1 x.2.1 x.2.2.1 x.2.2.2.1 }
def spec_l04Gap_T (N : Nat) : Nat → List EntX
  | 86 => [.pl (spec_l00Max_e N)]
  | _ => []
def spec_l04Gap_L : Nat → List (Nat × TK)
  | 5 => [(9, .v (.int .i64)), (10, .v (.int .i64)), (11, .v (.int .i64)), (12, .v (.int .i64))]
  | _ => []
theorem spec_l04Gap_eq (N : Nat) : runF N tt (spec_l04Gap_T N) spec_l04Gap_L [(.sl (.int .i64)), (.int .i64), (.int .i64), (.int .i64)] [.val (.int .i64)] (bodyOf Try.f80) Try.f80.ntmps [8] = (spec_l04Gap_e N).F := by
  funext x
  kernel_rfl
theorem spec_l04Gap_sound (N : Nat) : SoundC Try.prog 80 (spec_l04Gap_e N) := by
  have h := runF_sound (f := 80) (code := bodyOf Try.f80) (N := N) (T := spec_l04Gap_T N) (L := spec_l04Gap_L) (ins := [(.sl (.int .i64)), (.int .i64), (.int .i64), (.int .i64)]) (outs := [.val (.int .i64)]) (res := [8]) mixed tt_ok ?_ Try.func80 (by kernel_rfl) rfl (by kernel_rfl) (by kernel_rfl) (by decide +kernel)
  · rw [spec_l04Gap_eq] at h
    exact h
  · intro f e he
    unfold spec_l04Gap_T at he
    split at he
    · rw [List.mem_singleton.1 he]; exact spec_l00Max_sound N
    · cases he

/- spec.NoWaitGaps -/
def spec_NoWaitGaps (N : Nat) (x0 : List Int) (x1 : Int) : Option (List (Int) × Bool × Unit) :=
  Option.bind (spec_l04Can N x0 x1) fun r1 =>
  cond (!r1.1)
    (some ([], false, ()))
    (Option.bind (spec_l04Count N x0 x1) fun r2 =>
    loopN (fun (s3 : List (Int) × Int × Unit) next4 =>
      cond (decide (s3.2.1 < r2.1))
        (loopN (fun (s5 : List (Int) × Int × Unit) next6 =>
          cond (decide (s5.2.1 < r2.1))
            (cond (s3.2.1 == s5.2.1)
              (cond (appOk (List.length s5.1) (List.length ([0] : List Int)))
                (let xs7 := (s5.1 ++ ([0] : List Int))
                next6 (xs7, (w64 (s5.2.1 + 1)), ())) none)
              (Option.bind (spec_l04Gap N x0 x1 s3.2.1 s5.2.1) fun r8 =>
              cond (appOk (List.length s5.1) (List.length ([r8.1] : List Int)))
                (let xs9 := (s5.1 ++ ([r8.1] : List Int))
                next6 (xs9, (w64 (s5.2.1 + 1)), ())) none))
            (next4 (s5.1, (w64 (s3.2.1 + 1)), ()))) N (s3.1, 0, ()))
        (some (s3.1, true, ()))) N (([] : List Int), 0, ()))
def spec_NoWaitGaps_e (N : Nat) : Ent := { ins := [(.sl (.int .i64)), (.int .i64)], outs := [.own (.int .i64), .val .bool], F := fun x => spec_NoWaitGaps N x.1 x.2.1 }
def spec_NoWaitGaps_T (N : Nat) : Nat → List EntX
  | 78 => [.pl (spec_l04Can_e N)]
  | 79 => [.pl (spec_l04Count_e N)]
  | 80 => [.pl (spec_l04Gap_e N)]
  | _ => []
def spec_NoWaitGaps_L : Nat → List (Nat × TK)
  | 6 => [(7, .own (.int .i64)), (8, .v (.int .i64))]
  | 9 => [(7, .own (.int .i64)), (9, .v (.int .i64))]
  | _ => []
theorem spec_NoWaitGaps_eq (N : Nat) : runF N tt (spec_NoWaitGaps_T N) spec_NoWaitGaps_L [(.sl (.int .i64)), (.int .i64)] [.own (.int .i64), .val .bool] (bodyOf Try.f40) Try.f40.ntmps [4, 5] = (spec_NoWaitGaps_e N).F := by
  funext x
  kernel_rfl
theorem spec_NoWaitGaps_sound (N : Nat) : SoundC Try.prog 40 (spec_NoWaitGaps_e N) := by
  have h := runF_sound (f := 40) (code := bodyOf Try.f40) (N := N) (T := spec_NoWaitGaps_T N) (L := spec_NoWaitGaps_L) (ins := [(.sl (.int .i64)), (.int .i64)]) (outs := [.own (.int .i64), .val .bool]) (res := [4, 5]) mixed tt_ok ?_ Try.func40 (by kernel_rfl) rfl (by kernel_rfl) (by kernel_rfl) (by decide +kernel)
  · rw [spec_NoWaitGaps_eq] at h
    exact h
  · intro f e he
    unfold spec_NoWaitGaps_T at he
    split at he
    · rw [List.mem_singleton.1 he]; exact spec_l04Can_sound N
    · rw [List.mem_singleton.1 he]; exact spec_l04Count_sound N
    · rw [List.mem_singleton.1 he]; exact spec_l04Gap_sound N
    · cases he

/- impl.areMachines -/
def impl_areMachines (N : Nat) (x0 : Int) : Option (Bool × Unit) :=
  Option.bind (impl_within N x0 1 8) fun r1 =>
  some (r1.1, ())
def impl_areMachines_e (N : Nat) : Ent := { ins := [(.int .i64)], outs := [.val .bool], F := fun x => impl_areMachines N x.1 }
def impl_areMachines_T (N : Nat) : Nat → List EntX
  | 75 => [.pl (impl_within_e N)]
  | _ => []
def impl_areMachines_L : Nat → List (Nat × TK) := fun _ => []
theorem impl_areMachines_eq (N : Nat) : runF N tt (impl_areMachines_T N) impl_areMachines_L [(.int .i64)] [.val .bool] (bodyOf Try.f59) Try.f59.ntmps [2] = (impl_areMachines_e N).F := by
  funext x
  kernel_rfl
theorem impl_areMachines_sound (N : Nat) : SoundC Try.prog 59 (impl_areMachines_e N) := by
  have h := runF_sound (f := 59) (code := bodyOf Try.f59) (N := N) (T := impl_areMachines_T N) (L := impl_areMachines_L) (ins := [(.int .i64)]) (outs := [.val .bool]) (res := [2]) mixed tt_ok ?_ Try.func59 (by kernel_rfl) rfl (by kernel_rfl) (by kernel_rfl) (by decide +kernel)
  · rw [impl_areMachines_eq] at h
    exact h
  · intro f e he
    unfold impl_areMachines_T at he
    split at he
    · rw [List.mem_singleton.1 he]; exact impl_within_sound N
    · cases he

/- impl.unlikeJobs -/
def impl_unlikeJobs (N : Nat) (x0 : List Int) (x1 : Int) : Option (Int × Bool × Unit) :=
  Option.bind (impl_areMachines N x1) fun r1 =>
  cond (!r1.1)
    (some (0, false, ()))
    (cond (x1 == 0) none
      (cond ((Int.tmod (List.length x0 : Int) x1) != 0)
        (some (0, false, ()))
        (Option.bind (impl_areWithin N x0 1 10000) fun r2 =>
        cond (!r2.1)
          (some (0, false, ()))
          (cond (x1 == 0) none
            (cond (decide ((w64 (Int.tdiv (List.length x0 : Int) x1)) ≥ 1))
              (some ((w64 (Int.tdiv (List.length x0 : Int) x1)), (decide ((w64 (Int.tdiv (List.length x0 : Int) x1)) ≤ 24)), ()))
              (some ((w64 (Int.tdiv (List.length x0 : Int) x1)), false, ())))))))
def impl_unlikeJobs_e (N : Nat) : Ent := { ins := [(.sl (.int .i64)), (.int .i64)], outs := [.val (.int .i64), .val .bool], F := fun x => impl_unlikeJobs N x.1 x.2.1 }
def impl_unlikeJobs_T (N : Nat) : Nat → List EntX
  | 59 => [.pl (impl_areMachines_e N)]
  | 76 => [.pl (impl_areWithin_e N)]
  | _ => []
def impl_unlikeJobs_L : Nat → List (Nat × TK) := fun _ => []
theorem impl_unlikeJobs_eq (N : Nat) : runF N tt (impl_unlikeJobs_T N) impl_unlikeJobs_L [(.sl (.int .i64)), (.int .i64)] [.val (.int .i64), .val .bool] (bodyOf Try.f102) Try.f102.ntmps [4, 5] = (impl_unlikeJobs_e N).F := by
  funext x
  kernel_rfl
theorem impl_unlikeJobs_sound (N : Nat) : SoundC Try.prog 102 (impl_unlikeJobs_e N) := by
  have h := runF_sound (f := 102) (code := bodyOf Try.f102) (N := N) (T := impl_unlikeJobs_T N) (L := impl_unlikeJobs_L) (ins := [(.sl (.int .i64)), (.int .i64)]) (outs := [.val (.int .i64), .val .bool]) (res := [4, 5]) mixed tt_ok ?_ Try.func102 (by kernel_rfl) rfl (by kernel_rfl) (by kernel_rfl) (by decide +kernel)
  · rw [impl_unlikeJobs_eq] at h
    exact h
  · intro f e he
    unfold impl_unlikeJobs_T at he
    split at he
    · rw [List.mem_singleton.1 he]; exact impl_areMachines_sound N
    · rw [List.mem_singleton.1 he]; exact impl_areWithin_sound N
    · cases he

/- impl.asShop -/
def impl_asShop (N : Nat) (x0 : List Int) (x1 : Int) : Option (((List Int) × Int × Int) × Bool × Unit) :=
  Option.bind (impl_unlikeJobs N x0 x1) fun r1 =>
  some ((x0, (r1.1, x1)), r1.2.1, ())
def impl_asShop_e (N : Nat) : Ent := { ins := [(.sl (.int .i64)), (.int .i64)], outs := [.val (.pair (.sl (.int .i64)) (.pair (.int .i64) (.int .i64))), .val .bool], F := fun x => impl_asShop N x.1 x.2.1 }
def impl_asShop_T (N : Nat) : Nat → List EntX
  | 102 => [.pl (impl_unlikeJobs_e N)]
  | _ => []
def impl_asShop_L : Nat → List (Nat × TK) := fun _ => []
theorem impl_asShop_eq (N : Nat) : runC N tt (impl_asShop_T N) impl_asShop_L [(.sl (.int .i64)), (.int .i64)] [.val (.pair (.sl (.int .i64)) (.pair (.int .i64) (.int .i64))), .val .bool] (bodyOf Try.f81) Try.f81.ntmps [4, 5] [(4, 84)] = (impl_asShop_e N).F := by
  funext x
  kernel_rfl
theorem impl_asShop_sound (N : Nat) : SoundC Try.prog 81 (impl_asShop_e N) := by
  have h := runC_sound (f := 81) (code := bodyOf Try.f81) (N := N) (T := impl_asShop_T N) (L := impl_asShop_L) (ins := [(.sl (.int .i64)), (.int .i64)]) (outs := [.val (.pair (.sl (.int .i64)) (.pair (.int .i64) (.int .i64))), .val .bool]) (res := [4, 5]) (rs := [.cell 4 84, .tmp 5]) (cells := [(4, 84)]) mixed tt_ok ?_ Try.func81 (by kernel_rfl) rfl (by kernel_rfl) (by kernel_rfl) rfl rfl (by decide) (by decide +kernel) (by decide +kernel)
  · rw [impl_asShop_eq] at h
    exact h
  · intro f e he
    unfold impl_asShop_T at he
    split at he
    · rw [List.mem_singleton.1 he]; exact impl_unlikeJobs_sound N
    · cases he

/- (impl.shop).at -/
def impl_shop_at (_N : Nat) (x0 : (List Int) × Int × Int) (x1 : Int) (x2 : Int) : Option (Int × Unit) :=
  Option.bind (idx x0.1 (w64 ((w64 (x1 * x0.2.2)) + x2))) fun v1 =>
  some (v1, ())
def impl_shop_at_e (N : Nat) : Ent := { ins := [(.pair (.sl (.int .i64)) (.pair (.int .i64) (.int .i64))), (.int .i64), (.int .i64)], outs := [.val (.int .i64)], F := fun x => impl_shop_at N x.1 x.2.1 x.2.2.1 }
def impl_shop_at_T (_ : Nat) : Nat → List EntX := fun _ => []
def impl_shop_at_L : Nat → List (Nat × TK) := fun _ => []
theorem impl_shop_at_eq (N : Nat) : runF N tt (impl_shop_at_T N) impl_shop_at_L [(.pair (.sl (.int .i64)) (.pair (.int .i64) (.int .i64))), (.int .i64), (.int .i64)] [.val (.int .i64)] (bodyOf Try.f88) Try.f88.ntmps [6] = (impl_shop_at_e N).F := by
  funext x
  kernel_rfl
theorem impl_shop_at_sound (N : Nat) : SoundC Try.prog 88 (impl_shop_at_e N) := by
  have h := runF_sound (f := 88) (code := bodyOf Try.f88) (N := N) (T := impl_shop_at_T N) (L := impl_shop_at_L) (ins := [(.pair (.sl (.int .i64)) (.pair (.int .i64) (.int .i64))), (.int .i64), (.int .i64)]) (outs := [.val (.int .i64)]) (res := [6]) mixed tt_ok ?_ Try.func88 (by kernel_rfl) rfl (by kernel_rfl) (by kernel_rfl) (by decide +kernel)
  · rw [impl_shop_at_eq] at h
    exact h
  · intro f e he
    cases he

/- (impl.shop).gap -/
def impl_shop_gap (N : Nat) (x0 : (List Int) × Int × Int) (x1 : Int) (x2 : Int) : Option (Int × Unit) :=
  cond (x1 == x2)
    (some (0, ()))
    (loopN (fun (s1 : Int × Int × Int × Int × Unit) next2 =>
      cond (decide (s1.2.2.2.1 < x0.2.2))
        (Option.bind (impl_shop_at N (x0.1, (x0.2.1, x0.2.2)) x1 s1.2.2.2.1) fun r3 =>
        cond (s1.2.2.2.1 == 0)
          (Option.bind (impl_shop_at N (x0.1, (x0.2.1, x0.2.2)) x2 s1.2.2.2.1) fun r4 =>
          next2 ((w64 ((w64 (s1.2.1 + r3.1)) - s1.2.2.1)), (w64 (s1.2.1 + r3.1)), (w64 (s1.2.2.1 + r4.1)), (w64 (s1.2.2.2.1 + 1)), ()))
          (cond (decide ((w64 ((w64 (s1.2.1 + r3.1)) - s1.2.2.1)) > s1.1))
            (Option.bind (impl_shop_at N (x0.1, (x0.2.1, x0.2.2)) x2 s1.2.2.2.1) fun r5 =>
            next2 ((w64 ((w64 (s1.2.1 + r3.1)) - s1.2.2.1)), (w64 (s1.2.1 + r3.1)), (w64 (s1.2.2.1 + r5.1)), (w64 (s1.2.2.2.1 + 1)), ()))
            (Option.bind (impl_shop_at N (x0.1, (x0.2.1, x0.2.2)) x2 s1.2.2.2.1) fun r6 =>
            next2 (s1.1, (w64 (s1.2.1 + r3.1)), (w64 (s1.2.2.1 + r6.1)), (w64 (s1.2.2.2.1 + 1)), ()))))
        (some (s1.1, ()))) N (0, 0, 0, 0, ()))
def impl_shop_gap_e (N : Nat) : Ent := { ins := [(.pair (.sl (.int .i64)) (.pair (.int .i64) (.int .i64))), (.int .i64), (.int .i64)], outs := [.val (.int .i64)], F := fun x => impl_shop_gap N x.1 x.2.1 x.2.2.1 }
def impl_shop_gap_T (N : Nat) : Nat → List EntX
  | 88 => [.pl (impl_shop_at_e N)]
  | _ => []
def impl_shop_gap_L : Nat → List (Nat × TK)
  | 5 => [(7, .v (.int .i64)), (8, .v (.int .i64)), (9, .v (.int .i64)), (17, .v (.int .i64))]
  | _ => []
theorem impl_shop_gap_eq (N : Nat) : runF N tt (impl_shop_gap_T N) impl_shop_gap_L [(.pair (.sl (.int .i64)) (.pair (.int .i64) (.int .i64))), (.int .i64), (.int .i64)] [.val (.int .i64)] (bodyOf Try.f82) Try.f82.ntmps [6] = (impl_shop_gap_e N).F := by
  funext x
  kernel_rfl
theorem impl_shop_gap_sound (N : Nat) : SoundC Try.prog 82 (impl_shop_gap_e N) := by
  have h := runF_sound (f := 82) (code := bodyOf Try.f82) (N := N) (T := impl_shop_gap_T N) (L := impl_shop_gap_L) (ins := [(.pair (.sl (.int .i64)) (.pair (.int .i64) (.int .i64))), (.int .i64), (.int .i64)]) (outs := [.val (.int .i64)]) (res := [6]) mixed tt_ok ?_ Try.func82 (by kernel_rfl) rfl (by kernel_rfl) (by kernel_rfl) (by decide +kernel)
  · rw [impl_shop_gap_eq] at h
    exact h
  · intro f e he
    unfold impl_shop_gap_T at he
    split at he
    · rw [List.mem_singleton.1 he]; exact impl_shop_at_sound N
    · cases he

/- impl.NoWaitGaps -/
def impl_NoWaitGaps (N : Nat) (x0 : List Int) (x1 : Int) : Option (List (Int) × Bool × Unit) :=
  Option.bind (impl_asShop N x0 x1) fun r1 =>
  cond (!r1.2.1)
    (some ([], false, ()))
    (loopN (fun (s2 : List (Int) × Int × Unit) next3 =>
      cond (decide (s2.2.1 < r1.1.2.1))
        (loopN (fun (s4 : List (Int) × Int × Unit) next5 =>
          cond (decide (s4.2.1 < r1.1.2.1))
            (Option.bind (impl_shop_gap N (r1.1.1, (r1.1.2.1, r1.1.2.2)) s2.2.1 s4.2.1) fun r6 =>
            cond (appOk (List.length s4.1) (List.length ([r6.1] : List Int)))
              (let xs7 := (s4.1 ++ ([r6.1] : List Int))
              next5 (xs7, (w64 (s4.2.1 + 1)), ())) none)
            (next3 (s4.1, (w64 (s2.2.1 + 1)), ()))) N (s2.1, 0, ()))
        (some (s2.1, true, ()))) N (([] : List Int), 0, ()))
def impl_NoWaitGaps_e (N : Nat) : Ent := { ins := [(.sl (.int .i64)), (.int .i64)], outs := [.own (.int .i64), .val .bool], F := fun x => impl_NoWaitGaps N x.1 x.2.1 }
def impl_NoWaitGaps_T (N : Nat) : Nat → List EntX
  | 81 => [.pl (impl_asShop_e N)]
  | 82 => [.pl (impl_shop_gap_e N)]
  | _ => []
def impl_NoWaitGaps_L : Nat → List (Nat × TK)
  | 6 => [(8, .own (.int .i64)), (22, .v (.int .i64))]
  | 9 => [(8, .own (.int .i64)), (27, .v (.int .i64))]
  | _ => []
theorem impl_NoWaitGaps_eq (N : Nat) : runF N tt (impl_NoWaitGaps_T N) impl_NoWaitGaps_L [(.sl (.int .i64)), (.int .i64)] [.own (.int .i64), .val .bool] (bodyOf Try.f41) Try.f41.ntmps [4, 5] = (impl_NoWaitGaps_e N).F := by
  funext x
  kernel_rfl
theorem impl_NoWaitGaps_sound (N : Nat) : SoundC Try.prog 41 (impl_NoWaitGaps_e N) := by
  have h := runF_sound (f := 41) (code := bodyOf Try.f41) (N := N) (T := impl_NoWaitGaps_T N) (L := impl_NoWaitGaps_L) (ins := [(.sl (.int .i64)), (.int .i64)]) (outs := [.own (.int .i64), .val .bool]) (res := [4, 5]) mixed tt_ok ?_ Try.func41 (by kernel_rfl) rfl (by kernel_rfl) (by kernel_rfl) (by decide +kernel)
  · rw [impl_NoWaitGaps_eq] at h
    exact h
  · intro f e he
    unfold impl_NoWaitGaps_T at he
    split at he
    · rw [List.mem_singleton.1 he]; exact impl_asShop_sound N
    · rw [List.mem_singleton.1 he]; exact impl_shop_gap_sound N
    · cases he

/- laws.FnExactNoWaitGaps -/
def laws_FnExactNoWaitGaps (N : Nat) (x0 : List Int) (x1 : Int) : Option (Bool × Unit) :=
  cond (decide ((List.length x0 : Int) > 1048576))
    (some (true, ()))
    (Option.bind (laws_toInt64S N x0) fun r1 =>
    Option.bind (spec_NoWaitGaps N r1.1 x1) fun r2 =>
    Option.bind (laws_toInt64S N x0) fun r3 =>
    Option.bind (impl_NoWaitGaps N r3.1 x1) fun r4 =>
    Option.bind (laws_eqInt64S N r4.1 r2.1) fun r5 =>
    cond (!r5.1)
      (some (false, ()))
      (cond (!(r4.2.1 == r2.2.1))
        (some (false, ()))
        (Option.bind (laws_toInt64S N x0) fun r6 =>
        Option.bind (laws_eqInt64S N r3.1 r6.1) fun r7 =>
        cond (!r7.1)
          (some (false, ()))
          (Option.bind (laws_markInt64S N r3.1 1) fun r8 =>
          cond (Nat.beq (List.length r8.1) (List.length r3.1))
            (cond (decide (r8.2.1 < 0))
              (some (false, ()))
              (Option.bind (laws_eqInt64S N r4.1 r2.1) fun r9 =>
              cond (!r9.1)
                (some (false, ()))
                (cond (!(r4.2.1 == r2.2.1))
                  (some (false, ()))
                  (Option.bind (laws_markInt64S N r4.1 1) fun r10 =>
                  cond (Nat.beq (List.length r10.1) (List.length r4.1))
                    (Option.bind (laws_heldInt64S N r10.1 1) fun r11 =>
                    cond (decide (r11.1 < 0))
                      (some (false, ()))
                      (cond (r11.1 != r10.2.1)
                        (some (false, ()))
                        (Option.bind (laws_toInt64S N x0) fun r12 =>
                        Option.bind (impl_NoWaitGaps N r12.1 x1) fun r13 =>
                        Option.bind (laws_eqInt64S N r13.1 r2.1) fun r14 =>
                        cond (!r14.1)
                          (some (false, ()))
                          (cond (!(r13.2.1 == r2.2.1))
                            (some (false, ()))
                            (Option.bind (laws_heldInt64S N r10.1 1) fun r15 =>
                            cond (decide (r15.1 < 0))
                              (some (false, ()))
                              (cond (r15.1 != r10.2.1)
                                (some (false, ()))
                                (some (true, ())))))))) none)))) none))))
def laws_FnExactNoWaitGaps_e (N : Nat) : Ent := { ins := [(.sl (.int .i64)), (.int .i64)], outs := [.val .bool], F := fun x => laws_FnExactNoWaitGaps N x.1 x.2.1 }
def laws_FnExactNoWaitGaps_T (N : Nat) : Nat → List EntX
  | 26 => [.pl (laws_toInt64S_e N)]
  | 28 => [.pl (laws_eqInt64S_e N)]
  | 31 => [.mu (laws_markInt64S_e N)]
  | 32 => [.pl (laws_heldInt64S_e N)]
  | 40 => [.pl (spec_NoWaitGaps_e N)]
  | 41 => [.pl (impl_NoWaitGaps_e N)]
  | _ => []
def laws_FnExactNoWaitGaps_L : Nat → List (Nat × TK) := fun _ => []
theorem laws_FnExactNoWaitGaps_eq (N : Nat) : runF N tt (laws_FnExactNoWaitGaps_T N) laws_FnExactNoWaitGaps_L [(.sl (.int .i64)), (.int .i64)] [.val .bool] (bodyOf Try.f9) Try.f9.ntmps [4] = (laws_FnExactNoWaitGaps_e N).F := by
  funext x
  kernel_rfl
theorem laws_FnExactNoWaitGaps_sound (N : Nat) : SoundC Try.prog 9 (laws_FnExactNoWaitGaps_e N) := by
  have h := runF_sound (f := 9) (code := bodyOf Try.f9) (N := N) (T := laws_FnExactNoWaitGaps_T N) (L := laws_FnExactNoWaitGaps_L) (ins := [(.sl (.int .i64)), (.int .i64)]) (outs := [.val .bool]) (res := [4]) mixed tt_ok ?_ Try.func9 (by kernel_rfl) rfl (by kernel_rfl) (by kernel_rfl) (by decide +kernel)
  · rw [laws_FnExactNoWaitGaps_eq] at h
    exact h
  · intro f e he
    unfold laws_FnExactNoWaitGaps_T at he
    split at he
    · rw [List.mem_singleton.1 he]; exact laws_toInt64S_sound N
    · rw [List.mem_singleton.1 he]; exact laws_eqInt64S_sound N
    · rw [List.mem_singleton.1 he]; exact laws_markInt64S_sound N
    · rw [List.mem_singleton.1 he]; exact laws_heldInt64S_sound N
    · rw [List.mem_singleton.1 he]; exact spec_NoWaitGaps_sound N
    · rw [List.mem_singleton.1 he]; exact impl_NoWaitGaps_sound N
    · cases he

/- spec.l04Job -/
def spec_l04Job (N : Nat) (x0 : List Int) (x1 : Int) (x2 : Int) : Option (Int × Unit) :=
  cond (decide (0 ≤ (w64 (x2 * x1))) && decide ((w64 (x2 * x1)) ≤ (w64 ((w64 (x2 + 1)) * x1))) && decide ((w64 ((w64 (x2 + 1)) * x1)) ≤ (List.length x0 : Int)))
    (Option.bind (spec_l02Sum N (List.drop (Int.toNat (w64 (x2 * x1))) (List.take (Int.toNat (w64 ((w64 (x2 + 1)) * x1))) x0))) fun r1 =>
    some (r1.1, ())) none
def spec_l04Job_e (N : Nat) : Ent := { ins := [(.sl (.int .i64)), (.int .i64), (.int .i64)], outs := [.val (.int .i64)], F := fun x => spec_l04Job N x.1 x.2.1 x.2.2.1 }
def spec_l04Job_T (N : Nat) : Nat → List EntX
  | 69 => [.pl (spec_l02Sum_e N)]
  | _ => []
def spec_l04Job_L : Nat → List (Nat × TK) := fun _ => []
theorem spec_l04Job_eq (N : Nat) : runF N tt (spec_l04Job_T N) spec_l04Job_L [(.sl (.int .i64)), (.int .i64), (.int .i64)] [.val (.int .i64)] (bodyOf Try.f103) Try.f103.ntmps [6] = (spec_l04Job_e N).F := by
  funext x
  kernel_rfl
theorem spec_l04Job_sound (N : Nat) : SoundC Try.prog 103 (spec_l04Job_e N) := by
  have h := runF_sound (f := 103) (code := bodyOf Try.f103) (N := N) (T := spec_l04Job_T N) (L := spec_l04Job_L) (ins := [(.sl (.int .i64)), (.int .i64), (.int .i64)]) (outs := [.val (.int .i64)]) (res := [6]) mixed tt_ok ?_ Try.func103 (by kernel_rfl) rfl (by kernel_rfl) (by kernel_rfl) (by decide +kernel)
  · rw [spec_l04Job_eq] at h
    exact h
  · intro f e he
    unfold spec_l04Job_T at he
    split at he
    · rw [List.mem_singleton.1 he]; exact spec_l02Sum_sound N
    · cases he

/- spec.l04Bound -/
def spec_l04Bound (N : Nat) (x0 : List Int) (x1 : List Int) (x2 : Int) : Option (Int × Unit) :=
  cond (mkOk x2 x2)
    (let xs1 := (List.replicate (Int.toNat x2) (0 : Int) : List (Int))
    loopN (fun (s2 : List (Int) × Int × Int × Unit) next3 =>
      Option.bind (spec_l04Count N x0 x2) fun r4 =>
      cond (decide (s2.2.2.1 < r4.1))
        (Option.bind (spec_l04Job N x0 x2 s2.2.2.1) fun r5 =>
        Option.bind (spec_l00Max N s2.2.1 r5.1) fun r6 =>
        loopN (fun (s7 : List (Int) × Int × Unit) next8 =>
          cond (decide (s7.2.1 < x2))
            (cond (decide ((List.length x1 : Int) > 0))
              (Option.bind (idx x1 (w64 ((w64 (s2.2.2.1 * x2)) + s7.2.1))) fun v9 =>
              cond (inB v9 (List.length s7.1))
                (Option.bind (s7.1[(Int.toNat v9)]?) fun v10 =>
                Option.bind (idx x0 (w64 ((w64 (s2.2.2.1 * x2)) + s7.2.1))) fun v11 =>
                cond (inB v9 (List.length s7.1))
                  (let xs12 := (List.set s7.1 (Int.toNat v9) (w64 (v10 + v11)))
                  next8 (xs12, (w64 (s7.2.1 + 1)), ())) none) none)
              (cond (inB s7.2.1 (List.length s7.1))
                (Option.bind (s7.1[(Int.toNat s7.2.1)]?) fun v13 =>
                Option.bind (idx x0 (w64 ((w64 (s2.2.2.1 * x2)) + s7.2.1))) fun v14 =>
                cond (inB s7.2.1 (List.length s7.1))
                  (let xs15 := (List.set s7.1 (Int.toNat s7.2.1) (w64 (v13 + v14)))
                  next8 (xs15, (w64 (s7.2.1 + 1)), ())) none) none))
            (next3 (s7.1, r6.1, (w64 (s2.2.2.1 + 1)), ()))) N (s2.1, 0, ()))
        (Option.bind (spec_l02Greatest N s2.1) fun r16 =>
        Option.bind (spec_l00Max N s2.2.1 r16.1) fun r17 =>
        some (r17.1, ()))) N (xs1, 0, 0, ())) none
def spec_l04Bound_e (N : Nat) : Ent := { ins := [(.sl (.int .i64)), (.sl (.int .i64)), (.int .i64)], outs := [.val (.int .i64)], F := fun x => spec_l04Bound N x.1 x.2.1 x.2.2.1 }
def spec_l04Bound_T (N : Nat) : Nat → List EntX
  | 64 => [.pl (spec_l02Greatest_e N)]
  | 79 => [.pl (spec_l04Count_e N)]
  | 86 => [.pl (spec_l00Max_e N)]
  | 103 => [.pl (spec_l04Job_e N)]
  | _ => []
def spec_l04Bound_L : Nat → List (Nat × TK)
  | 4 => [(7, .own (.int .i64)), (8, .v (.int .i64)), (9, .v (.int .i64))]
  | 8 => [(7, .own (.int .i64)), (10, .v (.int .i64))]
  | _ => []
theorem spec_l04Bound_eq (N : Nat) : runF N tt (spec_l04Bound_T N) spec_l04Bound_L [(.sl (.int .i64)), (.sl (.int .i64)), (.int .i64)] [.val (.int .i64)] (bodyOf Try.f83) Try.f83.ntmps [6] = (spec_l04Bound_e N).F := by
  funext x
  kernel_rfl
theorem spec_l04Bound_sound (N : Nat) : SoundC Try.prog 83 (spec_l04Bound_e N) := by
  have h := runF_sound (f := 83) (code := bodyOf Try.f83) (N := N) (T := spec_l04Bound_T N) (L := spec_l04Bound_L) (ins := [(.sl (.int .i64)), (.sl (.int .i64)), (.int .i64)]) (outs := [.val (.int .i64)]) (res := [6]) mixed tt_ok ?_ Try.func83 (by kernel_rfl) rfl (by kernel_rfl) (by kernel_rfl) (by decide +kernel)
  · rw [spec_l04Bound_eq] at h
    exact h
  · intro f e he
    unfold spec_l04Bound_T at he
    split at he
    · rw [List.mem_singleton.1 he]; exact spec_l02Greatest_sound N
    · rw [List.mem_singleton.1 he]; exact spec_l04Count_sound N
    · rw [List.mem_singleton.1 he]; exact spec_l00Max_sound N
    · rw [List.mem_singleton.1 he]; exact spec_l04Job_sound N
    · cases he

/- spec.OpenBound -/
def spec_OpenBound (N : Nat) (x0 : List Int) (x1 : Int) : Option (Int × Bool × Unit) :=
  Option.bind (spec_l04Can N x0 x1) fun r1 =>
  cond (!r1.1)
    (some (0, false, ()))
    (Option.bind (spec_l04Bound N x0 ([] : List Int) x1) fun r2 =>
    some (r2.1, true, ()))
def spec_OpenBound_e (N : Nat) : Ent := { ins := [(.sl (.int .i64)), (.int .i64)], outs := [.val (.int .i64), .val .bool], F := fun x => spec_OpenBound N x.1 x.2.1 }
def spec_OpenBound_T (N : Nat) : Nat → List EntX
  | 78 => [.pl (spec_l04Can_e N)]
  | 83 => [.pl (spec_l04Bound_e N)]
  | _ => []
def spec_OpenBound_L : Nat → List (Nat × TK) := fun _ => []
theorem spec_OpenBound_eq (N : Nat) : runF N tt (spec_OpenBound_T N) spec_OpenBound_L [(.sl (.int .i64)), (.int .i64)] [.val (.int .i64), .val .bool] (bodyOf Try.f42) Try.f42.ntmps [4, 5] = (spec_OpenBound_e N).F := by
  funext x
  kernel_rfl
theorem spec_OpenBound_sound (N : Nat) : SoundC Try.prog 42 (spec_OpenBound_e N) := by
  have h := runF_sound (f := 42) (code := bodyOf Try.f42) (N := N) (T := spec_OpenBound_T N) (L := spec_OpenBound_L) (ins := [(.sl (.int .i64)), (.int .i64)]) (outs := [.val (.int .i64), .val .bool]) (res := [4, 5]) mixed tt_ok ?_ Try.func42 (by kernel_rfl) rfl (by kernel_rfl) (by kernel_rfl) (by decide +kernel)
  · rw [spec_OpenBound_eq] at h
    exact h
  · intro f e he
    unfold spec_OpenBound_T at he
    split at he
    · rw [List.mem_singleton.1 he]; exact spec_l04Can_sound N
    · rw [List.mem_singleton.1 he]; exact spec_l04Bound_sound N
    · cases he

/- (impl.shop).of -/
def impl_shop_of (N : Nat) (x0 : (List Int) × Int × Int) (x1 : Int) : Option (Int × Unit) :=
  cond (decide (0 ≤ (w64 (x1 * x0.2.2))) && decide ((w64 (x1 * x0.2.2)) ≤ (w64 ((w64 (x1 + 1)) * x0.2.2))) && decide ((w64 ((w64 (x1 + 1)) * x0.2.2)) ≤ (List.length x0.1 : Int)))
    (Option.bind (impl_sumOf N (List.drop (Int.toNat (w64 (x1 * x0.2.2))) (List.take (Int.toNat (w64 ((w64 (x1 + 1)) * x0.2.2))) x0.1))) fun r1 =>
    some (r1.1, ())) none
def impl_shop_of_e (N : Nat) : Ent := { ins := [(.pair (.sl (.int .i64)) (.pair (.int .i64) (.int .i64))), (.int .i64)], outs := [.val (.int .i64)], F := fun x => impl_shop_of N x.1 x.2.1 }
def impl_shop_of_T (N : Nat) : Nat → List EntX
  | 71 => [.pl (impl_sumOf_e N)]
  | _ => []
def impl_shop_of_L : Nat → List (Nat × TK) := fun _ => []
theorem impl_shop_of_eq (N : Nat) : runF N tt (impl_shop_of_T N) impl_shop_of_L [(.pair (.sl (.int .i64)) (.pair (.int .i64) (.int .i64))), (.int .i64)] [.val (.int .i64)] (bodyOf Try.f104) Try.f104.ntmps [4] = (impl_shop_of_e N).F := by
  funext x
  kernel_rfl
theorem impl_shop_of_sound (N : Nat) : SoundC Try.prog 104 (impl_shop_of_e N) := by
  have h := runF_sound (f := 104) (code := bodyOf Try.f104) (N := N) (T := impl_shop_of_T N) (L := impl_shop_of_L) (ins := [(.pair (.sl (.int .i64)) (.pair (.int .i64) (.int .i64))), (.int .i64)]) (outs := [.val (.int .i64)]) (res := [4]) mixed tt_ok ?_ Try.func104 (by kernel_rfl) rfl (by kernel_rfl) (by kernel_rfl) (by decide +kernel)
  · rw [impl_shop_of_eq] at h
    exact h
  · intro f e he
    unfold impl_shop_of_T at he
    split at he
    · rw [List.mem_singleton.1 he]; exact impl_sumOf_sound N
    · cases he

/- (impl.shop).on -/
def impl_shop_on (N : Nat) (x0 : (List Int) × Int × Int) (x1 : Int) : Option (Int × Unit) :=
  loopN (fun (s1 : Int × Int × Unit) next2 =>
    cond (decide (s1.2.1 < x0.2.1))
      (Option.bind (impl_shop_at N (x0.1, (x0.2.1, x0.2.2)) s1.2.1 x1) fun r3 =>
      next2 ((w64 (s1.1 + r3.1)), (w64 (s1.2.1 + 1)), ()))
      (some (s1.1, ()))) N (0, 0, ())
def impl_shop_on_e (N : Nat) : Ent := { ins := [(.pair (.sl (.int .i64)) (.pair (.int .i64) (.int .i64))), (.int .i64)], outs := [.val (.int .i64)], F := fun x => impl_shop_on N x.1 x.2.1 }
def impl_shop_on_T (N : Nat) : Nat → List EntX
  | 88 => [.pl (impl_shop_at_e N)]
  | _ => []
def impl_shop_on_L : Nat → List (Nat × TK)
  | 3 => [(5, .v (.int .i64)), (9, .v (.int .i64))]
  | _ => []
theorem impl_shop_on_eq (N : Nat) : runF N tt (impl_shop_on_T N) impl_shop_on_L [(.pair (.sl (.int .i64)) (.pair (.int .i64) (.int .i64))), (.int .i64)] [.val (.int .i64)] (bodyOf Try.f105) Try.f105.ntmps [4] = (impl_shop_on_e N).F := by
  funext x
  kernel_rfl
theorem impl_shop_on_sound (N : Nat) : SoundC Try.prog 105 (impl_shop_on_e N) := by
  have h := runF_sound (f := 105) (code := bodyOf Try.f105) (N := N) (T := impl_shop_on_T N) (L := impl_shop_on_L) (ins := [(.pair (.sl (.int .i64)) (.pair (.int .i64) (.int .i64))), (.int .i64)]) (outs := [.val (.int .i64)]) (res := [4]) mixed tt_ok ?_ Try.func105 (by kernel_rfl) rfl (by kernel_rfl) (by kernel_rfl) (by decide +kernel)
  · rw [impl_shop_on_eq] at h
    exact h
  · intro f e he
    unfold impl_shop_on_T at he
    split at he
    · rw [List.mem_singleton.1 he]; exact impl_shop_at_sound N
    · cases he

/- (impl.shop).bound -/
def impl_shop_bound (N : Nat) (x0 : (List Int) × Int × Int) : Option (Int × Unit) :=
  loopN (fun (s1 : Int × Int × Unit) next2 =>
    cond (decide (s1.2.1 < x0.2.1))
      (Option.bind (impl_shop_of N (x0.1, (x0.2.1, x0.2.2)) s1.2.1) fun r3 =>
      next2 ((imax s1.1 r3.1), (w64 (s1.2.1 + 1)), ()))
      (loopN (fun (s4 : Int × Int × Unit) next5 =>
        cond (decide (s4.2.1 < x0.2.2))
          (Option.bind (impl_shop_on N (x0.1, (x0.2.1, x0.2.2)) s4.2.1) fun r6 =>
          next5 ((imax s4.1 r6.1), (w64 (s4.2.1 + 1)), ()))
          (some (s4.1, ()))) N (s1.1, 0, ()))) N (0, 0, ())
def impl_shop_bound_e (N : Nat) : Ent := { ins := [(.pair (.sl (.int .i64)) (.pair (.int .i64) (.int .i64)))], outs := [.val (.int .i64)], F := fun x => impl_shop_bound N x.1 }
def impl_shop_bound_T (N : Nat) : Nat → List EntX
  | 104 => [.pl (impl_shop_of_e N)]
  | 105 => [.pl (impl_shop_on_e N)]
  | _ => []
def impl_shop_bound_L : Nat → List (Nat × TK)
  | 3 => [(3, .v (.int .i64)), (8, .v (.int .i64))]
  | 8 => [(3, .v (.int .i64)), (19, .v (.int .i64))]
  | _ => []
theorem impl_shop_bound_eq (N : Nat) : runF N tt (impl_shop_bound_T N) impl_shop_bound_L [(.pair (.sl (.int .i64)) (.pair (.int .i64) (.int .i64)))] [.val (.int .i64)] (bodyOf Try.f84) Try.f84.ntmps [2] = (impl_shop_bound_e N).F := by
  funext x
  kernel_rfl
theorem impl_shop_bound_sound (N : Nat) : SoundC Try.prog 84 (impl_shop_bound_e N) := by
  have h := runF_sound (f := 84) (code := bodyOf Try.f84) (N := N) (T := impl_shop_bound_T N) (L := impl_shop_bound_L) (ins := [(.pair (.sl (.int .i64)) (.pair (.int .i64) (.int .i64)))]) (outs := [.val (.int .i64)]) (res := [2]) mixed tt_ok ?_ Try.func84 (by kernel_rfl) rfl (by kernel_rfl) (by kernel_rfl) (by decide +kernel)
  · rw [impl_shop_bound_eq] at h
    exact h
  · intro f e he
    unfold impl_shop_bound_T at he
    split at he
    · rw [List.mem_singleton.1 he]; exact impl_shop_of_sound N
    · rw [List.mem_singleton.1 he]; exact impl_shop_on_sound N
    · cases he

/- impl.OpenBound -/
def impl_OpenBound (N : Nat) (x0 : List Int) (x1 : Int) : Option (Int × Bool × Unit) :=
  Option.bind (impl_asShop N x0 x1) fun r1 =>
  cond (!r1.2.1)
    (some (0, false, ()))
    (Option.bind (impl_shop_bound N (r1.1.1, (r1.1.2.1, r1.1.2.2))) fun r2 =>
    some (r2.1, true, ()))
def impl_OpenBound_e (N : Nat) : Ent := { ins := [(.sl (.int .i64)), (.int .i64)], outs := [.val (.int .i64), .val .bool], F := fun x => impl_OpenBound N x.1 x.2.1 }
def impl_OpenBound_T (N : Nat) : Nat → List EntX
  | 81 => [.pl (impl_asShop_e N)]
  | 84 => [.pl (impl_shop_bound_e N)]
  | _ => []
def impl_OpenBound_L : Nat → List (Nat × TK) := fun _ => []
theorem impl_OpenBound_eq (N : Nat) : runF N tt (impl_OpenBound_T N) impl_OpenBound_L [(.sl (.int .i64)), (.int .i64)] [.val (.int .i64), .val .bool] (bodyOf Try.f43) Try.f43.ntmps [4, 5] = (impl_OpenBound_e N).F := by
  funext x
  kernel_rfl
theorem impl_OpenBound_sound (N : Nat) : SoundC Try.prog 43 (impl_OpenBound_e N) := by
  have h := runF_sound (f := 43) (code := bodyOf Try.f43) (N := N) (T := impl_OpenBound_T N) (L := impl_OpenBound_L) (ins := [(.sl (.int .i64)), (.int .i64)]) (outs := [.val (.int .i64), .val .bool]) (res := [4, 5]) mixed tt_ok ?_ Try.func43 (by kernel_rfl) rfl (by kernel_rfl) (by kernel_rfl) (by decide +kernel)
  · rw [impl_OpenBound_eq] at h
    exact h
  · intro f e he
    unfold impl_OpenBound_T at he
    split at he
    · rw [List.mem_singleton.1 he]; exact impl_asShop_sound N
    · rw [List.mem_singleton.1 he]; exact impl_shop_bound_sound N
    · cases he

/- laws.FnExactOpenBound -/
def laws_FnExactOpenBound (N : Nat) (x0 : List Int) (x1 : Int) : Option (Bool × Unit) :=
  cond (decide ((List.length x0 : Int) > 1048576))
    (some (true, ()))
    (Option.bind (laws_toInt64S N x0) fun r1 =>
    Option.bind (spec_OpenBound N r1.1 x1) fun r2 =>
    Option.bind (laws_toInt64S N x0) fun r3 =>
    Option.bind (impl_OpenBound N r3.1 x1) fun r4 =>
    cond (r4.1 != r2.1)
      (some (false, ()))
      (cond (!(r4.2.1 == r2.2.1))
        (some (false, ()))
        (Option.bind (laws_toInt64S N x0) fun r5 =>
        Option.bind (laws_eqInt64S N r3.1 r5.1) fun r6 =>
        cond (!r6.1)
          (some (false, ()))
          (some (true, ())))))
def laws_FnExactOpenBound_e (N : Nat) : Ent := { ins := [(.sl (.int .i64)), (.int .i64)], outs := [.val .bool], F := fun x => laws_FnExactOpenBound N x.1 x.2.1 }
def laws_FnExactOpenBound_T (N : Nat) : Nat → List EntX
  | 26 => [.pl (laws_toInt64S_e N)]
  | 28 => [.pl (laws_eqInt64S_e N)]
  | 42 => [.pl (spec_OpenBound_e N)]
  | 43 => [.pl (impl_OpenBound_e N)]
  | _ => []
def laws_FnExactOpenBound_L : Nat → List (Nat × TK) := fun _ => []
theorem laws_FnExactOpenBound_eq (N : Nat) : runF N tt (laws_FnExactOpenBound_T N) laws_FnExactOpenBound_L [(.sl (.int .i64)), (.int .i64)] [.val .bool] (bodyOf Try.f10) Try.f10.ntmps [4] = (laws_FnExactOpenBound_e N).F := by
  funext x
  kernel_rfl
theorem laws_FnExactOpenBound_sound (N : Nat) : SoundC Try.prog 10 (laws_FnExactOpenBound_e N) := by
  have h := runF_sound (f := 10) (code := bodyOf Try.f10) (N := N) (T := laws_FnExactOpenBound_T N) (L := laws_FnExactOpenBound_L) (ins := [(.sl (.int .i64)), (.int .i64)]) (outs := [.val .bool]) (res := [4]) mixed tt_ok ?_ Try.func10 (by kernel_rfl) rfl (by kernel_rfl) (by kernel_rfl) (by decide +kernel)
  · rw [laws_FnExactOpenBound_eq] at h
    exact h
  · intro f e he
    unfold laws_FnExactOpenBound_T at he
    split at he
    · rw [List.mem_singleton.1 he]; exact laws_toInt64S_sound N
    · rw [List.mem_singleton.1 he]; exact laws_eqInt64S_sound N
    · rw [List.mem_singleton.1 he]; exact spec_OpenBound_sound N
    · rw [List.mem_singleton.1 he]; exact impl_OpenBound_sound N
    · cases he

/- spec.l02Has -/
def spec_l02Has (N : Nat) (x0 : List Int) (x1 : Int) : Option (Bool × Unit) :=
  loopN (fun (s1 : Int × Unit) next2 =>
    cond (decide (s1.1 < (List.length x0 : Int)))
      (Option.bind (idx x0 s1.1) fun v3 =>
      cond (v3 == x1)
        (some (true, ()))
        (next2 ((w64 (s1.1 + 1)), ())))
      (some (false, ()))) N (0, ())
def spec_l02Has_e (N : Nat) : Ent := { ins := [(.sl (.int .i64)), (.int .i64)], outs := [.val .bool], F := fun x => spec_l02Has N x.1 x.2.1 }
def spec_l02Has_T (_ : Nat) : Nat → List EntX := fun _ => []
def spec_l02Has_L : Nat → List (Nat × TK)
  | 2 => [(5, .v (.int .i64))]
  | _ => []
theorem spec_l02Has_eq (N : Nat) : runF N tt (spec_l02Has_T N) spec_l02Has_L [(.sl (.int .i64)), (.int .i64)] [.val .bool] (bodyOf Try.f107) Try.f107.ntmps [4] = (spec_l02Has_e N).F := by
  funext x
  kernel_rfl
theorem spec_l02Has_sound (N : Nat) : SoundC Try.prog 107 (spec_l02Has_e N) := by
  have h := runF_sound (f := 107) (code := bodyOf Try.f107) (N := N) (T := spec_l02Has_T N) (L := spec_l02Has_L) (ins := [(.sl (.int .i64)), (.int .i64)]) (outs := [.val .bool]) (res := [4]) mixed tt_ok ?_ Try.func107 (by kernel_rfl) rfl (by kernel_rfl) (by kernel_rfl) (by decide +kernel)
  · rw [spec_l02Has_eq] at h
    exact h
  · intro f e he
    cases he

/- spec.l02Orders -/
def spec_l02Orders (N : Nat) (x0 : List Int) (x1 : Int) : Option (Bool × Unit) :=
  loopN (fun (s1 : Int × Unit) next2 =>
    cond (decide (s1.1 < (List.length x0 : Int)))
      (Option.bind (idx x0 s1.1) fun v3 =>
      Option.bind (spec_l00In N v3 0 (w64 (x1 - 1))) fun r4 =>
      cond (!r4.1)
        (some (false, ()))
        (cond (decide (0 ≤ s1.1) && decide (s1.1 ≤ (List.length x0 : Int)))
          (Option.bind (idx x0 s1.1) fun v5 =>
          Option.bind (spec_l02Has N (List.take (Int.toNat s1.1) x0) v5) fun r6 =>
          cond r6.1
            (some (false, ()))
            (next2 ((w64 (s1.1 + 1)), ()))) none))
      (some (((List.length x0 : Int) == x1), ()))) N (0, ())
def spec_l02Orders_e (N : Nat) : Ent := { ins := [(.sl (.int .i64)), (.int .i64)], outs := [.val .bool], F := fun x => spec_l02Orders N x.1 x.2.1 }
def spec_l02Orders_T (N : Nat) : Nat → List EntX
  | 63 => [.pl (spec_l00In_e N)]
  | 107 => [.pl (spec_l02Has_e N)]
  | _ => []
def spec_l02Orders_L : Nat → List (Nat × TK)
  | 2 => [(5, .v (.int .i64))]
  | _ => []
theorem spec_l02Orders_eq (N : Nat) : runF N tt (spec_l02Orders_T N) spec_l02Orders_L [(.sl (.int .i64)), (.int .i64)] [.val .bool] (bodyOf Try.f96) Try.f96.ntmps [4] = (spec_l02Orders_e N).F := by
  funext x
  kernel_rfl
theorem spec_l02Orders_sound (N : Nat) : SoundC Try.prog 96 (spec_l02Orders_e N) := by
  have h := runF_sound (f := 96) (code := bodyOf Try.f96) (N := N) (T := spec_l02Orders_T N) (L := spec_l02Orders_L) (ins := [(.sl (.int .i64)), (.int .i64)]) (outs := [.val .bool]) (res := [4]) mixed tt_ok ?_ Try.func96 (by kernel_rfl) rfl (by kernel_rfl) (by kernel_rfl) (by decide +kernel)
  · rw [spec_l02Orders_eq] at h
    exact h
  · intro f e he
    unfold spec_l02Orders_T at he
    split at he
    · rw [List.mem_singleton.1 he]; exact spec_l00In_sound N
    · rw [List.mem_singleton.1 he]; exact spec_l02Has_sound N
    · cases he

/- spec.l04Flow -/
def spec_l04Flow (N : Nat) (x0 : List Int) (x1 : Int) (x2 : List Int) : Option (Bool × Unit) :=
  Option.bind (spec_l04Can N x0 x1) fun r1 =>
  cond r1.1
    (Option.bind (spec_l04Count N x0 x1) fun r2 =>
    Option.bind (spec_l02Orders N x2 r2.1) fun r3 =>
    some (r3.1, ()))
    (some (false, ()))
def spec_l04Flow_e (N : Nat) : Ent := { ins := [(.sl (.int .i64)), (.int .i64), (.sl (.int .i64))], outs := [.val .bool], F := fun x => spec_l04Flow N x.1 x.2.1 x.2.2.1 }
def spec_l04Flow_T (N : Nat) : Nat → List EntX
  | 78 => [.pl (spec_l04Can_e N)]
  | 79 => [.pl (spec_l04Count_e N)]
  | 96 => [.pl (spec_l02Orders_e N)]
  | _ => []
def spec_l04Flow_L : Nat → List (Nat × TK) := fun _ => []
theorem spec_l04Flow_eq (N : Nat) : runF N tt (spec_l04Flow_T N) spec_l04Flow_L [(.sl (.int .i64)), (.int .i64), (.sl (.int .i64))] [.val .bool] (bodyOf Try.f85) Try.f85.ntmps [6] = (spec_l04Flow_e N).F := by
  funext x
  kernel_rfl
theorem spec_l04Flow_sound (N : Nat) : SoundC Try.prog 85 (spec_l04Flow_e N) := by
  have h := runF_sound (f := 85) (code := bodyOf Try.f85) (N := N) (T := spec_l04Flow_T N) (L := spec_l04Flow_L) (ins := [(.sl (.int .i64)), (.int .i64), (.sl (.int .i64))]) (outs := [.val .bool]) (res := [6]) mixed tt_ok ?_ Try.func85 (by kernel_rfl) rfl (by kernel_rfl) (by kernel_rfl) (by decide +kernel)
  · rw [spec_l04Flow_eq] at h
    exact h
  · intro f e he
    unfold spec_l04Flow_T at he
    split at he
    · rw [List.mem_singleton.1 he]; exact spec_l04Can_sound N
    · rw [List.mem_singleton.1 he]; exact spec_l04Count_sound N
    · rw [List.mem_singleton.1 he]; exact spec_l02Orders_sound N
    · cases he

/- spec.BlockLast -/
def spec_BlockLast (N : Nat) (x0 : List Int) (x1 : Int) (x2 : List Int) : Option (Int × Bool × Unit) :=
  Option.bind (spec_l04Flow N x0 x1 x2) fun r1 =>
  cond (!r1.1)
    (some (0, false, ()))
    (cond (mkOk x1 x1)
      (let xs2 := (List.replicate (Int.toNat x1) (0 : Int) : List (Int))
      loopN (fun (s3 : List (Int) × Int × Unit) next4 =>
        cond (decide (s3.2.1 < (List.length x2 : Int)))
          (cond (inB 0 (List.length s3.1))
            (Option.bind (s3.1[(Int.toNat 0)]?) fun v5 =>
            loopN (fun (s6 : List (Int) × Int × Int × Unit) next7 =>
              cond (decide (s6.2.2.1 < x1))
                (Option.bind (idx x2 s3.2.1) fun v8 =>
                Option.bind (idx x0 (w64 ((w64 (v8 * x1)) + s6.2.2.1))) fun v9 =>
                cond (decide ((w64 (s6.2.2.1 + 1)) < x1))
                  (cond (inB (w64 (s6.2.2.1 + 1)) (List.length s6.1))
                    (Option.bind (s6.1[(Int.toNat (w64 (s6.2.2.1 + 1)))]?) fun v10 =>
                    Option.bind (spec_l00Max N (w64 (s6.2.1 + v9)) v10) fun r11 =>
                    cond (inB s6.2.2.1 (List.length s6.1))
                      (let xs12 := (List.set s6.1 (Int.toNat s6.2.2.1) r11.1)
                      next7 (xs12, r11.1, (w64 (s6.2.2.1 + 1)), ())) none) none)
                  (cond (inB s6.2.2.1 (List.length s6.1))
                    (let xs13 := (List.set s6.1 (Int.toNat s6.2.2.1) (w64 (s6.2.1 + v9)))
                    next7 (xs13, (w64 (s6.2.1 + v9)), (w64 (s6.2.2.1 + 1)), ())) none))
                (next4 (s6.1, (w64 (s3.2.1 + 1)), ()))) N (s3.1, v5, 0, ())) none)
          (cond (inB (w64 (x1 - 1)) (List.length s3.1))
            (Option.bind (s3.1[(Int.toNat (w64 (x1 - 1)))]?) fun v14 =>
            some (v14, true, ())) none)) N (xs2, 0, ())) none)
def spec_BlockLast_e (N : Nat) : Ent := { ins := [(.sl (.int .i64)), (.int .i64), (.sl (.int .i64))], outs := [.val (.int .i64), .val .bool], F := fun x => spec_BlockLast N x.1 x.2.1 x.2.2.1 }
def spec_BlockLast_T (N : Nat) : Nat → List EntX
  | 85 => [.pl (spec_l04Flow_e N)]
  | 86 => [.pl (spec_l00Max_e N)]
  | _ => []
def spec_BlockLast_L : Nat → List (Nat × TK)
  | 5 => [(8, .own (.int .i64)), (9, .v (.int .i64))]
  | 9 => [(8, .own (.int .i64)), (10, .v (.int .i64)), (11, .v (.int .i64))]
  | _ => []
theorem spec_BlockLast_eq (N : Nat) : runF N tt (spec_BlockLast_T N) spec_BlockLast_L [(.sl (.int .i64)), (.int .i64), (.sl (.int .i64))] [.val (.int .i64), .val .bool] (bodyOf Try.f44) Try.f44.ntmps [6, 7] = (spec_BlockLast_e N).F := by
  funext x
  kernel_rfl
theorem spec_BlockLast_sound (N : Nat) : SoundC Try.prog 44 (spec_BlockLast_e N) := by
  have h := runF_sound (f := 44) (code := bodyOf Try.f44) (N := N) (T := spec_BlockLast_T N) (L := spec_BlockLast_L) (ins := [(.sl (.int .i64)), (.int .i64), (.sl (.int .i64))]) (outs := [.val (.int .i64), .val .bool]) (res := [6, 7]) mixed tt_ok ?_ Try.func44 (by kernel_rfl) rfl (by kernel_rfl) (by kernel_rfl) (by decide +kernel)
  · rw [spec_BlockLast_eq] at h
    exact h
  · intro f e he
    unfold spec_BlockLast_T at he
    split at he
    · rw [List.mem_singleton.1 he]; exact spec_l04Flow_sound N
    · rw [List.mem_singleton.1 he]; exact spec_l00Max_sound N
    · cases he

/- impl.isAll -/
def impl_isAll (N : Nat) (x0 : List Int) : Option (Bool × Unit) :=
  cond (mkOk (List.length x0 : Int) (List.length x0 : Int))
    (let xs1 := (List.replicate (Int.toNat (List.length x0 : Int)) false : List (Bool))
    loopN (fun (s2 : List (Bool) × Int × Unit) next3 =>
      cond (decide (s2.2.1 < (List.length x0 : Int)))
        (Option.bind (idx x0 s2.2.1) fun v4 =>
        Option.bind (impl_within N v4 0 (w64 ((List.length x0 : Int) - 1))) fun r5 =>
        cond (!r5.1)
          (some (false, ()))
          (cond (inB v4 (List.length s2.1))
            (Option.bind (s2.1[(Int.toNat v4)]?) fun v6 =>
            cond v6
              (some (false, ()))
              (cond (inB v4 (List.length s2.1))
                (let xs7 := (List.set s2.1 (Int.toNat v4) true)
                next3 (xs7, (w64 (s2.2.1 + 1)), ())) none)) none))
        (some (true, ()))) N (xs1, 0, ())) none
def impl_isAll_e (N : Nat) : Ent := { ins := [(.sl (.int .i64))], outs := [.val .bool], F := fun x => impl_isAll N x.1 }
def impl_isAll_T (N : Nat) : Nat → List EntX
  | 75 => [.pl (impl_within_e N)]
  | _ => []
def impl_isAll_L : Nat → List (Nat × TK)
  | 3 => [(3, .own .bool), (11, .v (.int .i64))]
  | _ => []
theorem impl_isAll_eq (N : Nat) : runF N tt (impl_isAll_T N) impl_isAll_L [(.sl (.int .i64))] [.val .bool] (bodyOf Try.f61) Try.f61.ntmps [2] = (impl_isAll_e N).F := by
  funext x
  kernel_rfl
theorem impl_isAll_sound (N : Nat) : SoundC Try.prog 61 (impl_isAll_e N) := by
  have h := runF_sound (f := 61) (code := bodyOf Try.f61) (N := N) (T := impl_isAll_T N) (L := impl_isAll_L) (ins := [(.sl (.int .i64))]) (outs := [.val .bool]) (res := [2]) mixed tt_ok ?_ Try.func61 (by kernel_rfl) rfl (by kernel_rfl) (by kernel_rfl) (by decide +kernel)
  · rw [impl_isAll_eq] at h
    exact h
  · intro f e he
    unfold impl_isAll_T at he
    split at he
    · rw [List.mem_singleton.1 he]; exact impl_within_sound N
    · cases he

/- impl.IsOrder -/
def impl_IsOrder (N : Nat) (x0 : List Int) (x1 : Int) : Option (Bool × Unit) :=
  Option.bind (impl_within N x1 1 24) fun r1 =>
  cond (!r1.1)
    (some (false, ()))
    (cond ((List.length x0 : Int) != x1)
      (some (false, ()))
      (Option.bind (impl_isAll N x0) fun r2 =>
      some (r2.1, ())))
def impl_IsOrder_e (N : Nat) : Ent := { ins := [(.sl (.int .i64)), (.int .i64)], outs := [.val .bool], F := fun x => impl_IsOrder N x.1 x.2.1 }
def impl_IsOrder_T (N : Nat) : Nat → List EntX
  | 61 => [.pl (impl_isAll_e N)]
  | 75 => [.pl (impl_within_e N)]
  | _ => []
def impl_IsOrder_L : Nat → List (Nat × TK) := fun _ => []
theorem impl_IsOrder_eq (N : Nat) : runF N tt (impl_IsOrder_T N) impl_IsOrder_L [(.sl (.int .i64)), (.int .i64)] [.val .bool] (bodyOf Try.f106) Try.f106.ntmps [4] = (impl_IsOrder_e N).F := by
  funext x
  kernel_rfl
theorem impl_IsOrder_sound (N : Nat) : SoundC Try.prog 106 (impl_IsOrder_e N) := by
  have h := runF_sound (f := 106) (code := bodyOf Try.f106) (N := N) (T := impl_IsOrder_T N) (L := impl_IsOrder_L) (ins := [(.sl (.int .i64)), (.int .i64)]) (outs := [.val .bool]) (res := [4]) mixed tt_ok ?_ Try.func106 (by kernel_rfl) rfl (by kernel_rfl) (by kernel_rfl) (by decide +kernel)
  · rw [impl_IsOrder_eq] at h
    exact h
  · intro f e he
    unfold impl_IsOrder_T at he
    split at he
    · rw [List.mem_singleton.1 he]; exact impl_isAll_sound N
    · rw [List.mem_singleton.1 he]; exact impl_within_sound N
    · cases he

/- impl.ordered -/
def impl_ordered (N : Nat) (x0 : List Int) (x1 : Int) (x2 : List Int) : Option (((List Int) × Int × Int) × Bool × Unit) :=
  Option.bind (impl_asShop N x0 x1) fun r1 =>
  cond r1.2.1
    (Option.bind (impl_IsOrder N x2 r1.1.2.1) fun r2 =>
    some ((r1.1.1, (r1.1.2.1, r1.1.2.2)), r2.1, ()))
    (some ((r1.1.1, (r1.1.2.1, r1.1.2.2)), false, ()))
def impl_ordered_e (N : Nat) : Ent := { ins := [(.sl (.int .i64)), (.int .i64), (.sl (.int .i64))], outs := [.val (.pair (.sl (.int .i64)) (.pair (.int .i64) (.int .i64))), .val .bool], F := fun x => impl_ordered N x.1 x.2.1 x.2.2.1 }
def impl_ordered_T (N : Nat) : Nat → List EntX
  | 81 => [.pl (impl_asShop_e N)]
  | 106 => [.pl (impl_IsOrder_e N)]
  | _ => []
def impl_ordered_L : Nat → List (Nat × TK) := fun _ => []
theorem impl_ordered_eq (N : Nat) : runC N tt (impl_ordered_T N) impl_ordered_L [(.sl (.int .i64)), (.int .i64), (.sl (.int .i64))] [.val (.pair (.sl (.int .i64)) (.pair (.int .i64) (.int .i64))), .val .bool] (bodyOf Try.f87) Try.f87.ntmps [6, 7] [(6, 84)] = (impl_ordered_e N).F := by
  funext x
  kernel_rfl
theorem impl_ordered_sound (N : Nat) : SoundC Try.prog 87 (impl_ordered_e N) := by
  have h := runC_sound (f := 87) (code := bodyOf Try.f87) (N := N) (T := impl_ordered_T N) (L := impl_ordered_L) (ins := [(.sl (.int .i64)), (.int .i64), (.sl (.int .i64))]) (outs := [.val (.pair (.sl (.int .i64)) (.pair (.int .i64) (.int .i64))), .val .bool]) (res := [6, 7]) (rs := [.cell 6 84, .tmp 7]) (cells := [(6, 84)]) mixed tt_ok ?_ Try.func87 (by kernel_rfl) rfl (by kernel_rfl) (by kernel_rfl) rfl rfl (by decide) (by decide +kernel) (by decide +kernel)
  · rw [impl_ordered_eq] at h
    exact h
  · intro f e he
    unfold impl_ordered_T at he
    split at he
    · rw [List.mem_singleton.1 he]; exact impl_asShop_sound N
    · rw [List.mem_singleton.1 he]; exact impl_IsOrder_sound N
    · cases he

/- impl.BlockLast -/
def impl_BlockLast (N : Nat) (x0 : List Int) (x1 : Int) (x2 : List Int) : Option (Int × Bool × Unit) :=
  Option.bind (impl_ordered N x0 x1 x2) fun r1 =>
  cond (!r1.2.1)
    (some (0, false, ()))
    (cond (mkOk r1.1.2.2 r1.1.2.2)
      (let xs2 := (List.replicate (Int.toNat r1.1.2.2) (0 : Int) : List (Int))
      loopN (fun (s3 : List (Int) × Int × Unit) next4 =>
        cond (decide (s3.2.1 < (List.length x2 : Int)))
          (Option.bind (idx x2 s3.2.1) fun v5 =>
          cond (inB 0 (List.length s3.1))
            (Option.bind (s3.1[(Int.toNat 0)]?) fun v6 =>
            loopN (fun (s7 : List (Int) × Int × Int × Unit) next8 =>
              cond (decide (s7.2.2.1 < r1.1.2.2))
                (Option.bind (impl_shop_at N (r1.1.1, (r1.1.2.1, r1.1.2.2)) v5 s7.2.2.1) fun r9 =>
                cond (decide ((w64 (s7.2.2.1 + 1)) < r1.1.2.2))
                  (cond (inB (w64 (s7.2.2.1 + 1)) (List.length s7.1))
                    (Option.bind (s7.1[(Int.toNat (w64 (s7.2.2.1 + 1)))]?) fun v10 =>
                    cond (inB s7.2.2.1 (List.length s7.1))
                      (let xs11 := (List.set s7.1 (Int.toNat s7.2.2.1) (imax (w64 (s7.2.1 + r9.1)) v10))
                      next8 (xs11, (imax (w64 (s7.2.1 + r9.1)) v10), (w64 (s7.2.2.1 + 1)), ())) none) none)
                  (cond (inB s7.2.2.1 (List.length s7.1))
                    (let xs12 := (List.set s7.1 (Int.toNat s7.2.2.1) (w64 (s7.2.1 + r9.1)))
                    next8 (xs12, (w64 (s7.2.1 + r9.1)), (w64 (s7.2.2.1 + 1)), ())) none))
                (next4 (s7.1, (w64 (s3.2.1 + 1)), ()))) N (s3.1, v6, 0, ())) none)
          (cond (inB (w64 (r1.1.2.2 - 1)) (List.length s3.1))
            (Option.bind (s3.1[(Int.toNat (w64 (r1.1.2.2 - 1)))]?) fun v13 =>
            some (v13, true, ())) none)) N (xs2, 0, ())) none)
def impl_BlockLast_e (N : Nat) : Ent := { ins := [(.sl (.int .i64)), (.int .i64), (.sl (.int .i64))], outs := [.val (.int .i64), .val .bool], F := fun x => impl_BlockLast N x.1 x.2.1 x.2.2.1 }
def impl_BlockLast_T (N : Nat) : Nat → List EntX
  | 87 => [.pl (impl_ordered_e N)]
  | 88 => [.pl (impl_shop_at_e N)]
  | _ => []
def impl_BlockLast_L : Nat → List (Nat × TK)
  | 6 => [(10, .own (.int .i64)), (29, .v (.int .i64))]
  | 10 => [(10, .own (.int .i64)), (13, .v (.int .i64)), (38, .v (.int .i64))]
  | _ => []
theorem impl_BlockLast_eq (N : Nat) : runF N tt (impl_BlockLast_T N) impl_BlockLast_L [(.sl (.int .i64)), (.int .i64), (.sl (.int .i64))] [.val (.int .i64), .val .bool] (bodyOf Try.f45) Try.f45.ntmps [6, 7] = (impl_BlockLast_e N).F := by
  funext x
  kernel_rfl
theorem impl_BlockLast_sound (N : Nat) : SoundC Try.prog 45 (impl_BlockLast_e N) := by
  have h := runF_sound (f := 45) (code := bodyOf Try.f45) (N := N) (T := impl_BlockLast_T N) (L := impl_BlockLast_L) (ins := [(.sl (.int .i64)), (.int .i64), (.sl (.int .i64))]) (outs := [.val (.int .i64), .val .bool]) (res := [6, 7]) mixed tt_ok ?_ Try.func45 (by kernel_rfl) rfl (by kernel_rfl) (by kernel_rfl) (by decide +kernel)
  · rw [impl_BlockLast_eq] at h
    exact h
  · intro f e he
    unfold impl_BlockLast_T at he
    split at he
    · rw [List.mem_singleton.1 he]; exact impl_ordered_sound N
    · rw [List.mem_singleton.1 he]; exact impl_shop_at_sound N
    · cases he

/- laws.FnExactBlockLast -/
def laws_FnExactBlockLast (N : Nat) (x0 : List Int) (x1 : Int) (x2 : List Int) : Option (Bool × Unit) :=
  cond (decide ((List.length x0 : Int) > 1048576))
    (some (true, ()))
    (cond (decide ((List.length x2 : Int) > 1048576))
      (some (true, ()))
      (Option.bind (laws_toInt64S N x0) fun r1 =>
      Option.bind (laws_toInt64S N x2) fun r2 =>
      Option.bind (spec_BlockLast N r1.1 x1 r2.1) fun r3 =>
      Option.bind (laws_toInt64S N x0) fun r4 =>
      Option.bind (laws_toInt64S N x2) fun r5 =>
      Option.bind (impl_BlockLast N r4.1 x1 r5.1) fun r6 =>
      cond (r6.1 != r3.1)
        (some (false, ()))
        (cond (!(r6.2.1 == r3.2.1))
          (some (false, ()))
          (Option.bind (laws_toInt64S N x0) fun r7 =>
          Option.bind (laws_eqInt64S N r4.1 r7.1) fun r8 =>
          cond (!r8.1)
            (some (false, ()))
            (Option.bind (laws_toInt64S N x2) fun r9 =>
            Option.bind (laws_eqInt64S N r5.1 r9.1) fun r10 =>
            cond (!r10.1)
              (some (false, ()))
              (some (true, ())))))))
def laws_FnExactBlockLast_e (N : Nat) : Ent := { ins := [(.sl (.int .i64)), (.int .i64), (.sl (.int .i64))], outs := [.val .bool], F := fun x => laws_FnExactBlockLast N x.1 x.2.1 x.2.2.1 }
def laws_FnExactBlockLast_T (N : Nat) : Nat → List EntX
  | 26 => [.pl (laws_toInt64S_e N)]
  | 28 => [.pl (laws_eqInt64S_e N)]
  | 44 => [.pl (spec_BlockLast_e N)]
  | 45 => [.pl (impl_BlockLast_e N)]
  | _ => []
def laws_FnExactBlockLast_L : Nat → List (Nat × TK) := fun _ => []
theorem laws_FnExactBlockLast_eq (N : Nat) : runF N tt (laws_FnExactBlockLast_T N) laws_FnExactBlockLast_L [(.sl (.int .i64)), (.int .i64), (.sl (.int .i64))] [.val .bool] (bodyOf Try.f11) Try.f11.ntmps [6] = (laws_FnExactBlockLast_e N).F := by
  funext x
  kernel_rfl
theorem laws_FnExactBlockLast_sound (N : Nat) : SoundC Try.prog 11 (laws_FnExactBlockLast_e N) := by
  have h := runF_sound (f := 11) (code := bodyOf Try.f11) (N := N) (T := laws_FnExactBlockLast_T N) (L := laws_FnExactBlockLast_L) (ins := [(.sl (.int .i64)), (.int .i64), (.sl (.int .i64))]) (outs := [.val .bool]) (res := [6]) mixed tt_ok ?_ Try.func11 (by kernel_rfl) rfl (by kernel_rfl) (by kernel_rfl) (by decide +kernel)
  · rw [laws_FnExactBlockLast_eq] at h
    exact h
  · intro f e he
    unfold laws_FnExactBlockLast_T at he
    split at he
    · rw [List.mem_singleton.1 he]; exact laws_toInt64S_sound N
    · rw [List.mem_singleton.1 he]; exact laws_eqInt64S_sound N
    · rw [List.mem_singleton.1 he]; exact spec_BlockLast_sound N
    · rw [List.mem_singleton.1 he]; exact impl_BlockLast_sound N
    · cases he

/- spec.l00Same -/
def spec_l00Same (N : Nat) (x0 : List Int) (x1 : List Int) : Option (Bool × Unit) :=
  cond ((List.length x0 : Int) != (List.length x1 : Int))
    (some (false, ()))
    (loopN (fun (s1 : Int × Unit) next2 =>
      cond (decide (s1.1 < (List.length x0 : Int)))
        (Option.bind (idx x0 s1.1) fun v3 =>
        Option.bind (idx x1 s1.1) fun v4 =>
        cond (v3 != v4)
          (some (false, ()))
          (next2 ((w64 (s1.1 + 1)), ())))
        (some (true, ()))) N (0, ()))
def spec_l00Same_e (N : Nat) : Ent := { ins := [(.sl (.int .i64)), (.sl (.int .i64))], outs := [.val .bool], F := fun x => spec_l00Same N x.1 x.2.1 }
def spec_l00Same_T (_ : Nat) : Nat → List EntX := fun _ => []
def spec_l00Same_L : Nat → List (Nat × TK)
  | 4 => [(5, .v (.int .i64))]
  | _ => []
theorem spec_l00Same_eq (N : Nat) : runF N tt (spec_l00Same_T N) spec_l00Same_L [(.sl (.int .i64)), (.sl (.int .i64))] [.val .bool] (bodyOf Try.f89) Try.f89.ntmps [4] = (spec_l00Same_e N).F := by
  funext x
  kernel_rfl
theorem spec_l00Same_sound (N : Nat) : SoundC Try.prog 89 (spec_l00Same_e N) := by
  have h := runF_sound (f := 89) (code := bodyOf Try.f89) (N := N) (T := spec_l00Same_T N) (L := spec_l00Same_L) (ins := [(.sl (.int .i64)), (.sl (.int .i64))]) (outs := [.val .bool]) (res := [4]) mixed tt_ok ?_ Try.func89 (by kernel_rfl) rfl (by kernel_rfl) (by kernel_rfl) (by decide +kernel)
  · rw [spec_l00Same_eq] at h
    exact h
  · intro f e he
    cases he

/- spec.SameTasks -/
def spec_SameTasks (N : Nat) (x0 : List (Int × Int × (List Int) × List Int)) (x1 : List (Int × Int × (List Int) × List Int)) : Option (Bool × Unit) :=
  cond ((List.length x0 : Int) != (List.length x1 : Int))
    (some (false, ()))
    (loopN (fun (s1 : Int × Unit) next2 =>
      cond (decide (s1.1 < (List.length x0 : Int)))
        (Option.bind (idx x0 s1.1) fun v3 =>
        Option.bind (idx x1 s1.1) fun v4 =>
        cond (v3.1 != v4.1)
          (some (false, ()))
          (Option.bind (idx x0 s1.1) fun v5 =>
          Option.bind (idx x1 s1.1) fun v6 =>
          cond (v5.2.1 != v6.2.1)
            (some (false, ()))
            (Option.bind (idx x0 s1.1) fun v7 =>
            Option.bind (idx x1 s1.1) fun v8 =>
            Option.bind (spec_l00Same N v7.2.2.1 v8.2.2.1) fun r9 =>
            cond (!r9.1)
              (some (false, ()))
              (Option.bind (idx x0 s1.1) fun v10 =>
              Option.bind (idx x1 s1.1) fun v11 =>
              Option.bind (spec_l00Same N v10.2.2.2 v11.2.2.2) fun r12 =>
              cond (!r12.1)
                (some (false, ()))
                (next2 ((w64 (s1.1 + 1)), ()))))))
        (some (true, ()))) N (0, ()))
def spec_SameTasks_e (N : Nat) : Ent := { ins := [(.sl (.pair (.int .i64) (.pair (.int .i64) (.pair (.sl (.int .i64)) (.sl (.int .i64)))))), (.sl (.pair (.int .i64) (.pair (.int .i64) (.pair (.sl (.int .i64)) (.sl (.int .i64))))))], outs := [.val .bool], F := fun x => spec_SameTasks N x.1 x.2.1 }
def spec_SameTasks_T (N : Nat) : Nat → List EntX
  | 89 => [.pl (spec_l00Same_e N)]
  | _ => []
def spec_SameTasks_L : Nat → List (Nat × TK)
  | 4 => [(13, .v (.int .i64))]
  | _ => []
theorem spec_SameTasks_eq (N : Nat) : runF N tt (spec_SameTasks_T N) spec_SameTasks_L [(.sl (.pair (.int .i64) (.pair (.int .i64) (.pair (.sl (.int .i64)) (.sl (.int .i64)))))), (.sl (.pair (.int .i64) (.pair (.int .i64) (.pair (.sl (.int .i64)) (.sl (.int .i64))))))] [.val .bool] (bodyOf Try.f46) Try.f46.ntmps [4] = (spec_SameTasks_e N).F := by
  funext x
  kernel_rfl
theorem spec_SameTasks_sound (N : Nat) : SoundC Try.prog 46 (spec_SameTasks_e N) := by
  have h := runF_sound (f := 46) (code := bodyOf Try.f46) (N := N) (T := spec_SameTasks_T N) (L := spec_SameTasks_L) (ins := [(.sl (.pair (.int .i64) (.pair (.int .i64) (.pair (.sl (.int .i64)) (.sl (.int .i64)))))), (.sl (.pair (.int .i64) (.pair (.int .i64) (.pair (.sl (.int .i64)) (.sl (.int .i64))))))]) (outs := [.val .bool]) (res := [4]) mixed tt_ok ?_ Try.func46 (by kernel_rfl) rfl (by kernel_rfl) (by kernel_rfl) (by decide +kernel)
  · rw [spec_SameTasks_eq] at h
    exact h
  · intro f e he
    unfold spec_SameTasks_T at he
    split at he
    · rw [List.mem_singleton.1 he]; exact spec_l00Same_sound N
    · cases he

/- slices.Equal[[]int64,int64] -/
def slices_Equal_int64_int64 (N : Nat) (x0 : List Int) (x1 : List Int) : Option (Bool × Unit) :=
  cond ((List.length x0 : Int) != (List.length x1 : Int))
    (some (false, ()))
    (loopN (fun (s1 : Int × Unit) next2 =>
      cond (decide (s1.1 < (List.length x0 : Int)))
        (Option.bind (idx x0 s1.1) fun v3 =>
        Option.bind (idx x1 s1.1) fun v4 =>
        cond (v3 != v4)
          (some (false, ()))
          (next2 ((w64 (s1.1 + 1)), ())))
        (some (true, ()))) N (0, ()))
def slices_Equal_int64_int64_e (N : Nat) : Ent := { ins := [(.sl (.int .i64)), (.sl (.int .i64))], outs := [.val .bool], F := fun x => slices_Equal_int64_int64 N x.1 x.2.1 }
def slices_Equal_int64_int64_T (_ : Nat) : Nat → List EntX := fun _ => []
def slices_Equal_int64_int64_L : Nat → List (Nat × TK)
  | 4 => [(13, .v (.int .i64))]
  | _ => []
theorem slices_Equal_int64_int64_eq (N : Nat) : runF N tt (slices_Equal_int64_int64_T N) slices_Equal_int64_int64_L [(.sl (.int .i64)), (.sl (.int .i64))] [.val .bool] (bodyOf Try.f92) Try.f92.ntmps [4] = (slices_Equal_int64_int64_e N).F := by
  funext x
  kernel_rfl
theorem slices_Equal_int64_int64_sound (N : Nat) : SoundC Try.prog 92 (slices_Equal_int64_int64_e N) := by
  have h := runF_sound (f := 92) (code := bodyOf Try.f92) (N := N) (T := slices_Equal_int64_int64_T N) (L := slices_Equal_int64_int64_L) (ins := [(.sl (.int .i64)), (.sl (.int .i64))]) (outs := [.val .bool]) (res := [4]) mixed tt_ok ?_ Try.func92 (by kernel_rfl) rfl (by kernel_rfl) (by kernel_rfl) (by decide +kernel)
  · rw [slices_Equal_int64_int64_eq] at h
    exact h
  · intro f e he
    cases he

/- impl.SameTasks$1 -/
def impl_SameTasks_1 (N : Nat) (x0 : Int × Int × (List Int) × List Int) (x1 : Int × Int × (List Int) × List Int) : Option (Bool × Unit) :=
  cond (x0.1 == x1.1)
    (cond (x0.2.1 == x1.2.1)
      (Option.bind (slices_Equal_int64_int64 N x0.2.2.1 x1.2.2.1) fun r1 =>
      cond r1.1
        (Option.bind (slices_Equal_int64_int64 N x0.2.2.2 x1.2.2.2) fun r2 =>
        some (r2.1, ()))
        (some (false, ())))
      (some (false, ())))
    (some (false, ()))
def impl_SameTasks_1_e (N : Nat) : Ent := { ins := [(.pair (.int .i64) (.pair (.int .i64) (.pair (.sl (.int .i64)) (.sl (.int .i64))))), (.pair (.int .i64) (.pair (.int .i64) (.pair (.sl (.int .i64)) (.sl (.int .i64)))))], outs := [.val .bool], F := fun x => impl_SameTasks_1 N x.1 x.2.1 }
def impl_SameTasks_1_T (N : Nat) : Nat → List EntX
  | 92 => [.pl (slices_Equal_int64_int64_e N)]
  | _ => []
def impl_SameTasks_1_L : Nat → List (Nat × TK) := fun _ => []
theorem impl_SameTasks_1_eq (N : Nat) : runF N tt (impl_SameTasks_1_T N) impl_SameTasks_1_L [(.pair (.int .i64) (.pair (.int .i64) (.pair (.sl (.int .i64)) (.sl (.int .i64))))), (.pair (.int .i64) (.pair (.int .i64) (.pair (.sl (.int .i64)) (.sl (.int .i64)))))] [.val .bool] (bodyOf Try.f91) Try.f91.ntmps [4] = (impl_SameTasks_1_e N).F := by
  funext x
  kernel_rfl
theorem impl_SameTasks_1_sound (N : Nat) : SoundC Try.prog 91 (impl_SameTasks_1_e N) := by
  have h := runF_sound (f := 91) (code := bodyOf Try.f91) (N := N) (T := impl_SameTasks_1_T N) (L := impl_SameTasks_1_L) (ins := [(.pair (.int .i64) (.pair (.int .i64) (.pair (.sl (.int .i64)) (.sl (.int .i64))))), (.pair (.int .i64) (.pair (.int .i64) (.pair (.sl (.int .i64)) (.sl (.int .i64)))))]) (outs := [.val .bool]) (res := [4]) mixed tt_ok ?_ Try.func91 (by kernel_rfl) rfl (by kernel_rfl) (by kernel_rfl) (by decide +kernel)
  · rw [impl_SameTasks_1_eq] at h
    exact h
  · intro f e he
    unfold impl_SameTasks_1_T at he
    split at he
    · rw [List.mem_singleton.1 he]; exact slices_Equal_int64_int64_sound N
    · cases he

/- slices.EqualFunc[[]impl.Task,[]impl.Task,impl.Task,impl.Task] -/
def slices_EqualFunc_impl_Task_impl_Task_impl_Task_impl_Task_c0 (N : Nat) (x0 : List (Int × Int × (List Int) × List Int)) (x1 : List (Int × Int × (List Int) × List Int)) (x2 : Unit) : Option (Bool × Unit) :=
  cond ((List.length x0 : Int) != (List.length x1 : Int))
    (some (false, ()))
    (loopN (fun (s1 : Int × Unit) next2 =>
      cond (decide (s1.1 < (List.length x0 : Int)))
        (Option.bind (idx x0 s1.1) fun v3 =>
        Option.bind (idx x1 s1.1) fun v4 =>
        Option.bind (impl_SameTasks_1 N (v3.1, (v3.2.1, (v3.2.2.1, v3.2.2.2))) (v4.1, (v4.2.1, (v4.2.2.1, v4.2.2.2)))) fun r5 =>
        cond (!r5.1)
          (some (false, ()))
          (next2 ((w64 (s1.1 + 1)), ())))
        (some (true, ()))) N (0, ()))
def slices_EqualFunc_impl_Task_impl_Task_impl_Task_impl_Task_c0_e (N : Nat) : Ent := { ins := [(.sl (.pair (.int .i64) (.pair (.int .i64) (.pair (.sl (.int .i64)) (.sl (.int .i64)))))), (.sl (.pair (.int .i64) (.pair (.int .i64) (.pair (.sl (.int .i64)) (.sl (.int .i64)))))), (.clo 91 .un)], outs := [.val .bool], F := fun x => slices_EqualFunc_impl_Task_impl_Task_impl_Task_impl_Task_c0 N x.1 x.2.1 x.2.2.1 }
def slices_EqualFunc_impl_Task_impl_Task_impl_Task_impl_Task_c0_T (N : Nat) : Nat → List EntX
  | 91 => [.pl (impl_SameTasks_1_e N)]
  | _ => []
def slices_EqualFunc_impl_Task_impl_Task_impl_Task_impl_Task_c0_L : Nat → List (Nat × TK)
  | 4 => [(17, .v (.int .i64))]
  | _ => []
theorem slices_EqualFunc_impl_Task_impl_Task_impl_Task_impl_Task_c0_eq (N : Nat) : runF N tt (slices_EqualFunc_impl_Task_impl_Task_impl_Task_impl_Task_c0_T N) slices_EqualFunc_impl_Task_impl_Task_impl_Task_impl_Task_c0_L [(.sl (.pair (.int .i64) (.pair (.int .i64) (.pair (.sl (.int .i64)) (.sl (.int .i64)))))), (.sl (.pair (.int .i64) (.pair (.int .i64) (.pair (.sl (.int .i64)) (.sl (.int .i64)))))), (.clo 91 .un)] [.val .bool] (bodyOf Try.f90) Try.f90.ntmps [6] = (slices_EqualFunc_impl_Task_impl_Task_impl_Task_impl_Task_c0_e N).F := by
  funext x
  kernel_rfl
theorem slices_EqualFunc_impl_Task_impl_Task_impl_Task_impl_Task_c0_sound (N : Nat) : SoundC Try.prog 90 (slices_EqualFunc_impl_Task_impl_Task_impl_Task_impl_Task_c0_e N) := by
  have h := runF_sound (f := 90) (code := bodyOf Try.f90) (N := N) (T := slices_EqualFunc_impl_Task_impl_Task_impl_Task_impl_Task_c0_T N) (L := slices_EqualFunc_impl_Task_impl_Task_impl_Task_impl_Task_c0_L) (ins := [(.sl (.pair (.int .i64) (.pair (.int .i64) (.pair (.sl (.int .i64)) (.sl (.int .i64)))))), (.sl (.pair (.int .i64) (.pair (.int .i64) (.pair (.sl (.int .i64)) (.sl (.int .i64)))))), (.clo 91 .un)]) (outs := [.val .bool]) (res := [6]) mixed tt_ok ?_ Try.func90 (by kernel_rfl) rfl (by kernel_rfl) (by kernel_rfl) (by decide +kernel)
  · rw [slices_EqualFunc_impl_Task_impl_Task_impl_Task_impl_Task_c0_eq] at h
    exact h
  · intro f e he
    unfold slices_EqualFunc_impl_Task_impl_Task_impl_Task_impl_Task_c0_T at he
    split at he
    · rw [List.mem_singleton.1 he]; exact impl_SameTasks_1_sound N
    · cases he

/- impl.SameTasks -/
def impl_SameTasks (N : Nat) (x0 : List (Int × Int × (List Int) × List Int)) (x1 : List (Int × Int × (List Int) × List Int)) : Option (Bool × Unit) :=
  Option.bind (slices_EqualFunc_impl_Task_impl_Task_impl_Task_impl_Task_c0 N x0 x1 ()) fun r1 =>
  some (r1.1, ())
def impl_SameTasks_e (N : Nat) : Ent := { ins := [(.sl (.pair (.int .i64) (.pair (.int .i64) (.pair (.sl (.int .i64)) (.sl (.int .i64)))))), (.sl (.pair (.int .i64) (.pair (.int .i64) (.pair (.sl (.int .i64)) (.sl (.int .i64))))))], outs := [.val .bool], F := fun x => impl_SameTasks N x.1 x.2.1 }
def impl_SameTasks_T (N : Nat) : Nat → List EntX
  | 90 => [.pl (slices_EqualFunc_impl_Task_impl_Task_impl_Task_impl_Task_c0_e N)]
  | _ => []
def impl_SameTasks_L : Nat → List (Nat × TK) := fun _ => []
theorem impl_SameTasks_eq (N : Nat) : runF N tt (impl_SameTasks_T N) impl_SameTasks_L [(.sl (.pair (.int .i64) (.pair (.int .i64) (.pair (.sl (.int .i64)) (.sl (.int .i64)))))), (.sl (.pair (.int .i64) (.pair (.int .i64) (.pair (.sl (.int .i64)) (.sl (.int .i64))))))] [.val .bool] (bodyOf Try.f47) Try.f47.ntmps [4] = (impl_SameTasks_e N).F := by
  funext x
  kernel_rfl
theorem impl_SameTasks_sound (N : Nat) : SoundC Try.prog 47 (impl_SameTasks_e N) := by
  have h := runF_sound (f := 47) (code := bodyOf Try.f47) (N := N) (T := impl_SameTasks_T N) (L := impl_SameTasks_L) (ins := [(.sl (.pair (.int .i64) (.pair (.int .i64) (.pair (.sl (.int .i64)) (.sl (.int .i64)))))), (.sl (.pair (.int .i64) (.pair (.int .i64) (.pair (.sl (.int .i64)) (.sl (.int .i64))))))]) (outs := [.val .bool]) (res := [4]) mixed tt_ok ?_ Try.func47 (by kernel_rfl) rfl (by kernel_rfl) (by kernel_rfl) (by decide +kernel)
  · rw [impl_SameTasks_eq] at h
    exact h
  · intro f e he
    unfold impl_SameTasks_T at he
    split at he
    · rw [List.mem_singleton.1 he]; exact slices_EqualFunc_impl_Task_impl_Task_impl_Task_impl_Task_c0_sound N
    · cases he

/- laws.FnExactSameTasks -/
def laws_FnExactSameTasks (N : Nat) (x0 : List (Int × Int × (List Int) × List Int)) (x1 : List (Int × Int × (List Int) × List Int)) : Option (Bool × Unit) :=
  Option.bind (laws_szTaskS N x0 1048576) fun r1 =>
  cond (decide (r1.1 < 0))
    (some (true, ()))
    (Option.bind (laws_szTaskS N x1 r1.1) fun r2 =>
    cond (decide (r2.1 < 0))
      (some (true, ()))
      (Option.bind (laws_toTaskS N x0) fun r3 =>
      Option.bind (laws_toTaskS N x1) fun r4 =>
      Option.bind (spec_SameTasks N r3.1 r4.1) fun r5 =>
      Option.bind (laws_toTaskS N x0) fun r6 =>
      Option.bind (laws_toTaskS N x1) fun r7 =>
      Option.bind (impl_SameTasks N r6.1 r7.1) fun r8 =>
      cond (!(r8.1 == r5.1))
        (some (false, ()))
        (Option.bind (laws_toTaskS N x0) fun r9 =>
        Option.bind (laws_eqTaskS N r6.1 r9.1) fun r10 =>
        cond (!r10.1)
          (some (false, ()))
          (Option.bind (laws_toTaskS N x1) fun r11 =>
          Option.bind (laws_eqTaskS N r7.1 r11.1) fun r12 =>
          cond (!r12.1)
            (some (false, ()))
            (some (true, ()))))))
def laws_FnExactSameTasks_e (N : Nat) : Ent := { ins := [(.sl (.pair (.int .i64) (.pair (.int .i64) (.pair (.sl (.int .i64)) (.sl (.int .i64)))))), (.sl (.pair (.int .i64) (.pair (.int .i64) (.pair (.sl (.int .i64)) (.sl (.int .i64))))))], outs := [.val .bool], F := fun x => laws_FnExactSameTasks N x.1 x.2.1 }
def laws_FnExactSameTasks_T (N : Nat) : Nat → List EntX
  | 35 => [.pl (laws_szTaskS_e N)]
  | 37 => [.pl (laws_toTaskS_e N)]
  | 39 => [.pl (laws_eqTaskS_e N)]
  | 46 => [.pl (spec_SameTasks_e N)]
  | 47 => [.pl (impl_SameTasks_e N)]
  | _ => []
def laws_FnExactSameTasks_L : Nat → List (Nat × TK) := fun _ => []
theorem laws_FnExactSameTasks_eq (N : Nat) : runF N tt (laws_FnExactSameTasks_T N) laws_FnExactSameTasks_L [(.sl (.pair (.int .i64) (.pair (.int .i64) (.pair (.sl (.int .i64)) (.sl (.int .i64)))))), (.sl (.pair (.int .i64) (.pair (.int .i64) (.pair (.sl (.int .i64)) (.sl (.int .i64))))))] [.val .bool] (bodyOf Try.f12) Try.f12.ntmps [4] = (laws_FnExactSameTasks_e N).F := by
  funext x
  kernel_rfl
theorem laws_FnExactSameTasks_sound (N : Nat) : SoundC Try.prog 12 (laws_FnExactSameTasks_e N) := by
  have h := runF_sound (f := 12) (code := bodyOf Try.f12) (N := N) (T := laws_FnExactSameTasks_T N) (L := laws_FnExactSameTasks_L) (ins := [(.sl (.pair (.int .i64) (.pair (.int .i64) (.pair (.sl (.int .i64)) (.sl (.int .i64)))))), (.sl (.pair (.int .i64) (.pair (.int .i64) (.pair (.sl (.int .i64)) (.sl (.int .i64))))))]) (outs := [.val .bool]) (res := [4]) mixed tt_ok ?_ Try.func12 (by kernel_rfl) rfl (by kernel_rfl) (by kernel_rfl) (by decide +kernel)
  · rw [laws_FnExactSameTasks_eq] at h
    exact h
  · intro f e he
    unfold laws_FnExactSameTasks_T at he
    split at he
    · rw [List.mem_singleton.1 he]; exact laws_szTaskS_sound N
    · rw [List.mem_singleton.1 he]; exact laws_toTaskS_sound N
    · rw [List.mem_singleton.1 he]; exact laws_eqTaskS_sound N
    · rw [List.mem_singleton.1 he]; exact spec_SameTasks_sound N
    · rw [List.mem_singleton.1 he]; exact impl_SameTasks_sound N
    · cases he

/- spec.l04Ends -/
def spec_l04Ends (N : Nat) (x0 : List Int) (x1 : Int) (x2 : List Int) : Option (List (Int) × Int × Unit) :=
  cond (mkOk (List.length x0 : Int) (List.length x0 : Int))
    (let xs1 := (List.replicate (Int.toNat (List.length x0 : Int)) (0 : Int) : List (Int))
    cond (mkOk x1 x1)
      (let xs2 := (List.replicate (Int.toNat x1) (0 : Int) : List (Int))
      loopN (fun (s3 : List (Int) × List (Int) × Int × Unit) next4 =>
        cond (decide (s3.2.2.1 < (List.length x2 : Int)))
          (loopN (fun (s5 : List (Int) × List (Int) × Int × Int × Unit) next6 =>
            cond (decide (s5.2.2.2.1 < x1))
              (cond (inB s5.2.2.2.1 (List.length s5.2.1))
                (Option.bind (s5.2.1[(Int.toNat s5.2.2.2.1)]?) fun v7 =>
                Option.bind (spec_l00Max N s5.2.2.1 v7) fun r8 =>
                Option.bind (idx x2 s3.2.2.1) fun v9 =>
                Option.bind (idx x0 (w64 ((w64 (v9 * x1)) + s5.2.2.2.1))) fun v10 =>
                cond (inB s5.2.2.2.1 (List.length s5.2.1))
                  (let xs11 := (List.set s5.2.1 (Int.toNat s5.2.2.2.1) (w64 (r8.1 + v10)))
                  Option.bind (idx x2 s3.2.2.1) fun v12 =>
                  cond (inB (w64 ((w64 (v12 * x1)) + s5.2.2.2.1)) (List.length s5.1))
                    (let xs13 := (List.set s5.1 (Int.toNat (w64 ((w64 (v12 * x1)) + s5.2.2.2.1))) (w64 (r8.1 + v10)))
                    next6 (xs13, xs11, (w64 (r8.1 + v10)), (w64 (s5.2.2.2.1 + 1)), ())) none) none) none)
              (next4 (s5.1, s5.2.1, (w64 (s3.2.2.1 + 1)), ()))) N (s3.1, s3.2.1, 0, 0, ()))
          (cond (inB (w64 (x1 - 1)) (List.length s3.2.1))
            (Option.bind (s3.2.1[(Int.toNat (w64 (x1 - 1)))]?) fun v14 =>
            some (s3.1, v14, ())) none)) N (xs1, xs2, 0, ())) none) none
def spec_l04Ends_e (N : Nat) : Ent := { ins := [(.sl (.int .i64)), (.int .i64), (.sl (.int .i64))], outs := [.own (.int .i64), .val (.int .i64)], F := fun x => spec_l04Ends N x.1 x.2.1 x.2.2.1 }
def spec_l04Ends_T (N : Nat) : Nat → List EntX
  | 86 => [.pl (spec_l00Max_e N)]
  | _ => []
def spec_l04Ends_L : Nat → List (Nat × TK)
  | 4 => [(8, .own (.int .i64)), (9, .own (.int .i64)), (10, .v (.int .i64))]
  | 8 => [(8, .own (.int .i64)), (9, .own (.int .i64)), (11, .v (.int .i64)), (12, .v (.int .i64))]
  | _ => []
theorem spec_l04Ends_eq (N : Nat) : runF N tt (spec_l04Ends_T N) spec_l04Ends_L [(.sl (.int .i64)), (.int .i64), (.sl (.int .i64))] [.own (.int .i64), .val (.int .i64)] (bodyOf Try.f93) Try.f93.ntmps [6, 7] = (spec_l04Ends_e N).F := by
  funext x
  kernel_rfl
theorem spec_l04Ends_sound (N : Nat) : SoundC Try.prog 93 (spec_l04Ends_e N) := by
  have h := runF_sound (f := 93) (code := bodyOf Try.f93) (N := N) (T := spec_l04Ends_T N) (L := spec_l04Ends_L) (ins := [(.sl (.int .i64)), (.int .i64), (.sl (.int .i64))]) (outs := [.own (.int .i64), .val (.int .i64)]) (res := [6, 7]) mixed tt_ok ?_ Try.func93 (by kernel_rfl) rfl (by kernel_rfl) (by kernel_rfl) (by decide +kernel)
  · rw [spec_l04Ends_eq] at h
    exact h
  · intro f e he
    unfold spec_l04Ends_T at he
    split at he
    · rw [List.mem_singleton.1 he]; exact spec_l00Max_sound N
    · cases he

/- spec.FlowLast -/
def spec_FlowLast (N : Nat) (x0 : List Int) (x1 : Int) (x2 : List Int) : Option (Int × Bool × Unit) :=
  Option.bind (spec_l04Flow N x0 x1 x2) fun r1 =>
  cond (!r1.1)
    (some (0, false, ()))
    (Option.bind (spec_l04Ends N x0 x1 x2) fun r2 =>
    some (r2.2.1, true, ()))
def spec_FlowLast_e (N : Nat) : Ent := { ins := [(.sl (.int .i64)), (.int .i64), (.sl (.int .i64))], outs := [.val (.int .i64), .val .bool], F := fun x => spec_FlowLast N x.1 x.2.1 x.2.2.1 }
def spec_FlowLast_T (N : Nat) : Nat → List EntX
  | 85 => [.pl (spec_l04Flow_e N)]
  | 93 => [.pl (spec_l04Ends_e N)]
  | _ => []
def spec_FlowLast_L : Nat → List (Nat × TK) := fun _ => []
theorem spec_FlowLast_eq (N : Nat) : runF N tt (spec_FlowLast_T N) spec_FlowLast_L [(.sl (.int .i64)), (.int .i64), (.sl (.int .i64))] [.val (.int .i64), .val .bool] (bodyOf Try.f48) Try.f48.ntmps [6, 7] = (spec_FlowLast_e N).F := by
  funext x
  kernel_rfl
theorem spec_FlowLast_sound (N : Nat) : SoundC Try.prog 48 (spec_FlowLast_e N) := by
  have h := runF_sound (f := 48) (code := bodyOf Try.f48) (N := N) (T := spec_FlowLast_T N) (L := spec_FlowLast_L) (ins := [(.sl (.int .i64)), (.int .i64), (.sl (.int .i64))]) (outs := [.val (.int .i64), .val .bool]) (res := [6, 7]) mixed tt_ok ?_ Try.func48 (by kernel_rfl) rfl (by kernel_rfl) (by kernel_rfl) (by decide +kernel)
  · rw [spec_FlowLast_eq] at h
    exact h
  · intro f e he
    unfold spec_FlowLast_T at he
    split at he
    · rw [List.mem_singleton.1 he]; exact spec_l04Flow_sound N
    · rw [List.mem_singleton.1 he]; exact spec_l04Ends_sound N
    · cases he

/- (impl.shop).flow -/
def impl_shop_flow (N : Nat) (x0 : (List Int) × Int × Int) (x1 : List Int) : Option (List (Int) × Int × Unit) :=
  cond (mkOk (List.length x0.1 : Int) (List.length x0.1 : Int))
    (let xs1 := (List.replicate (Int.toNat (List.length x0.1 : Int)) (0 : Int) : List (Int))
    cond (mkOk x0.2.2 x0.2.2)
      (let xs2 := (List.replicate (Int.toNat x0.2.2) (0 : Int) : List (Int))
      loopN (fun (s3 : List (Int) × List (Int) × Int × Unit) next4 =>
        cond (decide (s3.2.2.1 < (List.length x1 : Int)))
          (Option.bind (idx x1 s3.2.2.1) fun v5 =>
          loopN (fun (s6 : List (Int) × List (Int) × Int × Int × Unit) next7 =>
            cond (decide (s6.2.2.2.1 < x0.2.2))
              (cond (inB s6.2.2.2.1 (List.length s6.2.1))
                (Option.bind (s6.2.1[(Int.toNat s6.2.2.2.1)]?) fun v8 =>
                Option.bind (impl_shop_at N (x0.1, (x0.2.1, x0.2.2)) v5 s6.2.2.2.1) fun r9 =>
                cond (inB s6.2.2.2.1 (List.length s6.2.1))
                  (let xs10 := (List.set s6.2.1 (Int.toNat s6.2.2.2.1) (w64 ((imax s6.2.2.1 v8) + r9.1)))
                  cond (inB (w64 ((w64 (v5 * x0.2.2)) + s6.2.2.2.1)) (List.length s6.1))
                    (let xs11 := (List.set s6.1 (Int.toNat (w64 ((w64 (v5 * x0.2.2)) + s6.2.2.2.1))) (w64 ((imax s6.2.2.1 v8) + r9.1)))
                    next7 (xs11, xs10, (w64 ((imax s6.2.2.1 v8) + r9.1)), (w64 (s6.2.2.2.1 + 1)), ())) none) none) none)
              (next4 (s6.1, s6.2.1, (w64 (s3.2.2.1 + 1)), ()))) N (s3.1, s3.2.1, 0, 0, ()))
          (cond (inB (w64 (x0.2.2 - 1)) (List.length s3.2.1))
            (Option.bind (s3.2.1[(Int.toNat (w64 (x0.2.2 - 1)))]?) fun v12 =>
            some (s3.1, v12, ())) none)) N (xs1, xs2, 0, ())) none) none
def impl_shop_flow_e (N : Nat) : Ent := { ins := [(.pair (.sl (.int .i64)) (.pair (.int .i64) (.int .i64))), (.sl (.int .i64))], outs := [.own (.int .i64), .val (.int .i64)], F := fun x => impl_shop_flow N x.1 x.2.1 }
def impl_shop_flow_T (N : Nat) : Nat → List EntX
  | 88 => [.pl (impl_shop_at_e N)]
  | _ => []
def impl_shop_flow_L : Nat → List (Nat × TK)
  | 4 => [(6, .own (.int .i64)), (7, .own (.int .i64)), (21, .v (.int .i64))]
  | 8 => [(6, .own (.int .i64)), (7, .own (.int .i64)), (10, .v (.int .i64)), (27, .v (.int .i64))]
  | _ => []
theorem impl_shop_flow_eq (N : Nat) : runF N tt (impl_shop_flow_T N) impl_shop_flow_L [(.pair (.sl (.int .i64)) (.pair (.int .i64) (.int .i64))), (.sl (.int .i64))] [.own (.int .i64), .val (.int .i64)] (bodyOf Try.f94) Try.f94.ntmps [4, 5] = (impl_shop_flow_e N).F := by
  funext x
  kernel_rfl
theorem impl_shop_flow_sound (N : Nat) : SoundC Try.prog 94 (impl_shop_flow_e N) := by
  have h := runF_sound (f := 94) (code := bodyOf Try.f94) (N := N) (T := impl_shop_flow_T N) (L := impl_shop_flow_L) (ins := [(.pair (.sl (.int .i64)) (.pair (.int .i64) (.int .i64))), (.sl (.int .i64))]) (outs := [.own (.int .i64), .val (.int .i64)]) (res := [4, 5]) mixed tt_ok ?_ Try.func94 (by kernel_rfl) rfl (by kernel_rfl) (by kernel_rfl) (by decide +kernel)
  · rw [impl_shop_flow_eq] at h
    exact h
  · intro f e he
    unfold impl_shop_flow_T at he
    split at he
    · rw [List.mem_singleton.1 he]; exact impl_shop_at_sound N
    · cases he

/- impl.FlowLast -/
def impl_FlowLast (N : Nat) (x0 : List Int) (x1 : Int) (x2 : List Int) : Option (Int × Bool × Unit) :=
  Option.bind (impl_ordered N x0 x1 x2) fun r1 =>
  cond (!r1.2.1)
    (some (0, false, ()))
    (Option.bind (impl_shop_flow N (r1.1.1, (r1.1.2.1, r1.1.2.2)) x2) fun r2 =>
    some (r2.2.1, true, ()))
def impl_FlowLast_e (N : Nat) : Ent := { ins := [(.sl (.int .i64)), (.int .i64), (.sl (.int .i64))], outs := [.val (.int .i64), .val .bool], F := fun x => impl_FlowLast N x.1 x.2.1 x.2.2.1 }
def impl_FlowLast_T (N : Nat) : Nat → List EntX
  | 87 => [.pl (impl_ordered_e N)]
  | 94 => [.pl (impl_shop_flow_e N)]
  | _ => []
def impl_FlowLast_L : Nat → List (Nat × TK) := fun _ => []
theorem impl_FlowLast_eq (N : Nat) : runF N tt (impl_FlowLast_T N) impl_FlowLast_L [(.sl (.int .i64)), (.int .i64), (.sl (.int .i64))] [.val (.int .i64), .val .bool] (bodyOf Try.f49) Try.f49.ntmps [6, 7] = (impl_FlowLast_e N).F := by
  funext x
  kernel_rfl
theorem impl_FlowLast_sound (N : Nat) : SoundC Try.prog 49 (impl_FlowLast_e N) := by
  have h := runF_sound (f := 49) (code := bodyOf Try.f49) (N := N) (T := impl_FlowLast_T N) (L := impl_FlowLast_L) (ins := [(.sl (.int .i64)), (.int .i64), (.sl (.int .i64))]) (outs := [.val (.int .i64), .val .bool]) (res := [6, 7]) mixed tt_ok ?_ Try.func49 (by kernel_rfl) rfl (by kernel_rfl) (by kernel_rfl) (by decide +kernel)
  · rw [impl_FlowLast_eq] at h
    exact h
  · intro f e he
    unfold impl_FlowLast_T at he
    split at he
    · rw [List.mem_singleton.1 he]; exact impl_ordered_sound N
    · rw [List.mem_singleton.1 he]; exact impl_shop_flow_sound N
    · cases he

/- laws.FnExactFlowLast -/
def laws_FnExactFlowLast (N : Nat) (x0 : List Int) (x1 : Int) (x2 : List Int) : Option (Bool × Unit) :=
  cond (decide ((List.length x0 : Int) > 1048576))
    (some (true, ()))
    (cond (decide ((List.length x2 : Int) > 1048576))
      (some (true, ()))
      (Option.bind (laws_toInt64S N x0) fun r1 =>
      Option.bind (laws_toInt64S N x2) fun r2 =>
      Option.bind (spec_FlowLast N r1.1 x1 r2.1) fun r3 =>
      Option.bind (laws_toInt64S N x0) fun r4 =>
      Option.bind (laws_toInt64S N x2) fun r5 =>
      Option.bind (impl_FlowLast N r4.1 x1 r5.1) fun r6 =>
      cond (r6.1 != r3.1)
        (some (false, ()))
        (cond (!(r6.2.1 == r3.2.1))
          (some (false, ()))
          (Option.bind (laws_toInt64S N x0) fun r7 =>
          Option.bind (laws_eqInt64S N r4.1 r7.1) fun r8 =>
          cond (!r8.1)
            (some (false, ()))
            (Option.bind (laws_toInt64S N x2) fun r9 =>
            Option.bind (laws_eqInt64S N r5.1 r9.1) fun r10 =>
            cond (!r10.1)
              (some (false, ()))
              (some (true, ())))))))
def laws_FnExactFlowLast_e (N : Nat) : Ent := { ins := [(.sl (.int .i64)), (.int .i64), (.sl (.int .i64))], outs := [.val .bool], F := fun x => laws_FnExactFlowLast N x.1 x.2.1 x.2.2.1 }
def laws_FnExactFlowLast_T (N : Nat) : Nat → List EntX
  | 26 => [.pl (laws_toInt64S_e N)]
  | 28 => [.pl (laws_eqInt64S_e N)]
  | 48 => [.pl (spec_FlowLast_e N)]
  | 49 => [.pl (impl_FlowLast_e N)]
  | _ => []
def laws_FnExactFlowLast_L : Nat → List (Nat × TK) := fun _ => []
theorem laws_FnExactFlowLast_eq (N : Nat) : runF N tt (laws_FnExactFlowLast_T N) laws_FnExactFlowLast_L [(.sl (.int .i64)), (.int .i64), (.sl (.int .i64))] [.val .bool] (bodyOf Try.f13) Try.f13.ntmps [6] = (laws_FnExactFlowLast_e N).F := by
  funext x
  kernel_rfl
theorem laws_FnExactFlowLast_sound (N : Nat) : SoundC Try.prog 13 (laws_FnExactFlowLast_e N) := by
  have h := runF_sound (f := 13) (code := bodyOf Try.f13) (N := N) (T := laws_FnExactFlowLast_T N) (L := laws_FnExactFlowLast_L) (ins := [(.sl (.int .i64)), (.int .i64), (.sl (.int .i64))]) (outs := [.val .bool]) (res := [6]) mixed tt_ok ?_ Try.func13 (by kernel_rfl) rfl (by kernel_rfl) (by kernel_rfl) (by decide +kernel)
  · rw [laws_FnExactFlowLast_eq] at h
    exact h
  · intro f e he
    unfold laws_FnExactFlowLast_T at he
    split at he
    · rw [List.mem_singleton.1 he]; exact laws_toInt64S_sound N
    · rw [List.mem_singleton.1 he]; exact laws_eqInt64S_sound N
    · rw [List.mem_singleton.1 he]; exact spec_FlowLast_sound N
    · rw [List.mem_singleton.1 he]; exact impl_FlowLast_sound N
    · cases he

/- spec.FlowEnds -/
def spec_FlowEnds (N : Nat) (x0 : List Int) (x1 : Int) (x2 : List Int) : Option (List (Int) × Bool × Unit) :=
  Option.bind (spec_l04Flow N x0 x1 x2) fun r1 =>
  cond (!r1.1)
    (some ([], false, ()))
    (Option.bind (spec_l04Ends N x0 x1 x2) fun r2 =>
    some (r2.1, true, ()))
def spec_FlowEnds_e (N : Nat) : Ent := { ins := [(.sl (.int .i64)), (.int .i64), (.sl (.int .i64))], outs := [.own (.int .i64), .val .bool], F := fun x => spec_FlowEnds N x.1 x.2.1 x.2.2.1 }
def spec_FlowEnds_T (N : Nat) : Nat → List EntX
  | 85 => [.pl (spec_l04Flow_e N)]
  | 93 => [.pl (spec_l04Ends_e N)]
  | _ => []
def spec_FlowEnds_L : Nat → List (Nat × TK) := fun _ => []
theorem spec_FlowEnds_eq (N : Nat) : runF N tt (spec_FlowEnds_T N) spec_FlowEnds_L [(.sl (.int .i64)), (.int .i64), (.sl (.int .i64))] [.own (.int .i64), .val .bool] (bodyOf Try.f50) Try.f50.ntmps [6, 7] = (spec_FlowEnds_e N).F := by
  funext x
  kernel_rfl
theorem spec_FlowEnds_sound (N : Nat) : SoundC Try.prog 50 (spec_FlowEnds_e N) := by
  have h := runF_sound (f := 50) (code := bodyOf Try.f50) (N := N) (T := spec_FlowEnds_T N) (L := spec_FlowEnds_L) (ins := [(.sl (.int .i64)), (.int .i64), (.sl (.int .i64))]) (outs := [.own (.int .i64), .val .bool]) (res := [6, 7]) mixed tt_ok ?_ Try.func50 (by kernel_rfl) rfl (by kernel_rfl) (by kernel_rfl) (by decide +kernel)
  · rw [spec_FlowEnds_eq] at h
    exact h
  · intro f e he
    unfold spec_FlowEnds_T at he
    split at he
    · rw [List.mem_singleton.1 he]; exact spec_l04Flow_sound N
    · rw [List.mem_singleton.1 he]; exact spec_l04Ends_sound N
    · cases he

/- impl.FlowEnds -/
def impl_FlowEnds (N : Nat) (x0 : List Int) (x1 : Int) (x2 : List Int) : Option (List (Int) × Bool × Unit) :=
  Option.bind (impl_ordered N x0 x1 x2) fun r1 =>
  cond (!r1.2.1)
    (some ([], false, ()))
    (Option.bind (impl_shop_flow N (r1.1.1, (r1.1.2.1, r1.1.2.2)) x2) fun r2 =>
    some (r2.1, true, ()))
def impl_FlowEnds_e (N : Nat) : Ent := { ins := [(.sl (.int .i64)), (.int .i64), (.sl (.int .i64))], outs := [.own (.int .i64), .val .bool], F := fun x => impl_FlowEnds N x.1 x.2.1 x.2.2.1 }
def impl_FlowEnds_T (N : Nat) : Nat → List EntX
  | 87 => [.pl (impl_ordered_e N)]
  | 94 => [.pl (impl_shop_flow_e N)]
  | _ => []
def impl_FlowEnds_L : Nat → List (Nat × TK) := fun _ => []
theorem impl_FlowEnds_eq (N : Nat) : runF N tt (impl_FlowEnds_T N) impl_FlowEnds_L [(.sl (.int .i64)), (.int .i64), (.sl (.int .i64))] [.own (.int .i64), .val .bool] (bodyOf Try.f51) Try.f51.ntmps [6, 7] = (impl_FlowEnds_e N).F := by
  funext x
  kernel_rfl
theorem impl_FlowEnds_sound (N : Nat) : SoundC Try.prog 51 (impl_FlowEnds_e N) := by
  have h := runF_sound (f := 51) (code := bodyOf Try.f51) (N := N) (T := impl_FlowEnds_T N) (L := impl_FlowEnds_L) (ins := [(.sl (.int .i64)), (.int .i64), (.sl (.int .i64))]) (outs := [.own (.int .i64), .val .bool]) (res := [6, 7]) mixed tt_ok ?_ Try.func51 (by kernel_rfl) rfl (by kernel_rfl) (by kernel_rfl) (by decide +kernel)
  · rw [impl_FlowEnds_eq] at h
    exact h
  · intro f e he
    unfold impl_FlowEnds_T at he
    split at he
    · rw [List.mem_singleton.1 he]; exact impl_ordered_sound N
    · rw [List.mem_singleton.1 he]; exact impl_shop_flow_sound N
    · cases he

/- laws.FnExactFlowEnds -/
def laws_FnExactFlowEnds (N : Nat) (x0 : List Int) (x1 : Int) (x2 : List Int) : Option (Bool × Unit) :=
  cond (decide ((List.length x0 : Int) > 1048576))
    (some (true, ()))
    (cond (decide ((List.length x2 : Int) > 1048576))
      (some (true, ()))
      (Option.bind (laws_toInt64S N x0) fun r1 =>
      Option.bind (laws_toInt64S N x2) fun r2 =>
      Option.bind (spec_FlowEnds N r1.1 x1 r2.1) fun r3 =>
      Option.bind (laws_toInt64S N x0) fun r4 =>
      Option.bind (laws_toInt64S N x2) fun r5 =>
      Option.bind (impl_FlowEnds N r4.1 x1 r5.1) fun r6 =>
      Option.bind (laws_eqInt64S N r6.1 r3.1) fun r7 =>
      cond (!r7.1)
        (some (false, ()))
        (cond (!(r6.2.1 == r3.2.1))
          (some (false, ()))
          (Option.bind (laws_toInt64S N x0) fun r8 =>
          Option.bind (laws_eqInt64S N r4.1 r8.1) fun r9 =>
          cond (!r9.1)
            (some (false, ()))
            (Option.bind (laws_toInt64S N x2) fun r10 =>
            Option.bind (laws_eqInt64S N r5.1 r10.1) fun r11 =>
            cond (!r11.1)
              (some (false, ()))
              (Option.bind (laws_markInt64S N r4.1 1) fun r12 =>
              cond (Nat.beq (List.length r12.1) (List.length r4.1))
                (Option.bind (laws_markInt64S N r5.1 r12.2.1) fun r13 =>
                cond (Nat.beq (List.length r13.1) (List.length r5.1))
                  (cond (decide (r13.2.1 < 0))
                    (some (false, ()))
                    (Option.bind (laws_eqInt64S N r6.1 r3.1) fun r14 =>
                    cond (!r14.1)
                      (some (false, ()))
                      (cond (!(r6.2.1 == r3.2.1))
                        (some (false, ()))
                        (Option.bind (laws_markInt64S N r6.1 1) fun r15 =>
                        cond (Nat.beq (List.length r15.1) (List.length r6.1))
                          (Option.bind (laws_heldInt64S N r15.1 1) fun r16 =>
                          cond (decide (r16.1 < 0))
                            (some (false, ()))
                            (cond (r16.1 != r15.2.1)
                              (some (false, ()))
                              (Option.bind (laws_toInt64S N x0) fun r17 =>
                              Option.bind (laws_toInt64S N x2) fun r18 =>
                              Option.bind (impl_FlowEnds N r17.1 x1 r18.1) fun r19 =>
                              Option.bind (laws_eqInt64S N r19.1 r3.1) fun r20 =>
                              cond (!r20.1)
                                (some (false, ()))
                                (cond (!(r19.2.1 == r3.2.1))
                                  (some (false, ()))
                                  (Option.bind (laws_heldInt64S N r15.1 1) fun r21 =>
                                  cond (decide (r21.1 < 0))
                                    (some (false, ()))
                                    (cond (r21.1 != r15.2.1)
                                      (some (false, ()))
                                      (some (true, ())))))))) none)))) none) none))))))
def laws_FnExactFlowEnds_e (N : Nat) : Ent := { ins := [(.sl (.int .i64)), (.int .i64), (.sl (.int .i64))], outs := [.val .bool], F := fun x => laws_FnExactFlowEnds N x.1 x.2.1 x.2.2.1 }
def laws_FnExactFlowEnds_T (N : Nat) : Nat → List EntX
  | 26 => [.pl (laws_toInt64S_e N)]
  | 28 => [.pl (laws_eqInt64S_e N)]
  | 31 => [.mu (laws_markInt64S_e N)]
  | 32 => [.pl (laws_heldInt64S_e N)]
  | 50 => [.pl (spec_FlowEnds_e N)]
  | 51 => [.pl (impl_FlowEnds_e N)]
  | _ => []
def laws_FnExactFlowEnds_L : Nat → List (Nat × TK) := fun _ => []
theorem laws_FnExactFlowEnds_eq (N : Nat) : runF N tt (laws_FnExactFlowEnds_T N) laws_FnExactFlowEnds_L [(.sl (.int .i64)), (.int .i64), (.sl (.int .i64))] [.val .bool] (bodyOf Try.f14) Try.f14.ntmps [6] = (laws_FnExactFlowEnds_e N).F := by
  funext x
  kernel_rfl
theorem laws_FnExactFlowEnds_sound (N : Nat) : SoundC Try.prog 14 (laws_FnExactFlowEnds_e N) := by
  have h := runF_sound (f := 14) (code := bodyOf Try.f14) (N := N) (T := laws_FnExactFlowEnds_T N) (L := laws_FnExactFlowEnds_L) (ins := [(.sl (.int .i64)), (.int .i64), (.sl (.int .i64))]) (outs := [.val .bool]) (res := [6]) mixed tt_ok ?_ Try.func14 (by kernel_rfl) rfl (by kernel_rfl) (by kernel_rfl) (by decide +kernel)
  · rw [laws_FnExactFlowEnds_eq] at h
    exact h
  · intro f e he
    unfold laws_FnExactFlowEnds_T at he
    split at he
    · rw [List.mem_singleton.1 he]; exact laws_toInt64S_sound N
    · rw [List.mem_singleton.1 he]; exact laws_eqInt64S_sound N
    · rw [List.mem_singleton.1 he]; exact laws_markInt64S_sound N
    · rw [List.mem_singleton.1 he]; exact laws_heldInt64S_sound N
    · rw [List.mem_singleton.1 he]; exact spec_FlowEnds_sound N
    · rw [List.mem_singleton.1 he]; exact impl_FlowEnds_sound N
    · cases he

end Go.Proofs.Ytakmpiljijhcbaa
