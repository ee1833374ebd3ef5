/-
  The plain functions of this seat, printed by a program, each equal to the evaluator's run, with its contract. No condition.
-/
import Derived.Test.YtgcmklniacjcfaaFwV
import Derived.Test.YtgcmklniacjcfaaChecked
import Derived.Test.YtgcmklniacjcfaaRo3
import Derived.Test.YtgcmklniacjcfaaClo
import Derived.Test.YtgcmklniacjcfaaShop2
import Derived.Test.YtgcmklniacjcfaaShop3
import Derived.Test.YtgcmklniacjcfaaShop4
import Derived.Test.YtgcmklniacjcfaaShop5
import Derived.Test.YtgcmklniacjcfaaShop6
import Derived.Test.YtgcmklniacjcfaaLook1
import Derived.Test.YtgcmklniacjcfaaLook2
namespace Go.Proofs.Ytgcmklniacjcfaa
open Go Go.Proofs.Ytgcmklniacjcfaa.Fw
set_option maxRecDepth 100000
set_option linter.unusedVariables false

theorem mixed : Try.prog.follows .mixedOrders = true := Try.checked.mixed
def tt : Nat → TD
  | 2 => tdInt .i64
  | 3 => tdInt .i64
  | 4 => tdBool
  | 22 => tdSl (.int .i64) 8
  | 44 => tdSt 3 [(0, 1, false), (1, 1, false), (2, 1, false)] [.nil, .g (.int .i64) (0 : Int), .g (.int .i64) (0 : Int)]
  | 53 => tdSl (.int .i64) 8
  | 55 => tdSt 7 [(0, 3, true), (3, 1, false), (4, 1, false), (5, 1, false), (6, 1, false)] [.nil, .g (.int .i64) (0 : Int), .g (.int .i64) (0 : Int), .nil, .nil, .nil, .nil]
  | 88 => tdSl .bool 1
  | _ => tdNone
theorem tt_2 : TDok Try.prog 2 (tdInt .i64) := tdok_int (b := 8) (by kernel_rfl) (by kernel_rfl)
theorem tt_3 : TDok Try.prog 3 (tdInt .i64) := tdok_int (b := 8) (by kernel_rfl) (by kernel_rfl)
theorem tt_4 : TDok Try.prog 4 (tdBool) := tdok_bool (b := 1) (by kernel_rfl) (by kernel_rfl)
theorem tt_22 : TDok Try.prog 22 (tdSl (.int .i64) 8) := tdok_sl (b := 24) (e := 2) (z := (.int .i64 0)) (by kernel_rfl) (by kernel_rfl) (by kernel_rfl) (by decide) (fun _ => by kernel_rfl)
theorem tt_44 : TDok Try.prog 44 (tdSt 3 [(0, 1, false), (1, 1, false), (2, 1, false)] [.nil, .g (.int .i64) (0 : Int), .g (.int .i64) (0 : Int)]) := tdok_st (b := 40) (z := (.agg #[(.slice none 0 0), (.int .i64 0), (.int .i64 0)])) (by kernel_rfl) (by kernel_rfl) (by kernel_rfl) (by kernel_rfl) (by kernel_rfl)
theorem tt_53 : TDok Try.prog 53 (tdSl (.int .i64) 8) := tdok_sl (b := 24) (e := 3) (z := (.int .i64 0)) (by kernel_rfl) (by kernel_rfl) (by kernel_rfl) (by decide) (fun _ => by kernel_rfl)
theorem tt_55 : TDok Try.prog 55 (tdSt 7 [(0, 3, true), (3, 1, false), (4, 1, false), (5, 1, false), (6, 1, false)] [.nil, .g (.int .i64) (0 : Int), .g (.int .i64) (0 : Int), .nil, .nil, .nil, .nil]) := tdok_st (b := 136) (z := (.agg #[(.slice none 0 0), (.int .i64 0), (.int .i64 0), (.slice none 0 0), (.slice none 0 0), (.slice none 0 0), (.slice none 0 0)])) (by kernel_rfl) (by kernel_rfl) (by kernel_rfl) (by kernel_rfl) (by kernel_rfl)
theorem tt_88 : TDok Try.prog 88 (tdSl .bool 1) := tdok_sl (b := 24) (e := 4) (z := (.bool false)) (by kernel_rfl) (by kernel_rfl) (by kernel_rfl) (by decide) (fun _ => by kernel_rfl)
theorem tt_ok (t : Nat) : TDok Try.prog t (tt t) := by
  unfold tt
  split
  · exact tt_2
  · exact tt_3
  · exact tt_4
  · exact tt_22
  · exact tt_44
  · exact tt_53
  · exact tt_55
  · exact tt_88
  · exact tdok_none

/- laws.toInt64S -/
def laws_toInt64S (N : Nat) (x0 : List Int) : Option (List (Int) × Unit) :=
  cond (mkOk (List.length x0 : Int) (List.length x0 : Int))
    (let xs1 := (List.replicate (Int.toNat (List.length x0 : Int)) (0 : Int) : List (Int))
    loopN (fun (s2 : List (Int) × Int × Unit) next3 =>
      cond (decide (s2.2.1 < (List.length x0 : Int)))
        (Option.bind (idx x0 s2.2.1) fun v4 =>
        cond (inB s2.2.1 (List.length s2.1))
          (let xs5 := (List.set s2.1 (Int.toNat s2.2.1) v4)
          next3 (xs5, (w64 (s2.2.1 + 1)), ())) none)
        (some (s2.1, ()))) N (xs1, 0, ())) none
def laws_toInt64S_e (N : Nat) : Ent := { ins := [(.sl (.int .i64))], outs := [.own (.int .i64)], F := fun x => laws_toInt64S N x.1 }
def laws_toInt64S_T (_ : Nat) : Nat → List EntX := fun _ => []
def laws_toInt64S_L : Nat → List (Nat × TK)
  | 3 => [(3, .own (.int .i64)), (4, .v (.int .i64))]
  | _ => []
theorem laws_toInt64S_eq (N : Nat) : runF N tt (laws_toInt64S_T N) laws_toInt64S_L [(.sl (.int .i64))] [.own (.int .i64)] (bodyOf Try.f9) Try.f9.ntmps [2] = (laws_toInt64S_e N).F := by
  funext x
  kernel_rfl
theorem laws_toInt64S_sound (N : Nat) : SoundC Try.prog 9 (laws_toInt64S_e N) := by
  have h := runF_sound (f := 9) (code := bodyOf Try.f9) (N := N) (T := (laws_toInt64S_T N)) (L := laws_toInt64S_L) (ins := [(.sl (.int .i64))]) (outs := [.own (.int .i64)]) (res := [2]) mixed tt_ok ?_ Try.func9 (by kernel_rfl) rfl (by kernel_rfl) (by kernel_rfl) (by decide +kernel)
  · rw [laws_toInt64S_eq] at h
    exact h
  · intro f e he
    cases he

/- laws.eqInt64S -/
def laws_eqInt64S (N : Nat) (x0 : List Int) (x1 : List Int) : Option (Bool × Unit) :=
  cond ((List.length x0 : Int) != (List.length x1 : Int))
    (some (false, ()))
    (loopN (fun (s1 : Int × Unit) next2 =>
      cond (decide (s1.1 < (List.length x0 : Int)))
        (Option.bind (idx x0 s1.1) fun v3 =>
        Option.bind (idx x1 s1.1) fun v4 =>
        cond (v3 != v4)
          (some (false, ()))
          (next2 ((w64 (s1.1 + 1)), ())))
        (some (true, ()))) N (0, ()))
def laws_eqInt64S_e (N : Nat) : Ent := { ins := [(.sl (.int .i64)), (.sl (.int .i64))], outs := [.val .bool], F := fun x => laws_eqInt64S N x.1 x.2.1 }
def laws_eqInt64S_T (_ : Nat) : Nat → List EntX := fun _ => []
def laws_eqInt64S_L : Nat → List (Nat × TK)
  | 4 => [(5, .v (.int .i64))]
  | _ => []
theorem laws_eqInt64S_eq (N : Nat) : runF N tt (laws_eqInt64S_T N) laws_eqInt64S_L [(.sl (.int .i64)), (.sl (.int .i64))] [.val .bool] (bodyOf Try.f11) Try.f11.ntmps [4] = (laws_eqInt64S_e N).F := by
  funext x
  kernel_rfl
theorem laws_eqInt64S_sound (N : Nat) : SoundC Try.prog 11 (laws_eqInt64S_e N) := by
  have h := runF_sound (f := 11) (code := bodyOf Try.f11) (N := N) (T := (laws_eqInt64S_T N)) (L := laws_eqInt64S_L) (ins := [(.sl (.int .i64)), (.sl (.int .i64))]) (outs := [.val .bool]) (res := [4]) mixed tt_ok ?_ Try.func11 (by kernel_rfl) rfl (by kernel_rfl) (by kernel_rfl) (by decide +kernel)
  · rw [laws_eqInt64S_eq] at h
    exact h
  · intro f e he
    cases he

/- laws.markInt64S -/
def laws_markInt64S (N : Nat) (x0 : List Int) (x1 : Int) : Option (List (Int) × (Int × Unit)) :=
  loopN (fun (s1 : List (Int) × Int × Int × Unit) next2 =>
    cond (decide (s1.2.2.1 < (List.length s1.1 : Int)))
      (cond (inB s1.2.2.1 (List.length s1.1))
        (let xs3 := (List.set s1.1 (Int.toNat s1.2.2.1) s1.2.1)
        next2 (xs3, (w64 (s1.2.1 + 1)), (w64 (s1.2.2.1 + 1)), ())) none)
      (some (s1.1, (s1.2.1, ())))) N (x0, x1, 0, ())
def laws_markInt64S_e (N : Nat) : EntM := { io := (.int .i64), ins := [(.int .i64)], outs := [.val (.int .i64)], F := fun xs x => laws_markInt64S N xs x.1 }
def laws_markInt64S_T (_ : Nat) : Nat → List EntX := fun _ => []
def laws_markInt64S_L : Nat → List (Nat × TK)
  | 2 => [(0, .own (.int .i64)), (1, .v (.int .i64)), (5, .v (.int .i64))]
  | _ => []
theorem laws_markInt64S_eq (N : Nat) : runM N tt (laws_markInt64S_T N) laws_markInt64S_L (.int .i64) [(.int .i64)] [.val (.int .i64)] (bodyOf Try.f12) Try.f12.ntmps [4] = (laws_markInt64S_e N).F := by
  funext xs x
  kernel_rfl
theorem laws_markInt64S_sound (N : Nat) : SoundM Try.prog 12 (laws_markInt64S_e N) := by
  have h := runM_sound (f := 12) (code := bodyOf Try.f12) (N := N) (T := (laws_markInt64S_T N)) (L := laws_markInt64S_L) (io := (.int .i64)) (ins := [(.int .i64)]) (outs := [.val (.int .i64)]) (res := [4]) mixed tt_ok ?_ Try.func12 (by kernel_rfl) rfl (by kernel_rfl) (by kernel_rfl) (by decide +kernel)
  · rw [laws_markInt64S_eq] at h
    exact h
  · intro f e he
    cases he

/- laws.heldInt64S -/
def laws_heldInt64S (N : Nat) (x0 : List Int) (x1 : Int) : Option (Int × Unit) :=
  loopN (fun (s1 : Int × Int × Unit) next2 =>
    cond (decide (s1.2.1 < (List.length x0 : Int)))
      (Option.bind (idx x0 s1.2.1) fun v3 =>
      cond (v3 != s1.1)
        (some ((-1), ()))
        (next2 ((w64 (s1.1 + 1)), (w64 (s1.2.1 + 1)), ())))
      (some (s1.1, ()))) N (x1, 0, ())
def laws_heldInt64S_e (N : Nat) : Ent := { ins := [(.sl (.int .i64)), (.int .i64)], outs := [.val (.int .i64)], F := fun x => laws_heldInt64S N x.1 x.2.1 }
def laws_heldInt64S_T (_ : Nat) : Nat → List EntX := fun _ => []
def laws_heldInt64S_L : Nat → List (Nat × TK)
  | 2 => [(1, .v (.int .i64)), (5, .v (.int .i64))]
  | _ => []
theorem laws_heldInt64S_eq (N : Nat) : runF N tt (laws_heldInt64S_T N) laws_heldInt64S_L [(.sl (.int .i64)), (.int .i64)] [.val (.int .i64)] (bodyOf Try.f13) Try.f13.ntmps [4] = (laws_heldInt64S_e N).F := by
  funext x
  kernel_rfl
theorem laws_heldInt64S_sound (N : Nat) : SoundC Try.prog 13 (laws_heldInt64S_e N) := by
  have h := runF_sound (f := 13) (code := bodyOf Try.f13) (N := N) (T := (laws_heldInt64S_T N)) (L := laws_heldInt64S_L) (ins := [(.sl (.int .i64)), (.int .i64)]) (outs := [.val (.int .i64)]) (res := [4]) mixed tt_ok ?_ Try.func13 (by kernel_rfl) rfl (by kernel_rfl) (by kernel_rfl) (by decide +kernel)
  · rw [laws_heldInt64S_eq] at h
    exact h
  · intro f e he
    cases he

/- spec.l04Count -/
def spec_l04Count (_N : Nat) (x0 : List Int) (x1 : Int) : Option (Int × Unit) :=
  cond (x1 == 0) none
    (some ((w64 (Int.tdiv (List.length x0 : Int) x1)), ()))
def spec_l04Count_e (N : Nat) : Ent := { ins := [(.sl (.int .i64)), (.int .i64)], outs := [.val (.int .i64)], F := fun x => spec_l04Count N x.1 x.2.1 }
def spec_l04Count_T (_ : Nat) : Nat → List EntX := fun _ => []
def spec_l04Count_L : Nat → List (Nat × TK) := fun _ => []
theorem spec_l04Count_eq (N : Nat) : runF N tt (spec_l04Count_T N) spec_l04Count_L [(.sl (.int .i64)), (.int .i64)] [.val (.int .i64)] (bodyOf Try.f27) Try.f27.ntmps [4] = (spec_l04Count_e N).F := by
  funext x
  kernel_rfl
theorem spec_l04Count_sound (N : Nat) : SoundC Try.prog 27 (spec_l04Count_e N) := by
  have h := runF_sound (f := 27) (code := bodyOf Try.f27) (N := N) (T := (spec_l04Count_T N)) (L := spec_l04Count_L) (ins := [(.sl (.int .i64)), (.int .i64)]) (outs := [.val (.int .i64)]) (res := [4]) mixed tt_ok ?_ Try.func27 (by kernel_rfl) rfl (by kernel_rfl) (by kernel_rfl) (by decide +kernel)
  · rw [spec_l04Count_eq] at h
    exact h
  · intro f e he
    cases he

/- spec.l00In -/
def spec_l00In (_N : Nat) (x0 : Int) (x1 : Int) (x2 : Int) : Option (Bool × Unit) :=
  cond (decide (x0 ≥ x1))
    (some ((decide (x0 ≤ x2)), ()))
    (some (false, ()))
def spec_l00In_e (N : Nat) : Ent := { ins := [(.int .i64), (.int .i64), (.int .i64)], outs := [.val .bool], F := fun x => spec_l00In N x.1 x.2.1 x.2.2.1 }
def spec_l00In_T (_ : Nat) : Nat → List EntX := fun _ => []
def spec_l00In_L : Nat → List (Nat × TK) := fun _ => []
theorem spec_l00In_eq (N : Nat) : runF N tt (spec_l00In_T N) spec_l00In_L [(.int .i64), (.int .i64), (.int .i64)] [.val .bool] (bodyOf Try.f45) Try.f45.ntmps [6] = (spec_l00In_e N).F := by
  funext x
  kernel_rfl
theorem spec_l00In_sound (N : Nat) : SoundC Try.prog 45 (spec_l00In_e N) := by
  have h := runF_sound (f := 45) (code := bodyOf Try.f45) (N := N) (T := (spec_l00In_T N)) (L := spec_l00In_L) (ins := [(.int .i64), (.int .i64), (.int .i64)]) (outs := [.val .bool]) (res := [6]) mixed tt_ok ?_ Try.func45 (by kernel_rfl) rfl (by kernel_rfl) (by kernel_rfl) (by decide +kernel)
  · rw [spec_l00In_eq] at h
    exact h
  · intro f e he
    cases he

/- spec.l02Machines -/
def spec_l02Machines (N : Nat) (x0 : Int) : Option (Bool × Unit) :=
  Option.bind (spec_l00In N x0 1 8) fun r1 =>
  some (r1.1, ())
def spec_l02Machines_e (N : Nat) : Ent := { ins := [(.int .i64)], outs := [.val .bool], F := fun x => spec_l02Machines N x.1 }
def spec_l02Machines_T (N : Nat) : Nat → List EntX
  | 45 => [.pl (spec_l00In_e N)]
  | _ => []
def spec_l02Machines_L : Nat → List (Nat × TK) := fun _ => []
theorem spec_l02Machines_eq (N : Nat) : runF N tt (spec_l02Machines_T N) spec_l02Machines_L [(.int .i64)] [.val .bool] (bodyOf Try.f81) Try.f81.ntmps [2] = (spec_l02Machines_e N).F := by
  funext x
  kernel_rfl
theorem spec_l02Machines_sound (N : Nat) : SoundC Try.prog 81 (spec_l02Machines_e N) := by
  have h := runF_sound (f := 81) (code := bodyOf Try.f81) (N := N) (T := (spec_l02Machines_T N)) (L := spec_l02Machines_L) (ins := [(.int .i64)]) (outs := [.val .bool]) (res := [2]) mixed tt_ok ?_ Try.func81 (by kernel_rfl) rfl (by kernel_rfl) (by kernel_rfl) (by decide +kernel)
  · rw [spec_l02Machines_eq] at h
    exact h
  · intro f e he
    unfold spec_l02Machines_T at he
    split at he
    · rw [List.mem_singleton.1 he]; exact spec_l00In_sound N
    · cases he

/- spec.l02Unlike -/
def spec_l02Unlike (N : Nat) (x0 : List Int) (x1 : Int) : Option (Bool × Unit) :=
  Option.bind (spec_l02Machines N x1) fun r1 =>
  cond (!r1.1)
    (some (false, ()))
    (cond (decide ((List.length x0 : Int) < 1))
      (some (false, ()))
      (cond (x1 == 0) none
        (cond ((Int.tmod (List.length x0 : Int) x1) != 0)
          (some (false, ()))
          (cond (x1 == 0) none
            (cond (decide ((w64 (Int.tdiv (List.length x0 : Int) x1)) > 24))
              (some (false, ()))
              (loopN (fun (s2 : Int × Unit) next3 =>
                cond (decide (s2.1 < (List.length x0 : Int)))
                  (Option.bind (idx x0 s2.1) fun v4 =>
                  Option.bind (spec_l00In N v4 1 10000) fun r5 =>
                  cond (!r5.1)
                    (some (false, ()))
                    (next3 ((w64 (s2.1 + 1)), ())))
                  (some (true, ()))) N (0, ())))))))
def spec_l02Unlike_e (N : Nat) : Ent := { ins := [(.sl (.int .i64)), (.int .i64)], outs := [.val .bool], F := fun x => spec_l02Unlike N x.1 x.2.1 }
def spec_l02Unlike_T (N : Nat) : Nat → List EntX
  | 45 => [.pl (spec_l00In_e N)]
  | 81 => [.pl (spec_l02Machines_e N)]
  | _ => []
def spec_l02Unlike_L : Nat → List (Nat × TK)
  | 5 => [(6, .v (.int .i64))]
  | _ => []
theorem spec_l02Unlike_eq (N : Nat) : runF N tt (spec_l02Unlike_T N) spec_l02Unlike_L [(.sl (.int .i64)), (.int .i64)] [.val .bool] (bodyOf Try.f68) Try.f68.ntmps [4] = (spec_l02Unlike_e N).F := by
  funext x
  kernel_rfl
theorem spec_l02Unlike_sound (N : Nat) : SoundC Try.prog 68 (spec_l02Unlike_e N) := by
  have h := runF_sound (f := 68) (code := bodyOf Try.f68) (N := N) (T := (spec_l02Unlike_T N)) (L := spec_l02Unlike_L) (ins := [(.sl (.int .i64)), (.int .i64)]) (outs := [.val .bool]) (res := [4]) mixed tt_ok ?_ Try.func68 (by kernel_rfl) rfl (by kernel_rfl) (by kernel_rfl) (by decide +kernel)
  · rw [spec_l02Unlike_eq] at h
    exact h
  · intro f e he
    unfold spec_l02Unlike_T at he
    split at he
    · rw [List.mem_singleton.1 he]; exact spec_l00In_sound N
    · rw [List.mem_singleton.1 he]; exact spec_l02Machines_sound N
    · cases he

/- spec.l04Can -/
def spec_l04Can (N : Nat) (x0 : List Int) (x1 : Int) : Option (Bool × Unit) :=
  Option.bind (spec_l02Unlike N x0 x1) fun r1 =>
  some (r1.1, ())
def spec_l04Can_e (N : Nat) : Ent := { ins := [(.sl (.int .i64)), (.int .i64)], outs := [.val .bool], F := fun x => spec_l04Can N x.1 x.2.1 }
def spec_l04Can_T (N : Nat) : Nat → List EntX
  | 68 => [.pl (spec_l02Unlike_e N)]
  | _ => []
def spec_l04Can_L : Nat → List (Nat × TK) := fun _ => []
theorem spec_l04Can_eq (N : Nat) : runF N tt (spec_l04Can_T N) spec_l04Can_L [(.sl (.int .i64)), (.int .i64)] [.val .bool] (bodyOf Try.f26) Try.f26.ntmps [4] = (spec_l04Can_e N).F := by
  funext x
  kernel_rfl
theorem spec_l04Can_sound (N : Nat) : SoundC Try.prog 26 (spec_l04Can_e N) := by
  have h := runF_sound (f := 26) (code := bodyOf Try.f26) (N := N) (T := (spec_l04Can_T N)) (L := spec_l04Can_L) (ins := [(.sl (.int .i64)), (.int .i64)]) (outs := [.val .bool]) (res := [4]) mixed tt_ok ?_ Try.func26 (by kernel_rfl) rfl (by kernel_rfl) (by kernel_rfl) (by decide +kernel)
  · rw [spec_l04Can_eq] at h
    exact h
  · intro f e he
    unfold spec_l04Can_T at he
    split at he
    · rw [List.mem_singleton.1 he]; exact spec_l02Unlike_sound N
    · cases he

/- spec.l02Has -/
def spec_l02Has (N : Nat) (x0 : List Int) (x1 : Int) : Option (Bool × Unit) :=
  loopN (fun (s1 : Int × Unit) next2 =>
    cond (decide (s1.1 < (List.length x0 : Int)))
      (Option.bind (idx x0 s1.1) fun v3 =>
      cond (v3 == x1)
        (some (true, ()))
        (next2 ((w64 (s1.1 + 1)), ())))
      (some (false, ()))) N (0, ())
def spec_l02Has_e (N : Nat) : Ent := { ins := [(.sl (.int .i64)), (.int .i64)], outs := [.val .bool], F := fun x => spec_l02Has N x.1 x.2.1 }
def spec_l02Has_T (_ : Nat) : Nat → List EntX := fun _ => []
def spec_l02Has_L : Nat → List (Nat × TK)
  | 2 => [(5, .v (.int .i64))]
  | _ => []
theorem spec_l02Has_eq (N : Nat) : runF N tt (spec_l02Has_T N) spec_l02Has_L [(.sl (.int .i64)), (.int .i64)] [.val .bool] (bodyOf Try.f89) Try.f89.ntmps [4] = (spec_l02Has_e N).F := by
  funext x
  kernel_rfl
theorem spec_l02Has_sound (N : Nat) : SoundC Try.prog 89 (spec_l02Has_e N) := by
  have h := runF_sound (f := 89) (code := bodyOf Try.f89) (N := N) (T := (spec_l02Has_T N)) (L := spec_l02Has_L) (ins := [(.sl (.int .i64)), (.int .i64)]) (outs := [.val .bool]) (res := [4]) mixed tt_ok ?_ Try.func89 (by kernel_rfl) rfl (by kernel_rfl) (by kernel_rfl) (by decide +kernel)
  · rw [spec_l02Has_eq] at h
    exact h
  · intro f e he
    cases he

/- spec.l02Orders -/
def spec_l02Orders (N : Nat) (x0 : List Int) (x1 : Int) : Option (Bool × Unit) :=
  loopN (fun (s1 : Int × Unit) next2 =>
    cond (decide (s1.1 < (List.length x0 : Int)))
      (Option.bind (idx x0 s1.1) fun v3 =>
      Option.bind (spec_l00In N v3 0 (w64 (x1 - 1))) fun r4 =>
      cond (!r4.1)
        (some (false, ()))
        (cond (decide (0 ≤ s1.1) && decide (s1.1 ≤ (List.length x0 : Int)))
          (Option.bind (idx x0 s1.1) fun v5 =>
          Option.bind (spec_l02Has N (List.take (Int.toNat s1.1) x0) v5) fun r6 =>
          cond r6.1
            (some (false, ()))
            (next2 ((w64 (s1.1 + 1)), ()))) none))
      (some (((List.length x0 : Int) == x1), ()))) N (0, ())
def spec_l02Orders_e (N : Nat) : Ent := { ins := [(.sl (.int .i64)), (.int .i64)], outs := [.val .bool], F := fun x => spec_l02Orders N x.1 x.2.1 }
def spec_l02Orders_T (N : Nat) : Nat → List EntX
  | 45 => [.pl (spec_l00In_e N)]
  | 89 => [.pl (spec_l02Has_e N)]
  | _ => []
def spec_l02Orders_L : Nat → List (Nat × TK)
  | 2 => [(5, .v (.int .i64))]
  | _ => []
theorem spec_l02Orders_eq (N : Nat) : runF N tt (spec_l02Orders_T N) spec_l02Orders_L [(.sl (.int .i64)), (.int .i64)] [.val .bool] (bodyOf Try.f83) Try.f83.ntmps [4] = (spec_l02Orders_e N).F := by
  funext x
  kernel_rfl
theorem spec_l02Orders_sound (N : Nat) : SoundC Try.prog 83 (spec_l02Orders_e N) := by
  have h := runF_sound (f := 83) (code := bodyOf Try.f83) (N := N) (T := (spec_l02Orders_T N)) (L := spec_l02Orders_L) (ins := [(.sl (.int .i64)), (.int .i64)]) (outs := [.val .bool]) (res := [4]) mixed tt_ok ?_ Try.func83 (by kernel_rfl) rfl (by kernel_rfl) (by kernel_rfl) (by decide +kernel)
  · rw [spec_l02Orders_eq] at h
    exact h
  · intro f e he
    unfold spec_l02Orders_T at he
    split at he
    · rw [List.mem_singleton.1 he]; exact spec_l00In_sound N
    · rw [List.mem_singleton.1 he]; exact spec_l02Has_sound N
    · cases he

/- spec.l04Routes -/
def spec_l04Routes (N : Nat) (x0 : List Int) (x1 : Int) : Option (Bool × Unit) :=
  Option.bind (spec_l02Machines N x1) fun r1 =>
  cond (!r1.1)
    (some (false, ()))
    (cond (decide ((List.length x0 : Int) < 1))
      (some (false, ()))
      (cond (x1 == 0) none
        (cond ((Int.tmod (List.length x0 : Int) x1) != 0)
          (some (false, ()))
          (cond (x1 == 0) none
            (cond (decide ((w64 (Int.tdiv (List.length x0 : Int) x1)) > 24))
              (some (false, ()))
              (loopN (fun (s2 : Int × Unit) next3 =>
                cond (decide (s2.1 < (List.length x0 : Int)))
                  (cond (decide (0 ≤ s2.1) && decide (s2.1 ≤ (w64 (s2.1 + x1))) && decide ((w64 (s2.1 + x1)) ≤ (List.length x0 : Int)))
                    (Option.bind (spec_l02Orders N (List.drop (Int.toNat s2.1) (List.take (Int.toNat (w64 (s2.1 + x1))) x0)) x1) fun r4 =>
                    cond (!r4.1)
                      (some (false, ()))
                      (next3 ((w64 (s2.1 + x1)), ()))) none)
                  (some (true, ()))) N (0, ())))))))
def spec_l04Routes_e (N : Nat) : Ent := { ins := [(.sl (.int .i64)), (.int .i64)], outs := [.val .bool], F := fun x => spec_l04Routes N x.1 x.2.1 }
def spec_l04Routes_T (N : Nat) : Nat → List EntX
  | 81 => [.pl (spec_l02Machines_e N)]
  | 83 => [.pl (spec_l02Orders_e N)]
  | _ => []
def spec_l04Routes_L : Nat → List (Nat × TK)
  | 5 => [(6, .v (.int .i64))]
  | _ => []
theorem spec_l04Routes_eq (N : Nat) : runF N tt (spec_l04Routes_T N) spec_l04Routes_L [(.sl (.int .i64)), (.int .i64)] [.val .bool] (bodyOf Try.f70) Try.f70.ntmps [4] = (spec_l04Routes_e N).F := by
  funext x
  kernel_rfl
theorem spec_l04Routes_sound (N : Nat) : SoundC Try.prog 70 (spec_l04Routes_e N) := by
  have h := runF_sound (f := 70) (code := bodyOf Try.f70) (N := N) (T := (spec_l04Routes_T N)) (L := spec_l04Routes_L) (ins := [(.sl (.int .i64)), (.int .i64)]) (outs := [.val .bool]) (res := [4]) mixed tt_ok ?_ Try.func70 (by kernel_rfl) rfl (by kernel_rfl) (by kernel_rfl) (by decide +kernel)
  · rw [spec_l04Routes_eq] at h
    exact h
  · intro f e he
    unfold spec_l04Routes_T at he
    split at he
    · rw [List.mem_singleton.1 he]; exact spec_l02Machines_sound N
    · rw [List.mem_singleton.1 he]; exact spec_l02Orders_sound N
    · cases he

/- spec.l04Shop -/
def spec_l04Shop (N : Nat) (x0 : List Int) (x1 : List Int) (x2 : Int) : Option (Bool × Unit) :=
  Option.bind (spec_l04Routes N x0 x2) fun r1 =>
  cond r1.1
    (Option.bind (spec_l04Can N x1 x2) fun r2 =>
    cond r2.1
      (some (((List.length x1 : Int) == (List.length x0 : Int)), ()))
      (some (false, ())))
    (some (false, ()))
def spec_l04Shop_e (N : Nat) : Ent := { ins := [(.sl (.int .i64)), (.sl (.int .i64)), (.int .i64)], outs := [.val .bool], F := fun x => spec_l04Shop N x.1 x.2.1 x.2.2.1 }
def spec_l04Shop_T (N : Nat) : Nat → List EntX
  | 26 => [.pl (spec_l04Can_e N)]
  | 70 => [.pl (spec_l04Routes_e N)]
  | _ => []
def spec_l04Shop_L : Nat → List (Nat × TK) := fun _ => []
theorem spec_l04Shop_eq (N : Nat) : runF N tt (spec_l04Shop_T N) spec_l04Shop_L [(.sl (.int .i64)), (.sl (.int .i64)), (.int .i64)] [.val .bool] (bodyOf Try.f32) Try.f32.ntmps [6] = (spec_l04Shop_e N).F := by
  funext x
  kernel_rfl
theorem spec_l04Shop_sound (N : Nat) : SoundC Try.prog 32 (spec_l04Shop_e N) := by
  have h := runF_sound (f := 32) (code := bodyOf Try.f32) (N := N) (T := (spec_l04Shop_T N)) (L := spec_l04Shop_L) (ins := [(.sl (.int .i64)), (.sl (.int .i64)), (.int .i64)]) (outs := [.val .bool]) (res := [6]) mixed tt_ok ?_ Try.func32 (by kernel_rfl) rfl (by kernel_rfl) (by kernel_rfl) (by decide +kernel)
  · rw [spec_l04Shop_eq] at h
    exact h
  · intro f e he
    unfold spec_l04Shop_T at he
    split at he
    · rw [List.mem_singleton.1 he]; exact spec_l04Can_sound N
    · rw [List.mem_singleton.1 he]; exact spec_l04Routes_sound N
    · cases he

/- spec.l04Turns -/
def spec_l04Turns (N : Nat) (x0 : List Int) (x1 : Int) (x2 : Int) : Option (Bool × Unit) :=
  cond ((List.length x0 : Int) != (w64 (x1 * x2)))
    (some (false, ()))
    (cond (mkOk x1 x1)
      (let xs1 := (List.replicate (Int.toNat x1) (0 : Int) : List (Int))
      loopN (fun (s2 : List (Int) × Int × Unit) next3 =>
        cond (decide (s2.2.1 < (List.length x0 : Int)))
          (Option.bind (idx x0 s2.2.1) fun v4 =>
          Option.bind (spec_l00In N v4 0 (w64 (x1 - 1))) fun r5 =>
          cond (!r5.1)
            (some (false, ()))
            (Option.bind (idx x0 s2.2.1) fun v6 =>
            cond (inB v6 (List.length s2.1))
              (Option.bind (s2.1[(Int.toNat v6)]?) fun v7 =>
              cond (inB v6 (List.length s2.1))
                (let xs8 := (List.set s2.1 (Int.toNat v6) (w64 (v7 + 1)))
                next3 (xs8, (w64 (s2.2.1 + 1)), ())) none) none))
          (loopN (fun (s9 : Int × Unit) next10 =>
            cond (decide (s9.1 < (List.length s2.1 : Int)))
              (cond (inB s9.1 (List.length s2.1))
                (Option.bind (s2.1[(Int.toNat s9.1)]?) fun v11 =>
                cond (v11 != x2)
                  (some (false, ()))
                  (next10 ((w64 (s9.1 + 1)), ()))) none)
              (some (true, ()))) N (0, ()))) N (xs1, 0, ())) none)
def spec_l04Turns_e (N : Nat) : Ent := { ins := [(.sl (.int .i64)), (.int .i64), (.int .i64)], outs := [.val .bool], F := fun x => spec_l04Turns N x.1 x.2.1 x.2.2.1 }
def spec_l04Turns_T (N : Nat) : Nat → List EntX
  | 45 => [.pl (spec_l00In_e N)]
  | _ => []
def spec_l04Turns_L : Nat → List (Nat × TK)
  | 5 => [(7, .own (.int .i64)), (8, .v (.int .i64))]
  | 11 => [(9, .v (.int .i64))]
  | _ => []
theorem spec_l04Turns_eq (N : Nat) : runF N tt (spec_l04Turns_T N) spec_l04Turns_L [(.sl (.int .i64)), (.int .i64), (.int .i64)] [.val .bool] (bodyOf Try.f33) Try.f33.ntmps [6] = (spec_l04Turns_e N).F := by
  funext x
  kernel_rfl
theorem spec_l04Turns_sound (N : Nat) : SoundC Try.prog 33 (spec_l04Turns_e N) := by
  have h := runF_sound (f := 33) (code := bodyOf Try.f33) (N := N) (T := (spec_l04Turns_T N)) (L := spec_l04Turns_L) (ins := [(.sl (.int .i64)), (.int .i64), (.int .i64)]) (outs := [.val .bool]) (res := [6]) mixed tt_ok ?_ Try.func33 (by kernel_rfl) rfl (by kernel_rfl) (by kernel_rfl) (by decide +kernel)
  · rw [spec_l04Turns_eq] at h
    exact h
  · intro f e he
    unfold spec_l04Turns_T at he
    split at he
    · rw [List.mem_singleton.1 he]; exact spec_l00In_sound N
    · cases he

/- spec.l00Max -/
def spec_l00Max (_N : Nat) (x0 : Int) (x1 : Int) : Option (Int × Unit) :=
  cond (decide (x0 > x1))
    (some (x0, ()))
    (some (x1, ()))
def spec_l00Max_e (N : Nat) : Ent := { ins := [(.int .i64), (.int .i64)], outs := [.val (.int .i64)], F := fun x => spec_l00Max N x.1 x.2.1 }
def spec_l00Max_T (_ : Nat) : Nat → List EntX := fun _ => []
def spec_l00Max_L : Nat → List (Nat × TK) := fun _ => []
theorem spec_l00Max_eq (N : Nat) : runF N tt (spec_l00Max_T N) spec_l00Max_L [(.int .i64), (.int .i64)] [.val (.int .i64)] (bodyOf Try.f28) Try.f28.ntmps [4] = (spec_l00Max_e N).F := by
  funext x
  kernel_rfl
theorem spec_l00Max_sound (N : Nat) : SoundC Try.prog 28 (spec_l00Max_e N) := by
  have h := runF_sound (f := 28) (code := bodyOf Try.f28) (N := N) (T := (spec_l00Max_T N)) (L := spec_l00Max_L) (ins := [(.int .i64), (.int .i64)]) (outs := [.val (.int .i64)]) (res := [4]) mixed tt_ok ?_ Try.func28 (by kernel_rfl) rfl (by kernel_rfl) (by kernel_rfl) (by decide +kernel)
  · rw [spec_l00Max_eq] at h
    exact h
  · intro f e he
    cases he

/- spec.l04Turned -/
def spec_l04Turned (N : Nat) (x0 : List Int) (x1 : List Int) (x2 : Int) (x3 : List Int) : Option (List (Int) × Int × Unit) :=
  cond (mkOk (List.length x1 : Int) (List.length x1 : Int))
    (let xs1 := (List.replicate (Int.toNat (List.length x1 : Int)) (0 : Int) : List (Int))
    Option.bind (spec_l04Count N x1 x2) fun r2 =>
    cond (mkOk r2.1 r2.1)
      (let xs3 := (List.replicate (Int.toNat r2.1) (0 : Int) : List (Int))
      cond (mkOk (List.length xs3 : Int) (List.length xs3 : Int))
        (let xs4 := (List.replicate (Int.toNat (List.length xs3 : Int)) (0 : Int) : List (Int))
        cond (mkOk x2 x2)
          (let xs5 := (List.replicate (Int.toNat x2) (0 : Int) : List (Int))
          loopN (fun (s6 : List (Int) × List (Int) × List (Int) × List (Int) × Int × Int × Unit) next7 =>
            cond (decide (s6.2.2.2.2.2.1 < (List.length x3 : Int)))
              (Option.bind (idx x3 s6.2.2.2.2.2.1) fun v8 =>
              cond (inB v8 (List.length s6.2.1))
                (Option.bind (s6.2.1[(Int.toNat v8)]?) fun v9 =>
                Option.bind (idx x0 (w64 ((w64 (v8 * x2)) + v9))) fun v10 =>
                cond (inB v8 (List.length s6.2.2.1))
                  (Option.bind (s6.2.2.1[(Int.toNat v8)]?) fun v11 =>
                  cond (inB v10 (List.length s6.2.2.2.1))
                    (Option.bind (s6.2.2.2.1[(Int.toNat v10)]?) fun v12 =>
                    Option.bind (spec_l00Max N v11 v12) fun r13 =>
                    cond (inB (w64 ((w64 (v8 * x2)) + v9)) (List.length s6.1))
                      (let xs14 := (List.set s6.1 (Int.toNat (w64 ((w64 (v8 * x2)) + v9))) r13.1)
                      cond (inB (w64 ((w64 (v8 * x2)) + v9)) (List.length xs14))
                        (Option.bind (xs14[(Int.toNat (w64 ((w64 (v8 * x2)) + v9)))]?) fun v15 =>
                        Option.bind (idx x1 (w64 ((w64 (v8 * x2)) + v9))) fun v16 =>
                        cond (inB v8 (List.length s6.2.2.1))
                          (let xs17 := (List.set s6.2.2.1 (Int.toNat v8) (w64 (v15 + v16)))
                          cond (inB v8 (List.length xs17))
                            (Option.bind (xs17[(Int.toNat v8)]?) fun v18 =>
                            cond (inB v10 (List.length s6.2.2.2.1))
                              (let xs19 := (List.set s6.2.2.2.1 (Int.toNat v10) v18)
                              cond (inB v8 (List.length s6.2.1))
                                (Option.bind (s6.2.1[(Int.toNat v8)]?) fun v20 =>
                                cond (inB v8 (List.length s6.2.1))
                                  (let xs21 := (List.set s6.2.1 (Int.toNat v8) (w64 (v20 + 1)))
                                  cond (inB v8 (List.length xs17))
                                    (Option.bind (xs17[(Int.toNat v8)]?) fun v22 =>
                                    Option.bind (spec_l00Max N s6.2.2.2.2.1 v22) fun r23 =>
                                    next7 (xs14, xs21, xs17, xs19, r23.1, (w64 (s6.2.2.2.2.2.1 + 1)), ())) none) none) none) none) none) none) none) none) none) none) none)
              (some (s6.1, s6.2.2.2.2.1, ()))) N (xs1, xs3, xs4, xs5, 0, 0, ())) none) none) none) none
def spec_l04Turned_e (N : Nat) : Ent := { ins := [(.sl (.int .i64)), (.sl (.int .i64)), (.int .i64), (.sl (.int .i64))], outs := [.own (.int .i64), .val (.int .i64)], F := fun x => spec_l04Turned N x.1 x.2.1 x.2.2.1 x.2.2.2.1 }
def spec_l04Turned_T (N : Nat) : Nat → List EntX
  | 27 => [.pl (spec_l04Count_e N)]
  | 28 => [.pl (spec_l00Max_e N)]
  | _ => []
def spec_l04Turned_L : Nat → List (Nat × TK)
  | 7 => [(10, .own (.int .i64)), (11, .own (.int .i64)), (12, .own (.int .i64)), (13, .own (.int .i64)), (14, .v (.int .i64)), (15, .v (.int .i64))]
  | _ => []
theorem spec_l04Turned_eq (N : Nat) : runF N tt (spec_l04Turned_T N) spec_l04Turned_L [(.sl (.int .i64)), (.sl (.int .i64)), (.int .i64), (.sl (.int .i64))] [.own (.int .i64), .val (.int .i64)] (bodyOf Try.f34) Try.f34.ntmps [8, 9] = (spec_l04Turned_e N).F := by
  funext x
  kernel_rfl
theorem spec_l04Turned_sound (N : Nat) : SoundC Try.prog 34 (spec_l04Turned_e N) := by
  have h := runF_sound (f := 34) (code := bodyOf Try.f34) (N := N) (T := (spec_l04Turned_T N)) (L := spec_l04Turned_L) (ins := [(.sl (.int .i64)), (.sl (.int .i64)), (.int .i64), (.sl (.int .i64))]) (outs := [.own (.int .i64), .val (.int .i64)]) (res := [8, 9]) mixed tt_ok ?_ Try.func34 (by kernel_rfl) rfl (by kernel_rfl) (by kernel_rfl) (by decide +kernel)
  · rw [spec_l04Turned_eq] at h
    exact h
  · intro f e he
    unfold spec_l04Turned_T at he
    split at he
    · rw [List.mem_singleton.1 he]; exact spec_l04Count_sound N
    · rw [List.mem_singleton.1 he]; exact spec_l00Max_sound N
    · cases he

/- spec.ShopStarts -/
def spec_ShopStarts (N : Nat) (x0 : List Int) (x1 : List Int) (x2 : Int) (x3 : List Int) : Option (List (Int) × Int × Bool × Unit) :=
  Option.bind (spec_l04Shop N x0 x1 x2) fun r1 =>
  cond (!r1.1)
    (some ([], 0, false, ()))
    (Option.bind (spec_l04Count N x1 x2) fun r2 =>
    Option.bind (spec_l04Turns N x3 r2.1 x2) fun r3 =>
    cond (!r3.1)
      (some ([], 0, false, ()))
      (Option.bind (spec_l04Turned N x0 x1 x2 x3) fun r4 =>
      some (r4.1, r4.2.1, true, ())))
def spec_ShopStarts_e (N : Nat) : Ent := { ins := [(.sl (.int .i64)), (.sl (.int .i64)), (.int .i64), (.sl (.int .i64))], outs := [.own (.int .i64), .val (.int .i64), .val .bool], F := fun x => spec_ShopStarts N x.1 x.2.1 x.2.2.1 x.2.2.2.1 }
def spec_ShopStarts_T (N : Nat) : Nat → List EntX
  | 27 => [.pl (spec_l04Count_e N)]
  | 32 => [.pl (spec_l04Shop_e N)]
  | 33 => [.pl (spec_l04Turns_e N)]
  | 34 => [.pl (spec_l04Turned_e N)]
  | _ => []
def spec_ShopStarts_L : Nat → List (Nat × TK) := fun _ => []
theorem spec_ShopStarts_eq (N : Nat) : runF N tt (spec_ShopStarts_T N) spec_ShopStarts_L [(.sl (.int .i64)), (.sl (.int .i64)), (.int .i64), (.sl (.int .i64))] [.own (.int .i64), .val (.int .i64), .val .bool] (bodyOf Try.f14) Try.f14.ntmps [8, 9, 10] = (spec_ShopStarts_e N).F := by
  funext x
  kernel_rfl
theorem spec_ShopStarts_sound (N : Nat) : SoundC Try.prog 14 (spec_ShopStarts_e N) := by
  have h := runF_sound (f := 14) (code := bodyOf Try.f14) (N := N) (T := (spec_ShopStarts_T N)) (L := spec_ShopStarts_L) (ins := [(.sl (.int .i64)), (.sl (.int .i64)), (.int .i64), (.sl (.int .i64))]) (outs := [.own (.int .i64), .val (.int .i64), .val .bool]) (res := [8, 9, 10]) mixed tt_ok ?_ Try.func14 (by kernel_rfl) rfl (by kernel_rfl) (by kernel_rfl) (by decide +kernel)
  · rw [spec_ShopStarts_eq] at h
    exact h
  · intro f e he
    unfold spec_ShopStarts_T at he
    split at he
    · rw [List.mem_singleton.1 he]; exact spec_l04Count_sound N
    · rw [List.mem_singleton.1 he]; exact spec_l04Shop_sound N
    · rw [List.mem_singleton.1 he]; exact spec_l04Turns_sound N
    · rw [List.mem_singleton.1 he]; exact spec_l04Turned_sound N
    · cases he

/- slices.Max[[]int64,int64] -/
def slices_Max_int64_int64 (N : Nat) (x0 : List Int) : Option (Int × Unit) :=
  cond (decide ((List.length x0 : Int) < 1))
    (none)
    (Option.bind (idx x0 0) fun v1 =>
    loopN (fun (s2 : Int × Int × Unit) next3 =>
      cond (decide (s2.2.1 < (List.length x0 : Int)))
        (Option.bind (idx x0 s2.2.1) fun v4 =>
        next3 ((imax s2.1 v4), (w64 (s2.2.1 + 1)), ()))
        (some (s2.1, ()))) N (v1, 1, ()))
def slices_Max_int64_int64_e (N : Nat) : Ent := { ins := [(.sl (.int .i64))], outs := [.val (.int .i64)], F := fun x => slices_Max_int64_int64 N x.1 }
def slices_Max_int64_int64_T (_ : Nat) : Nat → List EntX := fun _ => []
def slices_Max_int64_int64_L : Nat → List (Nat × TK)
  | 5 => [(3, .v (.int .i64)), (4, .v (.int .i64))]
  | _ => []
theorem slices_Max_int64_int64_eq (N : Nat) : runF N tt (slices_Max_int64_int64_T N) slices_Max_int64_int64_L [(.sl (.int .i64))] [.val (.int .i64)] (bodyOf Try.f31) Try.f31.ntmps [2] = (slices_Max_int64_int64_e N).F := by
  funext x
  kernel_rfl
theorem slices_Max_int64_int64_sound (N : Nat) : SoundC Try.prog 31 (slices_Max_int64_int64_e N) := by
  have h := runF_sound (f := 31) (code := bodyOf Try.f31) (N := N) (T := (slices_Max_int64_int64_T N)) (L := slices_Max_int64_int64_L) (ins := [(.sl (.int .i64))]) (outs := [.val (.int .i64)]) (res := [2]) mixed tt_ok ?_ Try.func31 (by kernel_rfl) rfl (by kernel_rfl) (by kernel_rfl) (by decide +kernel)
  · rw [slices_Max_int64_int64_eq] at h
    exact h
  · intro f e he
    cases he

/- impl.within -/
def impl_within (_N : Nat) (x0 : Int) (x1 : Int) (x2 : Int) : Option (Bool × Unit) :=
  cond (decide (x0 ≥ x1))
    (some ((decide (x0 ≤ x2)), ()))
    (some (false, ()))
def impl_within_e (N : Nat) : Ent := { ins := [(.int .i64), (.int .i64), (.int .i64)], outs := [.val .bool], F := fun x => impl_within N x.1 x.2.1 x.2.2.1 }
def impl_within_T (_ : Nat) : Nat → List EntX := fun _ => []
def impl_within_L : Nat → List (Nat × TK) := fun _ => []
theorem impl_within_eq (N : Nat) : runF N tt (impl_within_T N) impl_within_L [(.int .i64), (.int .i64), (.int .i64)] [.val .bool] (bodyOf Try.f52) Try.f52.ntmps [6] = (impl_within_e N).F := by
  funext x
  kernel_rfl
theorem impl_within_sound (N : Nat) : SoundC Try.prog 52 (impl_within_e N) := by
  have h := runF_sound (f := 52) (code := bodyOf Try.f52) (N := N) (T := (impl_within_T N)) (L := impl_within_L) (ins := [(.int .i64), (.int .i64), (.int .i64)]) (outs := [.val .bool]) (res := [6]) mixed tt_ok ?_ Try.func52 (by kernel_rfl) rfl (by kernel_rfl) (by kernel_rfl) (by decide +kernel)
  · rw [impl_within_eq] at h
    exact h
  · intro f e he
    cases he

/- impl.areWithin -/
def impl_areWithin (N : Nat) (x0 : List Int) (x1 : Int) (x2 : Int) : Option (Bool × Unit) :=
  loopN (fun (s1 : Int × Unit) next2 =>
    cond (decide (s1.1 < (List.length x0 : Int)))
      (Option.bind (idx x0 s1.1) fun v3 =>
      Option.bind (impl_within N v3 x1 x2) fun r4 =>
      cond (!r4.1)
        (some (false, ()))
        (next2 ((w64 (s1.1 + 1)), ())))
      (some (true, ()))) N (0, ())
def impl_areWithin_e (N : Nat) : Ent := { ins := [(.sl (.int .i64)), (.int .i64), (.int .i64)], outs := [.val .bool], F := fun x => impl_areWithin N x.1 x.2.1 x.2.2.1 }
def impl_areWithin_T (N : Nat) : Nat → List EntX
  | 52 => [.pl (impl_within_e N)]
  | _ => []
def impl_areWithin_L : Nat → List (Nat × TK)
  | 2 => [(11, .v (.int .i64))]
  | _ => []
theorem impl_areWithin_eq (N : Nat) : runF N tt (impl_areWithin_T N) impl_areWithin_L [(.sl (.int .i64)), (.int .i64), (.int .i64)] [.val .bool] (bodyOf Try.f36) Try.f36.ntmps [6] = (impl_areWithin_e N).F := by
  funext x
  kernel_rfl
theorem impl_areWithin_sound (N : Nat) : SoundC Try.prog 36 (impl_areWithin_e N) := by
  have h := runF_sound (f := 36) (code := bodyOf Try.f36) (N := N) (T := (impl_areWithin_T N)) (L := impl_areWithin_L) (ins := [(.sl (.int .i64)), (.int .i64), (.int .i64)]) (outs := [.val .bool]) (res := [6]) mixed tt_ok ?_ Try.func36 (by kernel_rfl) rfl (by kernel_rfl) (by kernel_rfl) (by decide +kernel)
  · rw [impl_areWithin_eq] at h
    exact h
  · intro f e he
    unfold impl_areWithin_T at he
    split at he
    · rw [List.mem_singleton.1 he]; exact impl_within_sound N
    · cases he

/- impl.areMachines -/
def impl_areMachines (N : Nat) (x0 : Int) : Option (Bool × Unit) :=
  Option.bind (impl_within N x0 1 8) fun r1 =>
  some (r1.1, ())
def impl_areMachines_e (N : Nat) : Ent := { ins := [(.int .i64)], outs := [.val .bool], F := fun x => impl_areMachines N x.1 }
def impl_areMachines_T (N : Nat) : Nat → List EntX
  | 52 => [.pl (impl_within_e N)]
  | _ => []
def impl_areMachines_L : Nat → List (Nat × TK) := fun _ => []
theorem impl_areMachines_eq (N : Nat) : runF N tt (impl_areMachines_T N) impl_areMachines_L [(.int .i64)] [.val .bool] (bodyOf Try.f82) Try.f82.ntmps [2] = (impl_areMachines_e N).F := by
  funext x
  kernel_rfl
theorem impl_areMachines_sound (N : Nat) : SoundC Try.prog 82 (impl_areMachines_e N) := by
  have h := runF_sound (f := 82) (code := bodyOf Try.f82) (N := N) (T := (impl_areMachines_T N)) (L := impl_areMachines_L) (ins := [(.int .i64)]) (outs := [.val .bool]) (res := [2]) mixed tt_ok ?_ Try.func82 (by kernel_rfl) rfl (by kernel_rfl) (by kernel_rfl) (by decide +kernel)
  · rw [impl_areMachines_eq] at h
    exact h
  · intro f e he
    unfold impl_areMachines_T at he
    split at he
    · rw [List.mem_singleton.1 he]; exact impl_within_sound N
    · cases he

/- impl.unlikeJobs -/
def impl_unlikeJobs (N : Nat) (x0 : List Int) (x1 : Int) : Option (Int × Bool × Unit) :=
  Option.bind (impl_areMachines N x1) fun r1 =>
  cond (!r1.1)
    (some (0, false, ()))
    (cond (x1 == 0) none
      (cond ((Int.tmod (List.length x0 : Int) x1) != 0)
        (some (0, false, ()))
        (Option.bind (impl_areWithin N x0 1 10000) fun r2 =>
        cond (!r2.1)
          (some (0, false, ()))
          (cond (x1 == 0) none
            (cond (decide ((w64 (Int.tdiv (List.length x0 : Int) x1)) ≥ 1))
              (some ((w64 (Int.tdiv (List.length x0 : Int) x1)), (decide ((w64 (Int.tdiv (List.length x0 : Int) x1)) ≤ 24)), ()))
              (some ((w64 (Int.tdiv (List.length x0 : Int) x1)), false, ())))))))
def impl_unlikeJobs_e (N : Nat) : Ent := { ins := [(.sl (.int .i64)), (.int .i64)], outs := [.val (.int .i64), .val .bool], F := fun x => impl_unlikeJobs N x.1 x.2.1 }
def impl_unlikeJobs_T (N : Nat) : Nat → List EntX
  | 36 => [.pl (impl_areWithin_e N)]
  | 82 => [.pl (impl_areMachines_e N)]
  | _ => []
def impl_unlikeJobs_L : Nat → List (Nat × TK) := fun _ => []
theorem impl_unlikeJobs_eq (N : Nat) : runF N tt (impl_unlikeJobs_T N) impl_unlikeJobs_L [(.sl (.int .i64)), (.int .i64)] [.val (.int .i64), .val .bool] (bodyOf Try.f69) Try.f69.ntmps [4, 5] = (impl_unlikeJobs_e N).F := by
  funext x
  kernel_rfl
theorem impl_unlikeJobs_sound (N : Nat) : SoundC Try.prog 69 (impl_unlikeJobs_e N) := by
  have h := runF_sound (f := 69) (code := bodyOf Try.f69) (N := N) (T := (impl_unlikeJobs_T N)) (L := impl_unlikeJobs_L) (ins := [(.sl (.int .i64)), (.int .i64)]) (outs := [.val (.int .i64), .val .bool]) (res := [4, 5]) mixed tt_ok ?_ Try.func69 (by kernel_rfl) rfl (by kernel_rfl) (by kernel_rfl) (by decide +kernel)
  · rw [impl_unlikeJobs_eq] at h
    exact h
  · intro f e he
    unfold impl_unlikeJobs_T at he
    split at he
    · rw [List.mem_singleton.1 he]; exact impl_areWithin_sound N
    · rw [List.mem_singleton.1 he]; exact impl_areMachines_sound N
    · cases he

/- impl.asShop -/
def impl_asShop (N : Nat) (x0 : List Int) (x1 : Int) : Option (((List Int) × Int × Int) × Bool × Unit) :=
  Option.bind (impl_unlikeJobs N x0 x1) fun r1 =>
  some ((x0, (r1.1, x1)), r1.2.1, ())
def impl_asShop_e (N : Nat) : Ent := { ins := [(.sl (.int .i64)), (.int .i64)], outs := [.val (.pair (.sl (.int .i64)) (.pair (.int .i64) (.int .i64))), .val .bool], F := fun x => impl_asShop N x.1 x.2.1 }
def impl_asShop_T (N : Nat) : Nat → List EntX
  | 69 => [.pl (impl_unlikeJobs_e N)]
  | _ => []
def impl_asShop_L : Nat → List (Nat × TK) := fun _ => []
theorem impl_asShop_eq (N : Nat) : runC N tt (impl_asShop_T N) impl_asShop_L [(.sl (.int .i64)), (.int .i64)] [.val (.pair (.sl (.int .i64)) (.pair (.int .i64) (.int .i64))), .val .bool] (bodyOf Try.f29) Try.f29.ntmps [4, 5] [(4, 44)] = (impl_asShop_e N).F := by
  funext x
  kernel_rfl
theorem impl_asShop_sound (N : Nat) : SoundC Try.prog 29 (impl_asShop_e N) := by
  have h := runC_sound (f := 29) (code := bodyOf Try.f29) (N := N) (T := (impl_asShop_T N)) (L := impl_asShop_L) (ins := [(.sl (.int .i64)), (.int .i64)]) (outs := [.val (.pair (.sl (.int .i64)) (.pair (.int .i64) (.int .i64))), .val .bool]) (res := [4, 5]) (rs := [.cell 4 44, .tmp 5]) (cells := [(4, 44)]) mixed tt_ok ?_ Try.func29 (by kernel_rfl) rfl (by kernel_rfl) (by kernel_rfl) rfl rfl (by decide) (by decide +kernel) (by decide +kernel)
  · rw [impl_asShop_eq] at h
    exact h
  · intro f e he
    unfold impl_asShop_T at he
    split at he
    · rw [List.mem_singleton.1 he]; exact impl_unlikeJobs_sound N
    · cases he

/- impl.isAll -/
def impl_isAll (N : Nat) (x0 : List Int) : Option (Bool × Unit) :=
  cond (mkOk (List.length x0 : Int) (List.length x0 : Int))
    (let xs1 := (List.replicate (Int.toNat (List.length x0 : Int)) false : List (Bool))
    loopN (fun (s2 : List (Bool) × Int × Unit) next3 =>
      cond (decide (s2.2.1 < (List.length x0 : Int)))
        (Option.bind (idx x0 s2.2.1) fun v4 =>
        Option.bind (impl_within N v4 0 (w64 ((List.length x0 : Int) - 1))) fun r5 =>
        cond (!r5.1)
          (some (false, ()))
          (cond (inB v4 (List.length s2.1))
            (Option.bind (s2.1[(Int.toNat v4)]?) fun v6 =>
            cond v6
              (some (false, ()))
              (cond (inB v4 (List.length s2.1))
                (let xs7 := (List.set s2.1 (Int.toNat v4) true)
                next3 (xs7, (w64 (s2.2.1 + 1)), ())) none)) none))
        (some (true, ()))) N (xs1, 0, ())) none
def impl_isAll_e (N : Nat) : Ent := { ins := [(.sl (.int .i64))], outs := [.val .bool], F := fun x => impl_isAll N x.1 }
def impl_isAll_T (N : Nat) : Nat → List EntX
  | 52 => [.pl (impl_within_e N)]
  | _ => []
def impl_isAll_L : Nat → List (Nat × TK)
  | 3 => [(3, .own .bool), (11, .v (.int .i64))]
  | _ => []
theorem impl_isAll_eq (N : Nat) : runF N tt (impl_isAll_T N) impl_isAll_L [(.sl (.int .i64))] [.val .bool] (bodyOf Try.f85) Try.f85.ntmps [2] = (impl_isAll_e N).F := by
  funext x
  kernel_rfl
theorem impl_isAll_sound (N : Nat) : SoundC Try.prog 85 (impl_isAll_e N) := by
  have h := runF_sound (f := 85) (code := bodyOf Try.f85) (N := N) (T := (impl_isAll_T N)) (L := impl_isAll_L) (ins := [(.sl (.int .i64))]) (outs := [.val .bool]) (res := [2]) mixed tt_ok ?_ Try.func85 (by kernel_rfl) rfl (by kernel_rfl) (by kernel_rfl) (by decide +kernel)
  · rw [impl_isAll_eq] at h
    exact h
  · intro f e he
    unfold impl_isAll_T at he
    split at he
    · rw [List.mem_singleton.1 he]; exact impl_within_sound N
    · cases he

/- impl.AreRoutes -/
def impl_AreRoutes (N : Nat) (x0 : List (Int)) (x1 : Int) : Option (Bool × Unit) :=
  routesF (impl_areMachines N) (impl_isAll N) x0 x1
def impl_AreRoutes_e (N : Nat) : Ent := { ins := [(.sl (.int .i64)), (.int .i64)], outs := [.val .bool], F := fun x => impl_AreRoutes N x.1 x.2.1 }
theorem impl_AreRoutes_sound (N : Nat) : SoundC Try.prog 71 (impl_AreRoutes_e N) := routes_sound (impl_areMachines_sound N) (impl_isAll_sound N)

/- impl.routed -/
def impl_routed (N : Nat) (x0 : List Int) (x1 : List Int) (x2 : Int) : Option (((List Int) × Int × Int) × Bool × Unit) :=
  Option.bind (impl_asShop N x1 x2) fun r1 =>
  cond r1.2.1
    (cond ((List.length x0 : Int) == (List.length x1 : Int))
      (Option.bind (impl_AreRoutes N x0 x2) fun r2 =>
      some ((r1.1.1, (r1.1.2.1, r1.1.2.2)), r2.1, ()))
      (some ((r1.1.1, (r1.1.2.1, r1.1.2.2)), false, ())))
    (some ((r1.1.1, (r1.1.2.1, r1.1.2.2)), false, ()))
def impl_routed_e (N : Nat) : Ent := { ins := [(.sl (.int .i64)), (.sl (.int .i64)), (.int .i64)], outs := [.val (.pair (.sl (.int .i64)) (.pair (.int .i64) (.int .i64))), .val .bool], F := fun x => impl_routed N x.1 x.2.1 x.2.2.1 }
def impl_routed_T (N : Nat) : Nat → List EntX
  | 29 => [.pl (impl_asShop_e N)]
  | 71 => [.pl (impl_AreRoutes_e N)]
  | _ => []
def impl_routed_L : Nat → List (Nat × TK) := fun _ => []
theorem impl_routed_eq (N : Nat) : runC N tt (impl_routed_T N) impl_routed_L [(.sl (.int .i64)), (.sl (.int .i64)), (.int .i64)] [.val (.pair (.sl (.int .i64)) (.pair (.int .i64) (.int .i64))), .val .bool] (bodyOf Try.f35) Try.f35.ntmps [6, 7] [(6, 44)] = (impl_routed_e N).F := by
  funext x
  kernel_rfl
theorem impl_routed_sound (N : Nat) : SoundC Try.prog 35 (impl_routed_e N) := by
  have h := runC_sound (f := 35) (code := bodyOf Try.f35) (N := N) (T := (impl_routed_T N)) (L := impl_routed_L) (ins := [(.sl (.int .i64)), (.sl (.int .i64)), (.int .i64)]) (outs := [.val (.pair (.sl (.int .i64)) (.pair (.int .i64) (.int .i64))), .val .bool]) (res := [6, 7]) (rs := [.cell 6 44, .tmp 7]) (cells := [(6, 44)]) mixed tt_ok ?_ Try.func35 (by kernel_rfl) rfl (by kernel_rfl) (by kernel_rfl) rfl rfl (by decide) (by decide +kernel) (by decide +kernel)
  · rw [impl_routed_eq] at h
    exact h
  · intro f e he
    unfold impl_routed_T at he
    split at he
    · rw [List.mem_singleton.1 he]; exact impl_asShop_sound N
    · rw [List.mem_singleton.1 he]; exact impl_AreRoutes_sound N
    · cases he

/- impl.ShopStarts -/
def impl_ShopStarts (N : Nat) (x0 : List Int) (x1 : List Int) (x2 : Int) (x3 : List Int) : Option (List (Int) × Int × Bool × Unit) :=
  startF (impl_routed N) (impl_areWithin N) (slices_Max_int64_int64 N) x0 x1 x2 x3
def impl_ShopStarts_e (N : Nat) : Ent := { ins := [(.sl (.int .i64)), (.sl (.int .i64)), (.int .i64), (.sl (.int .i64))], outs := [.own (.int .i64), .val (.int .i64), .val .bool], F := fun x => impl_ShopStarts N x.1 x.2.1 x.2.2.1 x.2.2.2.1 }
theorem impl_ShopStarts_sound (N : Nat) : SoundC Try.prog 15 (impl_ShopStarts_e N) := start_sound (impl_routed_sound N) (impl_areWithin_sound N) (slices_Max_int64_int64_sound N)

/- laws.FnExactShopStarts -/
def laws_FnExactShopStarts (N : Nat) (x0 : List Int) (x1 : List Int) (x2 : Int) (x3 : List Int) : Option (Bool × Unit) :=
  cond (decide ((List.length x0 : Int) > 1048576))
    (some (true, ()))
    (cond (decide ((List.length x1 : Int) > 1048576))
      (some (true, ()))
      (cond (decide ((List.length x3 : Int) > 1048576))
        (some (true, ()))
        (Option.bind (laws_toInt64S N x0) fun r1 =>
        Option.bind (laws_toInt64S N x1) fun r2 =>
        Option.bind (laws_toInt64S N x3) fun r3 =>
        Option.bind (spec_ShopStarts N r1.1 r2.1 x2 r3.1) fun r4 =>
        Option.bind (laws_toInt64S N x0) fun r5 =>
        Option.bind (laws_toInt64S N x1) fun r6 =>
        Option.bind (laws_toInt64S N x3) fun r7 =>
        Option.bind (impl_ShopStarts N r5.1 r6.1 x2 r7.1) fun r8 =>
        Option.bind (laws_eqInt64S N r8.1 r4.1) fun r9 =>
        cond (!r9.1)
          (some (false, ()))
          (cond (r8.2.1 != r4.2.1)
            (some (false, ()))
            (cond (!(r8.2.2.1 == r4.2.2.1))
              (some (false, ()))
              (Option.bind (laws_toInt64S N x0) fun r10 =>
              Option.bind (laws_eqInt64S N r5.1 r10.1) fun r11 =>
              cond (!r11.1)
                (some (false, ()))
                (Option.bind (laws_toInt64S N x1) fun r12 =>
                Option.bind (laws_eqInt64S N r6.1 r12.1) fun r13 =>
                cond (!r13.1)
                  (some (false, ()))
                  (Option.bind (laws_toInt64S N x3) fun r14 =>
                  Option.bind (laws_eqInt64S N r7.1 r14.1) fun r15 =>
                  cond (!r15.1)
                    (some (false, ()))
                    (Option.bind (laws_markInt64S N r5.1 1) fun r16 =>
                    cond (Nat.beq (List.length r16.1) (List.length r5.1))
                      (Option.bind (laws_markInt64S N r6.1 r16.2.1) fun r17 =>
                      cond (Nat.beq (List.length r17.1) (List.length r6.1))
                        (Option.bind (laws_markInt64S N r7.1 r17.2.1) fun r18 =>
                        cond (Nat.beq (List.length r18.1) (List.length r7.1))
                          (cond (decide (r18.2.1 < 0))
                            (some (false, ()))
                            (Option.bind (laws_eqInt64S N r8.1 r4.1) fun r19 =>
                            cond (!r19.1)
                              (some (false, ()))
                              (cond (r8.2.1 != r4.2.1)
                                (some (false, ()))
                                (cond (!(r8.2.2.1 == r4.2.2.1))
                                  (some (false, ()))
                                  (Option.bind (laws_markInt64S N r8.1 1) fun r20 =>
                                  cond (Nat.beq (List.length r20.1) (List.length r8.1))
                                    (Option.bind (laws_heldInt64S N r20.1 1) fun r21 =>
                                    cond (decide (r21.1 < 0))
                                      (some (false, ()))
                                      (cond (r21.1 != r20.2.1)
                                        (some (false, ()))
                                        (Option.bind (laws_toInt64S N x0) fun r22 =>
                                        Option.bind (laws_toInt64S N x1) fun r23 =>
                                        Option.bind (laws_toInt64S N x3) fun r24 =>
                                        Option.bind (impl_ShopStarts N r22.1 r23.1 x2 r24.1) fun r25 =>
                                        Option.bind (laws_eqInt64S N r25.1 r4.1) fun r26 =>
                                        cond (!r26.1)
                                          (some (false, ()))
                                          (cond (r25.2.1 != r4.2.1)
                                            (some (false, ()))
                                            (cond (!(r25.2.2.1 == r4.2.2.1))
                                              (some (false, ()))
                                              (Option.bind (laws_heldInt64S N r20.1 1) fun r27 =>
                                              cond (decide (r27.1 < 0))
                                                (some (false, ()))
                                                (cond (r27.1 != r20.2.1)
                                                  (some (false, ()))
                                                  (some (true, ()))))))))) none))))) none) none) none)))))))))
def laws_FnExactShopStarts_e (N : Nat) : Ent := { ins := [(.sl (.int .i64)), (.sl (.int .i64)), (.int .i64), (.sl (.int .i64))], outs := [.val .bool], F := fun x => laws_FnExactShopStarts N x.1 x.2.1 x.2.2.1 x.2.2.2.1 }
def laws_FnExactShopStarts_T (N : Nat) : Nat → List EntX
  | 9 => [.pl (laws_toInt64S_e N)]
  | 11 => [.pl (laws_eqInt64S_e N)]
  | 12 => [.mu (laws_markInt64S_e N)]
  | 13 => [.pl (laws_heldInt64S_e N)]
  | 14 => [.pl (spec_ShopStarts_e N)]
  | 15 => [.pl (impl_ShopStarts_e N)]
  | _ => []
def laws_FnExactShopStarts_L : Nat → List (Nat × TK) := fun _ => []
theorem laws_FnExactShopStarts_eq (N : Nat) : runF N tt (laws_FnExactShopStarts_T N) laws_FnExactShopStarts_L [(.sl (.int .i64)), (.sl (.int .i64)), (.int .i64), (.sl (.int .i64))] [.val .bool] (bodyOf Try.f4) Try.f4.ntmps [8] = (laws_FnExactShopStarts_e N).F := by
  funext x
  kernel_rfl
theorem laws_FnExactShopStarts_sound (N : Nat) : SoundC Try.prog 4 (laws_FnExactShopStarts_e N) := by
  have h := runF_sound (f := 4) (code := bodyOf Try.f4) (N := N) (T := (laws_FnExactShopStarts_T N)) (L := laws_FnExactShopStarts_L) (ins := [(.sl (.int .i64)), (.sl (.int .i64)), (.int .i64), (.sl (.int .i64))]) (outs := [.val .bool]) (res := [8]) mixed tt_ok ?_ Try.func4 (by kernel_rfl) rfl (by kernel_rfl) (by kernel_rfl) (by decide +kernel)
  · rw [laws_FnExactShopStarts_eq] at h
    exact h
  · intro f e he
    unfold laws_FnExactShopStarts_T at he
    split at he
    · rw [List.mem_singleton.1 he]; exact laws_toInt64S_sound N
    · rw [List.mem_singleton.1 he]; exact laws_eqInt64S_sound N
    · rw [List.mem_singleton.1 he]; exact laws_markInt64S_sound N
    · rw [List.mem_singleton.1 he]; exact laws_heldInt64S_sound N
    · rw [List.mem_singleton.1 he]; exact spec_ShopStarts_sound N
    · rw [List.mem_singleton.1 he]; exact impl_ShopStarts_sound N
    · cases he

/- spec.BestShop -/
def spec_BestShop (N : Nat) (x0 : List Int) (x1 : List Int) (x2 : Int) : Option (List (Int) × Int × Bool × Unit) :=
  lookF (spec_l04Shop N) (spec_l04Count N) (spec_l04Turned N) x0 x1 x2
def spec_BestShop_e (N : Nat) : Ent := { ins := [(.sl (.int .i64)), (.sl (.int .i64)), (.int .i64)], outs := [.own (.int .i64), .val (.int .i64), .val .bool], F := fun x => spec_BestShop N x.1 x.2.1 x.2.2.1 }
theorem spec_BestShop_sound (N : Nat) : SoundC Try.prog 16 (spec_BestShop_e N) := look_sound (spec_l04Shop_sound N) (spec_l04Count_sound N) (spec_l04Turned_sound N)

/- slices.Clone[[]int,int] -/
def slices_Clone_int_int (_N : Nat) (x0 : List Int) : Option (List (Int) × Unit) :=
  cond (List.isEmpty x0) none
    (cond (appOk (List.length ([] : List Int)) (List.length x0))
      (let xs1 := (([] : List Int) ++ x0)
      some (xs1, ())) none)
def slices_Clone_int_int_e (N : Nat) : Ent := { ins := [(.sl (.int .i64))], outs := [.own (.int .i64)], F := fun x => slices_Clone_int_int N x.1 }
def slices_Clone_int_int_T (_ : Nat) : Nat → List EntX := fun _ => []
def slices_Clone_int_int_L : Nat → List (Nat × TK) := fun _ => []
theorem slices_Clone_int_int_eq (N : Nat) : runF N tt (slices_Clone_int_int_T N) slices_Clone_int_int_L [(.sl (.int .i64))] [.own (.int .i64)] (bodyOf Try.f42) Try.f42.ntmps [2] = (slices_Clone_int_int_e N).F := by
  funext x
  kernel_rfl
theorem slices_Clone_int_int_sound (N : Nat) : SoundC Try.prog 42 (slices_Clone_int_int_e N) := by
  have h := runF_sound (f := 42) (code := bodyOf Try.f42) (N := N) (T := (slices_Clone_int_int_T N)) (L := slices_Clone_int_int_L) (ins := [(.sl (.int .i64))]) (outs := [.own (.int .i64)]) (res := [2]) mixed tt_ok ?_ Try.func42 (by kernel_rfl) rfl (by kernel_rfl) (by kernel_rfl) (by decide +kernel)
  · rw [slices_Clone_int_int_eq] at h
    exact h
  · intro f e he
    cases he

/- slices.Clone[[]int64,int64] -/
def slices_Clone_int64_int64_ne (_N : Nat) (x0 : List Int) : Option (List (Int) × Unit) :=
  cond (List.isEmpty x0) none
    (cond (appOk (List.length ([] : List Int)) (List.length x0))
      (let xs1 := (([] : List Int) ++ x0)
      some (xs1, ())) none)
def slices_Clone_int64_int64_ne_e (N : Nat) : Ent := { ins := [(.sl (.int .i64))], outs := [.own (.int .i64)], F := fun x => slices_Clone_int64_int64_ne N x.1 }
def slices_Clone_int64_int64_ne_T (_ : Nat) : Nat → List EntX := fun _ => []
def slices_Clone_int64_int64_ne_L : Nat → List (Nat × TK) := fun _ => []
theorem slices_Clone_int64_int64_ne_eq (N : Nat) : runF N tt (slices_Clone_int64_int64_ne_T N) slices_Clone_int64_int64_ne_L [(.sl (.int .i64))] [.own (.int .i64)] (bodyOf Try.f41) Try.f41.ntmps [2] = (slices_Clone_int64_int64_ne_e N).F := by
  funext x
  kernel_rfl
theorem slices_Clone_int64_int64_ne_sound (N : Nat) : SoundC Try.prog 41 (slices_Clone_int64_int64_ne_e N) := by
  have h := runF_sound (f := 41) (code := bodyOf Try.f41) (N := N) (T := (slices_Clone_int64_int64_ne_T N)) (L := slices_Clone_int64_int64_ne_L) (ins := [(.sl (.int .i64))]) (outs := [.own (.int .i64)]) (res := [2]) mixed tt_ok ?_ Try.func41 (by kernel_rfl) rfl (by kernel_rfl) (by kernel_rfl) (by decide +kernel)
  · rw [slices_Clone_int64_int64_ne_eq] at h
    exact h
  · intro f e he
    cases he

/- slices.Clone[[]int64,int64] -/
def slices_Clone_int64_int64 (_N : Nat) (x0 : List Int) : Option (List Int × Unit) := cond (appOk 0 (List.length x0)) (some (x0, ())) none
def slices_Clone_int64_int64_e (N : Nat) : Ent := { ins := [(.sl (.int .i64))], outs := [.own (.int .i64)], F := fun x => slices_Clone_int64_int64 N x.1 }
theorem slices_Clone_int64_int64_sound (N : Nat) : SoundC Try.prog 41 (slices_Clone_int64_int64_e N) := clone_sound (slices_Clone_int64_int64_ne_sound N) fun x h1 h2 => by
  show slices_Clone_int64_int64_ne N x.1 = _
  unfold slices_Clone_int64_int64_ne
  simp only [isEmpty_no h1, cond_false]
  exact congrArg (fun b => cond b _ _) h2

/- impl.BestShop -/
def impl_BestShop (N : Nat) (x0 : List Int) (x1 : List Int) (x2 : Int) : Option (List (Int) × Int × Bool × Unit) :=
  bestF (impl_routed N) (slices_Max_int64_int64 N) (slices_Clone_int_int N) (slices_Clone_int64_int64 N) x0 x1 x2
def impl_BestShop_e (N : Nat) : Ent := { ins := [(.sl (.int .i64)), (.sl (.int .i64)), (.int .i64)], outs := [.own (.int .i64), .val (.int .i64), .val .bool], F := fun x => impl_BestShop N x.1 x.2.1 x.2.2.1 }
theorem impl_BestShop_sound (N : Nat) : SoundC Try.prog 17 (impl_BestShop_e N) := bestShop_sound (impl_routed_sound N) (slices_Max_int64_int64_sound N) (slices_Clone_int_int_sound N) (slices_Clone_int64_int64_sound N)

/- laws.FnExactBestShop -/
def laws_FnExactBestShop (N : Nat) (x0 : List Int) (x1 : List Int) (x2 : Int) : Option (Bool × Unit) :=
  cond (decide ((List.length x0 : Int) > 1048576))
    (some (true, ()))
    (cond (decide ((List.length x1 : Int) > 1048576))
      (some (true, ()))
      (Option.bind (laws_toInt64S N x0) fun r1 =>
      Option.bind (laws_toInt64S N x1) fun r2 =>
      Option.bind (spec_BestShop N r1.1 r2.1 x2) fun r3 =>
      Option.bind (laws_toInt64S N x0) fun r4 =>
      Option.bind (laws_toInt64S N x1) fun r5 =>
      Option.bind (impl_BestShop N r4.1 r5.1 x2) fun r6 =>
      Option.bind (laws_eqInt64S N r6.1 r3.1) fun r7 =>
      cond (!r7.1)
        (some (false, ()))
        (cond (r6.2.1 != r3.2.1)
          (some (false, ()))
          (cond (!(r6.2.2.1 == r3.2.2.1))
            (some (false, ()))
            (Option.bind (laws_toInt64S N x0) fun r8 =>
            Option.bind (laws_eqInt64S N r4.1 r8.1) fun r9 =>
            cond (!r9.1)
              (some (false, ()))
              (Option.bind (laws_toInt64S N x1) fun r10 =>
              Option.bind (laws_eqInt64S N r5.1 r10.1) fun r11 =>
              cond (!r11.1)
                (some (false, ()))
                (Option.bind (laws_markInt64S N r4.1 1) fun r12 =>
                cond (Nat.beq (List.length r12.1) (List.length r4.1))
                  (Option.bind (laws_markInt64S N r5.1 r12.2.1) fun r13 =>
                  cond (Nat.beq (List.length r13.1) (List.length r5.1))
                    (cond (decide (r13.2.1 < 0))
                      (some (false, ()))
                      (Option.bind (laws_eqInt64S N r6.1 r3.1) fun r14 =>
                      cond (!r14.1)
                        (some (false, ()))
                        (cond (r6.2.1 != r3.2.1)
                          (some (false, ()))
                          (cond (!(r6.2.2.1 == r3.2.2.1))
                            (some (false, ()))
                            (Option.bind (laws_markInt64S N r6.1 1) fun r15 =>
                            cond (Nat.beq (List.length r15.1) (List.length r6.1))
                              (Option.bind (laws_heldInt64S N r15.1 1) fun r16 =>
                              cond (decide (r16.1 < 0))
                                (some (false, ()))
                                (cond (r16.1 != r15.2.1)
                                  (some (false, ()))
                                  (Option.bind (laws_toInt64S N x0) fun r17 =>
                                  Option.bind (laws_toInt64S N x1) fun r18 =>
                                  Option.bind (impl_BestShop N r17.1 r18.1 x2) fun r19 =>
                                  Option.bind (laws_eqInt64S N r19.1 r3.1) fun r20 =>
                                  cond (!r20.1)
                                    (some (false, ()))
                                    (cond (r19.2.1 != r3.2.1)
                                      (some (false, ()))
                                      (cond (!(r19.2.2.1 == r3.2.2.1))
                                        (some (false, ()))
                                        (Option.bind (laws_heldInt64S N r15.1 1) fun r21 =>
                                        cond (decide (r21.1 < 0))
                                          (some (false, ()))
                                          (cond (r21.1 != r15.2.1)
                                            (some (false, ()))
                                            (some (true, ()))))))))) none))))) none) none)))))))
def laws_FnExactBestShop_e (N : Nat) : Ent := { ins := [(.sl (.int .i64)), (.sl (.int .i64)), (.int .i64)], outs := [.val .bool], F := fun x => laws_FnExactBestShop N x.1 x.2.1 x.2.2.1 }
def laws_FnExactBestShop_T (N : Nat) : Nat → List EntX
  | 9 => [.pl (laws_toInt64S_e N)]
  | 11 => [.pl (laws_eqInt64S_e N)]
  | 12 => [.mu (laws_markInt64S_e N)]
  | 13 => [.pl (laws_heldInt64S_e N)]
  | 16 => [.pl (spec_BestShop_e N)]
  | 17 => [.pl (impl_BestShop_e N)]
  | _ => []
def laws_FnExactBestShop_L : Nat → List (Nat × TK) := fun _ => []
theorem laws_FnExactBestShop_eq (N : Nat) : runF N tt (laws_FnExactBestShop_T N) laws_FnExactBestShop_L [(.sl (.int .i64)), (.sl (.int .i64)), (.int .i64)] [.val .bool] (bodyOf Try.f5) Try.f5.ntmps [6] = (laws_FnExactBestShop_e N).F := by
  funext x
  kernel_rfl
theorem laws_FnExactBestShop_sound (N : Nat) : SoundC Try.prog 5 (laws_FnExactBestShop_e N) := by
  have h := runF_sound (f := 5) (code := bodyOf Try.f5) (N := N) (T := (laws_FnExactBestShop_T N)) (L := laws_FnExactBestShop_L) (ins := [(.sl (.int .i64)), (.sl (.int .i64)), (.int .i64)]) (outs := [.val .bool]) (res := [6]) mixed tt_ok ?_ Try.func5 (by kernel_rfl) rfl (by kernel_rfl) (by kernel_rfl) (by decide +kernel)
  · rw [laws_FnExactBestShop_eq] at h
    exact h
  · intro f e he
    unfold laws_FnExactBestShop_T at he
    split at he
    · rw [List.mem_singleton.1 he]; exact laws_toInt64S_sound N
    · rw [List.mem_singleton.1 he]; exact laws_eqInt64S_sound N
    · rw [List.mem_singleton.1 he]; exact laws_markInt64S_sound N
    · rw [List.mem_singleton.1 he]; exact laws_heldInt64S_sound N
    · rw [List.mem_singleton.1 he]; exact spec_BestShop_sound N
    · rw [List.mem_singleton.1 he]; exact impl_BestShop_sound N
    · cases he

end Go.Proofs.Ytgcmklniacjcfaa
