/-
  The stable sort of the library over a comparator, as the functions of the seats are printed. No condition.
-/
import Derived.Test.YtkcdhdnmmpapdaaFwV
namespace Go.Proofs.Ytkcdhdnmmpapdaa
open Go Go.Proofs.Ytkcdhdnmmpapdaa.Fw
set_option linter.unusedVariables false

def insG (N : Nat) (cmp : Int → Int → Option (Int × Unit)) (x0 : List Int) (x1 : Int) (x2 : Int)  : Option (List (Int) × (Unit)) :=
  loopN (fun (s1 : List (Int) × Int × Unit) next2 =>
    cond (decide (s1.2.1 < x2))
      (loopN (fun (s3 : List (Int) × Int × Unit) next4 =>
        cond (decide (s3.2.1 > x1))
          (cond (inB s3.2.1 (List.length s3.1))
            (Option.bind (s3.1[(Int.toNat s3.2.1)]?) fun v5 =>
            cond (inB (w64 (s3.2.1 - 1)) (List.length s3.1))
              (Option.bind (s3.1[(Int.toNat (w64 (s3.2.1 - 1)))]?) fun v6 =>
              Option.bind (cmp v5 v6) fun r7 =>
              cond (decide (r7.1 < 0))
                (cond (inB (w64 (s3.2.1 - 1)) (List.length s3.1))
                  (Option.bind (s3.1[(Int.toNat (w64 (s3.2.1 - 1)))]?) fun v8 =>
                  cond (inB s3.2.1 (List.length s3.1))
                    (Option.bind (s3.1[(Int.toNat s3.2.1)]?) fun v9 =>
                    cond (inB s3.2.1 (List.length s3.1))
                      (let xs10 := (List.set s3.1 (Int.toNat s3.2.1) v8)
                      cond (inB (w64 (s3.2.1 - 1)) (List.length xs10))
                        (let xs11 := (List.set xs10 (Int.toNat (w64 (s3.2.1 - 1))) v9)
                        next4 (xs11, (w64 (s3.2.1 - 1)), ())) none) none) none) none)
                (next2 (s3.1, (w64 (s1.2.1 + 1)), ()))) none) none)
          (next2 (s3.1, (w64 (s1.2.1 + 1)), ()))) N (s1.1, s1.2.1, ()))
      (some (s1.1, ()))) N (x0, (w64 (x1 + 1)), ())

def swapG (N : Nat) (cmp : Int → Int → Option (Int × Unit)) (x0 : List Int) (x1 : Int) (x2 : Int) (x3 : Int)  : Option (List (Int) × (Unit)) :=
  loopN (fun (s1 : List (Int) × Int × Unit) next2 =>
    cond (decide (s1.2.1 < x3))
      (cond (inB (w64 (x2 + s1.2.1)) (List.length s1.1))
        (Option.bind (s1.1[(Int.toNat (w64 (x2 + s1.2.1)))]?) fun v3 =>
        cond (inB (w64 (x1 + s1.2.1)) (List.length s1.1))
          (Option.bind (s1.1[(Int.toNat (w64 (x1 + s1.2.1)))]?) fun v4 =>
          cond (inB (w64 (x1 + s1.2.1)) (List.length s1.1))
            (let xs5 := (List.set s1.1 (Int.toNat (w64 (x1 + s1.2.1))) v3)
            cond (inB (w64 (x2 + s1.2.1)) (List.length xs5))
              (let xs6 := (List.set xs5 (Int.toNat (w64 (x2 + s1.2.1))) v4)
              next2 (xs6, (w64 (s1.2.1 + 1)), ())) none) none) none) none)
      (some (s1.1, ()))) N (x0, 0, ())

def rotG (N : Nat) (cmp : Int → Int → Option (Int × Unit)) (x0 : List Int) (x1 : Int) (x2 : Int) (x3 : Int)  : Option (List (Int) × (Unit)) :=
  loopN (fun (s1 : List (Int) × Int × Int × Unit) next2 =>
    cond (s1.2.1 != s1.2.2.1)
      (cond (decide (s1.2.1 > s1.2.2.1))
        (Option.bind (swapG N cmp s1.1 (w64 (x2 - s1.2.1)) x2 s1.2.2.1) fun r3 =>
        cond (Nat.beq (List.length r3.1) (List.length s1.1))
          (next2 (r3.1, (w64 (s1.2.1 - s1.2.2.1)), s1.2.2.1, ())) none)
        (Option.bind (swapG N cmp s1.1 (w64 (x2 - s1.2.1)) (w64 ((w64 (x2 + s1.2.2.1)) - s1.2.1)) s1.2.1) fun r4 =>
        cond (Nat.beq (List.length r4.1) (List.length s1.1))
          (next2 (r4.1, s1.2.1, (w64 (s1.2.2.1 - s1.2.1)), ())) none))
      (Option.bind (swapG N cmp s1.1 (w64 (x2 - s1.2.1)) x2 s1.2.1) fun r5 =>
      cond (Nat.beq (List.length r5.1) (List.length s1.1))
        (some (r5.1, ())) none)) N (x0, (w64 (x2 - x1)), (w64 (x3 - x2)), ())

def symG_step (N : Nat) (cmp : Int → Int → Option (Int × Unit)) (self : List (Int) → Int → Int → Int → Option (List (Int) × (Unit))) (x0 : List Int) (x1 : Int) (x2 : Int) (x3 : Int)  : Option (List (Int) × (Unit)) :=
  cond ((w64 (x2 - x1)) == 1)
    (loopN (fun (s1 : Int × Int × Unit) next2 =>
      cond (decide (s1.1 < s1.2.1))
        (cond (inB (IntKind.wrap .i64 (ishr .u64 (IntKind.wrap .u64 (w64 (s1.1 + s1.2.1))) 1)) (List.length x0))
          (Option.bind (x0[(Int.toNat (IntKind.wrap .i64 (ishr .u64 (IntKind.wrap .u64 (w64 (s1.1 + s1.2.1))) 1)))]?) fun v3 =>
          cond (inB x1 (List.length x0))
            (Option.bind (x0[(Int.toNat x1)]?) fun v4 =>
            Option.bind (cmp v3 v4) fun r5 =>
            cond (decide (r5.1 < 0))
              (next2 ((w64 ((IntKind.wrap .i64 (ishr .u64 (IntKind.wrap .u64 (w64 (s1.1 + s1.2.1))) 1)) + 1)), s1.2.1, ()))
              (next2 (s1.1, (IntKind.wrap .i64 (ishr .u64 (IntKind.wrap .u64 (w64 (s1.1 + s1.2.1))) 1)), ()))) none) none)
        (loopN (fun (s6 : List (Int) × Int × Unit) next7 =>
          cond (decide (s6.2.1 < (w64 (s1.1 - 1))))
            (cond (inB (w64 (s6.2.1 + 1)) (List.length s6.1))
              (Option.bind (s6.1[(Int.toNat (w64 (s6.2.1 + 1)))]?) fun v8 =>
              cond (inB s6.2.1 (List.length s6.1))
                (Option.bind (s6.1[(Int.toNat s6.2.1)]?) fun v9 =>
                cond (inB s6.2.1 (List.length s6.1))
                  (let xs10 := (List.set s6.1 (Int.toNat s6.2.1) v8)
                  cond (inB (w64 (s6.2.1 + 1)) (List.length xs10))
                    (let xs11 := (List.set xs10 (Int.toNat (w64 (s6.2.1 + 1))) v9)
                    next7 (xs11, (w64 (s6.2.1 + 1)), ())) none) none) none) none)
            (some (s6.1, ()))) N (x0, x1, ()))) N (x2, x3, ()))
    (cond ((w64 (x3 - x2)) == 1)
      (loopN (fun (s12 : Int × Int × Unit) next13 =>
        cond (decide (s12.1 < s12.2.1))
          (cond (inB x2 (List.length x0))
            (Option.bind (x0[(Int.toNat x2)]?) fun v14 =>
            cond (inB (IntKind.wrap .i64 (ishr .u64 (IntKind.wrap .u64 (w64 (s12.1 + s12.2.1))) 1)) (List.length x0))
              (Option.bind (x0[(Int.toNat (IntKind.wrap .i64 (ishr .u64 (IntKind.wrap .u64 (w64 (s12.1 + s12.2.1))) 1)))]?) fun v15 =>
              Option.bind (cmp v14 v15) fun r16 =>
              cond (!(decide (r16.1 < 0)))
                (next13 ((w64 ((IntKind.wrap .i64 (ishr .u64 (IntKind.wrap .u64 (w64 (s12.1 + s12.2.1))) 1)) + 1)), s12.2.1, ()))
                (next13 (s12.1, (IntKind.wrap .i64 (ishr .u64 (IntKind.wrap .u64 (w64 (s12.1 + s12.2.1))) 1)), ()))) none) none)
          (loopN (fun (s17 : List (Int) × Int × Unit) next18 =>
            cond (decide (s17.2.1 > s12.1))
              (cond (inB (w64 (s17.2.1 - 1)) (List.length s17.1))
                (Option.bind (s17.1[(Int.toNat (w64 (s17.2.1 - 1)))]?) fun v19 =>
                cond (inB s17.2.1 (List.length s17.1))
                  (Option.bind (s17.1[(Int.toNat s17.2.1)]?) fun v20 =>
                  cond (inB s17.2.1 (List.length s17.1))
                    (let xs21 := (List.set s17.1 (Int.toNat s17.2.1) v19)
                    cond (inB (w64 (s17.2.1 - 1)) (List.length xs21))
                      (let xs22 := (List.set xs21 (Int.toNat (w64 (s17.2.1 - 1))) v20)
                      next18 (xs22, (w64 (s17.2.1 - 1)), ())) none) none) none) none)
              (some (s17.1, ()))) N (x0, x2, ()))) N (x1, x2, ()))
      (cond (decide (x2 > (IntKind.wrap .i64 (ishr .u64 (IntKind.wrap .u64 (w64 (x1 + x3))) 1))))
        (loopN (fun (s23 : Int × Int × Unit) next24 =>
          cond (decide (s23.1 < s23.2.1))
            (cond (inB (w64 ((w64 ((w64 ((IntKind.wrap .i64 (ishr .u64 (IntKind.wrap .u64 (w64 (x1 + x3))) 1)) + x2)) - 1)) - (IntKind.wrap .i64 (ishr .u64 (IntKind.wrap .u64 (w64 (s23.1 + s23.2.1))) 1)))) (List.length x0))
              (Option.bind (x0[(Int.toNat (w64 ((w64 ((w64 ((IntKind.wrap .i64 (ishr .u64 (IntKind.wrap .u64 (w64 (x1 + x3))) 1)) + x2)) - 1)) - (IntKind.wrap .i64 (ishr .u64 (IntKind.wrap .u64 (w64 (s23.1 + s23.2.1))) 1)))))]?) fun v25 =>
              cond (inB (IntKind.wrap .i64 (ishr .u64 (IntKind.wrap .u64 (w64 (s23.1 + s23.2.1))) 1)) (List.length x0))
                (Option.bind (x0[(Int.toNat (IntKind.wrap .i64 (ishr .u64 (IntKind.wrap .u64 (w64 (s23.1 + s23.2.1))) 1)))]?) fun v26 =>
                Option.bind (cmp v25 v26) fun r27 =>
                cond (!(decide (r27.1 < 0)))
                  (next24 ((w64 ((IntKind.wrap .i64 (ishr .u64 (IntKind.wrap .u64 (w64 (s23.1 + s23.2.1))) 1)) + 1)), s23.2.1, ()))
                  (next24 (s23.1, (IntKind.wrap .i64 (ishr .u64 (IntKind.wrap .u64 (w64 (s23.1 + s23.2.1))) 1)), ()))) none) none)
            (cond (decide (s23.1 < x2))
              (cond (decide (x2 < (w64 ((w64 ((IntKind.wrap .i64 (ishr .u64 (IntKind.wrap .u64 (w64 (x1 + x3))) 1)) + x2)) - s23.1))))
                (Option.bind (rotG N cmp x0 s23.1 x2 (w64 ((w64 ((IntKind.wrap .i64 (ishr .u64 (IntKind.wrap .u64 (w64 (x1 + x3))) 1)) + x2)) - s23.1))) fun r28 =>
                cond (Nat.beq (List.length r28.1) (List.length x0))
                  (cond (decide (x1 < s23.1))
                    (cond (decide (s23.1 < (IntKind.wrap .i64 (ishr .u64 (IntKind.wrap .u64 (w64 (x1 + x3))) 1))))
                      (Option.bind (self r28.1 x1 s23.1 (IntKind.wrap .i64 (ishr .u64 (IntKind.wrap .u64 (w64 (x1 + x3))) 1))) fun r29 =>
                      cond (Nat.beq (List.length r29.1) (List.length r28.1))
                        (cond (decide ((IntKind.wrap .i64 (ishr .u64 (IntKind.wrap .u64 (w64 (x1 + x3))) 1)) < (w64 ((w64 ((IntKind.wrap .i64 (ishr .u64 (IntKind.wrap .u64 (w64 (x1 + x3))) 1)) + x2)) - s23.1))))
                          (cond (decide ((w64 ((w64 ((IntKind.wrap .i64 (ishr .u64 (IntKind.wrap .u64 (w64 (x1 + x3))) 1)) + x2)) - s23.1)) < x3))
                            (Option.bind (self r29.1 (IntKind.wrap .i64 (ishr .u64 (IntKind.wrap .u64 (w64 (x1 + x3))) 1)) (w64 ((w64 ((IntKind.wrap .i64 (ishr .u64 (IntKind.wrap .u64 (w64 (x1 + x3))) 1)) + x2)) - s23.1)) x3) fun r30 =>
                            cond (Nat.beq (List.length r30.1) (List.length r29.1))
                              (some (r30.1, ())) none)
                            (some (r29.1, ())))
                          (some (r29.1, ()))) none)
                      (cond (decide ((IntKind.wrap .i64 (ishr .u64 (IntKind.wrap .u64 (w64 (x1 + x3))) 1)) < (w64 ((w64 ((IntKind.wrap .i64 (ishr .u64 (IntKind.wrap .u64 (w64 (x1 + x3))) 1)) + x2)) - s23.1))))
                        (cond (decide ((w64 ((w64 ((IntKind.wrap .i64 (ishr .u64 (IntKind.wrap .u64 (w64 (x1 + x3))) 1)) + x2)) - s23.1)) < x3))
                          (Option.bind (self r28.1 (IntKind.wrap .i64 (ishr .u64 (IntKind.wrap .u64 (w64 (x1 + x3))) 1)) (w64 ((w64 ((IntKind.wrap .i64 (ishr .u64 (IntKind.wrap .u64 (w64 (x1 + x3))) 1)) + x2)) - s23.1)) x3) fun r31 =>
                          cond (Nat.beq (List.length r31.1) (List.length r28.1))
                            (some (r31.1, ())) none)
                          (some (r28.1, ())))
                        (some (r28.1, ()))))
                    (cond (decide ((IntKind.wrap .i64 (ishr .u64 (IntKind.wrap .u64 (w64 (x1 + x3))) 1)) < (w64 ((w64 ((IntKind.wrap .i64 (ishr .u64 (IntKind.wrap .u64 (w64 (x1 + x3))) 1)) + x2)) - s23.1))))
                      (cond (decide ((w64 ((w64 ((IntKind.wrap .i64 (ishr .u64 (IntKind.wrap .u64 (w64 (x1 + x3))) 1)) + x2)) - s23.1)) < x3))
                        (Option.bind (self r28.1 (IntKind.wrap .i64 (ishr .u64 (IntKind.wrap .u64 (w64 (x1 + x3))) 1)) (w64 ((w64 ((IntKind.wrap .i64 (ishr .u64 (IntKind.wrap .u64 (w64 (x1 + x3))) 1)) + x2)) - s23.1)) x3) fun r32 =>
                        cond (Nat.beq (List.length r32.1) (List.length r28.1))
                          (some (r32.1, ())) none)
                        (some (r28.1, ())))
                      (some (r28.1, ())))) none)
                (cond (decide (x1 < s23.1))
                  (cond (decide (s23.1 < (IntKind.wrap .i64 (ishr .u64 (IntKind.wrap .u64 (w64 (x1 + x3))) 1))))
                    (Option.bind (self x0 x1 s23.1 (IntKind.wrap .i64 (ishr .u64 (IntKind.wrap .u64 (w64 (x1 + x3))) 1))) fun r33 =>
                    cond (Nat.beq (List.length r33.1) (List.length x0))
                      (cond (decide ((IntKind.wrap .i64 (ishr .u64 (IntKind.wrap .u64 (w64 (x1 + x3))) 1)) < (w64 ((w64 ((IntKind.wrap .i64 (ishr .u64 (IntKind.wrap .u64 (w64 (x1 + x3))) 1)) + x2)) - s23.1))))
                        (cond (decide ((w64 ((w64 ((IntKind.wrap .i64 (ishr .u64 (IntKind.wrap .u64 (w64 (x1 + x3))) 1)) + x2)) - s23.1)) < x3))
                          (Option.bind (self r33.1 (IntKind.wrap .i64 (ishr .u64 (IntKind.wrap .u64 (w64 (x1 + x3))) 1)) (w64 ((w64 ((IntKind.wrap .i64 (ishr .u64 (IntKind.wrap .u64 (w64 (x1 + x3))) 1)) + x2)) - s23.1)) x3) fun r34 =>
                          cond (Nat.beq (List.length r34.1) (List.length r33.1))
                            (some (r34.1, ())) none)
                          (some (r33.1, ())))
                        (some (r33.1, ()))) none)
                    (cond (decide ((IntKind.wrap .i64 (ishr .u64 (IntKind.wrap .u64 (w64 (x1 + x3))) 1)) < (w64 ((w64 ((IntKind.wrap .i64 (ishr .u64 (IntKind.wrap .u64 (w64 (x1 + x3))) 1)) + x2)) - s23.1))))
                      (cond (decide ((w64 ((w64 ((IntKind.wrap .i64 (ishr .u64 (IntKind.wrap .u64 (w64 (x1 + x3))) 1)) + x2)) - s23.1)) < x3))
                        (Option.bind (self x0 (IntKind.wrap .i64 (ishr .u64 (IntKind.wrap .u64 (w64 (x1 + x3))) 1)) (w64 ((w64 ((IntKind.wrap .i64 (ishr .u64 (IntKind.wrap .u64 (w64 (x1 + x3))) 1)) + x2)) - s23.1)) x3) fun r35 =>
                        cond (Nat.beq (List.length r35.1) (List.length x0))
                          (some (r35.1, ())) none)
                        (some (x0, ())))
                      (some (x0, ()))))
                  (cond (decide ((IntKind.wrap .i64 (ishr .u64 (IntKind.wrap .u64 (w64 (x1 + x3))) 1)) < (w64 ((w64 ((IntKind.wrap .i64 (ishr .u64 (IntKind.wrap .u64 (w64 (x1 + x3))) 1)) + x2)) - s23.1))))
                    (cond (decide ((w64 ((w64 ((IntKind.wrap .i64 (ishr .u64 (IntKind.wrap .u64 (w64 (x1 + x3))) 1)) + x2)) - s23.1)) < x3))
                      (Option.bind (self x0 (IntKind.wrap .i64 (ishr .u64 (IntKind.wrap .u64 (w64 (x1 + x3))) 1)) (w64 ((w64 ((IntKind.wrap .i64 (ishr .u64 (IntKind.wrap .u64 (w64 (x1 + x3))) 1)) + x2)) - s23.1)) x3) fun r36 =>
                      cond (Nat.beq (List.length r36.1) (List.length x0))
                        (some (r36.1, ())) none)
                      (some (x0, ())))
                    (some (x0, ())))))
              (cond (decide (x1 < s23.1))
                (cond (decide (s23.1 < (IntKind.wrap .i64 (ishr .u64 (IntKind.wrap .u64 (w64 (x1 + x3))) 1))))
                  (Option.bind (self x0 x1 s23.1 (IntKind.wrap .i64 (ishr .u64 (IntKind.wrap .u64 (w64 (x1 + x3))) 1))) fun r37 =>
                  cond (Nat.beq (List.length r37.1) (List.length x0))
                    (cond (decide ((IntKind.wrap .i64 (ishr .u64 (IntKind.wrap .u64 (w64 (x1 + x3))) 1)) < (w64 ((w64 ((IntKind.wrap .i64 (ishr .u64 (IntKind.wrap .u64 (w64 (x1 + x3))) 1)) + x2)) - s23.1))))
                      (cond (decide ((w64 ((w64 ((IntKind.wrap .i64 (ishr .u64 (IntKind.wrap .u64 (w64 (x1 + x3))) 1)) + x2)) - s23.1)) < x3))
                        (Option.bind (self r37.1 (IntKind.wrap .i64 (ishr .u64 (IntKind.wrap .u64 (w64 (x1 + x3))) 1)) (w64 ((w64 ((IntKind.wrap .i64 (ishr .u64 (IntKind.wrap .u64 (w64 (x1 + x3))) 1)) + x2)) - s23.1)) x3) fun r38 =>
                        cond (Nat.beq (List.length r38.1) (List.length r37.1))
                          (some (r38.1, ())) none)
                        (some (r37.1, ())))
                      (some (r37.1, ()))) none)
                  (cond (decide ((IntKind.wrap .i64 (ishr .u64 (IntKind.wrap .u64 (w64 (x1 + x3))) 1)) < (w64 ((w64 ((IntKind.wrap .i64 (ishr .u64 (IntKind.wrap .u64 (w64 (x1 + x3))) 1)) + x2)) - s23.1))))
                    (cond (decide ((w64 ((w64 ((IntKind.wrap .i64 (ishr .u64 (IntKind.wrap .u64 (w64 (x1 + x3))) 1)) + x2)) - s23.1)) < x3))
                      (Option.bind (self x0 (IntKind.wrap .i64 (ishr .u64 (IntKind.wrap .u64 (w64 (x1 + x3))) 1)) (w64 ((w64 ((IntKind.wrap .i64 (ishr .u64 (IntKind.wrap .u64 (w64 (x1 + x3))) 1)) + x2)) - s23.1)) x3) fun r39 =>
                      cond (Nat.beq (List.length r39.1) (List.length x0))
                        (some (r39.1, ())) none)
                      (some (x0, ())))
                    (some (x0, ()))))
                (cond (decide ((IntKind.wrap .i64 (ishr .u64 (IntKind.wrap .u64 (w64 (x1 + x3))) 1)) < (w64 ((w64 ((IntKind.wrap .i64 (ishr .u64 (IntKind.wrap .u64 (w64 (x1 + x3))) 1)) + x2)) - s23.1))))
                  (cond (decide ((w64 ((w64 ((IntKind.wrap .i64 (ishr .u64 (IntKind.wrap .u64 (w64 (x1 + x3))) 1)) + x2)) - s23.1)) < x3))
                    (Option.bind (self x0 (IntKind.wrap .i64 (ishr .u64 (IntKind.wrap .u64 (w64 (x1 + x3))) 1)) (w64 ((w64 ((IntKind.wrap .i64 (ishr .u64 (IntKind.wrap .u64 (w64 (x1 + x3))) 1)) + x2)) - s23.1)) x3) fun r40 =>
                    cond (Nat.beq (List.length r40.1) (List.length x0))
                      (some (r40.1, ())) none)
                    (some (x0, ())))
                  (some (x0, ())))))) N ((w64 ((w64 ((IntKind.wrap .i64 (ishr .u64 (IntKind.wrap .u64 (w64 (x1 + x3))) 1)) + x2)) - x3)), (IntKind.wrap .i64 (ishr .u64 (IntKind.wrap .u64 (w64 (x1 + x3))) 1)), ()))
        (loopN (fun (s41 : Int × Int × Unit) next42 =>
          cond (decide (s41.1 < s41.2.1))
            (cond (inB (w64 ((w64 ((w64 ((IntKind.wrap .i64 (ishr .u64 (IntKind.wrap .u64 (w64 (x1 + x3))) 1)) + x2)) - 1)) - (IntKind.wrap .i64 (ishr .u64 (IntKind.wrap .u64 (w64 (s41.1 + s41.2.1))) 1)))) (List.length x0))
              (Option.bind (x0[(Int.toNat (w64 ((w64 ((w64 ((IntKind.wrap .i64 (ishr .u64 (IntKind.wrap .u64 (w64 (x1 + x3))) 1)) + x2)) - 1)) - (IntKind.wrap .i64 (ishr .u64 (IntKind.wrap .u64 (w64 (s41.1 + s41.2.1))) 1)))))]?) fun v43 =>
              cond (inB (IntKind.wrap .i64 (ishr .u64 (IntKind.wrap .u64 (w64 (s41.1 + s41.2.1))) 1)) (List.length x0))
                (Option.bind (x0[(Int.toNat (IntKind.wrap .i64 (ishr .u64 (IntKind.wrap .u64 (w64 (s41.1 + s41.2.1))) 1)))]?) fun v44 =>
                Option.bind (cmp v43 v44) fun r45 =>
                cond (!(decide (r45.1 < 0)))
                  (next42 ((w64 ((IntKind.wrap .i64 (ishr .u64 (IntKind.wrap .u64 (w64 (s41.1 + s41.2.1))) 1)) + 1)), s41.2.1, ()))
                  (next42 (s41.1, (IntKind.wrap .i64 (ishr .u64 (IntKind.wrap .u64 (w64 (s41.1 + s41.2.1))) 1)), ()))) none) none)
            (cond (decide (s41.1 < x2))
              (cond (decide (x2 < (w64 ((w64 ((IntKind.wrap .i64 (ishr .u64 (IntKind.wrap .u64 (w64 (x1 + x3))) 1)) + x2)) - s41.1))))
                (Option.bind (rotG N cmp x0 s41.1 x2 (w64 ((w64 ((IntKind.wrap .i64 (ishr .u64 (IntKind.wrap .u64 (w64 (x1 + x3))) 1)) + x2)) - s41.1))) fun r46 =>
                cond (Nat.beq (List.length r46.1) (List.length x0))
                  (cond (decide (x1 < s41.1))
                    (cond (decide (s41.1 < (IntKind.wrap .i64 (ishr .u64 (IntKind.wrap .u64 (w64 (x1 + x3))) 1))))
                      (Option.bind (self r46.1 x1 s41.1 (IntKind.wrap .i64 (ishr .u64 (IntKind.wrap .u64 (w64 (x1 + x3))) 1))) fun r47 =>
                      cond (Nat.beq (List.length r47.1) (List.length r46.1))
                        (cond (decide ((IntKind.wrap .i64 (ishr .u64 (IntKind.wrap .u64 (w64 (x1 + x3))) 1)) < (w64 ((w64 ((IntKind.wrap .i64 (ishr .u64 (IntKind.wrap .u64 (w64 (x1 + x3))) 1)) + x2)) - s41.1))))
                          (cond (decide ((w64 ((w64 ((IntKind.wrap .i64 (ishr .u64 (IntKind.wrap .u64 (w64 (x1 + x3))) 1)) + x2)) - s41.1)) < x3))
                            (Option.bind (self r47.1 (IntKind.wrap .i64 (ishr .u64 (IntKind.wrap .u64 (w64 (x1 + x3))) 1)) (w64 ((w64 ((IntKind.wrap .i64 (ishr .u64 (IntKind.wrap .u64 (w64 (x1 + x3))) 1)) + x2)) - s41.1)) x3) fun r48 =>
                            cond (Nat.beq (List.length r48.1) (List.length r47.1))
                              (some (r48.1, ())) none)
                            (some (r47.1, ())))
                          (some (r47.1, ()))) none)
                      (cond (decide ((IntKind.wrap .i64 (ishr .u64 (IntKind.wrap .u64 (w64 (x1 + x3))) 1)) < (w64 ((w64 ((IntKind.wrap .i64 (ishr .u64 (IntKind.wrap .u64 (w64 (x1 + x3))) 1)) + x2)) - s41.1))))
                        (cond (decide ((w64 ((w64 ((IntKind.wrap .i64 (ishr .u64 (IntKind.wrap .u64 (w64 (x1 + x3))) 1)) + x2)) - s41.1)) < x3))
                          (Option.bind (self r46.1 (IntKind.wrap .i64 (ishr .u64 (IntKind.wrap .u64 (w64 (x1 + x3))) 1)) (w64 ((w64 ((IntKind.wrap .i64 (ishr .u64 (IntKind.wrap .u64 (w64 (x1 + x3))) 1)) + x2)) - s41.1)) x3) fun r49 =>
                          cond (Nat.beq (List.length r49.1) (List.length r46.1))
                            (some (r49.1, ())) none)
                          (some (r46.1, ())))
                        (some (r46.1, ()))))
                    (cond (decide ((IntKind.wrap .i64 (ishr .u64 (IntKind.wrap .u64 (w64 (x1 + x3))) 1)) < (w64 ((w64 ((IntKind.wrap .i64 (ishr .u64 (IntKind.wrap .u64 (w64 (x1 + x3))) 1)) + x2)) - s41.1))))
                      (cond (decide ((w64 ((w64 ((IntKind.wrap .i64 (ishr .u64 (IntKind.wrap .u64 (w64 (x1 + x3))) 1)) + x2)) - s41.1)) < x3))
                        (Option.bind (self r46.1 (IntKind.wrap .i64 (ishr .u64 (IntKind.wrap .u64 (w64 (x1 + x3))) 1)) (w64 ((w64 ((IntKind.wrap .i64 (ishr .u64 (IntKind.wrap .u64 (w64 (x1 + x3))) 1)) + x2)) - s41.1)) x3) fun r50 =>
                        cond (Nat.beq (List.length r50.1) (List.length r46.1))
                          (some (r50.1, ())) none)
                        (some (r46.1, ())))
                      (some (r46.1, ())))) none)
                (cond (decide (x1 < s41.1))
                  (cond (decide (s41.1 < (IntKind.wrap .i64 (ishr .u64 (IntKind.wrap .u64 (w64 (x1 + x3))) 1))))
                    (Option.bind (self x0 x1 s41.1 (IntKind.wrap .i64 (ishr .u64 (IntKind.wrap .u64 (w64 (x1 + x3))) 1))) fun r51 =>
                    cond (Nat.beq (List.length r51.1) (List.length x0))
                      (cond (decide ((IntKind.wrap .i64 (ishr .u64 (IntKind.wrap .u64 (w64 (x1 + x3))) 1)) < (w64 ((w64 ((IntKind.wrap .i64 (ishr .u64 (IntKind.wrap .u64 (w64 (x1 + x3))) 1)) + x2)) - s41.1))))
                        (cond (decide ((w64 ((w64 ((IntKind.wrap .i64 (ishr .u64 (IntKind.wrap .u64 (w64 (x1 + x3))) 1)) + x2)) - s41.1)) < x3))
                          (Option.bind (self r51.1 (IntKind.wrap .i64 (ishr .u64 (IntKind.wrap .u64 (w64 (x1 + x3))) 1)) (w64 ((w64 ((IntKind.wrap .i64 (ishr .u64 (IntKind.wrap .u64 (w64 (x1 + x3))) 1)) + x2)) - s41.1)) x3) fun r52 =>
                          cond (Nat.beq (List.length r52.1) (List.length r51.1))
                            (some (r52.1, ())) none)
                          (some (r51.1, ())))
                        (some (r51.1, ()))) none)
                    (cond (decide ((IntKind.wrap .i64 (ishr .u64 (IntKind.wrap .u64 (w64 (x1 + x3))) 1)) < (w64 ((w64 ((IntKind.wrap .i64 (ishr .u64 (IntKind.wrap .u64 (w64 (x1 + x3))) 1)) + x2)) - s41.1))))
                      (cond (decide ((w64 ((w64 ((IntKind.wrap .i64 (ishr .u64 (IntKind.wrap .u64 (w64 (x1 + x3))) 1)) + x2)) - s41.1)) < x3))
                        (Option.bind (self x0 (IntKind.wrap .i64 (ishr .u64 (IntKind.wrap .u64 (w64 (x1 + x3))) 1)) (w64 ((w64 ((IntKind.wrap .i64 (ishr .u64 (IntKind.wrap .u64 (w64 (x1 + x3))) 1)) + x2)) - s41.1)) x3) fun r53 =>
                        cond (Nat.beq (List.length r53.1) (List.length x0))
                          (some (r53.1, ())) none)
                        (some (x0, ())))
                      (some (x0, ()))))
                  (cond (decide ((IntKind.wrap .i64 (ishr .u64 (IntKind.wrap .u64 (w64 (x1 + x3))) 1)) < (w64 ((w64 ((IntKind.wrap .i64 (ishr .u64 (IntKind.wrap .u64 (w64 (x1 + x3))) 1)) + x2)) - s41.1))))
                    (cond (decide ((w64 ((w64 ((IntKind.wrap .i64 (ishr .u64 (IntKind.wrap .u64 (w64 (x1 + x3))) 1)) + x2)) - s41.1)) < x3))
                      (Option.bind (self x0 (IntKind.wrap .i64 (ishr .u64 (IntKind.wrap .u64 (w64 (x1 + x3))) 1)) (w64 ((w64 ((IntKind.wrap .i64 (ishr .u64 (IntKind.wrap .u64 (w64 (x1 + x3))) 1)) + x2)) - s41.1)) x3) fun r54 =>
                      cond (Nat.beq (List.length r54.1) (List.length x0))
                        (some (r54.1, ())) none)
                      (some (x0, ())))
                    (some (x0, ())))))
              (cond (decide (x1 < s41.1))
                (cond (decide (s41.1 < (IntKind.wrap .i64 (ishr .u64 (IntKind.wrap .u64 (w64 (x1 + x3))) 1))))
                  (Option.bind (self x0 x1 s41.1 (IntKind.wrap .i64 (ishr .u64 (IntKind.wrap .u64 (w64 (x1 + x3))) 1))) fun r55 =>
                  cond (Nat.beq (List.length r55.1) (List.length x0))
                    (cond (decide ((IntKind.wrap .i64 (ishr .u64 (IntKind.wrap .u64 (w64 (x1 + x3))) 1)) < (w64 ((w64 ((IntKind.wrap .i64 (ishr .u64 (IntKind.wrap .u64 (w64 (x1 + x3))) 1)) + x2)) - s41.1))))
                      (cond (decide ((w64 ((w64 ((IntKind.wrap .i64 (ishr .u64 (IntKind.wrap .u64 (w64 (x1 + x3))) 1)) + x2)) - s41.1)) < x3))
                        (Option.bind (self r55.1 (IntKind.wrap .i64 (ishr .u64 (IntKind.wrap .u64 (w64 (x1 + x3))) 1)) (w64 ((w64 ((IntKind.wrap .i64 (ishr .u64 (IntKind.wrap .u64 (w64 (x1 + x3))) 1)) + x2)) - s41.1)) x3) fun r56 =>
                        cond (Nat.beq (List.length r56.1) (List.length r55.1))
                          (some (r56.1, ())) none)
                        (some (r55.1, ())))
                      (some (r55.1, ()))) none)
                  (cond (decide ((IntKind.wrap .i64 (ishr .u64 (IntKind.wrap .u64 (w64 (x1 + x3))) 1)) < (w64 ((w64 ((IntKind.wrap .i64 (ishr .u64 (IntKind.wrap .u64 (w64 (x1 + x3))) 1)) + x2)) - s41.1))))
                    (cond (decide ((w64 ((w64 ((IntKind.wrap .i64 (ishr .u64 (IntKind.wrap .u64 (w64 (x1 + x3))) 1)) + x2)) - s41.1)) < x3))
                      (Option.bind (self x0 (IntKind.wrap .i64 (ishr .u64 (IntKind.wrap .u64 (w64 (x1 + x3))) 1)) (w64 ((w64 ((IntKind.wrap .i64 (ishr .u64 (IntKind.wrap .u64 (w64 (x1 + x3))) 1)) + x2)) - s41.1)) x3) fun r57 =>
                      cond (Nat.beq (List.length r57.1) (List.length x0))
                        (some (r57.1, ())) none)
                      (some (x0, ())))
                    (some (x0, ()))))
                (cond (decide ((IntKind.wrap .i64 (ishr .u64 (IntKind.wrap .u64 (w64 (x1 + x3))) 1)) < (w64 ((w64 ((IntKind.wrap .i64 (ishr .u64 (IntKind.wrap .u64 (w64 (x1 + x3))) 1)) + x2)) - s41.1))))
                  (cond (decide ((w64 ((w64 ((IntKind.wrap .i64 (ishr .u64 (IntKind.wrap .u64 (w64 (x1 + x3))) 1)) + x2)) - s41.1)) < x3))
                    (Option.bind (self x0 (IntKind.wrap .i64 (ishr .u64 (IntKind.wrap .u64 (w64 (x1 + x3))) 1)) (w64 ((w64 ((IntKind.wrap .i64 (ishr .u64 (IntKind.wrap .u64 (w64 (x1 + x3))) 1)) + x2)) - s41.1)) x3) fun r58 =>
                    cond (Nat.beq (List.length r58.1) (List.length x0))
                      (some (r58.1, ())) none)
                    (some (x0, ())))
                  (some (x0, ())))))) N (x1, x2, ()))))

def symG_r (N : Nat) (cmp : Int → Int → Option (Int × Unit)) : Nat → List (Int) → Int → Int → Int → Option (List (Int) × (Unit))
  | 0 => fun _ _ _ _ => none
  | F + 1 => symG_step N cmp (symG_r N cmp F)

def symG (N : Nat) (cmp : Int → Int → Option (Int × Unit)) (x0 : List Int) (x1 : Int) (x2 : Int) (x3 : Int)  : Option (List (Int) × (Unit)) := symG_r N cmp N x0 x1 x2 x3

def stableG (N : Nat) (cmp : Int → Int → Option (Int × Unit)) (x0 : List Int) (x1 : Int)  : Option (List (Int) × (Unit)) :=
  loopN (fun (s1 : List (Int) × Int × Int × Unit) next2 =>
    cond (decide (s1.2.2.1 ≤ x1))
      (Option.bind (insG N cmp s1.1 s1.2.1 s1.2.2.1) fun r3 =>
      cond (Nat.beq (List.length r3.1) (List.length s1.1))
        (next2 (r3.1, s1.2.2.1, (w64 (s1.2.2.1 + 20)), ())) none)
      (Option.bind (insG N cmp s1.1 s1.2.1 x1) fun r4 =>
      cond (Nat.beq (List.length r4.1) (List.length s1.1))
        (loopN (fun (s5 : List (Int) × Int × Unit) next6 =>
          cond (decide (s5.2.1 < x1))
            (loopN (fun (s7 : List (Int) × Int × Int × Unit) next8 =>
              cond (decide (s7.2.2.1 ≤ x1))
                (Option.bind (symG N cmp s7.1 s7.2.1 (w64 (s7.2.1 + s5.2.1)) s7.2.2.1) fun r9 =>
                cond (Nat.beq (List.length r9.1) (List.length s7.1))
                  (next8 (r9.1, s7.2.2.1, (w64 (s7.2.2.1 + (w64 (2 * s5.2.1)))), ())) none)
                (cond (decide ((w64 (s7.2.1 + s5.2.1)) < x1))
                  (Option.bind (symG N cmp s7.1 s7.2.1 (w64 (s7.2.1 + s5.2.1)) x1) fun r10 =>
                  cond (Nat.beq (List.length r10.1) (List.length s7.1))
                    (next6 (r10.1, (w64 (s5.2.1 * 2)), ())) none)
                  (next6 (s7.1, (w64 (s5.2.1 * 2)), ())))) N (s5.1, 0, (w64 (2 * s5.2.1)), ()))
            (some (s5.1, ()))) N (r4.1, 20, ())) none)) N (x0, 0, 20, ())

def sortG (N : Nat) (cmp : Int → Int → Option (Int × Unit)) (x0 : List Int)  : Option (List (Int) × (Unit)) :=
  Option.bind (stableG N cmp x0 (List.length x0 : Int)) fun r1 =>
  cond (Nat.beq (List.length r1.1) (List.length x0))
    (some (r1.1, ())) none

end Go.Proofs.Ytkcdhdnmmpapdaa
