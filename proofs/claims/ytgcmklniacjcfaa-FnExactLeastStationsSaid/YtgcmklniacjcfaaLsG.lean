/-
  What impl.LeastStations and spec.LeastStations compute, over plain values. No condition.
-/
import Derived.Test.YtgcmklniacjcfaaLsF
namespace Go.Proofs.Ytgcmklniacjcfaa.Ls
open Go Go.Proofs.Ytgcmklniacjcfaa Go.Proofs.Ytgcmklniacjcfaa.Fw
set_option linter.unusedVariables false
set_option linter.unusedSimpArgs false

/-- The stations, the room that is left at each, the work that is left. -/
abbrev LS := List Int × List Int × Int

/-- Task k must stand ahead of a task with these. -/
def befB (b : Int) (k : Nat) : Bool := ibits .and .i64 (b / 2 ^ k) 1 == 1

def maxI (a b : Int) : Int := if a < b then b else a

/-- The first station that those ahead allow. -/
def firstP (b : Int) (out : List Int) : Nat → Int
  | 0 => 0
  | k + 1 => if befB b k then maxI (firstP b out k) (out.getD k 0) else firstP b out k

def scanP (f : Nat → LS → Option (Bool × LS)) : Nat → Nat → LS → Option (Bool × LS)
  | 0, _, S => some (false, S)
  | d + 1, s, S => Option.bind (f s S) fun r => cond r.1 (some r) (scanP f d (s + 1) r.2)

def sumK (l : List Int) : Nat → Int
  | 0 => 0
  | k + 1 => sumK l k + l.getD k 0
def sumL (l : List Int) : Int := sumK l l.length

def okR (l : List Int) : Bool := l.all fun v => decide (0 ≤ v) && decide (v ≤ 1000000)

theorem okR_getD {l : List Int} (h : okR l = true) (i : Nat) : 0 ≤ l.getD i 0 ∧ l.getD i 0 ≤ 1000000 := by
  rcases Nat.lt_or_ge i l.length with hi | hi
  · have := List.all_eq_true.1 h _ (List.getElem_mem hi)
    rw [List.getD_eq_getElem?_getD, List.getElem?_eq_getElem hi]
    simpa using this
  · rw [List.getD_eq_getElem?_getD, List.getElem?_eq_none hi]
    simp

theorem okR_set {l : List Int} (h : okR l = true) {i : Nat} {v : Int} (h0 : 0 ≤ v) (h1 : v ≤ 1000000) : okR (l.set i v) = true := by
  unfold okR at *
  rw [List.all_eq_true] at *
  intro y hy
  rcases List.mem_or_eq_of_mem_set hy with hm | rfl
  · exact h y hm
  · simp [h0, h1]

theorem sumK_bound {l : List Int} (h : okR l = true) : ∀ k, 0 ≤ sumK l k ∧ sumK l k ≤ 1000000 * (k : Int) := by
  intro k
  induction k with
  | zero => simp [sumK]
  | succ k ih =>
    have := okR_getD h k
    unfold sumK
    omega

def okL (x : Int) (count : Nat) (S : LS) (s : Nat) : Bool := decide (0 ≤ x) && (decide (x ≤ 1000000) && (okR S.2.1 && (decide (0 ≤ S.2.2) && decide (S.2.2 ≤ 100000000))))

/-- A station tried. -/
def tryP (put : LS → Option (Bool × LS)) (x : Int) (i : Nat) (count : Nat) (s : Nat) (S : LS) : Option (Bool × LS) :=
  cond (okL x count S s)
    (cond (decide (x > S.2.1.getD s 0)) (some (false, S))
      (cond (decide (S.2.2 - x ≤ sumL (S.2.1.set s (S.2.1.getD s 0 - x))))
          (Option.bind (put (S.1.set i (s : Int), S.2.1.set s (S.2.1.getD s 0 - x), S.2.2 - x)) fun r =>
            cond r.1 (some r) (cond (decide (r.2.2.1 = S.2.1.set s (S.2.1.getD s 0 - x)) && decide (r.2.2.2 = S.2.2 - x)) (some (false, (r.2.1, S.2.1, S.2.2))) none))
          (some (false, (S.1.set i (s : Int), S.2.1, S.2.2))))) none

def putP (xs bs : List Int) (count : Nat) : Nat → LS → Option (Bool × LS)
  | 0, S => some (true, S)
  | r + 1, S => scanP (tryP (putP xs bs count r) (xs.getD (xs.length - (r + 1)) 0) (xs.length - (r + 1)) count)
      (count - (firstP (bs.getD (xs.length - (r + 1)) 0) S.1 (xs.length - (r + 1))).toNat) (firstP (bs.getD (xs.length - (r + 1)) 0) S.1 (xs.length - (r + 1))).toNat S

def okC (C : Int) (l : List Int) : Bool := l.all fun v => decide (0 ≤ v) && decide (v ≤ C)

theorem okC_getD {C : Int} {l : List Int} (h : okC C l = true) (i : Nat) (hi : i < l.length) : 0 ≤ l.getD i 0 ∧ l.getD i 0 ≤ C := by
  have := List.all_eq_true.1 h _ (List.getElem_mem hi)
  rw [List.getD_eq_getElem?_getD, List.getElem?_eq_getElem hi]
  simpa using this

def lsOk (fP : List Int → Int → Option (List Int × Unit)) (xs bs : List Int) (C : Int) : Bool :=
  decide (1 ≤ xs.length) && (decide (xs.length ≤ 12) && (decide (bs.length = xs.length) && (decide (1 ≤ C) && (decide (C ≤ 1000000) && (okC C xs && (okR xs && (decide (1 ≤ fewT xs bs C) && (decide (fewT xs bs C ≤ 1000) && decide (fP [C] (fewT xs bs C) = some (List.replicate (fewT xs bs C).toNat C, ()))))))))))

def lsF (fL : List Int → List Int → Option (Bool × Unit)) (fC : Int → Option (Bool × Unit)) (fM : List Int → Option (Int × Unit)) (fP : List Int → Int → Option (List Int × Unit)) (xs bs : List Int) (C : Int) : Option (List Int × Int × Bool × Unit) :=
  Option.bind (fL xs bs) fun r => cond r.1
    (Option.bind (fC C) fun s => cond s.1
      (Option.bind (fM xs) fun mx => cond (decide (mx.1 > C)) (some ([], 0, false, ()))
        (cond (lsOk fP xs bs C)
          (Option.bind (putP xs bs (fewT xs bs C).toNat xs.length (List.replicate xs.length 0, List.replicate (fewT xs bs C).toNat C, sumL xs)) fun r => some (r.2.1, fewT xs bs C, true, ())) none))
      (some ([], 0, false, ())))
    (some ([], 0, false, ()))

theorem scanP_len {f : Nat → LS → Option (Bool × LS)} {n m : Nat} (hf : ∀ s S b S', f s S = some (b, S') → S.1.length = n → S.2.1.length = m → S'.1.length = n ∧ S'.2.1.length = m) :
    ∀ d s S b S', scanP f d s S = some (b, S') → S.1.length = n → S.2.1.length = m → S'.1.length = n ∧ S'.2.1.length = m := by
  intro d
  induction d with
  | zero =>
    intro s S b S' h h1 h2
    cases h
    exact ⟨h1, h2⟩
  | succ d ih =>
    intro s S b S' h h1 h2
    obtain ⟨⟨b1, S1⟩, e1, e2⟩ := Option.bind_eq_some_iff.1 h
    have hS := hf s S b1 S1 e1 h1 h2
    cases b1 with
    | true => cases e2; exact hS
    | false => exact ih (s + 1) S1 b S' e2 hS.1 hS.2

theorem maxI_nn {a b : Int} (h : 0 ≤ a) : 0 ≤ maxI a b := by
  unfold maxI
  split <;> omega

theorem firstP_nn {b : Int} {out : List Int} : ∀ k, 0 ≤ firstP b out k := by
  intro k
  induction k with
  | zero => exact Int.le_refl _
  | succ k ih =>
    unfold firstP
    split
    · exact maxI_nn ih
    · exact ih

/-- The reference's first station. -/
def firstQ (fX : Int → Int → Option (Int × Unit)) (b : Int) (tu : List Int) : Nat → Option Int
  | 0 => some 0
  | k + 1 => Option.bind (firstQ fX b tu k) fun f => if befB b k then Option.bind (fX f (tu.getD k 0)) fun v => some v.1 else some f

theorem firstQ_some {fX : Int → Int → Option (Int × Unit)} {b : Int} {tu : List Int} : ∀ {i j : Nat} {v : Int}, j ≤ i → firstQ fX b tu i = some v → ∃ u, firstQ fX b tu j = some u := by
  intro i
  induction i with
  | zero =>
    intro j v hj h
    obtain rfl : j = 0 := by omega
    exact ⟨v, h⟩
  | succ i ih =>
    intro j v hj h
    by_cases e : j = i + 1
    · subst e
      exact ⟨v, h⟩
    · unfold firstQ at h
      obtain ⟨u, hu, _⟩ := Option.bind_eq_some_iff.1 h
      exact ih (by omega) hu

def scanF (f : Nat → List Int → Option (List Int × List Int)) : Nat → Nat → List Int → Option (List Int × List Int)
  | 0, _, ld => some ([], ld)
  | d + 1, m, ld => Option.bind (f m ld) fun r => cond (decide (r.1.length = 0)) (scanF f d (m + 1) r.2) (some r)

def tryF (fit : List Int → List Int → Option (List Int × List Int)) (x c : Int) (tu : List Int) (m : Nat) (ld : List Int) : Option (List Int × List Int) :=
  cond (decide (0 ≤ x) && (decide (x ≤ 1000000) && (decide (0 ≤ ld.getD m 0) && decide (ld.getD m 0 ≤ 100000000))))
    (cond (decide (ld.getD m 0 + x > c)) (some ([], ld))
      (Option.bind (fit (tu ++ [(m : Int)]) (ld.set m (ld.getD m 0 + x))) fun r => cond (decide (r.1.length = 0)) (cond (decide (r.2 = ld.set m (ld.getD m 0 + x))) (some ([], ld)) none) (some r))) none

def fitP (fX : Int → Int → Option (Int × Unit)) (xs bs : List Int) (c : Int) (q : Nat) : Nat → List Int → List Int → Option (List Int × List Int)
  | 0, tu, ld => some (tu, ld)
  | r + 1, tu, ld => Option.bind (firstQ fX (bs.getD tu.length 0) tu tu.length) fun f => cond (decide (0 ≤ f))
      (scanF (tryF (fitP fX xs bs c q r) (xs.getD tu.length 0) c tu) (q - f.toNat) f.toNat ld) none

def findF (fX : Int → Int → Option (Int × Unit)) (xs bs : List Int) (c : Int) : Nat → Nat → Option (List Int × Nat)
  | 0, _ => none
  | d + 1, n => Option.bind (fitP fX xs bs c n xs.length [] (List.replicate n 0)) fun r => cond (decide (r.1.length = 0)) (findF fX xs bs c d (n + 1)) (some (r.1, n))

def leF (fL : List Int → List Int → Option (Bool × Unit)) (fC : List Int → Int → Option (Bool × Unit)) (fW : List Int → Int → Option (Int × Unit)) (fX : Int → Int → Option (Int × Unit)) (xs bs : List Int) (c : Int) : Option (List Int × Int × Bool × Unit) :=
  Option.bind (fL xs bs) fun r => cond r.1
    (Option.bind (fC xs c) fun s => cond s.1
      (Option.bind (fW xs c) fun k => cond (decide (1 ≤ xs.length) && (decide (xs.length ≤ 12) && (decide (bs.length = xs.length) && (decide (0 ≤ k.1) && decide (k.1 ≤ 500)))))
        (Option.bind (findF fX xs bs c 100 k.1.toNat) fun r => some (r.1, (r.2 : Int), true, ())) none)
      (some ([], 0, false, ())))
    (some ([], 0, false, ()))

end Go.Proofs.Ytgcmklniacjcfaa.Ls
