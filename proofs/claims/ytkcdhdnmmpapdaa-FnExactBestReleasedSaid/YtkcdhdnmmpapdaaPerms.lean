/-
  All orders of n, one after another: by impl.permute and by spec.l02NextOrder. No condition.
-/
import Derived.Test.YtkcdhdnmmpapdaaPermF
import Derived.Test.YtkcdhdnmmpapdaaPB
namespace Go.Proofs.Ytkcdhdnmmpapdaa
open Go Go.Proofs.Ytkcdhdnmmpapdaa.Fw
set_option linter.unusedVariables false
set_option linter.unusedSimpArgs false
set_option maxRecDepth 100000

/-- The orders that begin so, as numbers. -/
def dfsN (n : Nat) : Nat → List Nat → List Bool → List (List Nat)
  | 0, ord, _ => [ord]
  | r + 1, ord, us => (List.range n).flatMap fun i => cond (us.getD i false) [] (dfsN n r (ord ++ [i]) (us.set i true))

def permsN (n : Nat) : List (List Nat) := dfsN n n [] (List.replicate n false)

def upI (l : List Nat) : List Int := l.map fun k : Nat => (k : Int)

theorem foldlM_flat {α β γ : Type} (f : α → β → Option α) (g : γ → List β) : ∀ (l : List γ) (a : α), (l.flatMap g).foldlM f a = l.foldlM (fun a c => (g c).foldlM f a) a := by
  intro l
  induction l with
  | nil => intro a; rfl
  | cons c l ih =>
    intro a
    rw [List.flatMap_cons, List.foldlM_append, List.foldlM_cons]
    congr 1
    funext a'
    exact ih a'

theorem runP_eq {α : Type} (f : α → List Int → Option α) (n : Nat) : ∀ (r : Nat) (ord : List Nat) (us : List Bool) (a : α), runP f n r (upI ord) us a = (dfsN n r ord us).foldlM (fun a p => f a (upI p)) a := by
  intro r
  induction r with
  | zero =>
    intro ord us a
    unfold runP dfsN
    simp
  | succ r ih =>
    intro ord us a
    unfold runP dfsN
    rw [foldlM_flat]
    congr 1
    funext a i
    cases us.getD i false with
    | true => rfl
    | false =>
      simp only [cond_false]
      rw [← ih]
      unfold upI
      rw [List.map_append]
      rfl

/-! The next order, in place. -/

def pivN (x : List Nat) : Nat → Option Nat
  | 0 => none
  | j + 1 => cond (Nat.blt (x.getD (j + 1) 0) (x.getD j 0)) (pivN x j) (some j)

def kN (x : List Nat) (v : Nat) : Nat → Nat
  | 0 => 0
  | j + 1 => cond (Nat.blt (x.getD j 0) v) (kN x v j) j

def revN : Nat → List Nat → Nat → Nat → List Nat
  | 0, x, _, _ => x
  | f + 1, x, a, b => cond (Nat.blt a b) (revN f ((x.set a (x.getD b 0)).set b (x.getD a 0)) (a + 1) (b - 1)) x

def nextN (x : List Nat) : Option (List Nat) :=
  match pivN x (x.length - 1) with
  | none => none
  | some i => some (revN x.length ((x.set i (x.getD (kN x (x.getD i 0) x.length) 0)).set (kN x (x.getD i 0) x.length) (x.getD i 0)) (i + 1) (x.length - 1))

def eqN : List Nat → List Nat → Bool
  | [], [] => true
  | a :: x, b :: y => Nat.beq a b && eqN x y
  | _, _ => false

theorem eqN_eq : ∀ {x y : List Nat}, eqN x y = true → x = y
  | [], [], _ => rfl
  | a :: x, b :: y, h => by
    simp only [eqN, Bool.and_eq_true] at h
    rw [Nat.eq_of_beq_eq_true h.1, eqN_eq h.2]
  | [], _ :: _, h => by cases h
  | _ :: _, [], h => by cases h

def nodN : List Nat → Bool
  | [] => true
  | a :: l => l.all (fun b => !(Nat.beq a b)) && nodN l

def lenN (n : Nat) (l : List Nat) : Bool := Nat.beq l.length n && (l.all (fun v => Nat.blt v n) && nodN l)

/-- Each one's next one is the next one. -/
def chainN (n : Nat) : List Nat → List (List Nat) → Bool
  | p, [] => lenN n p && (match nextN p with | none => true | some _ => false)
  | p, q :: r => lenN n p && ((match nextN p with | none => false | some y => eqN y q) && chainN n q r)

def chainP (n : Nat) : Bool :=
  match permsN n with
  | [] => false
  | p :: r => eqN p (List.range n) && (Nat.ble r.length 5040 && chainN n p r)

theorem chain_1 : chainP 1 = true := by decide +kernel
theorem chain_2 : chainP 2 = true := by decide +kernel
theorem chain_3 : chainP 3 = true := by decide +kernel
theorem chain_4 : chainP 4 = true := by decide +kernel
theorem chain_5 : chainP 5 = true := by decide +kernel
theorem chain_6 : chainP 6 = true := by decide +kernel
theorem chain_7 : chainP 7 = true := by decide +kernel


theorem chain_ok {n : Nat} (h1 : 1 ≤ n) (h2 : n ≤ 7) : ∃ r, permsN n = List.range n :: r ∧ r.length ≤ 5040 ∧ chainN n (List.range n) r = true := by
  have h : chainP n = true := by
    rcases (show n = 1 ∨ n = 2 ∨ n = 3 ∨ n = 4 ∨ n = 5 ∨ n = 6 ∨ n = 7 by omega) with rfl | rfl | rfl | rfl | rfl | rfl | rfl
    · exact chain_1
    · exact chain_2
    · exact chain_3
    · exact chain_4
    · exact chain_5
    · exact chain_6
    · exact chain_7
  unfold chainP at h
  cases hp : permsN n with
  | nil => rw [hp] at h; cases h
  | cons p r =>
    rw [hp] at h
    simp only [Bool.and_eq_true] at h
    have e := eqN_eq h.1
    subst e
    exact ⟨r, rfl, Nat.le_of_ble_eq_true h.2.1, h.2.2⟩

theorem nodN_iff : ∀ {l : List Nat}, nodN l = true → l.Nodup
  | [], _ => List.nodup_nil
  | a :: l, h => by
    simp only [nodN, Bool.and_eq_true] at h
    refine List.nodup_cons.2 ⟨fun ha => ?_, nodN_iff h.2⟩
    have := List.all_eq_true.1 h.1 a ha
    simp at this

theorem len_facts {n : Nat} {l : List Nat} (h : lenN n l = true) : l.length = n ∧ (∀ v ∈ l, v < n) ∧ l.Nodup := by
  unfold lenN at h
  simp only [Bool.and_eq_true] at h
  refine ⟨Nat.eq_of_beq_eq_true h.1, fun v hv => ?_, nodN_iff h.2.2⟩
  have := List.all_eq_true.1 h.2.1 v hv
  exact Nat.le_of_ble_eq_true this

end Go.Proofs.Ytkcdhdnmmpapdaa
