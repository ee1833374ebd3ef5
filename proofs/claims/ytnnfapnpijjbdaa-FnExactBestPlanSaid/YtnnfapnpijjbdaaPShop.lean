/-
  Plain rules for shops and orders. No condition.
-/
import Derived.Test.YtnnfapnpijjbdaaPB
namespace Go.Proofs.Ytnnfapnpijjbdaa
open Go Go.Proofs.Ytnnfapnpijjbdaa.Fw
set_option linter.unusedVariables false
set_option linter.unusedSimpArgs false

def quot (xs : List Int) (m : Int) : Int := w64 (Int.tdiv xs.length m)

def shopOk (xs : List Int) (m : Int) : Bool := within 1 8 m && (((Int.tmod xs.length m) == 0) && (xs.all (within 1 10000) && (decide (quot xs m ≥ 1) && decide (quot xs m ≤ 24))))

theorem quot_eq {xs : List Int} {m : Int} (h : 1 ≤ m) (hx : xs.length ≤ 1048576) : quot xs m = Int.tdiv xs.length m := by
  unfold quot
  refine w64_in ?_
  have h1 : 0 ≤ Int.tdiv (xs.length : Int) m := Int.tdiv_nonneg (by omega) (by omega)
  have h2 : Int.tdiv (xs.length : Int) m ≤ xs.length := Int.tdiv_le_self _ (by omega)
  omega

theorem shop_facts {xs : List Int} {m : Int} (hx : xs.length ≤ 1048576) (h : shopOk xs m = true) :
    1 ≤ m ∧ m ≤ 8 ∧ 1 ≤ quot xs m ∧ quot xs m ≤ 24 ∧ quot xs m * m = xs.length ∧ xs.all (within 1 10000) = true ∧ w64 (Int.tdiv (xs.length : Int) m) = quot xs m ∧ (m == 0) = false ∧ xs.length ≤ 192 := by
  simp only [shopOk, Bool.and_eq_true, decide_eq_true_eq, beq_iff_eq] at h
  obtain ⟨hm, hmod, ha, q1, q24⟩ := h
  obtain ⟨m1, m8⟩ := within_iff.1 hm
  have hql : quot xs m * m = xs.length := by
    have e := Int.mul_tdiv_add_tmod (xs.length : Int) m
    rw [hmod, ← quot_eq m1 hx, Int.mul_comm] at e
    omega
  refine ⟨m1, m8, q1, q24, hql, ha, rfl, by simp only [beq_eq_false_iff_ne]; omega, ?_⟩
  have h1 : quot xs m * m ≤ 24 * 8 := Int.mul_le_mul q24 m8 (by omega) (by omega)
  omega

/-- A list that goes on so has numbers of a range, none twice. -/
def ordG (hi : Int) : List Int → List Int → Bool
  | _, [] => true
  | pre, v :: r => within 0 hi v && (!(pre.contains v) && ordG hi (pre ++ [v]) r)

def ordB (q : Int) (xs : List Int) : Bool := (xs.length : Int) == q && ordG (q - 1) [] xs

theorem ordG_within {hi : Int} : ∀ {l pre : List Int}, ordG hi pre l = true → ∀ v ∈ l, 0 ≤ v ∧ v ≤ hi := by
  intro l
  induction l with
  | nil => intro pre _ v hv; cases hv
  | cons x l ih =>
    intro pre h v hv
    simp only [ordG, Bool.and_eq_true] at h
    rcases List.mem_cons.1 hv with rfl | hv
    · exact within_iff.1 h.1
    · exact ih h.2.2 v hv

theorem ordG_nodup {hi : Int} : ∀ {l pre : List Int}, ordG hi pre l = true → l.Nodup ∧ ∀ v ∈ l, v ∉ pre := by
  intro l
  induction l with
  | nil => intro pre _; exact ⟨List.nodup_nil, fun v hv => (by cases hv)⟩
  | cons x l ih =>
    intro pre h
    simp only [ordG, Bool.and_eq_true, Bool.not_eq_true', List.contains_eq_mem, decide_eq_false_iff_not] at h
    obtain ⟨g1, g2⟩ := ih h.2.2
    refine ⟨List.nodup_cons.2 ⟨fun hx => g2 x hx (by simp), g1⟩, fun v hv => ?_⟩
    rcases List.mem_cons.1 hv with rfl | hv
    · exact h.2.1
    · exact fun hp => g2 v hv (List.mem_append_left _ hp)

theorem ord_facts {q : Int} {xs : List Int} (h : ordB q xs = true) : (xs.length : Int) = q ∧ ∀ v ∈ xs, 0 ≤ v ∧ v < q := by
  simp only [ordB, Bool.and_eq_true, beq_iff_eq] at h
  exact ⟨h.1, fun v hv => by have := ordG_within h.2 v hv; omega⟩

section
variable {N : Nat} (hN : 9223372036854775808 ≤ N)
include hN









end

end Go.Proofs.Ytnnfapnpijjbdaa
