/-
  Plain rules for shops and orders. No condition.
-/
import Derived.Test.YtkcdhdnmmpapdaaPB
namespace Go.Proofs.Ytkcdhdnmmpapdaa
open Go Go.Proofs.Ytkcdhdnmmpapdaa.Fw
set_option linter.unusedVariables false
set_option linter.unusedSimpArgs false

def quot (xs : List Int) (m : Int) : Int := w64 (Int.tdiv xs.length m)

def shopOk (xs : List Int) (m : Int) : Bool := within 1 8 m && (((Int.tmod xs.length m) == 0) && (xs.all (within 1 10000) && (decide (quot xs m ≥ 1) && decide (quot xs m ≤ 24))))

theorem quot_eq {xs : List Int} {m : Int} (h : 1 ≤ m) (hx : xs.length ≤ 1048576) : quot xs m = Int.tdiv xs.length m := by
  unfold quot
  refine w64_in ?_
  have h1 : 0 ≤ Int.tdiv (xs.length : Int) m := Int.tdiv_nonneg (by omega) (by omega)
  have h2 : Int.tdiv (xs.length : Int) m ≤ xs.length := Int.tdiv_le_self _ (by omega)
  omega

theorem shop_facts {xs : List Int} {m : Int} (hx : xs.length ≤ 1048576) (h : shopOk xs m = true) :
    1 ≤ m ∧ m ≤ 8 ∧ 1 ≤ quot xs m ∧ quot xs m ≤ 24 ∧ quot xs m * m = xs.length ∧ xs.all (within 1 10000) = true ∧ w64 (Int.tdiv (xs.length : Int) m) = quot xs m ∧ (m == 0) = false ∧ xs.length ≤ 192 := by
  simp only [shopOk, Bool.and_eq_true, decide_eq_true_eq, beq_iff_eq] at h
  obtain ⟨hm, hmod, ha, q1, q24⟩ := h
  obtain ⟨m1, m8⟩ := within_iff.1 hm
  have hql : quot xs m * m = xs.length := by
    have e := Int.mul_tdiv_add_tmod (xs.length : Int) m
    rw [hmod, ← quot_eq m1 hx, Int.mul_comm] at e
    omega
  refine ⟨m1, m8, q1, q24, hql, ha, rfl, by simp only [beq_eq_false_iff_ne]; omega, ?_⟩
  have h1 : quot xs m * m ≤ 24 * 8 := Int.mul_le_mul q24 m8 (by omega) (by omega)
  omega

/-- A list that goes on so has numbers of a range, none twice. -/
def ordG (hi : Int) : List Int → List Int → Bool
  | _, [] => true
  | pre, v :: r => within 0 hi v && (!(pre.contains v) && ordG hi (pre ++ [v]) r)

def ordB (q : Int) (xs : List Int) : Bool := (xs.length : Int) == q && ordG (q - 1) [] xs

theorem ordG_within {hi : Int} : ∀ {l pre : List Int}, ordG hi pre l = true → ∀ v ∈ l, 0 ≤ v ∧ v ≤ hi := by
  intro l
  induction l with
  | nil => intro pre _ v hv; cases hv
  | cons x l ih =>
    intro pre h v hv
    simp only [ordG, Bool.and_eq_true] at h
    rcases List.mem_cons.1 hv with rfl | hv
    · exact within_iff.1 h.1
    · exact ih h.2.2 v hv

theorem ordG_nodup {hi : Int} : ∀ {l pre : List Int}, ordG hi pre l = true → l.Nodup ∧ ∀ v ∈ l, v ∉ pre := by
  intro l
  induction l with
  | nil => intro pre _; exact ⟨List.nodup_nil, fun v hv => (by cases hv)⟩
  | cons x l ih =>
    intro pre h
    simp only [ordG, Bool.and_eq_true, Bool.not_eq_true', List.contains_eq_mem, decide_eq_false_iff_not] at h
    obtain ⟨g1, g2⟩ := ih h.2.2
    refine ⟨List.nodup_cons.2 ⟨fun hx => g2 x hx (by simp), g1⟩, fun v hv => ?_⟩
    rcases List.mem_cons.1 hv with rfl | hv
    · exact h.2.1
    · exact fun hp => g2 v hv (List.mem_append_left _ hp)

theorem ord_facts {q : Int} {xs : List Int} (h : ordB q xs = true) : (xs.length : Int) = q ∧ ∀ v ∈ xs, 0 ≤ v ∧ v < q := by
  simp only [ordB, Bool.and_eq_true, beq_iff_eq] at h
  exact ⟨h.1, fun v hv => by have := ordG_within h.2 v hv; omega⟩

section
variable {N : Nat} (hN : 9223372036854775808 ≤ N)
include hN






theorem isAll_eq {xs : List Int} (hx : xs.length ≤ 1048576) : impl_isAll N xs = some (ordG ((xs.length : Int) - 1) [] xs, ()) := by
  unfold impl_isAll
  rw [mkOk_of (by omega), cond_true]
  refine (loop_list (xs := xs) (i := fun s : List Bool × Int × Unit => s.2.1) (f := fun l s => some (ordG ((xs.length : Int) - 1) (xs.take s.2.1.toNat) l, ()))
    (inv := fun s => s.1.length = xs.length ∧ ∀ j : Nat, j < xs.length → s.1.getD j false = (xs.take s.2.1.toNat).contains (j : Int)) (by omega)
    (fun s next _ h => by simp only [h, Int.lt_irrefl, decide_false, cond_false, ordG])
    (fun s next v r hi h1 h2 h3 h4 h5 hn => ?_)
    (by omega) (s := (List.replicate (Int.toNat (xs.length : Int)) false, 0, ())) ⟨by simp, fun j hj => by simp [hj]⟩ (Int.le_refl _) (by simp only; omega))
  obtain ⟨i1, i2⟩ := hi
  have hv : xs[s.2.1.toNat]? = some v := by
    have := congrArg (fun l => l[0]?) h4
    simpa using this
  have ht : xs.take (s.2.1 + 1).toNat = xs.take s.2.1.toNat ++ [v] := by
    rw [show (s.2.1 + 1).toNat = s.2.1.toNat + 1 by omega, List.take_add_one, hv]
    rfl
  simp only [h2, decide_true, cond_true, h3, Option.bind_some, within_eq, h5, ordG, w64_in (n := (xs.length : Int) - 1) (by omega)]
  cases hw : within 0 ((xs.length : Int) - 1) v
  · simp
  · obtain ⟨w1, w2⟩ := within_iff.1 hw
    have hlt : v.toNat < s.1.length := by omega
    have hg := i2 v.toNat (by omega)
    rw [show ((v.toNat : Nat) : Int) = v by omega] at hg
    simp only [Bool.not_true, cond_false, inB_of (n := v) (len := s.1.length) (by omega), cond_true, get_getD false hlt, Option.bind_some, hg, Bool.true_and]
    cases hc : (xs.take s.2.1.toNat).contains v
    · rw [cond_false, hn _ ⟨by simp [i1], fun j hj => ?_⟩ rfl, ht]
      · simp
      · simp only [List.getD_eq_getElem?_getD, List.getElem?_set, ht]
        by_cases hj2 : v.toNat = j
        · subst hj2
          rw [if_pos rfl, if_pos hlt]
          simp only [Option.getD_some, show ((v.toNat : Nat) : Int) = v by omega]
          simp
        · rw [if_neg hj2, ← List.getD_eq_getElem?_getD, i2 j hj]
          simp only [List.contains_eq_mem, List.mem_append, List.mem_singleton]
          have : (j : Int) ≠ v := by omega
          simp [this]
    · simp

theorem isOrder_eq {xs : List Int} {q : Int} (hx : xs.length ≤ 1048576) (hq : 1 ≤ q ∧ q ≤ 24) : impl_IsOrder N xs q = some (ordB q xs, ()) := by
  unfold impl_IsOrder ordB
  rw [within_eq, show within 1 24 q = true from within_iff.2 hq]
  simp only [Option.bind_some, Bool.not_true, cond_false]
  by_cases hl : (xs.length : Int) = q
  · rw [show ((xs.length : Int) != q) = false by simpa using hl, cond_false, isAll_eq hN hx, hl]
    simp
  · rw [show ((xs.length : Int) != q) = true by simpa using hl, cond_true, show ((xs.length : Int) == q) = false by simpa using hl]
    simp


end

end Go.Proofs.Ytkcdhdnmmpapdaa
