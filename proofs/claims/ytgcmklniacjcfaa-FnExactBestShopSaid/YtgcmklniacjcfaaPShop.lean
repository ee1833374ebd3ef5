/-
  Plain rules for shops and orders. No condition.
-/
import Derived.Test.YtgcmklniacjcfaaPB
namespace Go.Proofs.Ytgcmklniacjcfaa
open Go Go.Proofs.Ytgcmklniacjcfaa.Fw
set_option linter.unusedVariables false
set_option linter.unusedSimpArgs false

def quot (xs : List Int) (m : Int) : Int := w64 (Int.tdiv xs.length m)

def shopOk (xs : List Int) (m : Int) : Bool := within 1 8 m && (((Int.tmod xs.length m) == 0) && (xs.all (within 1 10000) && (decide (quot xs m ≥ 1) && decide (quot xs m ≤ 24))))

theorem quot_eq {xs : List Int} {m : Int} (h : 1 ≤ m) (hx : xs.length ≤ 1048576) : quot xs m = Int.tdiv xs.length m := by
  unfold quot
  refine w64_in ?_
  have h1 : 0 ≤ Int.tdiv (xs.length : Int) m := Int.tdiv_nonneg (by omega) (by omega)
  have h2 : Int.tdiv (xs.length : Int) m ≤ xs.length := Int.tdiv_le_self _ (by omega)
  omega

theorem shop_facts {xs : List Int} {m : Int} (hx : xs.length ≤ 1048576) (h : shopOk xs m = true) :
    1 ≤ m ∧ m ≤ 8 ∧ 1 ≤ quot xs m ∧ quot xs m ≤ 24 ∧ quot xs m * m = xs.length ∧ xs.all (within 1 10000) = true ∧ w64 (Int.tdiv (xs.length : Int) m) = quot xs m ∧ (m == 0) = false ∧ xs.length ≤ 192 := by
  simp only [shopOk, Bool.and_eq_true, decide_eq_true_eq, beq_iff_eq] at h
  obtain ⟨hm, hmod, ha, q1, q24⟩ := h
  obtain ⟨m1, m8⟩ := within_iff.1 hm
  have hql : quot xs m * m = xs.length := by
    have e := Int.mul_tdiv_add_tmod (xs.length : Int) m
    rw [hmod, ← quot_eq m1 hx, Int.mul_comm] at e
    omega
  refine ⟨m1, m8, q1, q24, hql, ha, rfl, by simp only [beq_eq_false_iff_ne]; omega, ?_⟩
  have h1 : quot xs m * m ≤ 24 * 8 := Int.mul_le_mul q24 m8 (by omega) (by omega)
  omega

/-- A list that goes on so has numbers of a range, none twice. -/
def ordG (hi : Int) : List Int → List Int → Bool
  | _, [] => true
  | pre, v :: r => within 0 hi v && (!(pre.contains v) && ordG hi (pre ++ [v]) r)

def ordB (q : Int) (xs : List Int) : Bool := (xs.length : Int) == q && ordG (q - 1) [] xs

theorem ordG_within {hi : Int} : ∀ {l pre : List Int}, ordG hi pre l = true → ∀ v ∈ l, 0 ≤ v ∧ v ≤ hi := by
  intro l
  induction l with
  | nil => intro pre _ v hv; cases hv
  | cons x l ih =>
    intro pre h v hv
    simp only [ordG, Bool.and_eq_true] at h
    rcases List.mem_cons.1 hv with rfl | hv
    · exact within_iff.1 h.1
    · exact ih h.2.2 v hv

theorem ordG_nodup {hi : Int} : ∀ {l pre : List Int}, ordG hi pre l = true → l.Nodup ∧ ∀ v ∈ l, v ∉ pre := by
  intro l
  induction l with
  | nil => intro pre _; exact ⟨List.nodup_nil, fun v hv => (by cases hv)⟩
  | cons x l ih =>
    intro pre h
    simp only [ordG, Bool.and_eq_true, Bool.not_eq_true', List.contains_eq_mem, decide_eq_false_iff_not] at h
    obtain ⟨g1, g2⟩ := ih h.2.2
    refine ⟨List.nodup_cons.2 ⟨fun hx => g2 x hx (by simp), g1⟩, fun v hv => ?_⟩
    rcases List.mem_cons.1 hv with rfl | hv
    · exact h.2.1
    · exact fun hp => g2 v hv (List.mem_append_left _ hp)

theorem ord_facts {q : Int} {xs : List Int} (h : ordB q xs = true) : (xs.length : Int) = q ∧ ∀ v ∈ xs, 0 ≤ v ∧ v < q := by
  simp only [ordB, Bool.and_eq_true, beq_iff_eq] at h
  exact ⟨h.1, fun v hv => by have := ordG_within h.2 v hv; omega⟩

section
variable {N : Nat} (hN : 9223372036854775808 ≤ N)
include hN

theorem l04Can_eq {xs : List Int} {m : Int} (hx : xs.length ≤ 1048576) : spec_l04Can N xs m = some (shopOk xs m, ()) := by
  have ha : loopN (fun (s2 : Int × Unit) next3 =>
                cond (decide (s2.1 < (List.length xs : Int)))
                  (Option.bind (idx xs s2.1) fun v4 =>
                  Option.bind (spec_l00In N v4 1 10000) fun r5 =>
                  cond (!r5.1)
                    (some (false, ()))
                    (next3 ((w64 (s2.1 + 1)), ())))
                  (some (true, ()))) N (0, ()) = some (xs.all (within 1 10000), ()) := by
    rw [all_loop hN (xs := xs) (by omega) (within 1 10000) (some (false, ())) (some (true, ()))]
    · cases xs.all (within 1 10000) <;> rfl
    · intro s next h
      simp only [h, Int.lt_irrefl, decide_false, cond_false]
    · intro s next v h1 h2 h3 h4
      simp only [h2, decide_true, cond_true, h3, Option.bind_some, l00In_eq, h4]
      cases within 1 10000 v <;> rfl
  unfold spec_l04Can spec_l02Unlike spec_l02Machines
  rw [ha]
  simp only [l00In_eq, Option.bind_some]
  cases hm : within 1 8 m
  · simp [shopOk, hm]
  · have hm' := within_iff.1 hm
    have h0 : (m == 0) = false := by simp only [beq_eq_false_iff_ne]; omega
    simp only [Bool.not_true, cond_false, h0, shopOk, hm, Bool.true_and]
    have hq := quot_eq hm'.1 hx
    by_cases h1 : (xs.length : Int) < 1
    · have hz : (xs.length : Int) = 0 := by omega
      have hq0 : ¬ quot xs m ≥ 1 := by rw [hq, hz]; simp
      simp [h1, hq0]
    · simp only [h1, decide_false, cond_false]
      cases hmod : (Int.tmod (xs.length : Int) m == 0)
      · rw [show (Int.tmod (xs.length : Int) m != 0) = true by simp only [bne, hmod]; rfl]
        rfl
      · rw [show (Int.tmod (xs.length : Int) m != 0) = false by simp only [bne, hmod]; rfl]
        have hmod' : Int.tmod (xs.length : Int) m = 0 := by simpa using hmod
        have hq1 : quot xs m ≥ 1 := by
          rw [hq]
          have e := Int.mul_tdiv_add_tmod (xs.length : Int) m
          rw [hmod'] at e
          have h3 : 0 ≤ Int.tdiv (xs.length : Int) m := Int.tdiv_nonneg (by omega) (by omega)
          rcases Int.lt_or_eq_of_le h3 with h4 | h4
          · omega
          · rw [← h4] at e
            simp at e
            omega
        have hw : w64 (Int.tdiv (xs.length : Int) m) = quot xs m := rfl
        simp only [cond_false, hw, hq1, decide_true, Bool.true_and]
        by_cases h5 : quot xs m > 24
        · simp [h5, show ¬ quot xs m ≤ 24 by omega]
        · simp [h5, show quot xs m ≤ 24 by omega]

theorem asShop_eq {xs : List Int} {m : Int} (hx : xs.length ≤ 1048576) : ∃ j, impl_asShop N xs m = some ((xs, (j, m)), shopOk xs m, ()) ∧ (shopOk xs m = true → j = quot xs m) := by
  unfold impl_asShop impl_unlikeJobs impl_areMachines
  rw [areWithin_eq hN (by omega)]
  simp only [within_eq, Option.bind_some]
  cases hm : within 1 8 m
  · exact ⟨0, by simp [shopOk, hm], fun h => by simp [shopOk, hm] at h⟩
  · have hm' := within_iff.1 hm
    have h0 : (m == 0) = false := by simp only [beq_eq_false_iff_ne]; omega
    simp only [Bool.not_true, cond_false, h0, shopOk, hm, Bool.true_and]
    cases hmod : (Int.tmod (xs.length : Int) m == 0)
    · rw [show (Int.tmod (xs.length : Int) m != 0) = true by simp only [bne, hmod]; rfl]
      exact ⟨0, rfl, fun h => by cases h⟩
    · rw [show (Int.tmod (xs.length : Int) m != 0) = false by simp only [bne, hmod]; rfl]
      simp only [cond_false, Bool.true_and]
      cases xs.all (within 1 10000)
      · exact ⟨0, rfl, fun h => by cases h⟩
      · simp only [Bool.not_true, cond_false, Bool.true_and]
        have hw : w64 (Int.tdiv (xs.length : Int) m) = quot xs m := rfl
        rw [hw]
        refine ⟨quot xs m, ?_, fun _ => rfl⟩
        cases decide (quot xs m ≥ 1) <;> rfl

theorem l04Count_eq {xs : List Int} {m : Int} (hx : xs.length ≤ 1048576) (h : shopOk xs m = true) : spec_l04Count N xs m = some (quot xs m, ()) := by
  have _ := hN
  obtain ⟨_, _, _, _, _, _, h7, h8, _⟩ := shop_facts hx h
  unfold spec_l04Count
  rw [h8, cond_false, h7]

theorem l02Has_eq {xs : List Int} {v : Int} (hx : xs.length ≤ 1048576) : spec_l02Has N xs v = some (xs.contains v, ()) := by
  unfold spec_l02Has
  exact loop_list (xs := xs) (i := fun s : Int × Unit => s.1) (f := fun l _ => some (l.contains v, ())) (inv := fun _ => True) (by omega)
    (fun s next _ h => by simp only [h, Int.lt_irrefl, decide_false, cond_false, List.contains_nil])
    (fun s next u r _ h1 h2 h3 h4 h5 hn => by
      simp only [h2, decide_true, cond_true, h3, Option.bind_some, h5, List.contains_cons]
      by_cases huv : u = v
      · subst huv
        simp
      · rw [show (u == v) = false by simpa using huv, show (v == u) = false by simpa using Ne.symm huv, cond_false, Bool.false_or]
        exact hn _ trivial rfl)
    (by omega) (s := (0, ())) trivial (Int.le_refl _) (by simp only; omega)

theorem l02Orders_eq {xs : List Int} {q : Int} (hx : xs.length ≤ 1048576) (hq : 1 ≤ q ∧ q ≤ 1048576) : spec_l02Orders N xs q = some (ordB q xs, ()) := by
  unfold spec_l02Orders ordB
  rw [w64_in (n := q - 1) (by omega)]
  exact loop_list (xs := xs) (i := fun s : Int × Unit => s.1) (f := fun l s => some ((xs.length : Int) == q && ordG (q - 1) (xs.take s.1.toNat) l, ())) (inv := fun _ => True) (by omega)
    (fun s next _ h => by simp only [h, Int.lt_irrefl, decide_false, cond_false, ordG, Bool.and_true])
    (fun s next v r _ h1 h2 h3 h4 h5 hn => by
      have ht : xs.take (s.1 + 1).toNat = xs.take s.1.toNat ++ [v] := by
        rw [show (s.1 + 1).toNat = s.1.toNat + 1 by omega, List.take_add_one]
        have : xs[s.1.toNat]? = some v := by
          have := congrArg (fun l => l[0]?) h4
          simpa using this
        rw [this]
        rfl
      simp only [h2, decide_true, cond_true, h3, Option.bind_some, l00In_eq, h5, ordG, l02Has_eq hN (xs := xs.take s.1.toNat) (v := v) (by rw [List.length_take]; omega)]
      cases within 0 (q - 1) v
      · simp
      · rw [decide_eq_true h1, decide_eq_true (show s.1 ≤ (xs.length : Int) by omega)]
        simp only [Bool.not_true, cond_false, Bool.true_and, cond_true]
        cases hc : (xs.take s.1.toNat).contains v
        · rw [cond_false, hn _ trivial rfl, ht]
          simp
        · simp)
    (by omega) (s := (0, ())) trivial (Int.le_refl _) (by simp only; omega)

theorem isAll_eq {xs : List Int} (hx : xs.length ≤ 1048576) : impl_isAll N xs = some (ordG ((xs.length : Int) - 1) [] xs, ()) := by
  unfold impl_isAll
  rw [mkOk_of (by omega), cond_true]
  refine (loop_list (xs := xs) (i := fun s : List Bool × Int × Unit => s.2.1) (f := fun l s => some (ordG ((xs.length : Int) - 1) (xs.take s.2.1.toNat) l, ()))
    (inv := fun s => s.1.length = xs.length ∧ ∀ j : Nat, j < xs.length → s.1.getD j false = (xs.take s.2.1.toNat).contains (j : Int)) (by omega)
    (fun s next _ h => by simp only [h, Int.lt_irrefl, decide_false, cond_false, ordG])
    (fun s next v r hi h1 h2 h3 h4 h5 hn => ?_)
    (by omega) (s := (List.replicate (Int.toNat (xs.length : Int)) false, 0, ())) ⟨by simp, fun j hj => by simp [hj]⟩ (Int.le_refl _) (by simp only; omega))
  obtain ⟨i1, i2⟩ := hi
  have hv : xs[s.2.1.toNat]? = some v := by
    have := congrArg (fun l => l[0]?) h4
    simpa using this
  have ht : xs.take (s.2.1 + 1).toNat = xs.take s.2.1.toNat ++ [v] := by
    rw [show (s.2.1 + 1).toNat = s.2.1.toNat + 1 by omega, List.take_add_one, hv]
    rfl
  simp only [h2, decide_true, cond_true, h3, Option.bind_some, within_eq, h5, ordG, w64_in (n := (xs.length : Int) - 1) (by omega)]
  cases hw : within 0 ((xs.length : Int) - 1) v
  · simp
  · obtain ⟨w1, w2⟩ := within_iff.1 hw
    have hlt : v.toNat < s.1.length := by omega
    have hg := i2 v.toNat (by omega)
    rw [show ((v.toNat : Nat) : Int) = v by omega] at hg
    simp only [Bool.not_true, cond_false, inB_of (n := v) (len := s.1.length) (by omega), cond_true, get_getD false hlt, Option.bind_some, hg, Bool.true_and]
    cases hc : (xs.take s.2.1.toNat).contains v
    · rw [cond_false, hn _ ⟨by simp [i1], fun j hj => ?_⟩ rfl, ht]
      · simp
      · simp only [List.getD_eq_getElem?_getD, List.getElem?_set, ht]
        by_cases hj2 : v.toNat = j
        · subst hj2
          rw [if_pos rfl, if_pos hlt]
          simp only [Option.getD_some, show ((v.toNat : Nat) : Int) = v by omega]
          simp
        · rw [if_neg hj2, ← List.getD_eq_getElem?_getD, i2 j hj]
          simp only [List.contains_eq_mem, List.mem_append, List.mem_singleton]
          have : (j : Int) ≠ v := by omega
          simp [this]
    · simp



end

end Go.Proofs.Ytgcmklniacjcfaa
