/-
  Jobs: what is asked of them, and the copies that a law takes. No condition.
-/
import Derived.Test.YtkcdhdnmmpapdaaPTask
namespace Go.Proofs.Ytkcdhdnmmpapdaa
open Go Go.Proofs.Ytkcdhdnmmpapdaa.Fw
set_option linter.unusedVariables false
set_option linter.unusedSimpArgs false

abbrev Jb := Int × Int × Int × Int
def NJ : Jb := (0, 0, 0, 0)
def jobOk (t : Jb) : Bool := within 1 10000 t.1 && (within 0 10000 t.2.1 && (within 0 10000 t.2.2.1 && within 0 10000 t.2.2.2))
def jobsOk (js : List Jb) : Bool := js.all jobOk && (decide ((js.length : Int) ≥ 1) && decide ((js.length : Int) ≤ 24))

section
variable {N : Nat} (hN : 9223372036854775808 ≤ N)
include hN

theorem l02Jobs_eq {js : List Jb} (hx : js.length ≤ 1048576) : spec_l02Jobs N js = some (jobsOk js, ()) := by
  have hj : ∀ t : Jb, spec_l02Job N t = some (jobOk t, ()) := fun t => by
    unfold spec_l02Job jobOk
    simp only [l00In_eq, Option.bind_some]
    cases within 1 10000 t.1 <;> cases within 0 10000 t.2.1 <;> cases within 0 10000 t.2.2.1 <;> rfl
  unfold spec_l02Jobs jobsOk
  rw [all_loop hN (xs := js) (by omega) jobOk (some (false, ())) (cond (decide ((List.length js : Int) ≥ 1)) (some ((decide ((List.length js : Int) ≤ 24)), ())) (some (false, ())))]
  · cases js.all jobOk
    · rfl
    · cases decide ((List.length js : Int) ≥ 1) <;> rfl
  · intro s next e
    simp only [e, Int.lt_irrefl, decide_false, cond_false]
  · intro s next v g1 g2 g3 g4
    simp only [g2, decide_true, cond_true, g3, Option.bind_some, hj, g4]
    cases jobOk v <;> rfl

theorem areJobs_eq {js : List Jb} (hx : js.length ≤ 1048576) : impl_AreJobs N js = some (jobsOk js, ()) := by
  unfold impl_AreJobs jobsOk
  rw [all_loop hN (xs := js) (by omega) jobOk (some (false, ())) (cond (decide ((List.length js : Int) ≥ 1)) (some ((decide ((List.length js : Int) ≤ 24)), ())) (some (false, ())))]
  · cases js.all jobOk
    · rfl
    · cases decide ((List.length js : Int) ≥ 1) <;> rfl
  · intro s next e
    simp only [e, Int.lt_irrefl, decide_false, cond_false]
  · intro s next v g1 g2 g3 g4
    simp only [g2, decide_true, cond_true, g3, Option.bind_some, within_eq, areWithin_eq hN (xs := [v.2.1, v.2.2.1, v.2.2.2]) (by simp), g4, jobOk, List.all_cons, List.all_nil, Bool.and_true]
    cases within 1 10000 v.1 <;> cases within 0 10000 v.2.1 <;> cases within 0 10000 v.2.2.1 <;> cases within 0 10000 v.2.2.2 <;> rfl

theorem szJobS_gen {js : List Jb} (hx : js.length ≤ 9223372036854775807) : laws_szJobS N js 1048576 = some (-1, ()) ∨ (∃ r : Int, laws_szJobS N js 1048576 = some (r, ()) ∧ 0 ≤ r ∧ js.length ≤ 1048576) := by
  have _ := hN
  unfold laws_szJobS
  rw [w64_in (n := 1048576 - (js.length : Int)) (by omega)]
  by_cases h : (1048576 : Int) - (js.length : Int) < 0
  · exact .inl (by simp [h])
  · exact .inr ⟨_, by simp [h]; rfl, by omega, by omega⟩

theorem toJobS_eq {js : List Jb} (h0 : js.length ≤ 1048576) : laws_toJobS N js = some (js, ()) := by
  unfold laws_toJobS
  rw [mkOk_of (by omega)]
  refine copy_gen hN (xs := js) (by omega) (K := fun l => some (l, ())) (fun s next e => ?_) (fun s next v g1 g2 g3 g4 g5 => ?_)
  · simp only [e, Int.lt_irrefl, decide_false, cond_false]
  · simp only [g1, decide_true, cond_true, g3, Option.bind_some, laws_toJob, g4, g5]

theorem eqJobS_eq {js : List Jb} (h0 : js.length ≤ 1048576) : laws_eqJobS N js js = some (true, ()) := by
  unfold laws_eqJobS
  rw [show ((List.length js : Int) != (List.length js : Int)) = false by simp, cond_false]
  rw [all_loop hN (xs := js) (by omega) (fun _ => true) (some (false, ())) (some (true, ()))]
  · rw [List.all_eq_true.2 (fun _ _ => rfl)]
    rfl
  · intro s next e
    simp only [e, Int.lt_irrefl, decide_false, cond_false]
  · intro s next v g1 g2 g3 g4
    simp only [g2, decide_true, cond_true, g3, Option.bind_some, laws_eqJob, bne_self_eq_false, cond_false, g4, Bool.not_true]

end

end Go.Proofs.Ytkcdhdnmmpapdaa
