/-
  BestPlan: the plain law. No condition.
-/
import Derived.Test.YtnnfapnpijjbdaaPermF
import Derived.Test.YtnnfapnpijjbdaaCrew
namespace Go.Proofs.Ytnnfapnpijjbdaa
open Go Go.Proofs.Ytnnfapnpijjbdaa.Fw
set_option linter.unusedVariables false
set_option linter.unusedSimpArgs false

/-- What the reference keeps of the best order. -/
def accS (xs : List Tk) (c : Int) (a : Option (List Int) × Int) : List Int × Int :=
  match a.1 with
  | none => ([], -1)
  | some o => ((takeM xs c o).1, a.2)

def AccOk (xs : List Tk) (c : Int) (a : Option (List Int) × Int) : Prop :=
  ∀ o, a.1 = some o → ordB (xs.length : Int) o = true ∧ befG xs [] o = true ∧ a.2 = endW xs (takeM xs c o).1

theorem ord_len {n : Nat} {ord : List Int} (hl : ord.length = n) (h : ordG ((n : Int) - 1) [] ord = true) : ordB (n : Int) ord = true := by
  unfold ordB
  rw [hl, h]
  simp

/-- The marks of an order's elements. -/
def UsOk (n : Nat) (ord : List Int) (us : List Bool) : Prop := us.length = n ∧ ∀ j : Nat, j < n → us.getD j false = ord.contains (j : Int)

theorem UsOk.snoc {n : Nat} {ord : List Int} {us : List Bool} (h : UsOk n ord us) {k : Nat} (hk : k < n) : UsOk n (ord ++ [(k : Int)]) (us.set k true) := by
  refine ⟨by rw [List.length_set]; exact h.1, fun j hj => ?_⟩
  rw [getB_set (by rw [h.1]; exact hk), h.2 j hj]
  by_cases hkj : k = j
  · subst hkj
    simp
  · rw [if_neg hkj]
    have : (j : Int) ≠ (k : Int) := by omega
    simp [this]

theorem ordG_child {n : Nat} {ord : List Int} (h : ordG ((n : Int) - 1) [] ord = true) {k : Nat} (hk : k < n) (hc : ord.contains (k : Int) = false) : ordG ((n : Int) - 1) [] (ord ++ [(k : Int)]) = true := by
  rw [ordG_snoc, h, List.nil_append, hc, within_iff.2 (by omega)]
  rfl

/-- Below an order that is none, nothing is found. -/
theorem runP_skip {xs : List Tk} {tf : List Int → Option (Int × Bool × Unit)} (ht : ∀ o, ordB (xs.length : Int) o = true → befG xs [] o = false → tf o = some (0, false, ())) :
    ∀ (r : Nat) (ord : List Int) (us : List Bool) (a : Option (List Int) × Int), ord.length + r = xs.length → ordG ((xs.length : Int) - 1) [] ord = true → UsOk xs.length ord us → befG xs [] ord = false → runP (stepL tf) xs.length r ord us a = some a := by
  intro r
  induction r with
  | zero =>
    intro ord us a hl ho hu hb
    unfold runP stepL
    rw [ht ord (ord_len (by omega) ho) hb]
    rfl
  | succ r ih =>
    intro ord us a hl ho hu hb
    unfold runP
    have key : ∀ (l : List Nat), (∀ k ∈ l, k < xs.length) → l.foldlM (fun a i => cond (us.getD i false) (some a) (runP (stepL tf) xs.length r (ord ++ [(i : Int)]) (us.set i true) a)) a = some a := by
      intro l
      induction l with
      | nil => intro _; rfl
      | cons k l ihl =>
        intro hk
        have hkn := hk k List.mem_cons_self
        rw [List.foldlM_cons]
        have : cond (us.getD k false) (some a) (runP (stepL tf) xs.length r (ord ++ [(k : Int)]) (us.set k true) a) = some a := by
          have hc := hu.2 k hkn
          cases huk : us.getD k false with
          | true => rfl
          | false =>
            rw [cond_false]
            rw [huk] at hc
            exact ih _ _ a (by rw [List.length_append, List.length_singleton]; omega) (ordG_child ho hkn hc.symm) (hu.snoc hkn) (by rw [befG_snoc, hb]; rfl)
        rw [this]
        exact ihl fun q hq => hk q (List.mem_cons_of_mem _ hq)
    exact key _ fun k hk => List.mem_range.1 hk

section
variable {N : Nat} (hN : 9223372036854775808 ≤ N)
include hN

theorem has_eq {l : List Int} {v : Int} (hl : l.length ≤ 4294967296) : spec_l00Has N l v = some (l.contains v, ()) := by
  unfold spec_l00Has
  rw [all_loop hN (xs := l) hl (fun t => !(t == v)) (some (true, ())) (some (false, ()))]
  · have : l.all (fun t => !(t == v)) = !(l.contains v) := by
      rw [List.contains_eq_any_beq, List.not_any_eq_all_not]
      congr 1
      funext t
      rw [Bool.beq_comm]
    rw [this]
    cases l.contains v <;> rfl
  · intro s next e
    simp only [e, Int.lt_irrefl, decide_false, cond_false]
  · intro s next t g1 g2 g3 g4
    simp only [g2, decide_true, cond_true, g3, Option.bind_some, g4]
    cases t == v <;> rfl

/-- The search below an order that can be begun so. -/
theorem try_eq {xs : List Tk} (h : Small 1048576 xs) (ht : tasksOk xs = true) {c : Int} (hc : ∀ j, j < xs.length → (xs.getD j NL).2.1 ≤ c) {tf : List Int → Option (Int × Bool × Unit)}
    (ht0 : ∀ o, ordB (xs.length : Int) o = true → befG xs [] o = false → tf o = some (0, false, ())) (ht1 : ∀ o, ordB (xs.length : Int) o = true → befG xs [] o = true → tf o = some (endW xs (takeM xs c o).1, true, ())) :
    ∀ (r : Nat) (ord : List Int) (us : List Bool) (a : Option (List Int) × Int) (F : Nat), ord.length + r = xs.length → ordG ((xs.length : Int) - 1) [] ord = true → befG xs [] ord = true → UsOk xs.length ord us → AccOk xs c a → r < F →
      ∃ a', runP (stepL tf) xs.length r ord us a = some a' ∧ spec_l03Try_r N F xs ord c (accS xs c a).1 (accS xs c a).2 = some (accS xs c a', ()) ∧ AccOk xs c a' ∧ a'.1.isSome = true := by
  obtain ⟨f1, f2, f3⟩ := task_facts ht
  intro r
  induction r with
  | zero =>
    intro ord us a F hl ho hb hu ha hF
    obtain ⟨F, rfl⟩ : ∃ F', F = F' + 1 := ⟨F - 1, by omega⟩
    have hO := ord_len (by omega) ho
    have hOk : OrdOk xs.length ord := ⟨(ord_facts hO).2, (ordG_nodup ho).1⟩
    have hT := takeM_inv ht hc hOk (by omega) ord.length (Nat.le_refl _)
    rw [List.take_length] at hT
    unfold runP stepL
    rw [ht1 ord hO hb]
    simp only [Option.bind_some, Bool.true_and]
    refine ⟨_, rfl, ?_, ?_, ?_⟩
    · show spec_l03Try_step N _ xs ord c _ _ = _
      unfold spec_l03Try_step
      rw [show ((ord.length : Int) == (xs.length : Int)) = true by simp; omega, cond_true, take_eq hN h ht hc hOk (by omega)]
      simp only [Option.bind_some]
      rw [l03End_eq hN (xs := xs) (by omega) hT.l1]
      simp only [Option.bind_some]
      unfold accS
      cases ha1 : a.1 with
      | none =>
        simp only [Option.isNone_none, Bool.true_or, cond_true]
        rw [decide_eq_true (show (-1 : Int) < 0 by omega)]
        rfl
      | some o =>
        have hnn := end_nonneg (xs := xs) (st := (takeM xs c o).1)
        have hae := (ha o ha1).2.2
        simp only [Option.isNone_some, Bool.false_or]
        rw [decide_eq_false (show ¬ a.2 < 0 by omega), cond_false]
        cases decide (endW xs (takeM xs c ord).1 < a.2) with
        | true => rfl
        | false =>
          simp only [cond_false, ha1]
    · intro o ho2
      cases hcnd : (a.1.isNone || decide (endW xs (takeM xs c ord).1 < a.2)) with
      | true =>
        rw [hcnd] at ho2
        have ho2 : some ord = some o := ho2
        cases ho2
        exact ⟨hO, hb, rfl⟩
      | false =>
        rw [hcnd] at ho2
        exact ha o ho2
    · cases ha1 : a.1 with
      | none => rfl
      | some o =>
        cases decide (endW xs (takeM xs c ord).1 < a.2) with
        | true => rfl
        | false =>
          show a.1.isSome = true
          rw [ha1]
          rfl
  | succ r ih =>
    intro ord us a F hl ho hb hu ha hF
    obtain ⟨F, rfl⟩ : ∃ F', F = F' + 1 := ⟨F - 1, by omega⟩
    unfold runP
    obtain ⟨G, hG⟩ : ∃ G : Option (List Int) × Int → Nat → Option (Option (List Int) × Int), G = fun a i => cond (us.getD i false) (some a) (runP (stepL tf) xs.length r (ord ++ [(i : Int)]) (us.set i true) a) := ⟨_, rfl⟩
    rw [← hG]
    suffices hs : ∃ a', (List.range xs.length).foldlM G a = some a' ∧ spec_l03Try_step N (spec_l03Try_r N F) xs ord c (accS xs c a).1 (accS xs c a).2 = some (accS xs c a', ()) ∧ AccOk xs c a' ∧ a'.1.isSome = true by exact hs
    unfold spec_l03Try_step
    rw [show ((ord.length : Int) == (xs.length : Int)) = false by simp; omega, cond_false]
    refine loop_inv (Q := fun o : Option ((List Int × Int) × Unit) => ∃ a', (List.range xs.length).foldlM G a = some a' ∧ o = some (accS xs c a', ()) ∧ AccOk xs c a' ∧ a'.1.isSome = true)
      (inv := fun s3 : (List Int × Int) × Int × Unit => ∃ (k : Nat) (ak : Option (List Int) × Int), k ≤ xs.length ∧ s3 = (accS xs c ak, (k : Int), ()) ∧ (List.range k).foldlM G a = some ak ∧ AccOk xs c ak ∧ ∀ j, j < k → freeB xs ord j = true → ak.1.isSome = true) (μ := fun s3 => (xs.length - s3.2.1).toNat) ?_ N _
      ⟨0, a, Nat.zero_le _, rfl, rfl, ha, fun j hj => by omega⟩ (by simp only; omega)
    rintro _ next4 ⟨k, ak, hk, rfl, hfold, hak, hfr⟩ hn
    simp only at hn ⊢
    by_cases hlt : k < xs.length
    · have hbl := (h.get k).1
      obtain ⟨_, _, _, _, g5, g6, g7⟩ := f3 k hlt
      rw [decide_eq_true (show (k : Int) < (xs.length : Int) by omega), cond_true, has_eq hN (by omega)]
      simp only [Option.bind_some]
      rw [idx_at hlt]
      simp only [Option.bind_some]
      have hfs : ∀ ak', G ak k = some ak' → (List.range (k + 1)).foldlM G a = some ak' := fun ak' hg => by
        rw [List.range_succ, List.foldlM_append, hfold]
        show (([k] : List Nat).foldlM G ak) = _
        rw [List.foldlM_cons, hg]
        rfl
      have fin : ∀ ak', G ak k = some ak' → AccOk xs c ak' → (freeB xs ord k = true → ak'.1.isSome = true) → (ak.1.isSome = true → ak'.1.isSome = true) →
          (∃ a', (List.range xs.length).foldlM G a = some a' ∧ next4 (accS xs c ak', (k : Int) + 1, ()) = some (accS xs c a', ()) ∧ AccOk xs c a' ∧ a'.1.isSome = true) := fun ak' h1 h2 h3 h4 =>
        hn _ ⟨k + 1, ak', hlt, rfl, hfs ak' h1, h2, fun j hj hf => by
          by_cases hjk : j = k
          · rw [hjk] at hf; exact h3 hf
          · exact h4 (hfr j (by omega) hf)⟩ (by simp only; omega)
      rw [w64_in (n := (k : Int) + 1) (by omega)]
      refine loop_inv (Q := fun o : Option ((List Int × Int) × Unit) => ∃ a', (List.range xs.length).foldlM G a = some a' ∧ o = some (accS xs c a', ()) ∧ AccOk xs c a' ∧ a'.1.isSome = true)
        (inv := fun s : Bool × Int × Unit => ∃ q : Nat, q ≤ (xs.getD k NL).2.2.1.length ∧ s = (!(ord.contains (k : Int)) && ((xs.getD k NL).2.2.1.take q).all (fun b => ord.contains b), (q : Int), ())) (μ := fun s => ((xs.getD k NL).2.2.1.length - s.2.1).toNat) ?_ N _
        ⟨0, Nat.zero_le _, by simp⟩ (by simp only; omega)
      rintro _ next8 ⟨q, hq, rfl⟩ hn8
      simp only at hn8 ⊢
      by_cases hlt4 : q < (xs.getD k NL).2.2.1.length
      · rw [decide_eq_true (show (q : Int) < ((xs.getD k NL).2.2.1.length : Int) by omega), cond_true, w64_in (n := (q : Int) + 1) (by omega)]
        have hta := take_all (p := fun b => ord.contains b) hlt4
        cases hfl : (!(ord.contains (k : Int)) && ((xs.getD k NL).2.2.1.take q).all (fun b => ord.contains b)) with
        | true =>
          rw [cond_true, idx_int hlt4]
          simp only [Option.bind_some]
          rw [has_eq hN (by omega)]
          simp only [Option.bind_some]
          refine hn8 _ ⟨q + 1, hlt4, ?_⟩ (by simp only; omega)
          rw [hta, ← Bool.and_assoc, hfl, Bool.true_and]
          rfl
        | false =>
          rw [cond_false]
          refine hn8 _ ⟨q + 1, hlt4, ?_⟩ (by simp only; omega)
          rw [hta, ← Bool.and_assoc, hfl, Bool.false_and]
          rfl
      · obtain rfl : q = (xs.getD k NL).2.2.1.length := by omega
        rw [decide_eq_false (Int.lt_irrefl _), cond_false, List.take_length]
        rw [show (!(ord.contains (k : Int)) && (xs.getD k NL).2.2.1.all (fun b => ord.contains b)) = freeB xs ord k from rfl]
        have huk := hu.2 k hlt
        cases hfb : freeB xs ord k with
        | false =>
          rw [cond_false]
          refine fin ak ?_ hak (fun hc => by rw [hfb] at hc; cases hc) id
          rw [hG]
          simp only
          cases hu2 : us.getD k false with
          | true => rfl
          | false =>
            rw [hu2] at huk
            unfold freeB at hfb
            rw [← huk, Bool.not_false, Bool.true_and] at hfb
            exact runP_skip ht0 r _ _ ak (by rw [List.length_append, List.length_singleton]; omega) (ordG_child ho hlt huk.symm) (hu.snoc hlt) (by rw [befG_snoc, Int.toNat_natCast, List.nil_append, hfb, Bool.and_false])
        | true =>
          have hfb' := hfb
          unfold freeB at hfb'
          rw [Bool.and_eq_true, Bool.not_eq_true'] at hfb'
          rw [hfb'.1] at huk
          obtain ⟨a'', e1, e2, e3, e4⟩ := ih (ord ++ [(k : Int)]) (us.set k true) ak F (by rw [List.length_append, List.length_singleton]; omega) (ordG_child ho hlt hfb'.1) (by rw [befG_snoc, Int.toNat_natCast, List.nil_append, hb, hfb'.2]; rfl) (hu.snoc hlt) hak (by omega)
          rw [cond_true, appOk_of (by simp; omega), cond_true, appOk_of (by simp; omega), cond_true, List.nil_append, e2]
          simp only [Option.bind_some]
          refine fin a'' ?_ e3 (fun _ => e4) (fun _ => e4)
          rw [hG]
          simp only
          rw [huk, cond_false]
          exact e1
    · obtain rfl : k = xs.length := by omega
      rw [decide_eq_false (show ¬ (xs.length : Int) < (xs.length : Int) by omega), cond_false]
      obtain ⟨j, hj, hjf⟩ := free_some ht (O := ord) (by omega)
      exact ⟨ak, hfold, rfl, hak, hfr j hj hjf⟩

theorem BestPlan_law {xs : List Tk} {c : Int} (h : Small 1048576 xs) : ∃ l i b, spec_BestPlan N xs c = some (l, i, b, ()) ∧ impl_BestPlan N xs c = some (l, i, b, ()) ∧ l.length ≤ 1048576 := by
  unfold spec_BestPlan impl_BestPlan
  rw [l03Crew_eq hN h, fitsCrew_eq hN h]
  simp only [Option.bind_some]
  cases hcr : (tasksOk xs && (within 0 20 c && (List.range xs.length).all fun k => !decide ((xs.getD k NL).2.1 > c)))
  · exact ⟨_, _, _, rfl, rfl, by simp⟩
  obtain ⟨ht, hc⟩ := crew_facts hcr
  obtain ⟨f1, f2, f3⟩ := task_facts ht
  simp only [Bool.not_true, cond_false]
  by_cases h7 : (xs.length : Int) > 7
  · rw [decide_eq_true h7]
    exact ⟨_, _, _, rfl, rfl, by simp⟩
  · rw [decide_eq_false h7, cond_false, cond_false]
    have hplan : ∀ o, ordB (xs.length : Int) o = true → impl_orderPlan N xs o c = some (cond (befG xs [] o) ((takeM xs c o).1, endW xs (takeM xs c o).1, true, ()) ([], 0, false, ())) := fun o ho => orderPlan_eq hN h ht hc ho
    obtain ⟨a', e1, e2, e3, e4⟩ := try_eq hN h ht hc (tf := fun o => impl_BestPlan_1_c0 N o xs c) (fun o ho hb => by
        unfold impl_BestPlan_1_c0
        rw [hplan o ho, hb]
        rfl) (fun o ho hb => by
        unfold impl_BestPlan_1_c0
        rw [hplan o ho, hb]
        rfl) xs.length [] (List.replicate xs.length false) (none, 0) N (by simp) rfl rfl ⟨by simp, fun j hj => by rw [getB_rep]; rfl⟩ (fun o ho => by cases ho) (by omega)
    have e2' : spec_l03Try N xs [] c [] (-1) = some (accS xs c a', ()) := e2
    rw [e2']
    unfold impl_firstLeast_impl_BestPlan_1 leastF
    rw [decide_eq_true (show (1 : Int) ≤ (xs.length : Int) by omega), decide_eq_true (show (xs.length : Int) ≤ 1000 by omega)]
    simp only [Bool.and_self, cond_true, Int.toNat_natCast]
    rw [e1]
    simp only [Option.bind_some]
    cases ha : a'.1 with
    | none => rw [ha] at e4; cases e4
    | some o =>
      obtain ⟨g1, g2, g3⟩ := e3 o ha
      have hOk : OrdOk xs.length o := ⟨(ord_facts g1).2, by
        simp only [ordB, Bool.and_eq_true] at g1
        exact (ordG_nodup g1.2).1⟩
      have hT := takeM_inv ht hc hOk (by have := (ord_facts g1).1; omega) o.length (Nat.le_refl _)
      rw [List.take_length] at hT
      have hl1 := hT.l1
      simp only [Option.getD_some, Option.isSome_some, Bool.not_true, cond_false]
      rw [hplan o g1, g2]
      refine ⟨(takeM xs c o).1, endW xs (takeM xs c o).1, true, ?_, rfl, by omega⟩
      unfold accS
      rw [ha]
      simp only
      rw [g3]

theorem FnExactBestPlan_eq (xs : List Tk) (c : Int) (hx : Small 9223372036854775807 xs) : laws_FnExactBestPlan N xs c = some (true, ()) := by
  unfold laws_FnExactBestPlan
  rcases szTaskS_eq hN (k := 1048576) hx (by omega) with e | ⟨r, e, h1, h2, h3⟩
  · simp [e]
  obtain ⟨a0, a1, a2, e1, e2, l_a0⟩ := BestPlan_law hN h3 (c := c)
  simp only [e, Option.bind_some, show decide (r < 0) = false from by simp; omega, cond_false, toTaskS_eq hN h3, e1, e2, eqTaskS_eq hN h3, bne_self_eq_false, BEq.rfl, Bool.not_true, markTS_eq h3, Nat.beq_refl, cond_true, decide_eq_false (show ¬ ((1 : Int) + tksLen xs < 0) by have := tksLen_nonneg xs; omega), eqInt64S_eq hN (xs := a0) (by omega), markInt64S_eq hN (xs := a0) (k := 1) (by omega) (by omega), heldInt64S_eq hN (xs := a0) (k := 1) (by omega) (by omega), decide_eq_false (show ¬ ((1 + a0.length : Int) < 0) by omega), counted_len]
end

end Go.Proofs.Ytnnfapnpijjbdaa
