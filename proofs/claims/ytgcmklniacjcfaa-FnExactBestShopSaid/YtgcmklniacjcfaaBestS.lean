/-
  BestShop: the plain law. No condition.
-/
import Derived.Test.YtgcmklniacjcfaaShopB
import Derived.Test.YtgcmklniacjcfaaShopP
namespace Go.Proofs.Ytgcmklniacjcfaa
open Go Go.Proofs.Ytgcmklniacjcfaa.Fw
set_option linter.unusedVariables false
set_option linter.unusedSimpArgs false

theorem shopT_pre {m q : Nat} {rt xs tu tu' : List Int} : ∀ T, (∀ t, t < T → tu.getD t 0 = tu'.getD t 0) → shopT m q rt xs tu T = shopT m q rt xs tu' T := by
  intro T
  induction T with
  | zero => intro _; rfl
  | succ T ih =>
    intro h
    have ih := ih fun t ht => h t (by omega)
    unfold shopT
    rw [ih, h T (by omega)]

theorem getD_app {l r : List Int} {t : Nat} (h : t < l.length) : (l ++ r).getD t 0 = l.getD t 0 := by
  rw [List.getD_eq_getElem?_getD, List.getElem?_append_left h, List.getD_eq_getElem?_getD]

theorem getD_last {l : List Int} {v : Int} : (l ++ [v]).getD l.length 0 = v := by
  rw [List.getD_eq_getElem?_getD, List.getElem?_append_right (Nat.le_refl _)]
  simp

theorem getD_out {l : List Int} {t : Nat} (h : l.length ≤ t) : l.getD t 0 = 0 := by
  rw [List.getD_eq_getElem?_getD, List.getElem?_eq_none h]
  rfl

/-- Turns that begin a plan. -/
structure Part (m q : Nat) (rt xs tu : List Int) (s : TS) (left : List Int) : Prop where
  le : tu.length ≤ xs.length
  s_ : s = (shopT m q rt xs tu tu.length).1
  hu : ∀ t, t < tu.length → 0 ≤ tu.getD t 0 ∧ tu.getD t 0 < q
  ne : ∀ t, t < tu.length → ((shopT m q rt xs tu t).1.1.getD (tu.getD t 0).toNat 0 == (m : Int)) = false
  ll : left.length = q
  lf : ∀ j, j < q → left.getD j 0 = m - s.1.getD j 0

theorem Part.hu' {m q : Nat} {rt xs tu : List Int} {s : TS} {left : List Int} (H : ShopOk m q rt xs) (h : Part m q rt xs tu s left) : ∀ t, t < xs.length → 0 ≤ tu.getD t 0 ∧ tu.getD t 0 < q := fun t ht => by
  by_cases h1 : t < tu.length
  · exact h.hu t h1
  · rw [getD_out (by omega)]
    have := H.q1
    omega

theorem Part.more {m q : Nat} {rt xs tu : List Int} {s : TS} {left : List Int} (H : ShopOk m q rt xs) (h : Part m q rt xs tu s left) (hl : tu.length < xs.length) {j : Nat} (hj : j < q) (hne : (s.1.getD j 0 == (m : Int)) = false) :
    Part m q rt xs (tu ++ [(j : Int)]) (turnT m rt xs s j) (left.set j (left.getD j 0 - 1)) := by
  have hp : ∀ t, t ≤ tu.length → shopT m q rt xs (tu ++ [(j : Int)]) t = shopT m q rt xs tu t := fun t ht => shopT_pre t fun t' ht' => getD_app (by omega)
  have hs : s.1.length = q := by rw [h.s_]; exact (shopT_len _).1
  have hll := h.ll
  refine ⟨by simp; omega, ?_, fun t ht => ?_, fun t ht => ?_, by simpa using hll, fun k hk => ?_⟩
  · rw [List.length_append, List.length_singleton, shopT, hp _ (Nat.le_refl _), getD_last, Int.toNat_natCast, ← h.s_, hne]
    rfl
  · by_cases h1 : t < tu.length
    · rw [getD_app h1]
      exact h.hu t h1
    · obtain rfl : t = tu.length := by simp at ht; omega
      rw [getD_last]
      omega
  · by_cases h1 : t < tu.length
    · rw [getD_app h1, hp _ (by omega)]
      exact h.ne t h1
    · obtain rfl : t = tu.length := by simp at ht; omega
      rw [getD_last, hp _ (by omega), Int.toNat_natCast, ← h.s_]
      exact hne
  · have h1 := h.lf k hk
    have h2 := h.lf j hj
    unfold turnT
    simp only
    rw [setD (by omega), setD (by omega)]
    split
    · omega
    · exact h1

section
variable {N : Nat} (hN : 9223372036854775808 ≤ N)
include hN

theorem look_search {rt xs : List Int} {m q : Nat} (H : ShopOk m q rt xs) (hq : quot xs m = q) (hs : shopOk xs m = true) :
    ∀ (r : Nat) (tu : List Int) (s : TS) (left : List Int) (o : Option (List Int)) (le : Int), tu.length + r = xs.length → Part m q rt xs tu s left → (∀ l, o = some l → l.length = xs.length) →
      ∃ o' le', lookP (spec_l04Turned N rt xs m) q r left tu (o.getD [], le) = some (o'.getD [], le') ∧ searchP (slices_Max_int64_int64 N) (slices_Clone_int_int N) (slices_Clone_int64_int64 N) m q rt xs r s tu (o, le) = some (o', le') ∧ (∀ l, o' = some l → l.length = xs.length) ∧ (r = 0 → o' ≠ none) := by
  have hn1 : 1 ≤ xs.length := by
    rw [← H.qm]
    exact Nat.mul_le_mul H.q1 H.m1
  have hx192 : xs.length ≤ 192 := by
    rw [← H.qm]
    exact Nat.mul_le_mul H.q24 H.m8
  have hm8 := H.m8
  have hm1 := H.m1
  have hq1 := H.q1
  have hq24 := H.q24
  have hcl : ∀ l : List Int, l.length ≤ 1000 → slices_Clone_int64_int64 N l = some (l, ()) := fun l hl => by
    unfold slices_Clone_int64_int64
    rw [appOk_of (by omega), cond_true]
  have hci : ∀ l : List Int, l.length ≤ 1000 → l ≠ [] → slices_Clone_int_int N l = some (l, ()) := fun l hl hne => by
    unfold slices_Clone_int_int
    cases l with
    | nil => exact absurd rfl hne
    | cons x l =>
      rw [appOk_of (by simp at hl ⊢; omega)]
      rfl
  intro r
  induction r with
  | zero =>
    intro tu s left o le hlen hP ho
    have hI := ti_all H (hP.hu' H)
    have hlen : tu.length = xs.length := by omega
    have hT := hI tu.length (by omega)
    unfold lookP searchP leafP
    rw [l04Turned_eq hN H hq hs (by omega) hP.hu (fun t ht => hI t (by omega)) hP.ne, hP.s_,
      max_free hN (last := lastT m q rt xs tu tu.length) (by rw [hT.l3]; omega) (by rw [hT.l3]; omega) (fun j => (hT.fb j).1) (fun j hj => hT.up j (by rw [← hT.l3]; exact hj)) hT.la.1 (by rw [hT.l3]; exact hT.at_)]
    simp only [Option.bind_some]
    rw [hcl tu (by omega), decide_eq_true rfl, cond_true]
    have e : (decide ((o.getD []).length = 0) || decide (lastT m q rt xs tu tu.length < le)) = (o.isNone || decide (lastT m q rt xs tu tu.length < le)) := by
      cases o with
      | none => rfl
      | some l =>
        have := ho l rfl
        rw [decide_eq_false (by show ¬ l.length = 0; omega)]
        rfl
    rw [e]
    cases hb : o.isNone || decide (lastT m q rt xs tu tu.length < le) with
    | true => exact ⟨some tu, _, rfl, rfl, fun l hl => by cases hl; exact hlen, fun _ h => by cases h⟩
    | false =>
      refine ⟨o, le, rfl, rfl, ho, fun _ h => ?_⟩
      rw [h] at hb
      cases hb
  | succ r ih =>
    intro tu s left o le hlen hP ho
    unfold lookP searchP
    have key : ∀ d j (o : Option (List Int)) (le : Int), j + d = q → (∀ l, o = some l → l.length = xs.length) →
        ∃ o' le', goJ (fun i (a : List Int × Int) => cond (left.getD i 0 == 0) (some a) (cond (decide (0 ≤ left.getD i 0) && decide (left.getD i 0 ≤ 1000)) (lookP (spec_l04Turned N rt xs m) q r (left.set i (left.getD i 0 - 1)) (tu ++ [(i : Int)]) a) none)) d j (o.getD [], le) = some (o'.getD [], le') ∧
          goJ (fun j (a : BS) => cond (s.1.getD j 0 == (m : Int)) (some a) (cond (okB (slices_Clone_int_int N) (slices_Clone_int64_int64 N) m q rt xs s j) (searchP (slices_Max_int64_int64 N) (slices_Clone_int_int N) (slices_Clone_int64_int64 N) m q rt xs r (turnT m rt xs s j) (tu ++ [(j : Int)]) a) none)) d j (o, le) = some (o', le') ∧ (∀ l, o' = some l → l.length = xs.length) := by
      intro d
      induction d with
      | zero => intro j o le _ ho; exact ⟨o, le, rfl, rfl, ho⟩
      | succ d ihd =>
        intro j o le hj ho
        unfold goJ
        have hlf := hP.lf j (by omega)
        have hT := ti_all H (hP.hu' H) tu.length hP.le
        rw [← hP.s_] at hT
        have hnb := hT.nb j
        cases hc : (s.1.getD j 0 == (m : Int)) with
        | true =>
          have hc' : s.1.getD j 0 = m := by simpa using hc
          rw [show (left.getD j 0 == 0) = true by simp only [beq_iff_eq]; omega]
          exact ihd (j + 1) o le (by omega) ho
        | false =>
          have hc' : s.1.getD j 0 ≠ m := by simpa using hc
          rw [show (left.getD j 0 == 0) = false by simp only [beq_eq_false_iff_ne]; omega, decide_eq_true (show 0 ≤ left.getD j 0 by omega), decide_eq_true (show left.getD j 0 ≤ 1000 by omega)]
          have hP' := hP.more H (by omega) (j := j) (by omega) hc
          obtain ⟨o1, le1, e1, e2, e3, _⟩ := ih (tu ++ [(j : Int)]) _ _ o le (by simp; omega) hP' ho
          have hok : okB (slices_Clone_int_int N) (slices_Clone_int64_int64 N) m q rt xs s j = true := by
            unfold okB
            have h1 := ok_all H (hP'.hu' H) (t := tu.length) (by omega)
            rw [shopT_pre (tu' := tu) tu.length (fun t ht => getD_app ht), getD_last, ← hP.s_] at h1
            rw [h1, hci s.1 (by rw [hT.l1]; omega) (fun h => by have := hT.l1; rw [h] at this; simp at this; omega), hcl s.2.1 (by rw [hT.l2]; omega), hcl s.2.2 (by rw [hT.l3]; omega)]
            simp
          rw [hok]
          simp only [Bool.and_self, cond_false, cond_true]
          rw [e1, e2]
          exact ihd (j + 1) o1 le1 (by omega) e3
    obtain ⟨o', le', e1, e2, e3⟩ := key q 0 o le (by omega) ho
    exact ⟨o', le', e1, e2, e3, fun h => by omega⟩

theorem BestShop_law {rt xs : List Int} {m : Int} (hr : rt.length ≤ 1048576) (hx : xs.length ≤ 1048576) :
    ∃ a b c, spec_BestShop N rt xs m = some (a, b, c, ()) ∧ impl_BestShop N rt xs m = some (a, b, c, ()) ∧ a.length ≤ 1048576 := by
  unfold spec_BestShop impl_BestShop lookF bestF
  rw [l04Shop_eq hN hr hx]
  simp only [Option.bind_some]
  obtain ⟨j, hj, hjq⟩ := routed_eq hN (m := m) hr hx
  rw [hj]
  simp only [Option.bind_some]
  cases hc : (routesB rt m && (shopOk xs m && ((xs.length : Int) == (rt.length : Int)))) with
  | false => exact ⟨_, _, _, rfl, rfl, by simp⟩
  | true =>
    obtain ⟨mn, qn, rfl, hqn, H⟩ := shopOk_of hr hx hc
    have hs : shopOk xs (mn : Int) = true := by
      simp only [Bool.and_eq_true] at hc
      exact hc.2.1
    obtain rfl := hjq hs
    rw [hqn]
    have hn1 : 1 ≤ xs.length := by
      rw [← H.qm]
      exact Nat.mul_le_mul H.q1 H.m1
    have hm1 := H.m1
    have hm8 := H.m8
    have hq1 := H.q1
    have hq24 := H.q24
    have hg : (decide True && (decide True && (decide (1 ≤ (mn : Int)) && (decide ((mn : Int) ≤ 8) && (decide (1 ≤ (qn : Int)) && (decide ((qn : Int) ≤ 24) && (decide ((qn : Int) * (mn : Int) = (xs.length : Int)) && decide (rt.length = xs.length)))))))) = true := by
      simp only [Bool.and_eq_true, decide_eq_true_eq]
      refine ⟨trivial, trivial, by omega, by omega, by omega, by omega, ?_, H.rl⟩
      rw [← H.qm]
      simp
    rw [hg, cond_true, cond_true, cond_true]
    by_cases h8 : 8 < xs.length
    · rw [decide_eq_true h8]
      exact ⟨_, _, _, rfl, rfl, by simp⟩
    · rw [decide_eq_false h8, cond_false, cond_false, l04Count_eq hN hx hs, hqn]
      simp only [Option.bind_some, Int.toNat_natCast]
      have hg2 : (decide (0 ≤ (qn : Int)) && (decide ((qn : Int) ≤ 24) && (decide (1 ≤ xs.length) && (decide (0 ≤ (mn : Int)) && decide ((mn : Int) ≤ 8))))) = true := by
        simp only [Bool.and_eq_true, decide_eq_true_eq]
        omega
      rw [hg2, cond_true]
      have hP : Part mn qn rt xs [] (zeroT mn qn) (List.replicate qn (mn : Int)) := by
        refine ⟨by simp, rfl, fun t ht => by simp at ht, fun t ht => by simp at ht, by simp, fun j hj => ?_⟩
        unfold zeroT
        simp only
        rw [repD, List.getD_eq_getElem?_getD, List.getElem?_replicate, if_pos hj]
        simp
      obtain ⟨o, le, e1, e2, e3, _⟩ := look_search hN H hqn hs xs.length [] (zeroT mn qn) _ none 0 (by simp) hP (fun l h => by cases h)
      have e1 : lookP (spec_l04Turned N rt xs mn) qn xs.length (List.replicate qn (mn : Int)) [] ([], 0) = some (o.getD [], le) := e1
      rw [e1, e2]
      refine ⟨_, _, _, rfl, rfl, ?_⟩
      cases o with
      | none => simp
      | some l =>
        have := e3 l rfl
        show l.length ≤ _
        omega

theorem FnExactBestShop_eq (rs xs : List Int) (m : Int) : laws_FnExactBestShop N rs xs m = some (true, ()) := by
  unfold laws_FnExactBestShop
  by_cases hr : (rs.length : Int) > 1048576
  · simp only [hr, decide_true, cond_true]
  · by_cases hx : (xs.length : Int) > 1048576
    · simp only [hr, hx, decide_true, decide_false, cond_true, cond_false]
    · obtain ⟨a, b, c, h1, h2, h3⟩ := BestShop_law hN (rt := rs) (xs := xs) (m := m) (by omega) (by omega)
      simp only [hr, hx, decide_false, cond_false, toInt64S_eq hN (xs := rs) (by omega), toInt64S_eq hN (xs := xs) (by omega), Option.bind_some, h1, h2, eqInt64S_eq hN (xs := rs) (by omega), eqInt64S_eq hN (xs := xs) (by omega), eqInt64S_eq hN (xs := a) (by omega), BEq.rfl, Bool.not_true, bne_self_eq_false,
        markInt64S_eq hN (xs := rs) (k := 1) (by omega) (by omega), markInt64S_eq hN (xs := xs) (k := 1 + (rs.length : Int)) (by omega) (by omega), markInt64S_eq hN (xs := a) (k := 1) (by omega) (by omega), heldInt64S_eq hN (xs := a) (k := 1) (by omega) (by omega), counted_len, Nat.beq_refl, cond_true,
        decide_eq_false (show ¬ ((1 : Int) + rs.length + xs.length < 0) by omega), decide_eq_false (show ¬ ((1 : Int) + a.length < 0) by omega)]
end

end Go.Proofs.Ytgcmklniacjcfaa
