/-
  OpenPlan: the plain law. No condition.
-/
import Derived.Test.YtgcmklniacjcfaaOpenF
import Derived.Test.YtgcmklniacjcfaaPShop
import Derived.Test.YtgcmklniacjcfaaRep
import Derived.Test.YtgcmklniacjcfaaLoads
namespace Go.Proofs.Ytgcmklniacjcfaa
open Go Go.Proofs.Ytgcmklniacjcfaa.Fw
set_option linter.unusedVariables false
set_option linter.unusedSimpArgs false

theorem setD {xs : List Int} {i j : Nat} {v : Int} (hi : i < xs.length) : (xs.set i v).getD j 0 = if i = j then v else xs.getD j 0 := by
  rw [List.getD_eq_getElem?_getD, List.getElem?_set, List.getD_eq_getElem?_getD]
  by_cases h : i = j
  · subst h
    rw [if_pos rfl, if_pos rfl, if_pos hi]
    rfl
  · rw [if_neg h, if_neg h]

theorem repD (n j : Nat) : (List.replicate n (0 : Int)).getD j 0 = 0 := by
  rw [List.getD_eq_getElem?_getD, List.getElem?_replicate]
  split <;> rfl

theorem imax_or (a b : Int) : (imax a b = a ∧ b ≤ a) ∨ (imax a b = b ∧ a < b) := by
  unfold imax
  by_cases h : b > a
  · rw [if_pos h]; exact .inr ⟨rfl, h⟩
  · rw [if_neg h]; exact .inl ⟨rfl, by omega⟩

/-- What is picked is not yet begun. -/
theorem pickO_spec {m : Nat} {xs out J Fr : List Int} : ∀ k : Nat, ((pickO m xs out J Fr k).1 = -1 ∧ ∀ j, j < k → out.getD j 0 ≥ 0) ∨
    ∃ p : Nat, p < k ∧ (pickO m xs out J Fr k).1 = (p : Int) ∧ out.getD p 0 < 0 ∧ (pickO m xs out J Fr k).2 = imax (J.getD (p / m) 0) (Fr.getD (p % m) 0) := by
  intro k
  induction k with
  | zero => exact .inl ⟨rfl, fun j h => by omega⟩
  | succ k ih =>
    unfold pickO
    by_cases ho : out.getD k 0 ≥ 0
    · rw [decide_eq_true ho, cond_true]
      rcases ih with ⟨h1, h2⟩ | ⟨p, h1, h2, h3, h4⟩
      · refine .inl ⟨h1, fun j hj => ?_⟩
        by_cases hjk : j = k
        · rw [hjk]; exact ho
        · exact h2 j (by omega)
      · exact .inr ⟨p, by omega, h2, h3, h4⟩
    · rw [decide_eq_false ho, cond_false]
      generalize hc : (decide ((pickO m xs out J Fr k).1 < 0) || _) = c
      cases c with
      | true => exact .inr ⟨k, by omega, rfl, by omega, rfl⟩
      | false =>
        rcases ih with ⟨h1, h2⟩ | ⟨p, h1, h2, h3, h4⟩
        · rw [h1] at hc
          simp at hc
        · exact .inr ⟨p, by omega, h2, h3, h4⟩

/-- What holds when t steps are planned. -/
structure PlanI (m q : Nat) (xs : List Int) (t : Nat) (s : OS) (last : Int) : Prop where
  l1 : s.1.length = xs.length
  l2 : s.2.1.length = q
  l3 : s.2.2.length = m
  cnt : s.1.count (-1) = xs.length - t
  one : ∀ j, j < xs.length → s.1.getD j 0 = -1 ∨ 0 ≤ s.1.getD j 0
  jb : ∀ j, 0 ≤ s.2.1.getD j 0 ∧ s.2.1.getD j 0 ≤ 10000 * (t : Int)
  fb : ∀ j, 0 ≤ s.2.2.getD j 0 ∧ s.2.2.getD j 0 ≤ 10000 * (t : Int)
  la : 0 ≤ last ∧ last ≤ 10000 * (t : Int)
  up : ∀ j, j < m → s.2.2.getD j 0 ≤ last
  at_ : last = 0 ∨ ∃ j, j < m ∧ s.2.2.getD j 0 = last

theorem plan_pick {m q : Nat} {xs : List Int} (hm : 1 ≤ m) (hqm : q * m = xs.length) (hx : xs.length ≤ 192) {t : Nat} {s : OS} {last : Int} (h : PlanI m q xs t s last) (ht : t < xs.length) :
    ∃ p : Nat, p < xs.length ∧ (pickS m xs s).1 = (p : Int) ∧ s.1.getD p 0 = -1 ∧ (pickS m xs s).2 = imax (s.2.1.getD (p / m) 0) (s.2.2.getD (p % m) 0) ∧ p / m < q ∧ p % m < m := by
  unfold pickS
  rcases pickO_spec (m := m) (xs := xs) (out := s.1) (J := s.2.1) (Fr := s.2.2) xs.length with ⟨_, h2⟩ | ⟨p, h1, h2, h3, h4⟩
  · exfalso
    have hc := h.cnt
    have : s.1.count (-1) = 0 := by
      rw [List.count_eq_zero]
      intro hm'
      obtain ⟨j, hj, he⟩ := List.getElem_of_mem hm'
      have := h2 j (by have := h.l1; omega)
      rw [List.getD_eq_getElem?_getD, List.getElem?_eq_getElem hj] at this
      simp only [Option.getD_some] at this
      omega
    omega
  · refine ⟨p, h1, h2, ?_, h4, Nat.div_lt_of_lt_mul (by rw [Nat.mul_comm, hqm]; exact h1), Nat.mod_lt _ (by omega)⟩
    rcases h.one p h1 with h5 | h5
    · exact h5
    · omega

theorem plan_step {m q : Nat} {xs : List Int} (hm : 1 ≤ m) (hqm : q * m = xs.length) (hx : xs.length ≤ 192) (hxs : ∀ j, j < xs.length → 1 ≤ xs.getD j 0 ∧ xs.getD j 0 ≤ 10000) {t : Nat} {s : OS} {last : Int} (h : PlanI m q xs t s last) (ht : t < xs.length) :
    PlanI m q xs (t + 1) (stepO m xs s) (imax last ((pickS m xs s).2 + xs.getD (pickS m xs s).1.toNat 0)) := by
  obtain ⟨p, p1, p2, p3, p4, p5, p6⟩ := plan_pick hm hqm hx h ht
  obtain ⟨l1, l2, l3, cnt, one, jb, fb, la, up, at_⟩ := h
  have hv := hxs p p1
  have hj := jb (p / m)
  have hf := fb (p % m)
  unfold stepO
  rw [p2, p4, Int.toNat_natCast]
  obtain ⟨st, hst⟩ : ∃ st, st = imax (s.2.1.getD (p / m) 0) (s.2.2.getD (p % m) 0) := ⟨_, rfl⟩
  have hstb : 0 ≤ st ∧ st ≤ 10000 * (t : Int) ∧ s.2.2.getD (p % m) 0 ≤ st := by
    rw [hst]
    rcases imax_or (s.2.1.getD (p / m) 0) (s.2.2.getD (p % m) 0) with ⟨e, _⟩ | ⟨e, _⟩ <;> rw [e] <;> omega
  rw [← hst]
  generalize xs.getD p 0 = v at *
  refine ⟨by simpa using l1, by simpa using l2, by simpa using l3, ?_, fun j hj2 => ?_, fun j => ?_, fun j => ?_, ?_, fun j hj2 => ?_, ?_⟩
  · have hp : p < s.1.length := by omega
    simp only
    rw [List.count_set hp, cnt]
    have e : s.1[p] = -1 := by
      rw [List.getD_eq_getElem?_getD, List.getElem?_eq_getElem hp] at p3
      simpa using p3
    rw [e]
    have : (st == (-1 : Int)) = false := by
      simp only [beq_eq_false_iff_ne]
      omega
    rw [this]
    simp
    omega
  · simp only
    rw [setD (by omega)]
    split
    · exact .inr hstb.1
    · exact one j hj2
  · simp only
    have := jb j
    rw [setD (by omega)]
    split <;> omega
  · simp only
    have := fb j
    rw [setD (by omega)]
    split <;> omega
  · rcases imax_or last (st + v) with ⟨e, _⟩ | ⟨e, _⟩ <;> rw [e] <;> omega
  · simp only
    rw [setD (by omega)]
    have hu := up j hj2
    rcases imax_or last (st + v) with ⟨e, h1⟩ | ⟨e, h1⟩ <;> rw [e] <;> split <;> omega
  · rcases imax_or last (st + v) with ⟨e, h1⟩ | ⟨e, h1⟩
    · rw [e]
      rcases at_ with h0 | ⟨j, j1, j2⟩
      · exact .inl h0
      · refine .inr ⟨j, j1, ?_⟩
        simp only
        rw [setD (by omega)]
        split
        · rename_i he
          subst he
          omega
        · exact j2
    · rw [e]
      refine .inr ⟨p % m, p6, ?_⟩
      simp only
      rw [setD (by omega), if_pos rfl]

theorem plan_zero {m q : Nat} {xs : List Int} : PlanI m q xs 0 (openL m q xs 0) 0 := by
  unfold openL
  refine ⟨by simp, by simp, by simp, by simp, fun j hj => .inl ?_, fun j => ?_, fun j => ?_, by simp, fun j hj => ?_, .inl rfl⟩
  · simp only
    rw [List.getD_eq_getElem?_getD, List.getElem?_replicate, if_pos hj]
    rfl
  · simp only; rw [repD]; simp
  · simp only; rw [repD]; simp
  · simp only; rw [repD]; exact Int.le_refl _

/-- The last end so far. -/
def lastO (m q : Nat) (xs : List Int) : Nat → Int
  | 0 => 0
  | t + 1 => imax (lastO m q xs t) ((pickS m xs (openL m q xs t)).2 + xs.getD (pickS m xs (openL m q xs t)).1.toNat 0)

theorem plan_all {m q : Nat} {xs : List Int} (hm : 1 ≤ m) (hqm : q * m = xs.length) (hx : xs.length ≤ 192) (hxs : ∀ j, j < xs.length → 1 ≤ xs.getD j 0 ∧ xs.getD j 0 ≤ 10000) : ∀ t, t ≤ xs.length → PlanI m q xs t (openL m q xs t) (lastO m q xs t) := by
  intro t
  induction t with
  | zero => intro _; exact plan_zero
  | succ t ih => intro h; exact plan_step hm hqm hx hxs (ih (by omega)) (by omega)

theorem foldmax_spec : ∀ (l : List Int) (x : Int), x ≤ l.foldl imax x ∧ (∀ v ∈ l, v ≤ l.foldl imax x) ∧ (l.foldl imax x = x ∨ l.foldl imax x ∈ l) := by
  intro l
  induction l with
  | nil => intro x; exact ⟨Int.le_refl _, (fun v h => (by cases h)), .inl rfl⟩
  | cons y l ih =>
    intro x
    rw [List.foldl_cons]
    obtain ⟨h1, h2, h3⟩ := ih (imax x y)
    have hxy : x ≤ imax x y ∧ y ≤ imax x y := by
      rcases imax_or x y with ⟨e, h⟩ | ⟨e, h⟩ <;> rw [e] <;> omega
    refine ⟨by omega, fun v hv => ?_, ?_⟩
    · rcases List.mem_cons.1 hv with rfl | hv
      · omega
      · exact h2 v hv
    · rcases h3 with h3 | h3
      · rcases imax_or x y with ⟨e, _⟩ | ⟨e, _⟩
        · rw [e] at h3 ⊢; exact .inl h3
        · rw [e] at h3 ⊢; exact .inr (by rw [h3]; exact List.mem_cons_self)
      · exact .inr (List.mem_cons_of_mem _ h3)

/-- A loop that counts. -/
theorem count_rule {σ ρ : Type} {body : σ → (σ → Option ρ) → Option ρ} {st : Nat → σ} {n : Nat} {R : Option ρ} (h0 : ∀ next, body (st n) next = R)
    (h1 : ∀ t next, t < n → next (st (t + 1)) = R → body (st t) next = R) {N : Nat} (hN : n < N) : loopN body N (st 0) = R := by
  have h : ∀ d M t, t + d = n → d < M → loopN body M (st t) = R := by
    intro d
    induction d with
    | zero =>
      intro M t ht hM
      match M, hM with
      | M + 1, _ => rw [show t = n by omega]; exact h0 _
    | succ d ih =>
      intro M t ht hM
      match M, hM with
      | M + 1, hM => exact h1 t _ (by omega) (ih M (t + 1) (by omega) (by omega))
  exact h n N 0 (by omega) hN

theorem w64_nat {n : Nat} (h : n ≤ 4611686018427387904) : w64 (n : Int) = n := w64_in (by omega)

theorem inB_nat {n len : Nat} (h : n < len) : inB (n : Int) len = true := inB_of ⟨Int.natCast_nonneg _, Int.ofNat_lt.2 h⟩

theorem condT {α : Type} {c : Bool} {a b r : α} (h : c = true) (h2 : a = r) : cond c a b = r := by
  rw [h, cond_true, h2]

section
variable {N : Nat} (hN : 9223372036854775808 ≤ N)
include hN

theorem max_free {l : List Int} {last : Int} (h1 : 1 ≤ l.length) (h2 : l.length ≤ 1000) (h0 : ∀ j, 0 ≤ l.getD j 0) (hup : ∀ j, j < l.length → l.getD j 0 ≤ last) (hla : 0 ≤ last) (hat : last = 0 ∨ ∃ j, j < l.length ∧ l.getD j 0 = last) : slices_Max_int64_int64 N l = some (last, ()) := by
  match l, h1 with
  | x :: l, _ =>
    rw [slicesMax_eq hN (by omega)]
    obtain ⟨g1, g2, g3⟩ := foldmax_spec l x
    have hmem : ∀ v ∈ x :: l, v ≤ last := fun v hv => by
      obtain ⟨j, hj, rfl⟩ := List.getElem_of_mem hv
      have := hup j hj
      rw [List.getD_eq_getElem?_getD, List.getElem?_eq_getElem hj] at this
      simpa using this
    have hge : ∀ v ∈ x :: l, v ≤ l.foldl imax x := fun v hv => by
      rcases List.mem_cons.1 hv with rfl | hv
      · exact g1
      · exact g2 v hv
    have hle : l.foldl imax x ≤ last := by
      rcases g3 with e | e
      · rw [e]; exact hmem x List.mem_cons_self
      · exact hmem _ (List.mem_cons_of_mem _ e)
    have : l.foldl imax x = last := by
      rcases hat with e | ⟨j, hj, e⟩
      · have := h0 0
        simp at this
        omega
      · have hm : last ∈ x :: l := by
          rw [← e, List.getD_eq_getElem?_getD, List.getElem?_eq_getElem hj]
          exact List.getElem_mem hj
        have := hge _ hm
        omega
    rw [this]

theorem OpenPlan_law {xs : List Int} {m : Int} (hx : xs.length ≤ 1048576) : ∃ a b c, spec_OpenPlan N xs m = some (a, b, c, ()) ∧ impl_OpenPlan N xs m = some (a, b, c, ()) ∧ a.length ≤ 1048576 := by
  unfold spec_OpenPlan impl_OpenPlan
  obtain ⟨j, hj, hjq⟩ := asShop_eq hN (m := m) hx
  rw [l04Can_eq hN hx]
  simp only [Option.bind_some]
  cases hs : shopOk xs m with
  | false =>
    refine ⟨_, _, _, rfl, ?_, by simp⟩
    unfold openF
    rw [hj, hs]
    rfl
  | true =>
    obtain rfl := hjq hs
    obtain ⟨m1, m8, q1, q24, hq, ha, _, hm0, hl⟩ := shop_facts hx hs
    obtain ⟨mn, rfl⟩ : ∃ n : Nat, m = (n : Int) := ⟨m.toNat, by omega⟩
    obtain ⟨qn, hqn⟩ : ∃ n : Nat, quot xs (mn : Int) = (n : Int) := ⟨(quot xs mn).toNat, by omega⟩
    rw [hs, hqn] at hj
    rw [hqn] at hq q1 q24
    have hqm : qn * mn = xs.length := by
      have : ((qn * mn : Nat) : Int) = (xs.length : Int) := by rw [← hq]; simp
      omega
    have hxs : ∀ j, j < xs.length → 1 ≤ xs.getD j 0 ∧ xs.getD j 0 ≤ 10000 := fun j hj => all_getD ha hj
    have hall := plan_all (m := mn) (q := qn) (xs := xs) (by omega) hqm hl hxs
    refine ⟨(openL mn qn xs xs.length).1, lastO mn qn xs xs.length, true, ?_, ?_, ?_⟩
    · simp only [Bool.not_true, cond_false]
      refine count_rule (st := fun k => (List.replicate k (-1), (k : Int), ())) (n := xs.length) (fun next => ?_) (fun t next ht hn => ?_) (by omega)
      · simp only [Int.lt_irrefl, decide_false, cond_false]
        rw [l04Count_eq hN hx hs, hqn]
        simp only [Option.bind_some]
        rw [mkOk_of (by omega), mkOk_of (by omega), cond_true, cond_true, Int.toNat_natCast, Int.toNat_natCast]
        refine count_rule (st := fun t => ((openL mn qn xs t).1, (openL mn qn xs t).2.1, (openL mn qn xs t).2.2, lastO mn qn xs t, (t : Int), ())) (n := xs.length) (fun next => ?_) (fun t next ht hn => ?_) (by omega)
        · simp only [Int.lt_irrefl, decide_false, cond_false]
        · obtain ⟨p, p1, p2, p3, p4, p5, p6⟩ := plan_pick (by omega) hqm hl (hall t (by omega)) ht
          have hP := hall t (by omega)
          have l1 := hP.l1
          have l2 := hP.l2
          have l3 := hP.l3
          have hjb := hP.jb (p / mn)
          have hfb := hP.fb (p % mn)
          have hxp := hxs p p1
          have hst : 0 ≤ (pickS mn xs (openL mn qn xs t)).2 ∧ (pickS mn xs (openL mn qn xs t)).2 ≤ 10000 * (t : Int) := by
            rw [p4]
            rcases imax_or ((openL mn qn xs t).2.1.getD (p / mn) 0) ((openL mn qn xs t).2.2.getD (p % mn) 0) with ⟨e, _⟩ | ⟨e, _⟩ <;> rw [e] <;> omega
          simp only [decide_eq_true (show (t : Int) < (xs.length : Int) by omega), cond_true, hm0, cond_false]
          simp only [openL, stepO, lastO] at hn
          unfold pickS at p2 p4 hst hn
          generalize openL mn qn xs t = s at *
          obtain ⟨out, J, Fr⟩ := s
          simp only at *
          refine count_rule (st := fun k => ((pickO mn xs out J Fr k).1, (pickO mn xs out J Fr k).2, (k : Int), ())) (n := xs.length) (fun next2 => ?_) (fun k next2 hk hn2 => ?_) (by omega)
          · simp only [Int.lt_irrefl, decide_false, cond_false]
            rw [p2, Int.toNat_natCast] at hn
            rw [p2, show Int.tdiv (p : Int) (mn : Int) = ((p / mn : Nat) : Int) from rfl, show Int.tmod (p : Int) (mn : Int) = ((p % mn : Nat) : Int) from rfl, w64_nat (n := p / mn) (by omega)]
            rw [inB_nat (n := p) (by omega), inB_nat (n := p / mn) (by omega), inB_nat (n := p % mn) (by omega), idx_getD (by omega)]
            simp only [Option.bind_some, cond_true, Int.toNat_natCast, l00Max_eq]
            rw [w64_in (by omega), w64_in (by omega)]
            exact hn
          · have hkm : k / mn < J.length := by
              rw [l2]
              exact Nat.div_lt_of_lt_mul (by rw [Nat.mul_comm, hqm]; exact hk)
            have hkr : k % mn < Fr.length := by
              rw [l3]
              exact Nat.mod_lt _ (by omega)
            simp only [decide_eq_true (show (k : Int) < (xs.length : Int) by omega), cond_true]
            rw [show Int.tdiv (k : Int) (mn : Int) = ((k / mn : Nat) : Int) from rfl, show Int.tmod (k : Int) (mn : Int) = ((k % mn : Nat) : Int) from rfl, w64_nat (n := k / mn) (by omega)]
            rw [inB_nat (n := k) (by omega), inB_nat (n := k / mn) (by omega), inB_nat (n := k % mn) (by omega)]
            simp only [Option.bind_some, cond_true, Int.toNat_natCast, l00Max_eq, get_getD (0 : Int) hkm, get_getD (0 : Int) hkr, get_getD (0 : Int) (show k < out.length by omega)]
            rw [w64_in (n := (k : Int) + 1) (by omega)]
            have hlt := pickO_lt (m := mn) (xs := xs) (out := out) (J := J) (Fr := Fr) k
            rw [pickO] at hn2
            generalize pickO mn xs out J Fr k = P at *
            obtain ⟨b, f⟩ := P
            generalize imax (J.getD (k / mn) 0) (Fr.getD (k % mn) 0) = v at *
            simp only at *
            by_cases ho : out.getD k 0 ≥ 0
            · rw [decide_eq_true ho, cond_true] at hn2 ⊢
              exact hn2
            · rw [decide_eq_false ho, cond_false] at hn2 ⊢
              by_cases hb : b ≥ 0
              · rw [decide_eq_true hb, cond_true]
                rw [decide_eq_false (show ¬ b < 0 by omega), Bool.false_or] at hn2
                by_cases hv : v > f
                · rw [decide_eq_true hv, cond_true]
                  rw [decide_eq_false (show ¬ v < f by omega), decide_eq_false (show ¬ v = f by omega)] at hn2
                  exact hn2
                · rw [decide_eq_false hv, cond_false]
                  by_cases he : v = f
                  · rw [show (v == f) = true by simpa using he, cond_true, idx_getD (by omega), idx_getD (by omega), Int.toNat_natCast]
                    rw [decide_eq_false (show ¬ v < f by omega), decide_eq_true he] at hn2
                    simp only [Option.bind_some]
                    by_cases hh : xs.getD k 0 ≤ xs.getD b.toNat 0
                    · rw [decide_eq_true hh, cond_true]
                      rw [decide_eq_false (show ¬ xs.getD k 0 > xs.getD b.toNat 0 by omega)] at hn2
                      exact hn2
                    · rw [decide_eq_false hh, cond_false]
                      rw [decide_eq_true (show xs.getD k 0 > xs.getD b.toNat 0 by omega)] at hn2
                      exact hn2
                  · rw [show (v == f) = false by simpa using he, cond_false]
                    rw [decide_eq_true (show v < f by omega), Bool.true_or] at hn2
                    exact hn2
              · rw [decide_eq_false hb, cond_false]
                rw [decide_eq_true (show b < 0 by omega), Bool.true_or] at hn2
                exact hn2
      · simp only [decide_eq_true (show (t : Int) < (xs.length : Int) by omega), cond_true]
        rw [appOk_of (by simp; omega), cond_true, w64_in (by omega), ← List.replicate_succ']
        exact hn
    · unfold openF
      rw [hj]
      simp only [Option.bind_some, cond_true]
      refine condT ?_ ?_
      · simp only [Bool.and_eq_true, decide_eq_true_eq, List.all_eq_true, List.mem_range, Int.toNat_natCast]
        refine ⟨trivial, m1, m8, q1, q24, hq, fun t ht => ?_⟩
        obtain ⟨p, p1, p2, p3, p4, p5, p6⟩ := plan_pick (by omega) hqm hl (hall t (by omega)) ht
        have hP := hall t (by omega)
        have hjb := hP.jb (p / mn)
        have hfb := hP.fb (p % mn)
        have hst : 0 ≤ (pickS mn xs (openL mn qn xs t)).2 ∧ (pickS mn xs (openL mn qn xs t)).2 ≤ 10000 * (t : Int) := by
          rw [p4]
          rcases imax_or ((openL mn qn xs t).2.1.getD (p / mn) 0) ((openL mn qn xs t).2.2.getD (p % mn) 0) with ⟨e, _⟩ | ⟨e, _⟩ <;> rw [e] <;> omega
        unfold okO
        simp only [Bool.and_eq_true, decide_eq_true_eq, List.all_eq_true]
        refine ⟨by omega, by omega, by omega, fun v hv => ?_⟩
        obtain ⟨i, hi, rfl⟩ := List.getElem_of_mem hv
        have := hxs i hi
        rw [List.getD_eq_getElem?_getD, List.getElem?_eq_getElem hi] at this
        simp only [Option.getD_some] at this
        omega
      · rw [none_eq hN (by omega)]
        simp only [Option.bind_some, decide_true, cond_true, Int.toNat_natCast]
        have hP := hall xs.length (by omega)
        rw [max_free hN (last := lastO mn qn xs xs.length) (by rw [hP.l3]; omega) (by rw [hP.l3]; omega) (fun j => (hP.fb j).1) (fun j hj => hP.up j (by rw [← hP.l3]; exact hj)) hP.la.1 (by rw [hP.l3]; exact hP.at_)]
        rfl
    · rw [(hall xs.length (by omega)).l1]
      exact hx

theorem FnExactOpenPlan_eq (xs : List Int) (m : Int) : laws_FnExactOpenPlan N xs m = some (true, ()) := by
  unfold laws_FnExactOpenPlan
  by_cases hx : (xs.length : Int) > 1048576
  · simp only [hx, decide_true, cond_true]
  · obtain ⟨a, b, c, e1, e2, h3⟩ := OpenPlan_law hN (xs := xs) (m := m) (by omega)
    simp only [hx, decide_false, cond_false, toInt64S_eq hN (xs := xs) (by omega), Option.bind_some, e1, e2, eqInt64S_eq hN (xs := xs) (by omega), eqInt64S_eq hN (xs := a) (by omega), Bool.not_true, bne_self_eq_false, BEq.rfl,
      markInt64S_eq hN (xs := xs) (k := 1) (by omega) (by omega), markInt64S_eq hN (xs := a) (k := 1) (by omega) (by omega), heldInt64S_eq hN (xs := a) (k := 1) (by omega) (by omega), counted_len, Nat.beq_refl, cond_true,
      decide_eq_false (show ¬ ((1 : Int) + xs.length < 0) by omega), decide_eq_false (show ¬ ((1 : Int) + a.length < 0) by omega)]
end

end Go.Proofs.Ytgcmklniacjcfaa
