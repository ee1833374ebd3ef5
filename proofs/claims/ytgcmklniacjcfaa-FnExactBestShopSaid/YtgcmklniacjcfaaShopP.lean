/-
  ShopStarts: the plain law. No condition.
-/
import Derived.Test.YtgcmklniacjcfaaShopF
import Derived.Test.YtgcmklniacjcfaaRoutes
import Derived.Test.YtgcmklniacjcfaaCnt
namespace Go.Proofs.Ytgcmklniacjcfaa
open Go Go.Proofs.Ytgcmklniacjcfaa.Fw
set_option linter.unusedVariables false
set_option linter.unusedSimpArgs false

/-- What holds after some turns. -/
structure TI (m q : Nat) (t : Nat) (s : TS) (last : Int) : Prop where
  l1 : s.1.length = q
  l2 : s.2.1.length = q
  l3 : s.2.2.length = m
  nb : ∀ j, 0 ≤ s.1.getD j 0 ∧ s.1.getD j 0 ≤ m
  jb : ∀ j, 0 ≤ s.2.1.getD j 0 ∧ s.2.1.getD j 0 ≤ 10000 * (t : Int)
  fb : ∀ j, 0 ≤ s.2.2.getD j 0 ∧ s.2.2.getD j 0 ≤ 10000 * (t : Int)
  la : 0 ≤ last ∧ last ≤ 10000 * (t : Int)
  up : ∀ j, j < m → s.2.2.getD j 0 ≤ last
  at_ : last = 0 ∨ ∃ j, j < m ∧ s.2.2.getD j 0 = last

theorem TI.more {m q t : Nat} {s : TS} {last : Int} (h : TI m q t s last) : TI m q (t + 1) s last :=
  ⟨h.l1, h.l2, h.l3, h.nb, fun j => by have := h.jb j; omega, fun j => by have := h.fb j; omega, by have := h.la; omega, h.up, h.at_⟩

theorem ti_zero {m q : Nat} : TI m q 0 (zeroT m q) 0 := by
  unfold zeroT
  refine ⟨by simp, by simp, by simp, fun j => ?_, fun j => ?_, fun j => ?_, by simp, fun j hj => ?_, .inl rfl⟩
  · simp only; rw [repD]; omega
  · simp only; rw [repD]; simp
  · simp only; rw [repD]; simp
  · simp only; rw [repD]; exact Int.le_refl _

/-- Facts of the shop, as the turns need them. -/
structure ShopOk (m q : Nat) (rt xs : List Int) : Prop where
  m1 : 1 ≤ m
  m8 : m ≤ 8
  q1 : 1 ≤ q
  q24 : q ≤ 24
  qm : q * m = xs.length
  rl : rt.length = xs.length
  rb : ∀ n, n < xs.length → 0 ≤ rt.getD n 0 ∧ rt.getD n 0 < m
  xb : ∀ n, n < xs.length → 1 ≤ xs.getD n 0 ∧ xs.getD n 0 ≤ 10000

theorem step_facts {m q : Nat} {rt xs : List Int} (H : ShopOk m q rt xs) {t : Nat} {s : TS} {last : Int} (h : TI m q t s last) {j : Nat} (hj : j < q) (hne : s.1.getD j 0 ≠ m) :
    stepX m s j < xs.length ∧ stepR m rt s j < m ∧ rt.getD (stepX m s j) 0 = (stepR m rt s j : Nat) ∧ (stepX m s j : Int) = (j : Int) * m + s.1.getD j 0 ∧ 0 ≤ stepAt m rt s j ∧ stepAt m rt s j ≤ 10000 * (t : Int) ∧ s.2.2.getD (stepR m rt s j) 0 ≤ stepAt m rt s j := by
  have hn := h.nb j
  have hx : stepX m s j < xs.length := by
    unfold stepX
    rw [← H.qm]
    have : (j + 1) * m ≤ q * m := Nat.mul_le_mul_right m hj
    rw [Nat.add_mul] at this
    omega
  have hr := H.rb _ hx
  have hjb := h.jb j
  have hfb := h.fb (stepR m rt s j)
  refine ⟨hx, by unfold stepR; omega, by unfold stepR; omega, ?_, ?_, ?_, ?_⟩
  · unfold stepX
    rw [Int.natCast_add, Int.natCast_mul]
    omega
  all_goals
    unfold stepAt
    rcases imax_or (s.2.1.getD j 0) (s.2.2.getD (stepR m rt s j) 0) with ⟨e, _⟩ | ⟨e, _⟩ <;> rw [e] <;> omega

theorem ti_step {m q : Nat} {rt xs : List Int} (H : ShopOk m q rt xs) {t : Nat} {s : TS} {last : Int} (h : TI m q t s last) {j : Nat} (hj : j < q) (hne : s.1.getD j 0 ≠ m) :
    TI m q (t + 1) (turnT m rt xs s j) (imax last (stepAt m rt s j + xs.getD (stepX m s j) 0)) := by
  obtain ⟨f1, f2, f3, f4, f5, f6, f7⟩ := step_facts H h hj hne
  have hv := H.xb _ f1
  obtain ⟨l1, l2, l3, nb, jb, fb, la, up, at_⟩ := h
  unfold turnT
  generalize stepAt m rt s j = a at *
  generalize stepR m rt s j = r at *
  generalize xs.getD (stepX m s j) 0 = v at *
  refine ⟨by simpa using l1, by simpa using l2, by simpa using l3, fun k => ?_, fun k => ?_, fun k => ?_, ?_, fun k hk => ?_, ?_⟩
  · simp only
    have := nb k
    have := nb j
    rw [setD (by omega)]
    split <;> omega
  · simp only
    have := jb k
    rw [setD (by omega)]
    split <;> omega
  · simp only
    have := fb k
    rw [setD (by omega)]
    split <;> omega
  · rcases imax_or last (a + v) with ⟨e, _⟩ | ⟨e, _⟩ <;> rw [e] <;> omega
  · simp only
    rw [setD (by omega)]
    have hu := up k hk
    rcases imax_or last (a + v) with ⟨e, h1⟩ | ⟨e, h1⟩ <;> rw [e] <;> split <;> omega
  · rcases imax_or last (a + v) with ⟨e, h1⟩ | ⟨e, h1⟩
    · rw [e]
      rcases at_ with h0 | ⟨k, j1, j2⟩
      · exact .inl h0
      · refine .inr ⟨k, j1, ?_⟩
        simp only
        rw [setD (by omega)]
        split
        · rename_i he
          subst he
          omega
        · exact j2
    · rw [e]
      refine .inr ⟨r, f2, ?_⟩
      simp only
      rw [setD (by omega), if_pos rfl]

/-- The last end so far. -/
def lastT (m q : Nat) (rt xs tu : List Int) : Nat → Int
  | 0 => 0
  | t + 1 => cond ((shopT m q rt xs tu t).1.1.getD (tu.getD t 0).toNat 0 == (m : Int)) (lastT m q rt xs tu t)
      (imax (lastT m q rt xs tu t) (stepAt m rt (shopT m q rt xs tu t).1 (tu.getD t 0).toNat + xs.getD (stepX m (shopT m q rt xs tu t).1 (tu.getD t 0).toNat) 0))

theorem ti_all {m q : Nat} {rt xs tu : List Int} (H : ShopOk m q rt xs) (hu : ∀ t, t < xs.length → 0 ≤ tu.getD t 0 ∧ tu.getD t 0 < q) : ∀ t, t ≤ xs.length → TI m q t (shopT m q rt xs tu t).1 (lastT m q rt xs tu t) := by
  intro t
  induction t with
  | zero => intro _; exact ti_zero
  | succ t ih =>
    intro h
    have ih := ih (by omega)
    have := hu t (by omega)
    unfold shopT lastT
    by_cases hc : (shopT m q rt xs tu t).1.1.getD (tu.getD t 0).toNat 0 = (m : Int)
    · rw [show ((shopT m q rt xs tu t).1.1.getD (tu.getD t 0).toNat 0 == (m : Int)) = true by simpa using hc]
      exact ih.more
    · rw [show ((shopT m q rt xs tu t).1.1.getD (tu.getD t 0).toNat 0 == (m : Int)) = false by simpa using hc]
      exact ti_step H ih (by omega) hc

theorem ok_all {m q : Nat} {rt xs tu : List Int} (H : ShopOk m q rt xs) (hu : ∀ t, t < xs.length → 0 ≤ tu.getD t 0 ∧ tu.getD t 0 < q) {t : Nat} (ht : t < xs.length) : okT m q rt xs (shopT m q rt xs tu t).1 (tu.getD t 0) = true := by
  have hI := ti_all H hu t (by omega)
  have h1 := hu t ht
  have h2 := hI.nb (tu.getD t 0).toNat
  have hx192 : xs.length ≤ 192 := by
    rw [← H.qm]
    exact Nat.mul_le_mul H.q24 H.m8
  unfold okT
  simp only [Bool.and_eq_true, Bool.or_eq_true, decide_eq_true_eq]
  refine ⟨h1.1, h1.2, h2.1, h2.2, ?_⟩
  by_cases hc : (shopT m q rt xs tu t).1.1.getD (tu.getD t 0).toNat 0 = (m : Int)
  · exact .inl hc
  · obtain ⟨f1, f2, f3, f4, f5, f6, f7⟩ := step_facts H hI (j := (tu.getD t 0).toNat) (by omega) hc
    have hv := H.xb _ f1
    have hr := H.rb _ f1
    exact .inr ⟨hr.1, hr.2, f5, by omega, by omega, by omega⟩

/-- How often each job has its turn. -/
def cntL (q : Nat) (tu : List Int) : Nat → List Int
  | 0 => List.replicate q 0
  | t + 1 => (cntL q tu t).set (tu.getD t 0).toNat ((cntL q tu t).getD (tu.getD t 0).toNat 0 + 1)

theorem cntL_len {q : Nat} {tu : List Int} : ∀ t, (cntL q tu t).length = q := by
  intro t
  induction t with
  | zero => simp [cntL]
  | succ t ih => simp [cntL, ih]

theorem cnt_next {m q : Nat} {rt xs tu : List Int} : ∀ t, (∀ t', t' < t → ((shopT m q rt xs tu t').1.1.getD (tu.getD t' 0).toNat 0 == (m : Int)) = false) → (shopT m q rt xs tu t).1.1 = cntL q tu t := by
  intro t
  induction t with
  | zero => intro _; rfl
  | succ t ih =>
    intro h
    have ih := ih fun t' ht' => h t' (by omega)
    unfold shopT cntL
    rw [h t (by omega), cond_false, ← ih]
    rfl

theorem cnt_mono {q : Nat} {tu : List Int} (hu : ∀ t, t < tu.length → 0 ≤ tu.getD t 0 ∧ tu.getD t 0 < q) {t : Nat} (k : Nat) : ∀ d, t + d ≤ tu.length → (cntL q tu t).getD k 0 ≤ (cntL q tu (t + d)).getD k 0 := by
  intro d
  induction d with
  | zero => intro _; exact Int.le_refl _
  | succ d ih =>
    intro h
    have ih := ih (by omega)
    have h1 := hu (t + d) (by omega)
    have hl := cntL_len (q := q) (tu := tu) (t + d)
    have hstep : cntL q tu (t + (d + 1)) = (cntL q tu (t + d)).set (tu.getD (t + d) 0).toNat ((cntL q tu (t + d)).getD (tu.getD (t + d) 0).toNat 0 + 1) := rfl
    rw [hstep, setD (by omega)]
    split
    · rename_i e
      rw [e]
      omega
    · exact ih

theorem cnt_bound {q : Nat} {tu : List Int} (k : Nat) : ∀ t, 0 ≤ (cntL q tu t).getD k 0 ∧ (cntL q tu t).getD k 0 ≤ t := by
  intro t
  induction t generalizing k with
  | zero =>
    unfold cntL
    rw [repD]
    omega
  | succ t ih =>
    have h1 := ih k
    have h2 := ih (tu.getD t 0).toNat
    unfold cntL
    by_cases h : (tu.getD t 0).toNat < (cntL q tu t).length
    · rw [setD h]
      split <;> omega
    · rw [List.set_eq_of_length_le (by omega)]
      omega

theorem cnt_sum_set : ∀ {l : List Int} {j : Nat}, j < l.length → (l.set j (l.getD j 0 + 1)).sum = l.sum + 1 := by
  intro l
  induction l with
  | nil => intro j h; simp at h
  | cons a l ih =>
    intro j h
    cases j with
    | zero => simp; omega
    | succ j =>
      have := ih (j := j) (by simpa using h)
      simp only [List.set_cons_succ, List.sum_cons, List.getD_cons_succ]
      omega

theorem cnt_sum {q : Nat} {tu : List Int} (hu : ∀ t, t < tu.length → 0 ≤ tu.getD t 0 ∧ tu.getD t 0 < q) : ∀ t, t ≤ tu.length → (cntL q tu t).sum = t := by
  intro t
  induction t with
  | zero =>
    intro _
    unfold cntL
    clear hu
    induction q with
    | zero => rfl
    | succ q ih => rw [List.replicate_succ, List.sum_cons, ih]; rfl
  | succ t ih =>
    intro h
    have h1 := hu t (by omega)
    unfold cntL
    rw [cnt_sum_set (by rw [cntL_len]; omega), ih (by omega)]
    omega

theorem cnt_sum_le {m : Int} : ∀ {l : List Int}, (∀ v ∈ l, v ≤ m) → l.sum ≤ l.length * m := by
  intro l
  induction l with
  | nil => intro _; simp
  | cons a l ih =>
    intro h
    have h1 := ih fun v hv => h v (List.mem_cons_of_mem _ hv)
    have h2 := h a List.mem_cons_self
    simp only [List.sum_cons, List.length_cons]
    have : ((l.length + 1 : Nat) : Int) * m = l.length * m + m := by rw [Int.natCast_add, Int.add_mul]; simp
    omega

theorem cnt_sum_all {m : Int} : ∀ {l : List Int}, (∀ v ∈ l, v ≤ m) → l.sum = l.length * m → ∀ v ∈ l, v = m := by
  intro l
  induction l with
  | nil => intro _ _ v hv; cases hv
  | cons a l ih =>
    intro h hs v hv
    have h1 : ∀ v ∈ l, v ≤ m := fun v hv => h v (List.mem_cons_of_mem _ hv)
    have h2 := h a List.mem_cons_self
    have h3 := cnt_sum_le h1
    simp only [List.sum_cons, List.length_cons] at hs
    have h4 : ((l.length + 1 : Nat) : Int) * m = l.length * m + m := by rw [Int.natCast_add, Int.add_mul]; simp
    rcases List.mem_cons.1 hv with rfl | hv
    · omega
    · exact ih h1 (by omega) v hv

/-- The turns are right just if no job's steps run out. -/
theorem cnt_all {m q : Nat} {rt xs tu : List Int} (H : ShopOk m q rt xs) (hl : tu.length = xs.length) (hu : ∀ t, t < xs.length → 0 ≤ tu.getD t 0 ∧ tu.getD t 0 < q) :
    (∀ t, t < xs.length → ((shopT m q rt xs tu t).1.1.getD (tu.getD t 0).toNat 0 == (m : Int)) = false) ↔ ∀ j, j < q → (cntL q tu xs.length).getD j 0 = m := by
  constructor
  · intro h j hj
    have e := cnt_next (rt := rt) xs.length h
    have hI := ti_all H hu xs.length (Nat.le_refl _)
    have hlen := cntL_len (q := q) (tu := tu) xs.length
    refine cnt_sum_all (m := (m : Int)) (l := cntL q tu xs.length) (fun v hv => ?_) ?_ _ (getD_mem (by omega))
    · obtain ⟨k, hk, rfl⟩ := List.getElem_of_mem hv
      have := (hI.nb k).2
      rw [e, List.getD_eq_getElem?_getD, List.getElem?_eq_getElem hk] at this
      exact this
    · rw [cnt_sum (by rw [hl]; exact hu) _ (by omega), hlen, ← H.qm]
      simp
  · intro h
    -- the first turn at which it fails
    have key : ∀ t, t ≤ xs.length → ∀ t', t' < t → ((shopT m q rt xs tu t').1.1.getD (tu.getD t' 0).toNat 0 == (m : Int)) = false := by
      intro t
      induction t with
      | zero => intro _ t' h'; omega
      | succ t ih =>
        intro ht t' ht'
        have ih := ih (by omega)
        by_cases e : t' < t
        · exact ih t' e
        · obtain rfl : t' = t := by omega
          rw [cnt_next _ ih]
          simp only [beq_eq_false_iff_ne]
          intro hm
          have h1 := hu t' (by omega)
          have h2 := cnt_mono (q := q) (tu := tu) (by rw [hl]; exact hu) (t := t' + 1) (tu.getD t' 0).toNat (xs.length - (t' + 1)) (by omega)
          rw [show t' + 1 + (xs.length - (t' + 1)) = xs.length by omega, h _ (by omega)] at h2
          unfold cntL at h2
          rw [setD (by rw [cntL_len]; omega), if_pos rfl, hm] at h2
          omega
    exact key xs.length (Nat.le_refl _)

section
variable {N : Nat} (hN : 9223372036854775808 ≤ N)
include hN

omit hN in
theorem shopOk_of {rt xs : List Int} {m : Int} (hr : rt.length ≤ 1048576) (hx : xs.length ≤ 1048576) (h : (routesB rt m && (shopOk xs m && ((xs.length : Int) == (rt.length : Int)))) = true) :
    ∃ mn qn : Nat, m = mn ∧ quot xs m = qn ∧ ShopOk mn qn rt xs := by
  simp only [Bool.and_eq_true, beq_iff_eq] at h
  obtain ⟨h1, h2, h3⟩ := h
  obtain ⟨m1, m8, q1, q24, hq, ha, _, hm0, hl⟩ := shop_facts hx h2
  obtain ⟨_, _, r3⟩ := routes_facts h1
  obtain ⟨mn, rfl⟩ : ∃ n : Nat, m = (n : Int) := ⟨m.toNat, by omega⟩
  obtain ⟨qn, hqn⟩ : ∃ n : Nat, quot xs (mn : Int) = (n : Int) := ⟨(quot xs mn).toNat, by omega⟩
  rw [hqn] at hq q1 q24
  have hqm : qn * mn = xs.length := by
    have : ((qn * mn : Nat) : Int) = (xs.length : Int) := by rw [← hq]; simp
    omega
  exact ⟨mn, qn, rfl, hqn, by omega, by omega, by omega, by omega, hqm, by omega, fun n hn => r3 n (by omega), fun n hn => all_getD ha hn⟩

theorem l04Turns_ne {tu : List Int} {q m : Nat} (hl : tu.length ≠ q * m) (hq : q ≤ 24) (hm : m ≤ 8) : spec_l04Turns N tu q m = some (false, ()) := by
  have _ := hN
  have : q * m ≤ 24 * 8 := Nat.mul_le_mul hq hm
  have e : (q : Int) * (m : Int) = ((q * m : Nat) : Int) := by simp
  unfold spec_l04Turns
  rw [e, w64_nat (by omega), show ((tu.length : Int) != ((q * m : Nat) : Int)) = true by simp only [bne_iff_ne]; omega]
  rfl

theorem l04Turns_out {tu : List Int} {q m : Nat} (hl : tu.length = q * m) (hq : 1 ≤ q ∧ q ≤ 24) (hm : m ≤ 8) {t0 : Nat} (ht : t0 < tu.length) (hb : ¬ (0 ≤ tu.getD t0 0 ∧ tu.getD t0 0 ≤ (q : Int) - 1)) : spec_l04Turns N tu q m = some (false, ()) := by
  have h24 : q * m ≤ 24 * 8 := Nat.mul_le_mul hq.2 hm
  have e : (q : Int) * (m : Int) = ((q * m : Nat) : Int) := by simp
  unfold spec_l04Turns
  rw [e, w64_nat (by omega), show ((tu.length : Int) != ((q * m : Nat) : Int)) = false by simp only [bne_eq_false_iff_eq]; omega, cond_false, mkOk_of (by omega), cond_true, Int.toNat_natCast]
  refine count_ruleI (st := fun t => (cntL q tu t, (t : Int), ())) (I := fun t => t ≤ t0) (n := tu.length) (Nat.zero_le _) (fun next hI => by omega) (fun t next ht' hI hn => ?_) (by omega)
  simp only [decide_eq_true (show (t : Int) < (tu.length : Int) by omega), cond_true]
  rw [idx_getD (by omega), Int.toNat_natCast]
  simp only [Option.bind_some, l00In_eq, w64_in (n := (q : Int) - 1) (by omega)]
  cases hw : within 0 ((q : Int) - 1) (tu.getD t 0) with
  | false => rfl
  | true =>
    have hw' := within_iff.1 hw
    have hlt : t < t0 := by
      rcases Nat.lt_or_ge t t0 with h | h
      · exact h
      · obtain rfl : t = t0 := by omega
        exact absurd hw' hb
    have hc := cntL_len (q := q) (tu := tu) t
    simp only [Bool.not_true, cond_false]
    rw [inB_of (by omega), cond_true, get_getD (0 : Int) (by omega)]
    simp only [Option.bind_some, cond_true]
    have hb2 := cnt_bound (q := q) (tu := tu) (tu.getD t 0).toNat t
    rw [w64_in (by omega), w64_in (by omega)]
    exact hn (by omega)

theorem l04Turns_all {tu : List Int} {q m : Nat} (hl : tu.length = q * m) (hq : 1 ≤ q ∧ q ≤ 24) (hm : m ≤ 8) (hu : ∀ t, t < tu.length → 0 ≤ tu.getD t 0 ∧ tu.getD t 0 ≤ (q : Int) - 1) :
    spec_l04Turns N tu q m = some ((cntL q tu tu.length).all (fun v => v == (m : Int)), ()) := by
  have h24 : q * m ≤ 24 * 8 := Nat.mul_le_mul hq.2 hm
  have e : (q : Int) * (m : Int) = ((q * m : Nat) : Int) := by simp
  unfold spec_l04Turns
  rw [e, w64_nat (by omega), show ((tu.length : Int) != ((q * m : Nat) : Int)) = false by simp only [bne_eq_false_iff_eq]; omega, cond_false, mkOk_of (by omega), cond_true, Int.toNat_natCast]
  refine count_rule (st := fun t => (cntL q tu t, (t : Int), ())) (n := tu.length) (fun next => ?_) (fun t next ht hn => ?_) (by omega)
  · simp only [Int.lt_irrefl, decide_false, cond_false]
    have hc := cntL_len (q := q) (tu := tu) tu.length
    rw [all_loop hN (xs := cntL q tu tu.length) (by omega) (fun v => v == (m : Int)) (some (false, ())) (some (true, ())) (fun s next h => by simp [h]) (fun s next v h0 h1 h2 h3 => by
      rw [decide_eq_true h1, cond_true, inB_of (by omega), cond_true]
      unfold idx at h2
      rw [decide_eq_true h0] at h2
      simp only [cond_true] at h2
      rw [h2, h3]
      simp only [Option.bind_some, bne]
      cases v == (m : Int) <;> rfl)]
    cases (cntL q tu tu.length).all (fun v => v == (m : Int)) <;> rfl
  · simp only [decide_eq_true (show (t : Int) < (tu.length : Int) by omega), cond_true]
    have hw := hu t ht
    have hc := cntL_len (q := q) (tu := tu) t
    rw [idx_getD (by omega), Int.toNat_natCast]
    simp only [Option.bind_some, l00In_eq, w64_in (n := (q : Int) - 1) (by omega), within_iff.2 hw, Bool.not_true, cond_false]
    rw [inB_of (by omega), cond_true, get_getD (0 : Int) (by omega)]
    simp only [Option.bind_some, cond_true]
    have hb2 := cnt_bound (q := q) (tu := tu) (tu.getD t 0).toNat t
    rw [w64_in (by omega), w64_in (by omega)]
    exact hn

/-- The reference's walk through right turns. -/
theorem l04Turned_eq {rt xs tu : List Int} {m q : Nat} (H : ShopOk m q rt xs) (hq : quot xs m = q) (hs : shopOk xs m = true) (hl : tu.length ≤ xs.length) (hu : ∀ t, t < tu.length → 0 ≤ tu.getD t 0 ∧ tu.getD t 0 < q)
    (hI : ∀ t, t ≤ tu.length → TI m q t (shopT m q rt xs tu t).1 (lastT m q rt xs tu t)) (hne : ∀ t, t < tu.length → ((shopT m q rt xs tu t).1.1.getD (tu.getD t 0).toNat 0 == (m : Int)) = false) :
    spec_l04Turned N rt xs m tu = some ((shopT m q rt xs tu tu.length).2, lastT m q rt xs tu tu.length, ()) := by
  have hx192 : xs.length ≤ 192 := by
    rw [← H.qm]
    exact Nat.mul_le_mul H.q24 H.m8
  have hm8 := H.m8
  have hm1 := H.m1
  have hq24 := H.q24
  unfold spec_l04Turned
  rw [l04Count_eq hN (by omega) hs, hq]
  simp only [Option.bind_some, List.length_replicate, Int.toNat_natCast]
  rw [mkOk_of (by omega), mkOk_of (by omega), mkOk_of (by omega)]
  simp only [cond_true]
  refine count_rule (st := fun t => ((shopT m q rt xs tu t).2, (shopT m q rt xs tu t).1.1, (shopT m q rt xs tu t).1.2.1, (shopT m q rt xs tu t).1.2.2, lastT m q rt xs tu t, (t : Int), ())) (n := tu.length) (fun next => ?_) (fun t next ht hn => ?_) (by omega)
  · simp only [Int.lt_irrefl, decide_false, cond_false]
  · have hT := hI t (by omega)
    have hc := hne t ht
    have hw := hu t ht
    have hlen := (shopT_len (m := m) (q := q) (rt := rt) (xs := xs) (tu := tu) t).2.2.2
    simp only [shopT, lastT, hc, cond_false] at hn
    obtain ⟨j, hj⟩ : ∃ j : Nat, tu.getD t 0 = (j : Int) := ⟨(tu.getD t 0).toNat, by omega⟩
    simp only [decide_eq_true (show (t : Int) < (tu.length : Int) by omega), cond_true]
    rw [idx_getD (by omega), Int.toNat_natCast]
    rw [hj, Int.toNat_natCast] at hn hc
    rw [hj] at hw ⊢
    have hc' : (shopT m q rt xs tu t).1.1.getD j 0 ≠ (m : Int) := by simpa using hc
    obtain ⟨f1, f2, f3, f4, f5, f6, f7⟩ := step_facts H hT (j := j) (by omega) hc'
    have hv := H.xb _ f1
    have hrl := H.rl
    have l1 := hT.l1
    have l2 := hT.l2
    have l3 := hT.l3
    have hnb := hT.nb j
    have hx4 : (j : Int) * m ≤ stepX m (shopT m q rt xs tu t).1 j := by omega
    have hjm0 : 0 ≤ (j : Int) * m := Int.mul_nonneg (by omega) (by omega)
    simp only [Option.bind_some, l00Max_eq]
    unfold turnT at hn
    have hAt : stepAt m rt (shopT m q rt xs tu t).1 j = imax ((shopT m q rt xs tu t).1.2.1.getD j 0) ((shopT m q rt xs tu t).1.2.2.getD (stepR m rt (shopT m q rt xs tu t).1 j) 0) := rfl
    generalize lastT m q rt xs tu t = last at *
    generalize shopT m q rt xs tu t = S at *
    obtain ⟨⟨nx, J, Fr⟩, out⟩ := S
    simp only at *
    generalize stepX m (nx, J, Fr) j = x at *
    generalize stepR m rt (nx, J, Fr) j = r at *
    rw [inB_nat (n := j) (by omega), cond_true, Int.toNat_natCast, get_getD (0 : Int) (show j < nx.length by omega)]
    simp only [Option.bind_some]
    rw [w64_in (n := (j : Int) * m) (by omega), ← f4, w64_nat (n := x) (by omega), idx_getD (by omega), Int.toNat_natCast, f3]
    simp only [Option.bind_some]
    rw [inB_nat (n := j) (by omega), cond_true, get_getD (0 : Int) (show j < J.length by omega)]
    simp only [Option.bind_some]
    rw [inB_nat (n := r) (by omega), cond_true, Int.toNat_natCast, get_getD (0 : Int) (show r < Fr.length by omega)]
    simp only [Option.bind_some, ← hAt]
    generalize stepAt m rt (nx, J, Fr) j = a at *
    rw [inB_nat (n := x) (by omega), cond_true]
    rw [inB_nat (n := x) (by simp; omega), cond_true, get_getD (0 : Int) (show x < (out.set x a).length by simp; omega), setD (by omega), if_pos rfl]
    simp only [Option.bind_some]
    rw [idx_getD (by omega), Int.toNat_natCast]
    simp only [Option.bind_some]
    rw [w64_in (n := a + xs.getD x 0) (by omega)]
    rw [cond_true]
    rw [inB_nat (n := j) (by simp; omega), cond_true, get_getD (0 : Int) (show j < (J.set j (a + xs.getD x 0)).length by simp; omega), setD (by omega), if_pos rfl]
    simp only [Option.bind_some, cond_true]
    rw [w64_in (n := nx.getD j 0 + 1) (by omega), w64_in (n := (t : Int) + 1) (by omega)]
    exact hn

theorem ShopStarts_law {rt xs tu : List Int} {m : Int} (hr : rt.length ≤ 1048576) (hx : xs.length ≤ 1048576) (hu : tu.length ≤ 1048576) :
    ∃ a b c, spec_ShopStarts N rt xs m tu = some (a, b, c, ()) ∧ impl_ShopStarts N rt xs m tu = some (a, b, c, ()) ∧ a.length ≤ 1048576 := by
  unfold spec_ShopStarts impl_ShopStarts
  rw [l04Shop_eq hN hr hx]
  simp only [Option.bind_some]
  obtain ⟨j, hj, hjq⟩ := routed_eq hN (m := m) hr hx
  cases hc : (routesB rt m && (shopOk xs m && ((xs.length : Int) == (rt.length : Int)))) with
  | false =>
    refine ⟨_, _, _, rfl, ?_, by simp⟩
    unfold startF
    rw [hj, hc]
    rfl
  | true =>
    obtain ⟨mn, qn, rfl, hqn, H⟩ := shopOk_of hr hx hc
    have hs : shopOk xs (mn : Int) = true := by
      simp only [Bool.and_eq_true] at hc
      exact hc.2.1
    obtain rfl := hjq hs
    rw [hc, hqn] at hj
    have hx192 : xs.length ≤ 192 := by
      rw [← H.qm]
      exact Nat.mul_le_mul H.q24 H.m8
    have hm1 := H.m1
    have hm8 := H.m8
    have hq1 := H.q1
    have hq24 := H.q24
    rw [l04Count_eq hN hx hs, hqn]
    simp only [Option.bind_some, Bool.not_true, cond_false]
    unfold startF
    rw [hj]
    simp only [Option.bind_some, cond_true, Int.toNat_natCast]
    have hg : (decide True && (decide True && (decide (1 ≤ (mn : Int)) && (decide ((mn : Int) ≤ 8) && (decide (1 ≤ (qn : Int)) && (decide ((qn : Int) ≤ 24) && (decide ((qn : Int) * (mn : Int) = (xs.length : Int)) && decide (rt.length = xs.length)))))))) = true := by
      simp only [Bool.and_eq_true, decide_eq_true_eq]
      refine ⟨trivial, trivial, by omega, by omega, by omega, by omega, ?_, H.rl⟩
      rw [← H.qm]
      simp
    rw [hg, cond_true]
    by_cases hl : tu.length = xs.length
    · rw [decide_eq_true hl, cond_true, areWithin_eq hN (by omega)]
      simp only [Option.bind_some]
      cases hw : tu.all (within 0 ((qn : Int) - 1)) with
      | false =>
        obtain ⟨v, hv, hb⟩ := List.all_eq_false.1 hw
        obtain ⟨t0, ht0, rfl⟩ := List.getElem_of_mem hv
        rw [l04Turns_out hN (t0 := t0) (by rw [H.qm]; exact hl) ⟨hq1, hq24⟩ hm8 ht0 (fun h => hb (by
          rw [List.getD_eq_getElem?_getD, List.getElem?_eq_getElem ht0] at h
          exact within_iff.2 h))]
        exact ⟨_, _, _, rfl, rfl, by simp⟩
      | true =>
        have hw' : ∀ t, t < tu.length → 0 ≤ tu.getD t 0 ∧ tu.getD t 0 ≤ (qn : Int) - 1 := fun t ht => all_getD hw ht
        have hw2 : ∀ t, t < xs.length → 0 ≤ tu.getD t 0 ∧ tu.getD t 0 < (qn : Int) := fun t ht => by
          have := hw' t (by omega)
          omega
        rw [l04Turns_all hN (by rw [H.qm]; exact hl) ⟨hq1, hq24⟩ hm8 hw', cond_true]
        simp only [Option.bind_some]
        have hok : (List.range xs.length).all (fun t => okT mn qn rt xs (shopT mn qn rt xs tu t).1 (tu.getD t 0)) = true :=
          List.all_eq_true.2 fun t ht => ok_all H hw2 (List.mem_range.1 ht)
        rw [hok, cond_true, hl]
        have hiff := cnt_all H hl hw2
        cases hcn : (cntL qn tu xs.length).all (fun v => v == (mn : Int)) with
        | false =>
          have : (List.range xs.length).all (fun t => !((shopT mn qn rt xs tu t).1.1.getD (tu.getD t 0).toNat 0 == (mn : Int))) = false := by
            rw [Bool.eq_false_iff]
            intro h
            have h2 := hiff.1 fun t ht => by simpa using List.all_eq_true.1 h t (List.mem_range.2 ht)
            rw [Bool.eq_false_iff] at hcn
            refine hcn (List.all_eq_true.2 fun v hv => ?_)
            obtain ⟨k, hk, rfl⟩ := List.getElem_of_mem hv
            have h3 := h2 k (by rw [cntL_len] at hk; exact hk)
            rw [List.getD_eq_getElem?_getD, List.getElem?_eq_getElem hk] at h3
            simpa using h3
          rw [this]
          exact ⟨_, _, _, rfl, rfl, by simp⟩
        | true =>
          have hne := hiff.2 fun k hk => by
            have := List.all_eq_true.1 hcn _ (getD_mem (xs := cntL qn tu xs.length) (n := k) (by rw [cntL_len]; exact hk))
            simpa using this
          have : (List.range xs.length).all (fun t => !((shopT mn qn rt xs tu t).1.1.getD (tu.getD t 0).toNat 0 == (mn : Int))) = true :=
            List.all_eq_true.2 fun t ht => by rw [hne t (List.mem_range.1 ht)]; rfl
          rw [this, cond_true]
          have hT := ti_all H hw2 xs.length (Nat.le_refl _)
          rw [l04Turned_eq hN H hqn hs (by omega) (by rw [hl]; exact hw2) (by rw [hl]; exact ti_all H hw2) (by rw [hl]; exact hne),
            max_free hN (last := lastT mn qn rt xs tu xs.length) (by rw [hT.l3]; omega) (by rw [hT.l3]; omega) (fun j => (hT.fb j).1) (fun j hj => hT.up j (by rw [← hT.l3]; exact hj)) hT.la.1 (by rw [hT.l3]; exact hT.at_), hl]
          refine ⟨_, _, _, rfl, rfl, ?_⟩
          rw [(shopT_len _).2.2.2]
          exact hx
    · rw [decide_eq_false hl, cond_false, l04Turns_ne hN (by rw [H.qm]; exact hl) hq24 hm8]
      exact ⟨_, _, _, rfl, rfl, by simp⟩

theorem FnExactShopStarts_eq (rs xs : List Int) (m : Int) (ys : List Int) : laws_FnExactShopStarts N rs xs m ys = some (true, ()) := by
  unfold laws_FnExactShopStarts
  by_cases hr : (rs.length : Int) > 1048576
  · simp only [hr, decide_true, cond_true]
  · by_cases hx : (xs.length : Int) > 1048576
    · simp only [hr, hx, decide_true, decide_false, cond_true, cond_false]
    · by_cases hy : (ys.length : Int) > 1048576
      · simp only [hr, hx, hy, decide_true, decide_false, cond_true, cond_false]
      · obtain ⟨a, b, c, h1, h2, h3⟩ := ShopStarts_law hN (rt := rs) (xs := xs) (tu := ys) (m := m) (by omega) (by omega) (by omega)
        simp only [hr, hx, hy, decide_false, cond_false, toInt64S_eq hN (xs := rs) (by omega), toInt64S_eq hN (xs := xs) (by omega), toInt64S_eq hN (xs := ys) (by omega), Option.bind_some, h1, h2, eqInt64S_eq hN (xs := rs) (by omega), eqInt64S_eq hN (xs := xs) (by omega), eqInt64S_eq hN (xs := ys) (by omega), eqInt64S_eq hN (xs := a) (by omega), BEq.rfl, Bool.not_true, bne_self_eq_false,
          markInt64S_eq hN (xs := rs) (k := 1) (by omega) (by omega), markInt64S_eq hN (xs := xs) (k := 1 + (rs.length : Int)) (by omega) (by omega), markInt64S_eq hN (xs := ys) (k := 1 + (rs.length : Int) + (xs.length : Int)) (by omega) (by omega), markInt64S_eq hN (xs := a) (k := 1) (by omega) (by omega), heldInt64S_eq hN (xs := a) (k := 1) (by omega) (by omega), counted_len, Nat.beq_refl, cond_true,
          decide_eq_false (show ¬ ((1 : Int) + rs.length + xs.length + ys.length < 0) by omega), decide_eq_false (show ¬ ((1 : Int) + a.length < 0) by omega)]
end

end Go.Proofs.Ytgcmklniacjcfaa
