/-
  EndsDrawn: the plain law. No condition.
-/
import Derived.Test.YtmdicmdodbndgaaProjG
import Derived.Test.YtmdicmdodbndgaaEdC
namespace Go.Proofs.Ytmdicmdodbndgaa
open Go Go.Proofs.Ytmdicmdodbndgaa.Fw
set_option linter.unusedVariables false
set_option linter.unusedSimpArgs false

/-- What a run of counting in floats leaves. -/
def fk (k : Int) : Option Nat := toF .f32 (FloatKind.nearest .f32 k)

def countedF (k : Int) : List (Option Nat) → List (Option Nat)
  | [] => []
  | _ :: l => fk k :: countedF (k + 1) l

theorem countedF_len (k : Int) (l : List (Option Nat)) : (countedF k l).length = l.length := by
  induction l generalizing k with
  | nil => rfl
  | cons x l ih => simp [countedF, ih]

theorem countedF_get : ∀ (l : List (Option Nat)) (k : Int) (i : Nat), i < l.length → (countedF k l)[i]? = some (fk (k + i))
  | [], _, _, h => by simp at h
  | x :: l, k, 0, _ => by simp [countedF]
  | x :: l, k, i + 1, h => by
    simp only [countedF, List.getElem?_cons_succ]
    rw [countedF_get l (k + 1) i (by simpa using h)]
    congr 2
    omega

theorem fk_self {k : Int} (h0 : 0 ≤ k) (h1 : k ≤ 1000000) : fcmp .neq .f32 (fk k) (fk k) = false := by
  obtain ⟨m, p, k1, k2, k3⟩ := nearS (m := k.natAbs) (p := 0) (W := 20) (by
    by_cases h : k.natAbs = 0
    · exact .inl h
    · have := log_lt (n := 20) (m := k.natAbs) (by omega) h
      exact .inr (by omega)) (by omega) (by omega)
  have hx : FloatKind.nearest .f32 k = Ieee.single.nearest false k.natAbs 0 := by
    show Ieee.single.nearest (decide (k < 0)) k.natAbs 0 = _
    rw [decide_eq_false (by omega)]
  unfold fk
  rw [hx, toF_num (k := .f32) k1]
  unfold fcmp forder
  have := ord_num k1 k1
  dsimp only
  rw [this]
  have e : ∀ a : Int, compare a a = .eq := fun a => by rw [cmp_eq, if_neg (by omega), if_pos rfl]
  rw [e]
  rfl

section
variable {N : Nat} (hN : 9223372036854775808 ≤ N)
include hN

theorem markFloat32S_eq {xs : List (Option Nat)} {k : Int} (hx : xs.length ≤ 4294967296) (hk : 0 ≤ k ∧ k ≤ 4611686018427387904) : laws_markFloat32S N xs k = some (countedF k xs, (k + xs.length, ())) := by
  unfold laws_markFloat32S
  refine loop_eq (inv := fun s : List (Option Nat) × Int × Int × Unit => 0 ≤ s.2.2.1 ∧ s.2.2.1 ≤ xs.length ∧ s.2.1 = k + s.2.2.1 ∧ s.1.length = xs.length ∧ ∀ j : Nat, (j : Int) < s.2.2.1 → s.1[j]? = (countedF k xs)[j]?)
    (μ := fun s => (xs.length - s.2.2.1).toNat) (R := fun _ => some (countedF k xs, (k + xs.length, ()))) ?_ N _ ⟨Int.le_refl _, by simp only; omega, by simp only; omega, rfl, fun j hj => by simp only at hj; omega⟩ (by simp only; omega)
  rintro ⟨ys, q, i, u⟩ next ⟨h0, h1, h2, h3, h4⟩ hn
  simp only at h0 h1 h2 h3 h4 ⊢
  rw [h3]
  by_cases hi : i < (xs.length : Int)
  · have hlt : i.toNat < xs.length := by omega
    simp only [hi, decide_true, cond_true, inB_of (n := i) (len := xs.length) ⟨h0, hi⟩, w64_in (n := i + 1) (by omega), w64_in (n := q + 1) (by omega)]
    refine hn _ ⟨by simp only; omega, by simp only; omega, by simp only; omega, by simp only [List.length_set]; exact h3, fun j hj => ?_⟩ (by simp only; omega)
    simp only at hj ⊢
    rw [List.getElem?_set]
    by_cases hj2 : i.toNat = j
    · subst hj2
      rw [if_pos rfl, if_pos (by omega), countedF_get _ _ _ hlt, h2, show k + ((i.toNat : Nat) : Int) = k + i by omega]
      rfl
    · rw [if_neg hj2]
      exact h4 j (by omega)
  · simp only [hi, decide_false, cond_false]
    have : ys = countedF k xs := List.ext_getElem? fun j => by
      rcases Nat.lt_or_ge j xs.length with h | h
      · exact h4 j (by omega)
      · rw [List.getElem?_eq_none (by omega), List.getElem?_eq_none (by rw [countedF_len]; omega)]
    rw [this, h2, show i = xs.length by omega]

theorem heldFloat32S_eq {xs : List (Option Nat)} {k : Int} (hx : xs.length ≤ 1000) (hk : 0 ≤ k ∧ k ≤ 900000) : laws_heldFloat32S N (countedF k xs) k = some (k + xs.length, ()) := by
  unfold laws_heldFloat32S
  rw [countedF_len]
  refine loop_eq (inv := fun s : Int × Int × Unit => 0 ≤ s.2.1 ∧ s.2.1 ≤ xs.length ∧ s.1 = k + s.2.1) (μ := fun s => (xs.length - s.2.1).toNat) (R := fun _ => some (k + xs.length, ())) ?_ N _ ⟨Int.le_refl _, by simp only; omega, by simp only; omega⟩ (by simp only; omega)
  rintro ⟨q, i, u⟩ next ⟨h0, h1, h2⟩ hn
  simp only at h0 h1 h2 ⊢
  by_cases hi : i < (xs.length : Int)
  · have hlt : i.toNat < xs.length := by omega
    have hg : idx (countedF k xs) i = some (fk q) := by
      unfold idx
      rw [decide_eq_true h0, cond_true, countedF_get _ _ _ hlt, h2, show k + ((i.toNat : Nat) : Int) = k + i by omega]
    have hs : fcmp .neq .f32 (fk q) (toF .f32 (FloatKind.nearest .f32 q)) = false := fk_self (by omega) (by omega)
    simp only [hi, decide_true, cond_true, hg, Option.bind_some, hs, cond_false, w64_in (n := i + 1) (by omega), w64_in (n := q + 1) (by omega)]
    exact hn _ ⟨by simp only; omega, by simp only; omega, by simp only; omega⟩ (by simp only; omega)
  · simp only [hi, decide_false, cond_false]
    rw [h2, show i = xs.length by omega]

/-- Drawn tasks are tasks but for their times. -/
theorem zip_ok {xs : List Ed.Tk} (h : Small 1048576 xs) (ht : tasksOk xs = true) (tms : List Int) : Small 1048576 (Ed.zipT xs tms) ∧ TasksG (Ed.zipT xs tms) := by
  have _ := hN
  have hl := Ed.zipT_length xs tms
  have hg : ∀ i, i < xs.length → (Ed.zipT xs tms).getD i NL = (tms.getD i 0, (xs.getD i NL).2) := fun i hi => Ed.zipT_getD xs tms hi
  refine ⟨⟨by rw [hl]; exact h.1, fun t ht => ?_⟩, xs, ht, hl.symm, fun i hi => by rw [hg i (by omega)]⟩
  obtain ⟨j, hj, rfl⟩ := List.getElem_of_mem ht
  have h1 := hg j (by omega)
  rw [List.getD_eq_getElem?_getD, List.getElem?_eq_getElem hj] at h1
  have h1 : (Ed.zipT xs tms)[j] = _ := h1
  rw [h1]
  exact h.get j

omit hN in
/-- The times of one turn. -/
theorem dT_both {xs : List Ed.Tk} (ht : tasksOk xs = true) {lo hi : Nat} (hg : Ed.Gd lo hi) {sd : Int} (h0 : 0 ≤ sd ∧ sd ≤ 4294967295) : ∀ k, k ≤ xs.length → ∃ tms s', Ed.dT (spec_l03Draw N) (some lo) (some hi) xs k sd = some (tms, s') ∧ Ed.dT (impl_timeDrawn N) (some lo) (some hi) xs k sd = some (tms, s') ∧ 0 ≤ s' ∧ s' ≤ 4294967295
  | 0, _ => ⟨[], sd, rfl, rfl, h0⟩
  | k + 1, hk => by
    obtain ⟨tms, s', e1, e2, e3, e4⟩ := dT_both ht hg h0 k (by omega)
    obtain ⟨t, n, d1, d2, d3, d4, d5⟩ := draw_num (N := N) hg e3 e4
    obtain ⟨r, hr⟩ := mil_some d3
    obtain ⟨f1, f2, f3⟩ := task_facts ht
    obtain ⟨t1, t2, _⟩ := f3 k (by omega)
    have hz : Ed.timeT t (xs.getD k Ed.tkD).1 = some (Int.tdiv (r.2.2 * (xs.getD k Ed.tkD).1) 1000) := by
      unfold Ed.timeT
      rw [hr]
      dsimp only
      have t1 : 0 ≤ (xs.getD k Ed.tkD).1 := t1
      have t2 : (xs.getD k Ed.tkD).1 ≤ 100 := t2
      rw [decide_eq_true t1, decide_eq_true (show (xs.getD k Ed.tkD).1 ≤ 1000000 by omega)]
      rfl
    refine ⟨tms ++ [Int.tdiv (r.2.2 * (xs.getD k Ed.tkD).1) 1000], n, ?_, ?_, d4, d5⟩
    · unfold Ed.dT
      rw [e1, Option.bind_some]
      simp only
      rw [d1, Option.bind_some]
      simp only
      rw [hz]
      rfl
    · unfold Ed.dT
      rw [e2, Option.bind_some]
      simp only
      rw [d2, Option.bind_some]
      simp only
      rw [hz]
      rfl

/-- How often, after one turn more. -/
theorem cntT_bound (often sl : List Int) {c : Int} (h : ∀ v ∈ often, 0 ≤ v ∧ v ≤ c) : ∀ k, k ≤ often.length → ∀ v ∈ Ed.cntT often sl k, 0 ≤ v ∧ v ≤ c + 1 := by
  have _ := hN
  intro k
  induction k with
  | zero => intro _ v hv; have := h v hv; omega
  | succ k ih =>
    intro hk v hv
    unfold Ed.cntT at hv
    cases e : sl.getD k 0 == 0 with
    | false =>
      rw [e] at hv
      exact ih (by omega) v hv
    | true =>
      rw [e, cond_true] at hv
      rcases List.mem_or_eq_of_mem_set hv with hv | hv
      · exact ih (by omega) v hv
      · have := h (often.getD k 0) (by rw [List.getD_eq_getElem?_getD, List.getElem?_eq_getElem (by omega)]; exact List.getElem_mem _)
        omega

/-- What the turns hand on. -/
def TurnOk (n : Nat) (c : Int) (S : Ed.ES) : Prop := (0 ≤ S.1 ∧ S.1 ≤ 4294967295) ∧ (S.2.1.length : Int) = c ∧ S.2.2.length = n ∧ ∀ v ∈ S.2.2, 0 ≤ v ∧ v ≤ c

theorem turn_both {xs : List Ed.Tk} (h : Small 1048576 xs) (ht : tasksOk xs = true) {lo hi : Nat} (hg : Ed.Gd lo hi) {c : Int} (hc : 0 ≤ c ∧ c ≤ 200) {S : Ed.ES} (hS : TurnOk xs.length c S) :
    ∃ S1, Ed.turnT (spec_l03Draw N) (spec_l03Early N) (spec_l03End N) (spec_l03Slack N) (some lo) (some hi) xs S = some S1 ∧ Ed.turnT (impl_timeDrawn N) (impl_earlyStarts N) (impl_lastEnd N) (impl_slack N) (some lo) (some hi) xs S = some S1 ∧ TurnOk xs.length (c + 1) S1 := by
  obtain ⟨s1, s2, s3, s4⟩ := hS
  obtain ⟨tms, s', e1, e2, e3, e4⟩ := dT_both (N := N) ht hg s1 xs.length (Nat.le_refl _)
  obtain ⟨z1, z2⟩ := zip_ok hN h ht tms
  have hl := Ed.zipT_length xs tms
  have hx := h.1
  obtain ⟨es, k1, k2, k3⟩ := earlyG_eq hN z1 z2
  obtain ⟨sl, q1, q2, q3⟩ := slackG_eq hN z1 z2
  have hok : Ed.okO S.2.2 = true := List.all_eq_true.2 fun v hv => by
    have := s4 v hv
    simp only [Bool.and_eq_true, decide_eq_true_eq]
    omega
  refine ⟨(s', S.2.1 ++ [endW (Ed.zipT xs tms) es], Ed.cntT S.2.2 sl xs.length), ?_, ?_, ⟨e3, e4⟩, by simp; omega, by rw [Ed.cntT_length]; exact s3, cntT_bound hN _ _ s4 _ (by omega)⟩
  · unfold Ed.turnT
    rw [e1, Option.bind_some]
    simp only
    rw [k1, Option.bind_some]
    simp only
    rw [decide_eq_true (show es.length = xs.length by omega), cond_true, l03End_eq hN (by omega) k3, Option.bind_some, q1, Option.bind_some]
    simp only
    rw [decide_eq_true (show sl.length = xs.length by omega), hok, decide_eq_true (show S.2.1.length ≤ 900 by omega)]
    rfl
  · unfold Ed.turnT
    rw [e2, Option.bind_some]
    simp only
    rw [k2, Option.bind_some]
    simp only
    rw [decide_eq_true (show es.length = xs.length by omega), cond_true, lastEnd_eq hN (by omega) k3, Option.bind_some, q2, Option.bind_some]
    simp only
    rw [decide_eq_true (show sl.length = xs.length by omega), hok, decide_eq_true (show S.2.1.length ≤ 900 by omega)]
    rfl

theorem turns_both {xs : List Ed.Tk} (h : Small 1048576 xs) (ht : tasksOk xs = true) {lo hi : Nat} (hg : Ed.Gd lo hi) : ∀ (k : Nat) (c : Int) (S : Ed.ES), 0 ≤ c → c + k ≤ 200 → TurnOk xs.length c S →
    ∃ S1, Ed.turnsT (spec_l03Draw N) (spec_l03Early N) (spec_l03End N) (spec_l03Slack N) (some lo) (some hi) xs k S = some S1 ∧ Ed.turnsT (impl_timeDrawn N) (impl_earlyStarts N) (impl_lastEnd N) (impl_slack N) (some lo) (some hi) xs k S = some S1 ∧ TurnOk xs.length (c + k) S1
  | 0, c, S, h0, h1, hS => ⟨S, rfl, rfl, by simpa using hS⟩
  | k + 1, c, S, h0, h1, hS => by
    obtain ⟨S1, e1, e2, e3⟩ := turn_both hN h ht hg (c := c) ⟨h0, by omega⟩ hS
    obtain ⟨S2, d1, d2, d3⟩ := turns_both h ht hg k (c + 1) S1 (by omega) (by omega) e3
    refine ⟨S2, ?_, ?_, by rw [show c + ((k + 1 : Nat) : Int) = c + 1 + (k : Int) by omega]; exact d3⟩
    · unfold Ed.turnsT
      rw [e1, Option.bind_some]
      exact d1
    · unfold Ed.turnsT
      rw [e2, Option.bind_some]
      exact d2

omit hN in
/-- A share is told. -/
theorem share_some {o ct : Int} (h0 : 0 ≤ o ∧ o ≤ 1000000) (h1 : 1 ≤ ct ∧ ct ≤ 64) : ∃ r, fbits .quo .f32 (FloatKind.nearest .f32 o) (FloatKind.nearest .f32 ct) = some r ∧ toF .f32 r = some r := by
  obtain ⟨m, p, k1, _, _⟩ := nearS (m := o.natAbs) (p := 0) (W := 20) (by
    by_cases h : o.natAbs = 0
    · exact .inl h
    · have := log_lt (n := 20) (m := o.natAbs) (by omega) h
      exact .inr (by omega)) (by omega) (by omega)
  have hx : FloatKind.nearest .f32 o = Ieee.single.nearest false o.natAbs 0 := by
    show Ieee.single.nearest (decide (o < 0)) o.natAbs 0 = _
    rw [decide_eq_false (by omega)]
  have hall : ∀ c : Fin 65, c.val ≠ 0 → (match Ieee.single.read (FloatKind.nearest .f32 (c.val : Int)) with | .number false n _ => n != 0 | _ => false) = true := by decide +kernel
  have hc := hall ⟨ct.toNat, by omega⟩ (by simp only; omega)
  simp only at hc
  rw [show ((ct.toNat : Nat) : Int) = ct by omega] at hc
  cases hr : Ieee.single.read (FloatKind.nearest .f32 ct) with
  | infinity g => rw [hr] at hc; cases hc
  | nan g f => rw [hr] at hc; cases hc
  | number g n j =>
    rw [hr] at hc
    cases g with
    | true => cases hc
    | false =>
      have hn : n ≠ 0 := by simpa using hc
      have hq : ∃ M P, (Ieee.Datum.number false m p).quotient 25 (.number false n j) = some (.number false M P) := by
        unfold Ieee.Datum.quotient
        dsimp only
        rw [if_neg hn]
        exact ⟨_, _, rfl⟩
      obtain ⟨M, P, hq⟩ := hq
      have hb : fbits .quo .f32 (FloatKind.nearest .f32 o) (FloatKind.nearest .f32 ct) = some (Ieee.single.nearest false M P) := by
        show ((Ieee.single.read (FloatKind.nearest .f32 o)).quotient 25 (Ieee.single.read (FloatKind.nearest .f32 ct))).map Ieee.single.write = _
        rw [hr, hx, k1, hq]
        rfl
      refine ⟨_, hb, ?_⟩
      have hr2 := nearest_lt M P
      generalize Ieee.single.nearest false M P = r at hr2
      have hread : (∃ m e, Ieee.single.read r = .number false m e) ∨ Ieee.single.read r = .infinity false := by
        unfold Ieee.Format.read
        rw [show Ieee.single.signWeight = 2147483648 from rfl, show Ieee.single.binade = 8388608 from rfl, show Ieee.single.infRung = 2139095040 from rfl]
        simp only [Nat.mod_eq_of_lt (show r < 2147483648 by omega), Nat.div_eq_of_lt (show r < 2147483648 by omega)]
        split
        · exact .inl ⟨_, _, rfl⟩
        · split
          · exact .inl ⟨_, _, rfl⟩
          · rw [if_pos (by omega)]
            exact .inr rfl
      rcases hread with ⟨m', e', h⟩ | h
      · exact toF_num (k := .f32) h
      · exact toF_inf (k := .f32) h

omit hN in
theorem sh_some {ct : Int} (h1 : 1 ≤ ct ∧ ct ≤ 64) {often : List Int} (ho : ∀ v ∈ often, 0 ≤ v ∧ v ≤ 1000000) : ∀ k, k ≤ often.length → ∃ l, Ed.shT ct often k = some l
  | 0, _ => ⟨[], rfl⟩
  | k + 1, hk => by
    obtain ⟨l, e⟩ := sh_some h1 ho k (by omega)
    obtain ⟨r, r1, r2⟩ := share_some (ho (often.getD k 0) (by rw [List.getD_eq_getElem?_getD, List.getElem?_eq_getElem (by omega)]; exact List.getElem_mem _)) h1
    refine ⟨l ++ [r], ?_⟩
    unfold Ed.shT
    rw [e, Option.bind_some, r1]
    simp [r2]

theorem EndsDrawn_law {xs : List Ed.Tk} {lo hi : Option Nat} {sd ct : Int} (hlo : ∃ b, lo = toF .f32 b) (hhi : ∃ b, hi = toF .f32 b) (h : Small 1048576 xs) :
    ∃ l f n b, spec_EndsDrawn N xs lo hi sd ct = some (l, f, n, b, ()) ∧ impl_EndsDrawn N xs lo hi sd ct = some (l, f, n, b, ()) ∧ l.length ≤ 1000 ∧ f.length ≤ 1000 ∧ ∀ x ∈ f, ∃ b, x = toF .f32 b := by
  have hno : ∀ {a b : Option (List Int × List (Option Nat) × Int × Bool × Unit)}, a = Ed.noE → b = Ed.noE → ∃ l f n b', a = some (l, f, n, b', ()) ∧ b = some (l, f, n, b', ()) ∧ l.length ≤ 1000 ∧ f.length ≤ 1000 ∧ ∀ x ∈ f, ∃ b, x = toF .f32 b :=
    fun h1 h2 => ⟨[], [], 0, false, h1, h2, by simp, by simp, fun x hx => by cases hx⟩
  unfold spec_EndsDrawn impl_EndsDrawn Ed.edF
  rw [l03Are_eq hN h, AreTasks_eq hN h, Option.bind_some, Option.bind_some]
  cases ht : tasksOk xs with
  | false => exact hno rfl rfl
  | true =>
    simp only [cond_true]
    obtain ⟨lb, rfl⟩ := hlo
    obtain ⟨hb, rfl⟩ := hhi
    cases hgd : Ed.gdI (toF .f32 lb) (toF .f32 hb) with
    | false => exact hno rfl rfl
    | true =>
      simp only [cond_true]
      have hg := Ed.gd_iff.1 hgd
      obtain ⟨n1, n2⟩ := Ed.gd_num hg
      have hss : spec_l03Seed N sd = some (within 0 4294967295 sd, ()) := by
        unfold spec_l03Seed
        simp only [l00In_eq, Option.bind_some]
      have his : impl_isSeed N sd = some (within 0 4294967295 sd, ()) := by
        unfold impl_isSeed
        simp only [within_eq, Option.bind_some]
      rw [hss, his, Option.bind_some, Option.bind_some]
      cases hs : within 0 4294967295 sd with
      | false => exact hno rfl rfl
      | true =>
        simp only [cond_true, l00In_eq, within_eq, Option.bind_some]
        cases hc : within 1 64 ct with
        | false => exact hno rfl rfl
        | true =>
          simp only [cond_true]
          have hs := within_iff.1 hs
          have hc := within_iff.1 hc
          obtain ⟨f1, f2, f3⟩ := task_facts ht
          rw [decide_eq_true (show 1 ≤ xs.length by omega), decide_eq_true (show xs.length ≤ 900 by omega), decide_eq_true (show 0 ≤ ct by omega), decide_eq_true (show ct ≤ 1000 by omega)]
          simp only [Bool.and_self, cond_true]
          rw [n1, n2]
          obtain ⟨R, e1, e2, e3⟩ := turns_both hN h ht hg ct.toNat 0 (sd, [], List.replicate xs.length 0) (by omega) (by omega) ⟨hs, rfl, by simp, fun v hv => by rw [List.eq_of_mem_replicate hv]; omega⟩
          obtain ⟨r1, r2, r3, r4⟩ := e3
          obtain ⟨l, hl⟩ := sh_some hc (often := R.2.2) (fun v hv => by have := r4 v hv; omega) xs.length (by omega)
          have hll := Ed.shT_len hl
          have hnum := Ed.shT_num hl
          rw [e1, e2, Option.bind_some, hl, Option.bind_some]
          refine ⟨R.2.1, l.map some, R.1, true, rfl, rfl, by omega, by rw [List.length_map]; omega, fun x hx => ?_⟩
          obtain ⟨y, hy, rfl⟩ := List.mem_map.1 hx
          exact ⟨y, (hnum y hy).symm⟩

theorem FnExactEndsDrawn_eq (xs : List Ed.Tk) (lo hi : Option Nat) (sd ct : Int) (hlo : ∃ b, lo = toF .f32 b) (hhi : ∃ b, hi = toF .f32 b) (hx : Small 9223372036854775807 xs) : laws_FnExactEndsDrawn N xs lo hi sd ct = some (true, ()) := by
  unfold laws_FnExactEndsDrawn
  rcases szTaskS_eq hN (k := 1048576) hx (by omega) with e | ⟨r, e, h1, h2, h3⟩
  · simp [e]
  obtain ⟨a0, a1, a2, a3, e1, e2, l0, l1, l2⟩ := EndsDrawn_law hN (sd := sd) (ct := ct) hlo hhi h3
  simp only [e, Option.bind_some, show decide (r < 0) = false from by simp; omega, cond_false, toTaskS_eq hN h3, e1, e2, eqTaskS_eq hN h3, eqInt64S_eq hN (xs := a0) (by omega), eqFloat_self hN (xs := a1) (by omega) l2, bne_self_eq_false, BEq.rfl, Bool.not_true,
    markTS_eq h3, Nat.beq_refl, cond_true, decide_eq_false (show ¬ ((1 : Int) + tksLen xs < 0) by have := tksLen_nonneg xs; omega), markInt64S_eq hN (xs := a0) (k := 1) (by omega) (by omega), markFloat32S_eq hN (xs := a1) (k := 1 + a0.length) (by omega) (by omega), heldInt64S_eq hN (xs := a0) (k := 1) (by omega) (by omega), heldFloat32S_eq hN (xs := a1) (k := 1 + a0.length) (by omega) (by omega),
    decide_eq_false (show ¬ ((1 + a0.length : Int) < 0) by omega), decide_eq_false (show ¬ ((1 + a0.length + a1.length : Int) < 0) by omega), counted_len, countedF_len]
end

end Go.Proofs.Ytmdicmdodbndgaa
