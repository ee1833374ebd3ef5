/-
  LeastStations: the two searches. No condition.
-/
import Derived.Test.YtgcmklniacjcfaaLsD
namespace Go.Proofs.Ytgcmklniacjcfaa.Ls
open Go Go.Proofs.Ytgcmklniacjcfaa Go.Proofs.Ytgcmklniacjcfaa.Fw
set_option linter.unusedVariables false
set_option linter.unusedSimpArgs false

def loadK (xs : List Int) (a : Nat → Nat) : Nat → Nat → Int
  | 0, _ => 0
  | k + 1, s => loadK xs a k s + (if a k = s then xs.getD k 0 else 0)

theorem loadM_full {xs : List Int} {a : Nat → Nat} {n : Nat} : ∀ k, k ≤ n → ∀ s, loadM xs (2 ^ n - 1) a k s = loadK xs a k s := by
  intro k
  induction k with
  | zero => intro _ s; rfl
  | succ k ih =>
    intro hk s
    unfold loadM loadK
    rw [ih (by omega)]
    by_cases e : a k = s
    · rw [if_pos ⟨full_bit (by omega), e⟩, if_pos e]
    · rw [if_neg (fun h => e h.2), if_neg e]

/-- All tasks, each on a station. -/
structure Full (xs bs : List Int) (c : Int) (a : Nat → Nat) (q : Nat) : Prop where
  st : ∀ i, i < xs.length → a i < q
  pr : ∀ i, i < xs.length → ∀ k, k < i → befB (bs.getD i 0) k = true → a k ≤ a i
  ld : ∀ s, s < q → loadK xs a xs.length s ≤ c

theorem feas_iff {xs bs : List Int} {c : Int} {q : Nat} : Feas xs bs c q ↔ ∃ a, Full xs bs c a q := by
  constructor
  · rintro ⟨a, h1, h2, h3⟩
    exact ⟨a, fun i hi => h1 i hi (full_bit hi), fun i hi k hk hb => (h2 i hi (full_bit hi) k hk hb).2, fun s hs => by rw [← loadM_full xs.length (Nat.le_refl _)]; exact h3 s hs⟩
  · rintro ⟨a, h1, h2, h3⟩
    exact ⟨a, fun i hi _ => h1 i hi, fun i hi _ k hk hb => ⟨full_bit (by omega), h2 i hi k hk hb⟩, fun s hs => by rw [loadM_full xs.length (Nat.le_refl _)]; exact h3 s hs⟩

theorem loadK_congr {xs : List Int} {a b : Nat → Nat} : ∀ k, (∀ j, j < k → a j = b j) → ∀ s, loadK xs a k s = loadK xs b k s := by
  intro k
  induction k with
  | zero => intro _ s; rfl
  | succ k ih =>
    intro h s
    unfold loadK
    rw [ih (fun j hj => h j (by omega)), h k (by omega)]

theorem loadK_mono {xs : List Int} {a : Nat → Nat} {s : Nat} (hx : ∀ i, i < xs.length → 0 ≤ xs.getD i 0) {k : Nat} : ∀ e, k + e ≤ xs.length → loadK xs a k s ≤ loadK xs a (k + e) s := by
  intro e
  induction e with
  | zero => intro _; exact Int.le_refl _
  | succ e ih =>
    intro h
    have h1 := ih (by omega)
    have h2 := hx (k + e) (by omega)
    show _ ≤ loadK xs a (k + e) s + (if a (k + e) = s then xs.getD (k + e) 0 else 0)
    split <;> omega

/-- What a search has so far: the stations, and the loads of them. -/
structure Pre (xs bs : List Int) (c : Int) (q : Nat) (tu ld : List Int) : Prop where
  ll : ld.length = q
  nn : ∀ k, k < tu.length → 0 ≤ tu.getD k 0 ∧ tu.getD k 0 < (q : Int)
  pr : ∀ i, i < tu.length → ∀ k, k < i → befB (bs.getD i 0) k = true → tu.getD k 0 ≤ tu.getD i 0
  ld : ∀ s, s < q → ld.getD s 0 = loadK xs (fun k => (tu.getD k 0).toNat) tu.length s ∧ ld.getD s 0 ≤ c

/-- It can be brought to an end. -/
def Comp (xs bs : List Int) (c : Int) (q : Nat) (tu : List Int) : Prop := ∃ a, Full xs bs c a q ∧ ∀ k, k < tu.length → tu.getD k 0 = (a k : Int)

theorem getD_app {tu : List Int} {v : Int} {k : Nat} : (tu ++ [v]).getD k 0 = if k < tu.length then tu.getD k 0 else if k = tu.length then v else 0 := by
  simp only [List.getD_eq_getElem?_getD]
  by_cases h : k < tu.length
  · rw [if_pos h, List.getElem?_append_left h]
  · rw [if_neg h, List.getElem?_append_right (by omega)]
    by_cases e : k = tu.length
    · rw [if_pos e, e]; simp
    · rw [if_neg e, List.getElem?_eq_none (by simp; omega)]; rfl

theorem maxI_le {a b s : Int} : maxI a b ≤ s ↔ a ≤ s ∧ b ≤ s := by
  unfold maxI
  split <;> omega

theorem firstP_le {b : Int} {tu : List Int} {s : Int} : ∀ j, firstP b tu j ≤ s ↔ 0 ≤ s ∧ ∀ k, k < j → befB b k = true → tu.getD k 0 ≤ s := by
  intro j
  induction j with
  | zero => exact ⟨fun h => ⟨h, fun k hk => by omega⟩, fun h => h.1⟩
  | succ j ih =>
    unfold firstP
    cases hb : befB b j with
    | false =>
      rw [if_neg (by decide), ih]
      refine ⟨fun h => ⟨h.1, fun k hk hkb => ?_⟩, fun h => ⟨h.1, fun k hk => h.2 k (by omega)⟩⟩
      have e : k ≠ j := fun e => by rw [e, hb] at hkb; cases hkb
      exact h.2 k (by omega) hkb
    | true =>
      rw [if_pos rfl, maxI_le, ih]
      refine ⟨fun h => ⟨h.1.1, fun k hk hkb => ?_⟩, fun h => ⟨⟨h.1, fun k hk => h.2 k (by omega)⟩, h.2 j (by omega) hb⟩⟩
      by_cases e : k = j
      · subst e; exact h.2
      · exact h.1.2 k (by omega) hkb

theorem firstQ_eq {fX : Int → Int → Option (Int × Unit)} (hX : ∀ a b, fX a b = some (maxI a b, ())) {b : Int} {tu : List Int} : ∀ k, firstQ fX b tu k = some (firstP b tu k) := by
  intro k
  induction k with
  | zero => rfl
  | succ k ih =>
    unfold firstQ firstP
    rw [ih, Option.bind_some]
    cases befB b k with
    | false => rfl
    | true => rw [if_pos rfl, if_pos rfl, hX]; rfl

section
variable {xs bs : List Int} {c : Int} {q : Nat}

theorem pre_step (H : LineOk xs bs c) {tu ld : List Int} (hP : Pre xs bs c q tu ld) (hi : tu.length < xs.length) {m : Nat} (hm : m < q) (hf : firstP (bs.getD tu.length 0) tu tu.length ≤ (m : Int)) (hle : ld.getD m 0 + xs.getD tu.length 0 ≤ c) :
    Pre xs bs c q (tu ++ [(m : Int)]) (ld.set m (ld.getD m 0 + xs.getD tu.length 0)) := by
  have hfl := (firstP_le _).1 hf
  refine ⟨by rw [List.length_set]; exact hP.ll, fun k hk => ?_, fun i hi' k hk hb => ?_, fun s hs => ?_⟩
  · rw [List.length_append, List.length_singleton] at hk
    rw [getD_app]
    by_cases e : k < tu.length
    · rw [if_pos e]; exact hP.nn k e
    · rw [if_neg e, if_pos (by omega)]; omega
  · rw [List.length_append, List.length_singleton] at hi'
    rw [getD_app, getD_app]
    by_cases e : i < tu.length
    · rw [if_pos e, if_pos (by omega)]; exact hP.pr i e k hk hb
    · have e2 : i = tu.length := by omega
      subst e2
      rw [if_neg (Nat.lt_irrefl _), if_pos rfl, if_pos hk]
      exact hfl.2 k hk hb
  · have hl := hP.ld s hs
    have hlen : (tu ++ [(m : Int)]).length = tu.length + 1 := by simp
    rw [hlen]
    unfold loadK
    rw [loadK_congr (b := fun k => (tu.getD k 0).toNat) tu.length (fun j hj => by show ((tu ++ [(m : Int)]).getD j 0).toNat = _; rw [getD_app, if_pos hj])]
    rw [← hl.1]
    show _ = ld.getD s 0 + (if ((tu ++ [(m : Int)]).getD tu.length 0).toNat = s then xs.getD tu.length 0 else 0) ∧ _
    rw [getD_app, if_neg (Nat.lt_irrefl _), if_pos rfl, Int.toNat_natCast]
    simp only [List.getD_eq_getElem?_getD, List.getElem?_set] at *
    by_cases e : m = s
    · subst e
      rw [if_pos rfl, if_pos (by rw [hP.ll]; exact hm), if_pos rfl]
      exact ⟨rfl, hle⟩
    · rw [if_neg e, if_neg e]
      exact ⟨by omega, hl.2⟩

/-- No way on from a station that is full. -/
theorem comp_full (H : LineOk xs bs c) {tu ld : List Int} (hP : Pre xs bs c q tu ld) (hi : tu.length < xs.length) {m : Nat} (hm : m < q) (hgt : ld.getD m 0 + xs.getD tu.length 0 > c) : ¬ Comp xs bs c q (tu ++ [(m : Int)]) := by
  rintro ⟨a, hF, ha⟩
  have hlen : (tu ++ [(m : Int)]).length = tu.length + 1 := by simp
  rw [hlen] at ha
  have h1 : ∀ j, j < tu.length → (tu.getD j 0).toNat = a j := fun j hj => by
    have := ha j (by omega)
    rw [getD_app, if_pos hj] at this
    rw [this, Int.toNat_natCast]
  have h2 : a tu.length = m := by
    have := ha tu.length (by omega)
    rw [getD_app, if_neg (Nat.lt_irrefl _), if_pos rfl] at this
    omega
  have h3 := (hP.ld m hm).1
  rw [loadK_congr tu.length h1] at h3
  have h4 : loadK xs a (tu.length + 1) m = ld.getD m 0 + xs.getD tu.length 0 := by
    unfold loadK
    rw [← h3, if_pos h2]
  have h5 := loadK_mono (xs := xs) (a := a) (s := m) (fun i hi => by have := H.xb i hi; omega) (k := tu.length + 1) (xs.length - (tu.length + 1)) (by omega)
  rw [show tu.length + 1 + (xs.length - (tu.length + 1)) = xs.length by omega] at h5
  have h6 := hF.ld m hm
  omega

/-- A way to the end goes on at some station that those ahead allow. -/
theorem comp_some {tu : List Int} (hi : tu.length < xs.length) (h : Comp xs bs c q tu) : ∃ m : Nat, m < q ∧ firstP (bs.getD tu.length 0) tu tu.length ≤ (m : Int) ∧ Comp xs bs c q (tu ++ [(m : Int)]) := by
  obtain ⟨a, hF, ha⟩ := h
  refine ⟨a tu.length, hF.st _ hi, (firstP_le _).2 ⟨by omega, fun k hk hb => ?_⟩, a, hF, fun k hk => ?_⟩
  · rw [ha k hk]
    have := hF.pr _ hi k hk hb
    omega
  · rw [List.length_append, List.length_singleton] at hk
    rw [getD_app]
    by_cases e : k < tu.length
    · rw [if_pos e]; exact ha k e
    · rw [if_neg e, if_pos (by omega), show k = tu.length by omega]

/-- All stations are given. -/
theorem pre_full {tu : List Int} (hP : ∃ ld, Pre xs bs c q tu ld) (hl : tu.length = xs.length) : Full xs bs c (fun k => (tu.getD k 0).toNat) q := by
  obtain ⟨ld, hP⟩ := hP
  refine ⟨fun i hi => ?_, fun i hi k hk hb => ?_, fun s hs => ?_⟩
  · have := hP.nn i (by omega)
    show (tu.getD i 0).toNat < q
    omega
  · have h1 := hP.pr i (by omega) k hk hb
    have h2 := hP.nn k (by omega)
    show (tu.getD k 0).toNat ≤ (tu.getD i 0).toNat
    omega
  · have := hP.ld s hs
    rw [← hl]
    omega

/-- What the reference's search answers. -/
def FitOk (xs bs : List Int) (c : Int) (q : Nat) (tu ld : List Int) (r : Option (List Int × List Int)) : Prop :=
  ∃ o ld', r = some (o, ld') ∧ ((o.length = xs.length ∧ (∃ l, Pre xs bs c q o l) ∧ ∀ k, k < tu.length → o.getD k 0 = tu.getD k 0) ∨ (o = [] ∧ ld' = ld ∧ ¬ Comp xs bs c q tu))

theorem ld_nn (H : LineOk xs bs c) {tu ld : List Int} (hP : Pre xs bs c q tu ld) (ht : tu.length ≤ xs.length) {s : Nat} (hs : s < q) : 0 ≤ ld.getD s 0 ∧ ld.getD s 0 ≤ c := by
  refine ⟨?_, (hP.ld s hs).2⟩
  rw [(hP.ld s hs).1]
  have h := loadK_mono (xs := xs) (a := fun k => (tu.getD k 0).toNat) (s := s) (fun i hi => by have := H.xb i hi; omega) (k := 0) tu.length (by omega)
  rw [Nat.zero_add] at h
  exact h

theorem try_ok (H : LineOk xs bs c) {fit : List Int → List Int → Option (List Int × List Int)} {tu ld : List Int} (hP : Pre xs bs c q tu ld) (hi : tu.length < xs.length) {m : Nat} (hm : m < q) (hf : firstP (bs.getD tu.length 0) tu tu.length ≤ (m : Int))
    (ih : ∀ ld', Pre xs bs c q (tu ++ [(m : Int)]) ld' → FitOk xs bs c q (tu ++ [(m : Int)]) ld' (fit (tu ++ [(m : Int)]) ld')) :
    ∃ o ld', tryF fit (xs.getD tu.length 0) c tu m ld = some (o, ld') ∧ ((o.length = xs.length ∧ (∃ l, Pre xs bs c q o l) ∧ ∀ k, k < tu.length → o.getD k 0 = tu.getD k 0) ∨ (o = [] ∧ ld' = ld ∧ ¬ Comp xs bs c q (tu ++ [(m : Int)]))) := by
  have hx := H.xb _ hi
  have hcb := H.cb
  have hl := ld_nn H hP (by omega) hm
  unfold tryF
  rw [show (decide (0 ≤ xs.getD tu.length 0) && (decide (xs.getD tu.length 0 ≤ 1000000) && (decide (0 ≤ ld.getD m 0) && decide (ld.getD m 0 ≤ 100000000)))) = true by
    simp only [Bool.and_eq_true, decide_eq_true_eq]
    omega, cond_true]
  by_cases hgt : ld.getD m 0 + xs.getD tu.length 0 > c
  · rw [decide_eq_true hgt, cond_true]
    exact ⟨_, _, rfl, .inr ⟨rfl, rfl, comp_full H hP hi hm hgt⟩⟩
  · rw [decide_eq_false hgt, cond_false]
    have hP' := pre_step H hP hi hm hf (by omega)
    obtain ⟨o, ld', e1, e2⟩ := ih _ hP'
    rw [e1, Option.bind_some]
    rcases e2 with ⟨g1, g2, g3⟩ | ⟨g1, g2, g3⟩
    · have hn := H.n1
      refine ⟨o, ld', ?_, .inl ⟨g1, g2, fun k hk => ?_⟩⟩
      · simp only
        rw [decide_eq_false (by omega), cond_false]
      · rw [g3 k (by simp; omega), getD_app, if_pos hk]
    · subst g1
      subst g2
      refine ⟨[], ld, ?_, .inr ⟨rfl, rfl, g3⟩⟩
      simp

theorem scan_ok {f : Nat → List Int → Option (List Int × List Int)} {tu ld : List Int} {P : List Int → Prop} (hne : ∀ o, P o → o.length ≠ 0) (hf : ∀ m, m < q → ∃ o ld', f m ld = some (o, ld') ∧ (P o ∨ (o = [] ∧ ld' = ld ∧ ¬ Comp xs bs c q (tu ++ [(m : Int)])))) :
    ∀ d m, m + d = q ∨ d = 0 → ∃ o ld', scanF f d m ld = some (o, ld') ∧ (P o ∨ (o = [] ∧ ld' = ld ∧ ∀ s : Nat, m ≤ s → s < m + d → ¬ Comp xs bs c q (tu ++ [(s : Int)]))) := by
  intro d
  induction d with
  | zero => intro m _; exact ⟨_, _, rfl, .inr ⟨rfl, rfl, fun s h1 h2 => by omega⟩⟩
  | succ d ih =>
    intro m hm
    obtain ⟨o, ld', e1, e2⟩ := hf m (by omega)
    unfold scanF
    rw [e1, Option.bind_some]
    rcases e2 with g | ⟨rfl, rfl, g3⟩
    · refine ⟨o, ld', ?_, .inl g⟩
      simp only
      rw [decide_eq_false (hne o g), cond_false]
    · simp only [List.length_nil, decide_true, cond_true]
      obtain ⟨o2, ld2, k1, k2⟩ := ih (m + 1) (by omega)
      refine ⟨o2, ld2, k1, ?_⟩
      rcases k2 with g | ⟨h1, h2, h3⟩
      · exact .inl g
      · refine .inr ⟨h1, h2, fun s hs1 hs2 => ?_⟩
        by_cases e : s = m
        · subst e; exact g3
        · exact h3 s (by omega) (by omega)

theorem fit_ok (H : LineOk xs bs c) {fX : Int → Int → Option (Int × Unit)} (hX : ∀ a b, fX a b = some (maxI a b, ())) : ∀ (r : Nat) (tu ld : List Int), tu.length + r = xs.length → Pre xs bs c q tu ld → FitOk xs bs c q tu ld (fitP fX xs bs c q r tu ld) := by
  intro r
  induction r with
  | zero =>
    intro tu ld hl hP
    exact ⟨tu, ld, rfl, .inl ⟨by omega, ⟨ld, hP⟩, fun k _ => rfl⟩⟩
  | succ r ih =>
    intro tu ld hl hP
    have hi : tu.length < xs.length := by omega
    unfold fitP
    rw [firstQ_eq hX, Option.bind_some]
    obtain ⟨f, hf⟩ : ∃ f : Nat, firstP (bs.getD tu.length 0) tu tu.length = (f : Int) := ⟨(firstP (bs.getD tu.length 0) tu tu.length).toNat, by have := firstP_nn (b := bs.getD tu.length 0) (out := tu) tu.length; omega⟩
    rw [hf, decide_eq_true (by omega : (0 : Int) ≤ (f : Int)), cond_true, Int.toNat_natCast]
    by_cases hfq : f < q
    · have hs := scan_ok (xs := xs) (bs := bs) (c := c) (q := q) (f := fun m l => if f ≤ m then tryF (fitP fX xs bs c q r) (xs.getD tu.length 0) c tu m l else some ([], l)) (tu := tu) (ld := ld)
        (P := fun o => o.length = xs.length ∧ (∃ l, Pre xs bs c q o l) ∧ ∀ k, k < tu.length → o.getD k 0 = tu.getD k 0) (fun o h => by have := H.n1; omega)
        (fun m hm => by
          by_cases hfm : f ≤ m
          · simp only [if_pos hfm]
            exact try_ok H hP hi hm (by rw [hf]; omega) fun ld' hP' => ih _ ld' (by simp; omega) hP'
          · simp only [if_neg hfm]
            refine ⟨[], ld, rfl, .inr ⟨rfl, rfl, ?_⟩⟩
            rintro ⟨a, hF, ha⟩
            have h1 := ha tu.length (by simp)
            rw [getD_app, if_neg (Nat.lt_irrefl _), if_pos rfl] at h1
            have h2 : firstP (bs.getD tu.length 0) tu tu.length ≤ (m : Int) := (firstP_le _).2 ⟨by omega, fun k hk hb => by
              have h3 := ha k (by simp; omega)
              rw [getD_app, if_pos hk] at h3
              have := hF.pr _ hi k hk hb
              rw [h3]
              omega⟩
            rw [hf] at h2
            omega) (q - f) f (by omega)
      obtain ⟨o, ld', e1, e2⟩ := hs
      have hsc : ∀ d m, f ≤ m → scanF (fun m l => if f ≤ m then tryF (fitP fX xs bs c q r) (xs.getD tu.length 0) c tu m l else some ([], l)) d m = scanF (tryF (fitP fX xs bs c q r) (xs.getD tu.length 0) c tu) d m := by
        intro d
        induction d with
        | zero => intro m _; rfl
        | succ d ihd =>
          intro m hm
          funext l
          unfold scanF
          simp only [if_pos hm]
          rw [ihd (m + 1) (by omega)]
      rw [hsc _ _ (Nat.le_refl _)] at e1
      refine ⟨o, ld', e1, ?_⟩
      rcases e2 with g | ⟨g1, g2, g3⟩
      · exact .inl g
      · refine .inr ⟨g1, g2, fun hc => ?_⟩
        obtain ⟨m, hm, hfm, hcm⟩ := comp_some hi hc
        rw [hf] at hfm
        exact g3 m (by omega) (by omega) hcm
    · rw [show q - f = 0 by omega]
      refine ⟨[], ld, rfl, .inr ⟨rfl, rfl, fun hc => ?_⟩⟩
      obtain ⟨m, hm, hfm, _⟩ := comp_some hi hc
      rw [hf] at hfm
      omega

/-- Nothing is put yet. -/
theorem pre_nil (H : LineOk xs bs c) : Pre xs bs c q [] (List.replicate q 0) := by
  refine ⟨by simp, fun k hk => by simp at hk, fun i hi => by simp at hi, fun s hs => ?_⟩
  have : (List.replicate q (0 : Int)).getD s 0 = 0 := by
    rw [List.getD_eq_getElem?_getD, List.getElem?_replicate, if_pos hs]
    rfl
  rw [this]
  exact ⟨rfl, by have := H.cb; omega⟩

theorem comp_nil : Comp xs bs c q [] ↔ Feas xs bs c q := by
  rw [feas_iff]
  exact ⟨fun ⟨a, h, _⟩ => ⟨a, h⟩, fun ⟨a, h⟩ => ⟨a, h, fun k hk => by simp at hk⟩⟩

/-- The reference's search finds a way where there is one. -/
theorem fit_top (H : LineOk xs bs c) {fX : Int → Int → Option (Int × Unit)} (hX : ∀ a b, fX a b = some (maxI a b, ())) : ∃ o ld', fitP fX xs bs c q xs.length [] (List.replicate q 0) = some (o, ld') ∧ ((o.length = xs.length ∧ Feas xs bs c q) ∨ (o = [] ∧ ¬ Feas xs bs c q)) := by
  obtain ⟨o, ld', e1, e2⟩ := fit_ok (q := q) H hX xs.length [] (List.replicate q 0) (by simp) (pre_nil H)
  refine ⟨o, ld', e1, ?_⟩
  rcases e2 with ⟨g1, g2, g3⟩ | ⟨g1, g2, g3⟩
  · exact .inl ⟨g1, feas_iff.2 ⟨_, pre_full g2 g1⟩⟩
  · exact .inr ⟨g1, fun h => g3 (comp_nil.2 h)⟩

end

end Go.Proofs.Ytgcmklniacjcfaa.Ls
