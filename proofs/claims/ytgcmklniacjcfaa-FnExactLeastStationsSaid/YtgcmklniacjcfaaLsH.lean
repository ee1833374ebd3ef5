/-
  LeastStations: the program's search goes as the reference's does. No condition.
-/
import Derived.Test.YtgcmklniacjcfaaLsE
namespace Go.Proofs.Ytgcmklniacjcfaa.Ls
open Go Go.Proofs.Ytgcmklniacjcfaa Go.Proofs.Ytgcmklniacjcfaa.Fw
set_option linter.unusedVariables false
set_option linter.unusedSimpArgs false

def sumF (f : Nat → Int) : Nat → Int
  | 0 => 0
  | k + 1 => sumF f k + f k

theorem sumF_congr {f g : Nat → Int} : ∀ k, (∀ j, j < k → f j = g j) → sumF f k = sumF g k := by
  intro k
  induction k with
  | zero => intro _; rfl
  | succ k ih => intro h; unfold sumF; rw [ih (fun j hj => h j (by omega)), h k (by omega)]
theorem sumF_le {f g : Nat → Int} : ∀ k, (∀ j, j < k → f j ≤ g j) → sumF f k ≤ sumF g k := by
  intro k
  induction k with
  | zero => intro _; exact Int.le_refl _
  | succ k ih =>
    intro h
    unfold sumF
    have h1 := ih (fun j hj => h j (by omega))
    have h2 := h k (by omega)
    omega
theorem sumF_add {f g : Nat → Int} : ∀ k, sumF (fun j => f j + g j) k = sumF f k + sumF g k := by
  intro k
  induction k with
  | zero => rfl
  | succ k ih => unfold sumF; rw [ih]; omega
theorem sumF_sub {f g : Nat → Int} : ∀ k, sumF (fun j => f j - g j) k = sumF f k - sumF g k := by
  intro k
  induction k with
  | zero => rfl
  | succ k ih => unfold sumF; rw [ih]; omega
theorem sumF_one {s : Nat} {x : Int} : ∀ k, sumF (fun j => if s = j then x else 0) k = if s < k then x else 0 := by
  intro k
  induction k with
  | zero => rfl
  | succ k ih =>
    unfold sumF
    rw [ih]
    by_cases h : s < k
    · rw [if_pos h, if_neg (by omega), if_pos (by omega)]; omega
    · rw [if_neg h]
      by_cases e : s = k
      · rw [if_pos e, if_pos (by omega)]; omega
      · rw [if_neg e, if_neg (by omega)]; omega
theorem sumK_F {l : List Int} : ∀ k, sumK l k = sumF (fun j => l.getD j 0) k := by
  intro k
  induction k with
  | zero => rfl
  | succ k ih => unfold sumK sumF; rw [ih]

section
variable {xs bs : List Int} {c : Int} {q : Nat}

theorem sum_loads {a : Nat → Nat} : ∀ k, (∀ j, j < k → a j < q) → sumF (fun s => loadK xs a k s) q = sumK xs k := by
  intro k
  induction k with
  | zero =>
    intro _
    have : ∀ m, sumF (fun s => loadK xs a 0 s) m = 0 := by
      intro m
      induction m with
      | zero => rfl
      | succ m ih => unfold sumF; rw [ih]; rfl
    exact this q
  | succ k ih =>
    intro h
    have h1 := ih (fun j hj => h j (by omega))
    have h2 : sumF (fun s => loadK xs a (k + 1) s) q = sumF (fun s => loadK xs a k s + (if a k = s then xs.getD k 0 else 0)) q := rfl
    rw [h2, sumF_add, h1, sumF_one, if_pos (h k (by omega))]
    rfl

theorem map_getD {ld : List Int} {s : Nat} (hs : s < ld.length) : (ld.map fun v => c - v).getD s 0 = c - ld.getD s 0 := by
  rw [List.getD_eq_getElem?_getD, List.getElem?_map, List.getElem?_eq_getElem hs, List.getD_eq_getElem?_getD, List.getElem?_eq_getElem hs]
  rfl

/-- Where a way to the end is, there is room for the work. -/
theorem room_of (H : LineOk xs bs c) {tu ld : List Int} (hP : Pre xs bs c q tu ld) (ht : tu.length ≤ xs.length) (hc : Comp xs bs c q tu) : sumK xs xs.length - sumK xs tu.length ≤ sumL (ld.map fun v => c - v) := by
  obtain ⟨a, hF, ha⟩ := hc
  unfold sumL
  rw [List.length_map, hP.ll, sumK_F (l := ld.map fun v => c - v)]
  have h1 : sumF (fun j => (ld.map fun v => c - v).getD j 0) q = sumF (fun s => c - loadK xs a tu.length s) q := sumF_congr q fun s hs => by
    rw [map_getD (by rw [hP.ll]; exact hs), (hP.ld s hs).1]
    rw [loadK_congr (b := a) tu.length (fun j hj => by show (tu.getD j 0).toNat = a j; rw [ha j hj, Int.toNat_natCast])]
  rw [h1, sumF_sub, sum_loads tu.length (fun j hj => hF.st j (by omega))]
  have h2 := sumF_le (f := fun s => loadK xs a xs.length s) (g := fun _ => c) q (fun s hs => hF.ld s hs)
  rw [sum_loads xs.length (fun j hj => hF.st j hj)] at h2
  omega

theorem rem_bound (H : LineOk xs bs c) : ∀ e i, i + e = xs.length → 0 ≤ sumK xs xs.length - sumK xs i ∧ sumK xs xs.length - sumK xs i ≤ 10000 * (e : Int) := by
  intro e
  induction e with
  | zero =>
    intro i hi
    have : i = xs.length := by omega
    subst this
    omega
  | succ e ih =>
    intro i hi
    have h1 := ih (i + 1) (by omega)
    have h2 := H.xb i (by omega)
    have h3 := H.cb
    have h4 : sumK xs (i + 1) = sumK xs i + xs.getD i 0 := rfl
    omega

/-- The program's state beside the reference's. -/
structure Rel (xs : List Int) (c : Int) (S : LS) (tu ld : List Int) : Prop where
  ol : S.1.length = xs.length
  oe : ∀ k, k < tu.length → S.1.getD k 0 = tu.getD k 0
  rm : S.2.1 = ld.map fun v => c - v
  lf : S.2.2 = sumK xs xs.length - sumK xs tu.length

def Both (xs : List Int) (c : Int) (S : LS) (tu ld : List Int) (p : Option (Bool × LS)) (f : Option (List Int × List Int)) : Prop :=
  ∃ b S' o ld', p = some (b, S') ∧ f = some (o, ld') ∧ S'.1.length = xs.length ∧ ((b = true ∧ o.length = xs.length ∧ S'.1 = o) ∨ (b = false ∧ o = [] ∧ ld' = ld ∧ S'.2.1 = S.2.1 ∧ S'.2.2 = S.2.2 ∧ Rel xs c S' tu ld))

theorem setD7 {l : List Int} {i k : Nat} {v : Int} (hi : i < l.length) : (l.set i v).getD k 0 = if i = k then v else l.getD k 0 := by
  simp only [List.getD_eq_getElem?_getD, List.getElem?_set]
  by_cases e : i = k
  · subst e; rw [if_pos rfl, if_pos hi, if_pos rfl]; rfl
  · rw [if_neg e, if_neg e]

theorem try_both (H : LineOk xs bs c) (hq : q ≤ 1000) {put : LS → Option (Bool × LS)} {fit : List Int → List Int → Option (List Int × List Int)} {S : LS} {tu ld : List Int} (hP : Pre xs bs c q tu ld) (hi : tu.length < xs.length) (hR : Rel xs c S tu ld) {m : Nat} (hm : m < q)
    (hf : firstP (bs.getD tu.length 0) tu tu.length ≤ (m : Int))
    (hfit : ∀ ld', Pre xs bs c q (tu ++ [(m : Int)]) ld' → FitOk xs bs c q (tu ++ [(m : Int)]) ld' (fit (tu ++ [(m : Int)]) ld'))
    (hput : ∀ S1 ld', Pre xs bs c q (tu ++ [(m : Int)]) ld' → Rel xs c S1 (tu ++ [(m : Int)]) ld' → Both xs c S1 (tu ++ [(m : Int)]) ld' (put S1) (fit (tu ++ [(m : Int)]) ld')) :
    Both xs c S tu ld (tryP put (xs.getD tu.length 0) tu.length q m S) (tryF fit (xs.getD tu.length 0) c tu m ld) := by
  have hx := H.xb _ hi
  have hcb := H.cb
  have hl := ld_nn H hP (by omega) hm
  have hlen := hP.ll
  obtain ⟨hol, hoe, hrm, hlf⟩ := hR
  have hrem := rem_bound H (xs.length - tu.length) tu.length (by omega)
  have hn12 := H.n12
  obtain ⟨x, hxv⟩ : ∃ x, x = xs.getD tu.length 0 := ⟨_, rfl⟩
  have hroom : S.2.1.getD m 0 = c - ld.getD m 0 := by rw [hrm, map_getD (by omega)]
  have hokR : okR S.2.1 = true := by
    unfold okR
    rw [List.all_eq_true, hrm]
    intro v hv
    obtain ⟨y, hy, rfl⟩ := List.mem_map.1 hv
    obtain ⟨s, hs, rfl⟩ := List.getElem_of_mem hy
    have := ld_nn H hP (by omega) (s := s) (by omega)
    rw [List.getD_eq_getElem?_getD, List.getElem?_eq_getElem hs] at this
    simp only [Option.getD_some] at this
    simp only [Bool.and_eq_true, decide_eq_true_eq]
    omega
  unfold tryP tryF
  rw [show okL (xs.getD tu.length 0) q S m = true by
    unfold okL
    rw [hokR]
    simp only [Bool.true_and, Bool.and_eq_true, decide_eq_true_eq]
    omega, cond_true, hroom]
  rw [show (decide (0 ≤ xs.getD tu.length 0) && (decide (xs.getD tu.length 0 ≤ 1000000) && (decide (0 ≤ ld.getD m 0) && decide (ld.getD m 0 ≤ 100000000)))) = true by
    simp only [Bool.and_eq_true, decide_eq_true_eq]
    omega, cond_true]
  by_cases hgt : ld.getD m 0 + xs.getD tu.length 0 > c
  · rw [decide_eq_true hgt, decide_eq_true (by omega), cond_true, cond_true]
    exact ⟨_, _, _, _, rfl, rfl, hol, .inr ⟨rfl, rfl, rfl, rfl, rfl, ⟨hol, hoe, hrm, hlf⟩⟩⟩
  · rw [decide_eq_false hgt, decide_eq_false (by omega), cond_false, cond_false]
    have hP' := pre_step H hP hi hm hf (by omega)
    have hset : S.2.1.set m (c - ld.getD m 0 - xs.getD tu.length 0) = (ld.set m (ld.getD m 0 + xs.getD tu.length 0)).map fun v => c - v := by
      rw [hrm, List.map_set, show c - (ld.getD m 0 + xs.getD tu.length 0) = c - ld.getD m 0 - xs.getD tu.length 0 by omega]
    have hlen1 : (tu ++ [(m : Int)]).length = tu.length + 1 := by simp
    have hR1 : Rel xs c (S.1.set tu.length (m : Int), S.2.1.set m (c - ld.getD m 0 - xs.getD tu.length 0), S.2.2 - xs.getD tu.length 0) (tu ++ [(m : Int)]) (ld.set m (ld.getD m 0 + xs.getD tu.length 0)) := by
      refine ⟨by simpa using hol, fun k hk => ?_, hset, ?_⟩
      · rw [hlen1] at hk
        simp only
        rw [setD7 (by omega), getD_app]
        by_cases e : k < tu.length
        · rw [if_neg (by omega), if_pos e]; exact hoe k e
        · rw [if_pos (by omega), if_neg e, if_pos (by omega)]
      · simp only
        rw [hlen1, hlf]
        show _ = sumK xs xs.length - (sumK xs tu.length + xs.getD tu.length 0)
        omega
    have hRel2 : ∀ S2 : LS, S2.1.length = xs.length → (∀ k, k < tu.length + 1 → S2.1.getD k 0 = (tu ++ [(m : Int)]).getD k 0) → Rel xs c (S2.1, S.2.1, S.2.2) tu ld := fun S2 h1 h2 => ⟨h1, fun k hk => by
      have := h2 k (by omega)
      rw [getD_app, if_pos hk] at this
      exact this, hrm, hlf⟩
    obtain ⟨o, ld', e1, e2⟩ := hfit _ hP'
    by_cases hle : S.2.2 - xs.getD tu.length 0 ≤ sumL (S.2.1.set m (c - ld.getD m 0 - xs.getD tu.length 0))
    · rw [decide_eq_true hle, cond_true]
      obtain ⟨b, S2, o2, ld2, k1, k2, k3, k4⟩ := hput _ _ hP' hR1
      rw [k1, k2, Option.bind_some, Option.bind_some]
      rw [e1] at k2
      cases k2
      rcases k4 with ⟨rfl, g1, g2⟩ | ⟨rfl, rfl, g1, g2, g3, g4⟩
      · have hn := H.n1
        refine ⟨true, S2, o, ld', rfl, ?_, k3, .inl ⟨rfl, g1, g2⟩⟩
        simp only
        rw [decide_eq_false (by omega), cond_false]
      · subst g1
        simp only at g2 g3
        simp only [cond_false, List.length_nil, decide_true, cond_true, g2, g3, Bool.and_self]
        exact ⟨_, _, _, _, rfl, rfl, k3, .inr ⟨rfl, rfl, rfl, rfl, rfl, hRel2 S2 k3 (fun k hk => g4.oe k (by rw [hlen1]; exact hk))⟩⟩
    · rw [decide_eq_false hle, cond_false, e1, Option.bind_some]
      rcases e2 with ⟨g1, g2, g3⟩ | ⟨rfl, rfl, g3⟩
      · exfalso
        apply hle
        have hc : Comp xs bs c q (tu ++ [(m : Int)]) := ⟨_, pre_full g2 g1, fun k hk => by
          obtain ⟨l, hl2⟩ := g2
          rw [← g3 k hk]
          have := hl2.nn k (by rw [g1]; rw [hlen1] at hk; omega)
          omega⟩
        have := room_of H hP' (by rw [hlen1]; omega) hc
        rw [← hset, hlen1] at this
        rw [hlf]
        have h4 : sumK xs (tu.length + 1) = sumK xs tu.length + xs.getD tu.length 0 := rfl
        omega
      · simp only [List.length_nil, decide_true, cond_true]
        exact ⟨_, _, _, _, rfl, rfl, by simpa using hol, .inr ⟨rfl, rfl, rfl, rfl, rfl, hRel2 (S.1.set tu.length (m : Int), S.2.1, S.2.2) (by simpa using hol) (fun k hk => hR1.oe k (by rw [hlen1]; exact hk))⟩⟩

theorem scan_both {p : Nat → LS → Option (Bool × LS)} {f : Nat → List Int → Option (List Int × List Int)} {tu ld : List Int} {f0 : Nat} (hn : 1 ≤ xs.length)
    (h : ∀ (S : LS) m, m < q → f0 ≤ m → Rel xs c S tu ld → Both xs c S tu ld (p m S) (f m ld)) :
    ∀ d m S, (m + d = q ∨ d = 0) → f0 ≤ m → Rel xs c S tu ld → Both xs c S tu ld (scanP p d m S) (scanF f d m ld) := by
  intro d
  induction d with
  | zero => intro m S _ _ hR; exact ⟨_, _, _, _, rfl, rfl, hR.ol, .inr ⟨rfl, rfl, rfl, rfl, rfl, hR⟩⟩
  | succ d ih =>
    intro m S hm hf hR
    obtain ⟨b, S', o, ld', e1, e2, e3, e4⟩ := h S m (by omega) hf hR
    unfold scanP scanF
    rw [e1, e2, Option.bind_some, Option.bind_some]
    rcases e4 with ⟨rfl, g1, g2⟩ | ⟨rfl, rfl, rfl, g1, g2, g3⟩
    · simp only
      rw [decide_eq_false (by omega), cond_false, cond_true]
      exact ⟨_, _, _, _, rfl, rfl, e3, .inl ⟨rfl, g1, g2⟩⟩
    · simp only [cond_false, List.length_nil, decide_true, cond_true]
      obtain ⟨b2, S2, o2, ld2, k1, k2, k3, k4⟩ := ih (m + 1) S' (by omega) (by omega) g3
      refine ⟨b2, S2, o2, ld2, k1, k2, k3, ?_⟩
      rcases k4 with g | ⟨h1, h2, h3, h4, h5, h6⟩
      · exact .inl g
      · exact .inr ⟨h1, h2, h3, h4.trans g1, h5.trans g2, h6⟩

theorem firstP_congr {b : Int} {u v : List Int} : ∀ k, (∀ j, j < k → u.getD j 0 = v.getD j 0) → firstP b u k = firstP b v k := by
  intro k
  induction k with
  | zero => intro _; rfl
  | succ k ih => intro h; unfold firstP; rw [ih (fun j hj => h j (by omega)), h k (by omega)]

theorem put_both (H : LineOk xs bs c) (hq : q ≤ 1000) {fX : Int → Int → Option (Int × Unit)} (hX : ∀ a b, fX a b = some (maxI a b, ())) : ∀ (r : Nat) (S : LS) (tu ld : List Int), tu.length + r = xs.length → Pre xs bs c q tu ld → Rel xs c S tu ld →
    Both xs c S tu ld (putP xs bs q r S) (fitP fX xs bs c q r tu ld) := by
  intro r
  induction r with
  | zero =>
    intro S tu ld hl hP hR
    refine ⟨true, S, tu, ld, rfl, rfl, hR.ol, .inl ⟨rfl, by omega, ?_⟩⟩
    have h1 := hR.ol
    refine List.ext_getElem (by omega) fun k hk1 hk2 => ?_
    have := hR.oe k hk2
    rw [List.getD_eq_getElem?_getD, List.getD_eq_getElem?_getD, List.getElem?_eq_getElem hk1, List.getElem?_eq_getElem hk2] at this
    exact this
  | succ r ih =>
    intro S tu ld hl hP hR
    have hi : tu.length < xs.length := by omega
    unfold putP fitP
    rw [show xs.length - (r + 1) = tu.length by omega, firstQ_eq hX, Option.bind_some, firstP_congr (u := S.1) (v := tu) tu.length hR.oe]
    obtain ⟨f, hf⟩ : ∃ f : Nat, firstP (bs.getD tu.length 0) tu tu.length = (f : Int) := ⟨(firstP (bs.getD tu.length 0) tu tu.length).toNat, by have := firstP_nn (b := bs.getD tu.length 0) (out := tu) tu.length; omega⟩
    rw [hf, decide_eq_true (by omega : (0 : Int) ≤ (f : Int)), cond_true, Int.toNat_natCast]
    refine scan_both (q := q) (f0 := f) H.n1 (fun S1 m hm hfm hR1 => ?_) (q - f) f S (by omega) (Nat.le_refl _) hR
    exact try_both H hq hP hi hR1 hm (by rw [hf]; omega) (fun ld' hP' => fit_ok H hX r _ ld' (by simp; omega) hP') fun S2 ld' hP' hR2 => ih S2 _ ld' (by simp; omega) hP' hR2

/-- Both from the start. -/
theorem put_top (H : LineOk xs bs c) (hq : q ≤ 1000) {fX : Int → Int → Option (Int × Unit)} (hX : ∀ a b, fX a b = some (maxI a b, ())) (hF : Feas xs bs c q) :
    ∃ S' o ld', putP xs bs q xs.length (List.replicate xs.length 0, List.replicate q c, sumL xs) = some (true, S') ∧ fitP fX xs bs c q xs.length [] (List.replicate q 0) = some (o, ld') ∧ S'.1 = o ∧ o.length = xs.length := by
  have hR : Rel xs c (List.replicate xs.length 0, List.replicate q c, sumL xs) [] (List.replicate q 0) := by
    refine ⟨by simp, fun k hk => by simp at hk, ?_, ?_⟩
    · rw [List.map_replicate, Int.sub_zero]
    · show sumL xs = sumK xs xs.length - sumK xs 0
      unfold sumL
      simp [sumK]
  obtain ⟨b, S', o, ld', e1, e2, e3, e4⟩ := put_both H hq hX xs.length _ [] (List.replicate q 0) (by simp) (pre_nil H) hR
  obtain ⟨o2, ld2, k1, k2⟩ := fit_top (q := q) H hX
  rw [e2] at k1
  cases k1
  have hn := H.n1
  rcases e4 with ⟨rfl, g1, g2⟩ | ⟨rfl, rfl, _⟩
  · exact ⟨S', o, ld', e1, e2, g2, g1⟩
  · rcases k2 with ⟨h1, _⟩ | ⟨_, h2⟩
    · simp at h1; omega
    · exact absurd hF h2
end

end Go.Proofs.Ytgcmklniacjcfaa.Ls
