/-
  The library's stable sort over a comparator, first part: insertion, exchange, rotation. No condition.
-/
import Derived.Test.YtkcdhdnmmpapdaaSortG
import Derived.Test.YtkcdhdnmmpapdaaFwU
namespace Go.Proofs.Ytkcdhdnmmpapdaa
open Go Go.Proofs.Ytkcdhdnmmpapdaa.Fw
set_option linter.unusedVariables false
set_option linter.unusedSimpArgs false

namespace St

section
variable {σ ρ : Type}

theorem loop_ex {body : σ → (σ → Option ρ) → Option ρ} {I : σ → Prop} {μ : σ → Nat} {Q : ρ → Prop}
    (h : ∀ s next, I s → (∀ s', I s' → μ s' < μ s → ∃ r, next s' = some r ∧ Q r) → ∃ r, body s next = some r ∧ Q r) : ∀ n s, I s → μ s < n → ∃ r, loopN body n s = some r ∧ Q r := by
  intro n
  induction n with
  | zero => intro s _ h; omega
  | succ n ih =>
    intro s hi hm
    exact h s _ hi fun s' hi' hm' => ih s' hi' (by omega)

/-- A loop that seeks: it ends in a state where its test fails. -/
theorem loop_seek {body : σ → (σ → Option ρ) → Option ρ} {I : σ → Prop} {μ : σ → Nat} {R : Option ρ → Prop}
    (h : ∀ s next, I s → (∀ s', I s' → μ s' < μ s → R (next s')) → R (body s next)) : ∀ n s, I s → μ s < n → R (loopN body n s) := by
  intro n
  induction n with
  | zero => intro s _ h; omega
  | succ n ih =>
    intro s hi hm
    exact h s _ hi fun s' hi' hm' => ih s' hi' (by omega)
end

theorem nbeq {a b : Nat} (h : a = b) : Nat.beq a b = true := by
  subst h
  exact Nat.beq_refl a

theorem inB_nat {n : Int} {i len : Nat} (h : n = i) (hl : i < len) : inB n len = true := by
  subst h
  simp [inB, hl]

theorem half_nat {n : Int} {s : Nat} (h : n = s) (hs : s ≤ 4294967296) : IntKind.wrap .i64 (ishr .u64 (IntKind.wrap .u64 (w64 n)) 1) = ((s / 2 : Nat) : Int) := by
  subst h
  rw [w64_in (by omega), IntWalk.u64_in _ (by omega)]
  have : ishr .u64 (s : Int) 1 = ((s / 2 : Nat) : Int) := by
    unfold ishr
    show Int.fdiv (s : Int) ((2 : Int) ^ (min 1 64)) = _
    rw [show ((2 : Int) ^ (min 1 64)) = 2 by rfl, Int.fdiv_eq_ediv_of_nonneg _ (by omega)]
    omega
  rw [this]
  exact w64_in (n := ((s / 2 : Nat) : Int)) (by omega)

/-- Two places of a list exchanged. -/
def swp (xs : List Int) (i j : Nat) : List Int := (xs.set j (xs.getD i 0)).set i (xs.getD j 0)

theorem swap_block {β : Type} {xs : List Int} {I1 I2 : Int} {i j : Nat} (h1 : I1 = i) (h2 : I2 = j) (hi : i < xs.length) (hj : j < xs.length) (K : List Int → Option β) :
    cond (inB I1 xs.length) (Option.bind (xs[I1.toNat]?) fun v => cond (inB I2 xs.length) (Option.bind (xs[I2.toNat]?) fun w => cond (inB I2 xs.length) (cond (inB I1 (List.set xs I2.toNat v).length) (K (List.set (List.set xs I2.toNat v) I1.toNat w)) none) none) none) none = K (swp xs i j) := by
  subst h1 h2
  rw [inB_nat rfl hi, inB_nat rfl hj]
  simp only [cond_true, Int.toNat_natCast]
  rw [show xs[i]? = some (xs.getD i 0) by simp [hi], show xs[j]? = some (xs.getD j 0) by simp [hj]]
  simp only [Option.bind_some, cond_true]
  rw [inB_nat rfl (by simpa using hi)]
  rfl

theorem get_mid (P : List Int) (x : Int) (t : List Int) : (P ++ x :: t)[P.length]? = some x := by simp
theorem getD_mid (P : List Int) (x : Int) (t : List Int) : (P ++ x :: t).getD P.length 0 = x := by simp
theorem set_mid (P : List Int) (x y : Int) (t : List Int) : (P ++ x :: t).set P.length y = P ++ y :: t := by simp

theorem get_far (P Z : List Int) (x y : Int) (t : List Int) : (P ++ x :: (Z ++ y :: t))[P.length + 1 + Z.length]? = some y := by
  have h := get_mid (P ++ x :: Z) y t
  rw [show (P ++ x :: Z).length = P.length + 1 + Z.length by simp; omega] at h
  rw [← h]
  simp

theorem swp_far (P Z : List Int) (x y : Int) (t : List Int) : swp (P ++ x :: (Z ++ y :: t)) (P.length + 1 + Z.length) P.length = P ++ y :: (Z ++ x :: t) ∧ swp (P ++ x :: (Z ++ y :: t)) P.length (P.length + 1 + Z.length) = P ++ y :: (Z ++ x :: t) := by
  have hl : (P ++ x :: Z).length = P.length + 1 + Z.length := by simp; omega
  have hl' : (P ++ y :: Z).length = P.length + 1 + Z.length := by simp; omega
  have e1 : ∀ u v : Int, (P ++ u :: (Z ++ v :: t)).getD P.length 0 = u := fun u v => getD_mid P u _
  have e2 : ∀ u v : Int, (P ++ u :: (Z ++ v :: t)).getD (P.length + 1 + Z.length) 0 = v := fun u v => by
    have h := getD_mid (P ++ u :: Z) v t
    rw [show (P ++ u :: Z).length = P.length + 1 + Z.length by simp; omega] at h
    simpa using h
  have s1 : ∀ u v w : Int, (P ++ u :: (Z ++ v :: t)).set P.length w = P ++ w :: (Z ++ v :: t) := fun u v w => set_mid P u w _
  have s2 : ∀ u v w : Int, (P ++ u :: (Z ++ v :: t)).set (P.length + 1 + Z.length) w = P ++ u :: (Z ++ w :: t) := fun u v w => by
    have h := set_mid (P ++ u :: Z) v w t
    rw [show (P ++ u :: Z).length = P.length + 1 + Z.length by simp; omega] at h
    simpa using h
  unfold swp
  rw [e1, e2]
  exact ⟨by rw [s1, s2], by rw [s2, s1]⟩

/-- The order of a stable sort of numbers by a key. -/
def R (k : Int → Int) (x y : Int) : Prop := k x < k y ∨ (k x = k y ∧ x < y)

theorem R.trans {k : Int → Int} {x y z : Int} (h1 : R k x y) (h2 : R k y z) : R k x z := by
  unfold R at *
  omega

/-- A comparator by a key, on the numbers of a domain. -/
def ByKey (cmp : Int → Int → Option (Int × Unit)) (D : Int → Prop) (k : Int → Int) : Prop := ∀ x y, D x → D y → ∃ r : Int, cmp x y = some (r, ()) ∧ decide (r < 0) = decide (k x < k y)

section
variable {N : Nat} (hN : 9223372036854775808 ≤ N) {cmp : Int → Int → Option (Int × Unit)} {D : Int → Prop} {k : Int → Int} (hc : ByKey cmp D k)
include hN

theorem swapG_ok {p X M Y q : List Int} (hXY : X.length = Y.length) (hl : (p ++ X ++ M ++ Y ++ q).length ≤ 4294967296) {a b n : Int} (ha : a = p.length) (hb : b = (p.length + X.length + M.length : Nat)) (hn0 : n = X.length) :
    swapG N cmp (p ++ X ++ M ++ Y ++ q) a b n = some (p ++ Y ++ M ++ X ++ q, ()) := by
  unfold swapG
  simp only [List.length_append] at hl
  refine loop_eq (inv := fun s : List Int × Int × Unit => ∃ X1 X2 Y1 Y2, X = X1 ++ X2 ∧ Y = Y1 ++ Y2 ∧ X1.length = Y1.length ∧ s.1 = p ++ Y1 ++ X2 ++ M ++ X1 ++ Y2 ++ q ∧ s.2.1 = X1.length) (μ := fun s => (n - s.2.1).toNat)
    (R := fun _ => some (p ++ Y ++ M ++ X ++ q, ())) ?_ N _ ⟨[], X, [], Y, rfl, rfl, rfl, by simp, rfl⟩ (by simp only; omega)
  rintro ⟨ys, i, u⟩ next ⟨X1, X2, Y1, Y2, rfl, rfl, h12, rfl, rfl⟩ hn
  simp only at hn ⊢
  rw [List.length_append, List.length_append] at hXY
  rw [List.length_append, List.length_append] at hl
  rw [List.length_append] at hb hn0
  cases X2 with
  | nil =>
    have hY2 : Y2 = [] := List.eq_nil_of_length_eq_zero (by simp at hXY; omega)
    subst hY2
    rw [decide_eq_false (by simp at hn0; omega), cond_false]
    simp
  | cons x X2 =>
    cases Y2 with
    | nil => simp at hXY; omega
    | cons y Y2 =>
      simp only [List.length_cons] at hl hXY hb hn0
      have e : p ++ Y1 ++ x :: X2 ++ M ++ X1 ++ y :: Y2 ++ q = (p ++ Y1) ++ x :: ((X2 ++ M ++ X1) ++ y :: (Y2 ++ q)) := by simp
      have hi1 : w64 (b + X1.length) = (((p ++ Y1).length + 1 + (X2 ++ M ++ X1).length : Nat) : Int) := by
        rw [w64_in (by omega)]
        simp
        omega
      have hi2 : w64 (a + X1.length) = ((p ++ Y1).length : Nat) := by
        rw [w64_in (by omega)]
        simp
        omega
      rw [e, decide_eq_true (show ((X1.length : Nat) : Int) < n by omega), cond_true]
      refine (swap_block (xs := (p ++ Y1) ++ x :: ((X2 ++ M ++ X1) ++ y :: (Y2 ++ q))) (K := fun ys => next (ys, w64 ((X1.length : Int) + 1), ())) hi1 hi2 (by simp; omega) (by simp)).trans ?_
      rw [(swp_far _ _ _ _ _).1, w64_in (by omega)]
      exact hn _ ⟨X1 ++ [x], X2, Y1 ++ [y], Y2, by simp, by simp, by simp [h12], by simp, by simp⟩ (by simp only; omega)

theorem rotG_ok {p X Y q : List Int} (hX : 0 < X.length) (hY : 0 < Y.length) (hl : (p ++ X ++ Y ++ q).length ≤ 4294967296) {a m e : Int} (ha : a = p.length) (hm : m = (p.length + X.length : Nat)) (he : e = (p.length + X.length + Y.length : Nat)) :
    rotG N cmp (p ++ X ++ Y ++ q) a m e = some (p ++ Y ++ X ++ q, ()) := by
  subst ha hm he
  unfold rotG
  simp only [List.length_append] at hl
  rw [w64_in (n := ((p.length + X.length : Nat) : Int) - p.length) (by omega), w64_in (n := ((p.length + X.length + Y.length : Nat) : Int) - (p.length + X.length : Nat)) (by omega)]
  refine loop_eq (inv := fun s : List Int × Int × Int × Unit => ∃ p' X' Y' q', p' ++ Y' ++ X' ++ q' = p ++ Y ++ X ++ q ∧ 0 < X'.length ∧ 0 < Y'.length ∧ s.1 = p' ++ X' ++ Y' ++ q' ∧ s.2.1 = X'.length ∧ s.2.2.1 = Y'.length ∧ p'.length + X'.length = p.length + X.length ∧ p'.length + X'.length + Y'.length + q'.length = p.length + X.length + Y.length + q.length)
    (μ := fun s => (s.2.1 + s.2.2.1).toNat) (R := fun _ => some (p ++ Y ++ X ++ q, ())) ?_ N _ ⟨p, X, Y, q, rfl, hX, hY, rfl, by simp only; omega, by simp only; omega, rfl, rfl⟩ (by simp only; omega)
  rintro ⟨ys, i, j, u⟩ next ⟨p', X', Y', q', hG, hX', hY', rfl, rfl, rfl, hm, hl'⟩ hn
  simp only at hn ⊢
  have hlen : ∀ (A B C E : List Int), (A ++ B ++ C ++ E).length = A.length + B.length + C.length + E.length := fun A B C E => by simp; omega
  rcases Nat.lt_trichotomy X'.length Y'.length with hlt | heq | hgt
  · -- the right one is longer
    obtain ⟨Y1, Y2, rfl, hY2⟩ : ∃ Y1 Y2, Y' = Y1 ++ Y2 ∧ Y2.length = X'.length := ⟨Y'.take (Y'.length - X'.length), Y'.drop (Y'.length - X'.length), (List.take_append_drop _ _).symm, by rw [List.length_drop]; omega⟩
    rw [List.length_append] at hlt hl' hn ⊢
    have hsw := swapG_ok hN (cmp := cmp) (p := p') (X := X') (M := Y1) (Y := Y2) (q := q') (a := w64 (((p.length + X.length : Nat) : Int) - X'.length)) (b := w64 (w64 (((p.length + X.length : Nat) : Int) + ((Y1.length + Y2.length : Nat) : Int)) - X'.length)) (n := X'.length) hY2.symm (by simp; omega)
      (by rw [w64_in (by omega)]; omega) (by rw [w64_in (n := ((p.length + X.length : Nat) : Int) + ((Y1.length + Y2.length : Nat) : Int)) (by omega), w64_in (by omega)]; omega) rfl
    have e1 : p' ++ X' ++ (Y1 ++ Y2) ++ q' = p' ++ X' ++ Y1 ++ Y2 ++ q' := by simp
    rw [e1, show ((X'.length : Int) != ((Y1.length + Y2.length : Nat) : Int)) = true by simp; omega, decide_eq_false (show ¬ (X'.length : Int) > ((Y1.length + Y2.length : Nat) : Int) by omega), hsw]
    simp only [cond_true, cond_false, Option.bind_some]
    rw [show Nat.beq (p' ++ Y2 ++ Y1 ++ X' ++ q').length (p' ++ X' ++ Y1 ++ Y2 ++ q').length = true from nbeq (by simp; omega), cond_true]
    refine hn _ ⟨p', Y2, Y1, X' ++ q', by rw [← hG]; simp, by omega, by omega, by simp, by simp only; omega, by simp only; rw [w64_in (by omega)]; omega, by omega, by simp; omega⟩ (by simp only; rw [w64_in (by omega)]; omega)
  · -- of one length
    have hsw := swapG_ok hN (cmp := cmp) (p := p') (X := X') (M := []) (Y := Y') (q := q') (a := w64 (((p.length + X.length : Nat) : Int) - X'.length)) (b := ((p.length + X.length : Nat) : Int)) (n := X'.length) heq (by simp; omega)
      (by rw [w64_in (by omega)]; omega) (by simp; omega) rfl
    simp only [List.append_nil] at hsw
    rw [show ((X'.length : Int) != (Y'.length : Int)) = false by simp; omega, hsw]
    simp only [cond_false, Option.bind_some]
    rw [show Nat.beq (p' ++ Y' ++ X' ++ q').length (p' ++ X' ++ Y' ++ q').length = true from nbeq (by simp; omega), cond_true, hG]
  · obtain ⟨X1, X2, rfl, hX1⟩ : ∃ X1 X2, X' = X1 ++ X2 ∧ X1.length = Y'.length := ⟨X'.take Y'.length, X'.drop Y'.length, (List.take_append_drop _ _).symm, by rw [List.length_take]; omega⟩
    rw [List.length_append] at hgt hl' hm hn ⊢
    have hsw := swapG_ok hN (cmp := cmp) (p := p') (X := X1) (M := X2) (Y := Y') (q := q') (a := w64 (((p.length + X.length : Nat) : Int) - ((X1.length + X2.length : Nat) : Int))) (b := ((p.length + X.length : Nat) : Int)) (n := Y'.length) hX1 (by simp; omega)
      (by rw [w64_in (by omega)]; omega) (by omega) (by omega)
    have e1 : p' ++ (X1 ++ X2) ++ Y' ++ q' = p' ++ X1 ++ X2 ++ Y' ++ q' := by simp
    rw [e1, show (((X1.length + X2.length : Nat) : Int) != (Y'.length : Int)) = true by simp; omega, decide_eq_true (show ((X1.length + X2.length : Nat) : Int) > (Y'.length : Int) by omega), hsw]
    simp only [cond_true, Option.bind_some]
    rw [show Nat.beq (p' ++ Y' ++ X2 ++ X1 ++ q').length (p' ++ X1 ++ X2 ++ Y' ++ q').length = true from nbeq (by simp; omega), cond_true]
    refine hn _ ⟨p' ++ Y', X2, X1, q', by rw [← hG]; simp, by omega, by omega, rfl, by simp only; rw [w64_in (by omega)]; omega, by simp only; omega, by simp; omega, by simp; omega⟩ (by simp only; rw [w64_in (by omega)]; omega)

include hc

/-- One number put to its place in a sorted run ahead of it. -/
theorem insG_ok {p A q : List Int} (hA : A.Pairwise (· < ·)) (hD : ∀ x ∈ A, D x) (hl : (p ++ A ++ q).length ≤ 4294967296) {a b : Int} (ha : a = p.length) (hb : b = (p.length + A.length : Nat)) :
    ∃ C, insG N cmp (p ++ A ++ q) a b = some (p ++ C ++ q, ()) ∧ C.Perm A ∧ C.Pairwise (R k) := by
  simp only [List.length_append] at hl
  have fin : ∀ {o : Option (List Int × Unit)}, (∃ r, o = some r ∧ ∃ C, r.1 = p ++ C ++ q ∧ C.Perm A ∧ C.Pairwise (R k)) → ∃ C, o = some (p ++ C ++ q, ()) ∧ C.Perm A ∧ C.Pairwise (R k) := by
    rintro o ⟨⟨r, u⟩, rfl, C, h1, h2, h3⟩
    exact ⟨C, by rw [← h1], h2, h3⟩
  unfold insG
  apply fin
  rw [w64_in (n := a + 1) (by omega)]
  cases A with
  | nil =>
    refine loop_ex (I := fun s : List Int × Int × Unit => s.1 = p ++ [] ++ q ∧ s.2.1 = a + 1) (μ := fun _ => 0) ?_ N _ ⟨rfl, rfl⟩ (by omega)
    rintro ⟨ys, i, u⟩ next ⟨rfl, rfl⟩ _
    simp only
    rw [decide_eq_false (by simp at hb; omega), cond_false]
    exact ⟨_, rfl, [], rfl, List.Perm.refl _, List.Pairwise.nil⟩
  | cons x0 A0 =>
    refine loop_ex (I := fun s : List Int × Int × Unit => ∃ A1 A2 C, x0 :: A0 = A1 ++ A2 ∧ s.1 = p ++ C ++ A2 ++ q ∧ s.2.1 = (p.length + A1.length : Nat) ∧ C.Perm A1 ∧ C.Pairwise (R k)) (μ := fun s => (b - s.2.1).toNat) ?_ N _
      ⟨[x0], A0, [x0], rfl, by simp, by simp [ha], List.Perm.refl _, List.pairwise_singleton _ _⟩ (by simp only; omega)
    rintro ⟨ys, i, u⟩ next ⟨A1, A2, C, hA12, rfl, rfl, hp, hs⟩ hn
    have hcl := hp.length_eq
    simp only at hn ⊢
    rw [hA12] at hA hD hb hl hn ⊢
    rw [List.length_append] at hl hb
    cases A2 with
    | nil =>
      rw [decide_eq_false (by simp at hb; omega), cond_false]
      exact ⟨_, rfl, C, by simp, by simpa using hp, hs⟩
    | cons x A2 =>
      simp only [List.length_cons] at hl hb
      rw [decide_eq_true (by omega), cond_true]
      have hpA := List.pairwise_append.1 hA
      have hlx : ∀ c ∈ C, c < x := fun c h => hpA.2.2 c (hp.mem_iff.1 h) x (by simp)
      have hDx : D x := hD x (by simp)
      have hDC : ∀ c ∈ C, D c := fun c h => hD c (by simp [hp.mem_iff.1 h])
      refine loop_ex (I := fun s : List Int × Int × Unit => ∃ C1 C2, C = C1 ++ C2 ∧ s.1 = p ++ C1 ++ x :: C2 ++ A2 ++ q ∧ s.2.1 = (p.length + C1.length : Nat) ∧ ∀ c ∈ C2, R k x c) (μ := fun s => s.2.1.toNat) ?_ N _
        ⟨C, [], by simp, by simp, by simp only; omega, fun c h => by cases h⟩ (by simp only; omega)
      rintro ⟨ys, j, u⟩ next2 ⟨C1, C2, hC, rfl, rfl, hR2⟩ hm2
      subst hC
      rw [List.length_append] at hcl
      simp only at hm2 ⊢
      have done : (∀ c ∈ C1, R k c x) → ∃ r, next (p ++ C1 ++ x :: C2 ++ A2 ++ q, w64 (((p.length + A1.length : Nat) : Int) + 1), ()) = some r ∧ ∃ C, r.1 = p ++ C ++ q ∧ C.Perm (A1 ++ x :: A2) ∧ C.Pairwise (R k) := fun h1 => by
        refine hn _ ⟨A1 ++ [x], A2, C1 ++ x :: C2, by simp, by simp, by simp only; rw [w64_in (by omega)]; simp; omega, ?_, ?_⟩ (by simp only; rw [w64_in (by omega)]; omega)
        · exact List.perm_middle.trans ((hp.cons x).trans (List.perm_append_singleton x A1).symm)
        · have hs' := List.pairwise_append.1 hs
          refine List.pairwise_append.2 ⟨hs'.1, List.pairwise_cons.2 ⟨hR2, hs'.2.1⟩, fun c hc1 d hd => ?_⟩
          rcases List.mem_cons.1 hd with rfl | hd
          · exact h1 c hc1
          · exact hs'.2.2 c hc1 d hd
      rcases List.eq_nil_or_concat C1 with rfl | ⟨C1', c, rfl⟩
      · rw [decide_eq_false (by simp; omega), cond_false]
        exact done (fun c h => by cases h)
      · rw [List.concat_eq_append] at *
        rw [List.length_append, List.length_singleton] at *
        have e : p ++ (C1' ++ [c]) ++ x :: C2 ++ A2 ++ q = (p ++ C1') ++ c :: ([] ++ x :: (C2 ++ A2 ++ q)) := by simp
        have i1 : w64 (((p.length + (C1'.length + 1) : Nat) : Int) - 1) = ((p ++ C1').length : Nat) := by rw [w64_in (by omega)]; simp; omega
        have i2 : ((p.length + (C1'.length + 1) : Nat) : Int) = ((p ++ C1').length + 1 + ([] : List Int).length : Nat) := by simp; omega
        obtain ⟨r, hr1, hr2⟩ := hc x c hDx (hDC c (by simp))
        rw [e, decide_eq_true (show ((p.length + (C1'.length + 1) : Nat) : Int) > a by omega)]
        have hlen : ((p ++ C1') ++ c :: ([] ++ x :: (C2 ++ A2 ++ q))).length = p.length + C1'.length + 2 + C2.length + A2.length + q.length := by simp; omega
        have g1 : ((p ++ C1') ++ c :: ([] ++ x :: (C2 ++ A2 ++ q)))[(w64 (((p.length + (C1'.length + 1) : Nat) : Int) - 1)).toNat]? = some c := by rw [i1, Int.toNat_natCast]; exact get_mid _ _ _
        have g2 : ((p ++ C1') ++ c :: ([] ++ x :: (C2 ++ A2 ++ q)))[((p.length + (C1'.length + 1) : Nat) : Int).toNat]? = some x := by rw [i2, Int.toNat_natCast]; exact get_far _ _ _ _ _
        have b1 : inB (w64 (((p.length + (C1'.length + 1) : Nat) : Int) - 1)) ((p ++ C1') ++ c :: ([] ++ x :: (C2 ++ A2 ++ q))).length = true := inB_nat i1 (by rw [hlen]; simp; omega)
        have b2 : inB ((p.length + (C1'.length + 1) : Nat) : Int) ((p ++ C1') ++ c :: ([] ++ x :: (C2 ++ A2 ++ q))).length = true := inB_nat i2 (by rw [hlen]; simp; omega)
        have hsb := swap_block (xs := (p ++ C1') ++ c :: ([] ++ x :: (C2 ++ A2 ++ q))) (K := fun ys => next2 (ys, w64 (((p.length + (C1'.length + 1) : Nat) : Int) - 1), ())) i1 i2 (by rw [hlen]; simp; omega) (by rw [hlen]; simp; omega)
        rw [b1, b2, g1, g2] at *
        simp only [cond_true, Option.bind_some, hr1, hr2]
        by_cases hk : k x < k c
        · rw [decide_eq_true hk, cond_true]
          simp only [cond_true, Option.bind_some] at hsb
          rw [hsb, (swp_far _ _ _ _ _).2]
          refine hm2 _ ⟨C1', c :: C2, by simp, by simp, by rw [i1]; simp, fun d hd => ?_⟩ (by rw [i1]; simp; omega)
          rcases List.mem_cons.1 hd with rfl | hd
          · exact .inl hk
          · exact hR2 d hd
        · rw [decide_eq_false hk, cond_false]
          have hcx : R k c x := by
            have := hlx c (by simp)
            unfold R
            omega
          have := done (fun d hd => by
            rcases List.mem_append.1 hd with hd | hd
            · have hs' := (List.pairwise_append.1 (List.pairwise_append.1 hs).1).2.2 d hd c (by simp)
              exact hs'.trans hcx
            · rw [List.mem_singleton.1 hd]
              exact hcx)
          rw [e] at this
          exact this

end
end St

end Go.Proofs.Ytkcdhdnmmpapdaa
