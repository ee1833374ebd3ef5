/-
  What markTaskS does to memory. No condition.
-/
import Derived.Test.YtmdicmdodbndgaaMark1
import Derived.Test.YtmdicmdodbndgaaMarkF
import Derived.Test.YtmdicmdodbndgaaFwR
namespace Go.Proofs.Ytmdicmdodbndgaa
open Go Go.Proofs.Ytmdicmdodbndgaa.Fw
set_option maxRecDepth 100000
set_option linter.unusedVariables false

/-- A slice of n numbers in blocks that may be changed. -/
def Seg (H : Array Obj) (X : Nat → Prop) (v : Value) (n : Nat) : Prop := ∃ A c, v = .slice A n c ∧ (n ≠ 0 → ∃ b off, A = some ⟨b, off, none⟩ ∧ X b ∧ Room H b (off + n))

theorem Seg.keep {H H' : Array Obj} {X : Nat → Prop} {v : Value} {n : Nat} (h : Seg H X v n) (hr : ∀ c k, Room H c k → Room H' c k) : Seg H' X v n := by
  obtain ⟨A, c, h1, h2⟩ := h
  refine ⟨A, c, h1, fun hn => ?_⟩
  obtain ⟨b, off, g1, g2, g3⟩ := h2 hn
  exact ⟨b, off, g1, g2, hr _ _ g3⟩

theorem seg_of {H : Array Obj} {X : Nat → Prop} (hX : ∀ b, X b → Unf H b) {xs : List Int} {cs : List Value} (h : RC (fun _ => X) H (.sl (.int .i64)) xs cs) : ∃ v, cs = [v] ∧ Seg H X v xs.length := by
  simp only [RC] at h
  obtain ⟨A, c, rfl, _, h2⟩ := h
  refine ⟨_, rfl, A, c, rfl, fun hn => ?_⟩
  obtain ⟨b, off, rfl, hb, hi⟩ := h2 (fun he => hn (by rw [he]; rfl))
  refine ⟨b, off, rfl, hb, ?_⟩
  obtain ⟨cs, e, hu⟩ := hX b hb
  refine ⟨cs, e, hu, ?_⟩
  have hlt : xs.length - 1 < xs.length := by omega
  obtain ⟨l, l1, l2, l3⟩ := hi (xs.length - 1) _ (List.getElem?_eq_getElem hlt)
  replace l3 : l = [.int .i64 (xs[xs.length - 1])] := l3
  subst l3
  have := l2 0 _ rfl
  unfold cellH at this
  rw [hu] at this
  simp [Sh.size] at this
  obtain ⟨h', _⟩ := Array.getElem?_eq_some_iff.1 this
  omega

theorem mark64_seg {X : Nat → Prop} {w : World} {v : Value} {n : Nat} {k : Int} (hk : 0 ≤ k) (hkn : k + n ≤ 4611686018427387904) (hs : Seg w.heap X v n) :
    Calls Try.prog 12 #[v, .int .i64 k] w fun en w' => en = .returned (.int .i64 (k + n)) ∧ BelowX w.heap.size X w w' ∧
      (∀ c k, Room w.heap c k → Room w'.heap c k) ∧ ∀ c k, ¬ X c → cellH w'.heap c k = cellH w.heap c k := by
  obtain ⟨A, cap, rfl, h⟩ := hs
  by_cases hn : n = 0
  · subst hn
    refine (mark64_none A cap k w).mono ?_
    rintro en w' ⟨rfl, rfl⟩
    exact ⟨by simp, BelowX.refl _ _ _, fun _ _ h => h, fun _ _ _ => rfl⟩
  · obtain ⟨b, off, rfl, hb, hr⟩ := h hn
    refine (mark64_some b off n cap k w hk hkn hr).mono ?_
    rintro en w' ⟨h1, h2, h3, h4⟩
    exact ⟨h1, h2.wide (Nat.le_refl _) (fun c hc => by rw [hc]; exact hb), h3, fun c k hc => h4 c k (fun he => hc (by rw [he]; exact hb))⟩

/-- A task's cells in a block. -/
def TaskAt (H : Array Obj) (X : Nat → Prop) (b i : Nat) (t : Int × Int × List Int × List Int) : Prop :=
  ∃ v1 v2, cellH H b (i * 4 + 2) = some v1 ∧ cellH H b (i * 4 + 3) = some v2 ∧ Seg H X v1 t.2.2.1.length ∧ Seg H X v2 t.2.2.2.length

theorem TaskAt.keep {H H' : Array Obj} {X : Nat → Prop} {b i : Nat} {t : Int × Int × List Int × List Int} (h : TaskAt H X b i t) (hr : ∀ c k, Room H c k → Room H' c k)
    (h2 : cellH H' b (i * 4 + 2) = cellH H b (i * 4 + 2)) (h3 : cellH H' b (i * 4 + 3) = cellH H b (i * 4 + 3)) : TaskAt H' X b i t := by
  obtain ⟨v1, v2, g1, g2, g3, g4⟩ := h
  exact ⟨v1, v2, h2.trans g1, h3.trans g2, g3.keep hr, g4.keep hr⟩

theorem append_four {l1 l2 l3 l4 : List Value} {v3 v4 : Value} (h1 : l1.length = 1) (h2 : l2.length = 1) (h3 : l3 = [v3]) (h4 : l4 = [v4]) : (l1 ++ (l2 ++ (l3 ++ l4)))[2]? = some v3 ∧ (l1 ++ (l2 ++ (l3 ++ l4)))[3]? = some v4 := by
  match l1, l2, h1, h2 with
  | [a], [b], _, _ => subst h3; subst h4; exact ⟨rfl, rfl⟩

theorem task_at {H : Array Obj} {X : Nat → Prop} (hX : ∀ b, X b → Unf H b) {b : Nat} {xs : List (Int × Int × List Int × List Int)}
    (h : ∀ i x, xs[i]? = some x → ∃ l, l.length = 4 ∧ Reads H b (i * 4) l ∧ RC (fun _ => X) H (.pair (.int .i64) (.pair (.int .i64) (.pair (.sl (.int .i64)) (.sl (.int .i64))))) x l) {i : Nat} (hi : i < xs.length) :
    TaskAt H X b i (xs[i]) := by
  obtain ⟨l, l1, l2, l3⟩ := h i _ (List.getElem?_eq_getElem hi)
  simp only [RC] at l3
  obtain ⟨c1, c2, rfl, rfl, d1, d2, rfl, rfl, e1, e2, rfl, h3, h4⟩ := l3
  obtain ⟨v3, rfl, g3⟩ := seg_of hX h3
  obtain ⟨v4, rfl, g4⟩ := seg_of hX h4
  exact ⟨v3, v4, l2 2 _ rfl, l2 3 _ rfl, g3, g4⟩

theorem tks_le {xs : List (Int × Int × List Int × List Int)} {k : Int} (h0 : 0 ≤ k) (h : k + tksLen xs ≤ 4611686018427387904) : xs.length ≤ 4611686018427387904 := by
  have := tksLen_len xs
  omega

theorem markTS_some (X : Nat → Prop) (b n cap : Nat) (k : Int) (w : World) (xs : List (Int × Int × List Int × List Int)) (hn : n = xs.length) (hk : 0 ≤ k) (hkn : k + tksLen xs ≤ 4611686018427387904) (hXb : ¬ X b)
    (hr : Room w.heap b (n * 4)) (ht : ∀ i (hi : i < xs.length), TaskAt w.heap X b i (xs[i])) (hlen : n ≤ 4611686018427387904) :
    Calls Try.prog 11 #[.slice (some ⟨b, 0, none⟩) n cap, .int .i64 k] w fun en w' => en = .returned (.int .i64 (k + tksLen xs)) ∧ BelowX w.heap.size (fun x => X x ∨ b = x) w w' := by
  subst hn
  go_enter Try.func11, Try.ntmps11
  go_wp2
  refine wp_loop_n (fun m a w' => ∃ i q u2 u3 u6 u7 u8 u9 u10 u11 u12 u13 u14 u15 u16 u17 u18 u19 u20 u21 u22 u23 u24 u25 u26 u27 u28 u29 u30 u31 u32 u33 u34 u35 u36 u37 u38 u39 u40, a = { tmps := #[.slice (some ⟨b, 0, none⟩) xs.length cap, .int .i64 q, u2, u3, .int .i64 0, .int .i64 i, u6, u7, u8, u9, u10, u11, u12, u13, u14, u15, u16, u17, u18, u19, u20, u21, u22, u23, u24, u25, u26, u27, u28, u29, u30, u31, u32, u33, u34, u35, u36, u37, u38, u39, u40], defers := [] } ∧
      0 ≤ q ∧ 0 ≤ i ∧ i ≤ xs.length ∧ q + tksLen (xs.drop i.toNat) = k + tksLen xs ∧ m = (xs.length - i).toNat ∧ BelowX w.heap.size (fun x => X x ∨ b = x) w w' ∧ Room w'.heap b (xs.length * 4) ∧ ∀ i (hi : i < xs.length), TaskAt w'.heap X b i (xs[i])) ?_ xs.length _ _
    ⟨0, k, undef, undef, undef, undef, undef, undef, undef, undef, undef, undef, undef, undef, undef, undef, undef, undef, undef, undef, undef, undef, undef, undef, undef, undef, undef, undef, undef, undef, undef, undef, undef, undef, undef, undef, undef, undef, undef, rfl, hk, Int.le_refl _, by omega, by simp, by omega, BelowX.refl _ _ _, hr, ht⟩
  rintro m _ w' ⟨i, q, u2, u3, u6, u7, u8, u9, u10, u11, u12, u13, u14, u15, u16, u17, u18, u19, u20, u21, u22, u23, u24, u25, u26, u27, u28, u29, u30, u31, u32, u33, u34, u35, u36, u37, u38, u39, u40, rfl, hq, h0, h1, hs, rfl, hX, hR, hT⟩
  by_cases hi : i < (xs.length : Int)
  · have hil : i.toNat < xs.length := by omega
    have hd := List.drop_eq_getElem_cons hil
    have hnn := tksLen_nonneg (xs.drop (i.toNat + 1))
    rw [hd] at hs
    simp only [tksLen] at hs
    obtain ⟨v0, hv0⟩ := hR.cell (o := i.toNat * 4) (by omega)
    have hf0 : w'.frozen? ⟨b, i.toNat * 4, none⟩ = false := hR.frozen
    obtain ⟨a1, a2, a3⟩ := set_cell hX (.inr rfl) hR (i.toNat * 4) (.int .i64 q)
    have hR1 := a2 _ _ hR
    have hT1 : ∀ j (hj : j < xs.length), TaskAt (w'.setCell ⟨b, i.toNat * 4, none⟩ (.int .i64 q)).heap X b j (xs[j]) := fun j hj => (hT j hj).keep a2 (a3 _ _ (.inr (by omega))) (a3 _ _ (.inr (by omega)))
    obtain ⟨v1, hv1⟩ := hR.cell (o := i.toNat * 4 + 1) (by omega)
    have hf1 : w'.frozen? ⟨b, i.toNat * 4 + 1, none⟩ = false := hR.frozen
    obtain ⟨b1, b2, b3⟩ := set_cell a1 (.inr rfl) hR1 (i.toNat * 4 + 1) (.int .i64 (q + 1))
    have hR2 := b2 _ _ hR1
    have hT2 : ∀ j (hj : j < xs.length), TaskAt ((w'.setCell ⟨b, i.toNat * 4, none⟩ (.int .i64 q)).setCell ⟨b, i.toNat * 4 + 1, none⟩ (.int .i64 (q + 1))).heap X b j (xs[j]) := fun j hj => (hT1 j hj).keep b2 (b3 _ _ (.inr (by omega))) (b3 _ _ (.inr (by omega)))
    obtain ⟨s1, s2, p1, p2, p3, p4⟩ := hT i.toNat hil
    rw [← cell_eq] at p1 p2
    clear hT1
    go_wp21
    refine (mark64_seg (X := X) (v := s1) (n := (xs[i.toNat]).2.2.1.length) (by omega) (by omega) (p3.keep (fun c k h => b2 c k (a2 c k h)))).mono ?_
    rintro en w3 ⟨rfl, c1, c2, c3⟩
    have hp2 : w3.cell? ⟨b, i.toNat * 4 + 3, none⟩ = some s2 := by
      rw [cell_eq] at p2 ⊢
      rw [c3 _ _ hXb, b3 _ _ (.inr (by omega)), a3 _ _ (.inr (by omega))]
      exact p2
    dsimp only
    go_wp21
    refine (mark64_seg (X := X) (v := s2) (n := (xs[i.toNat]).2.2.2.length) (by omega) (by omega) ((p4.keep (fun c k h => b2 c k (a2 c k h))).keep c2)).mono ?_
    rintro en w4 ⟨rfl, d1, d2, d3⟩
    dsimp only
    go_wp21
    refine ⟨(xs.length - (i + 1)).toNat, by omega, i + 1, q + 1 + 1 + (xs[i.toNat]).2.2.1.length + (xs[i.toNat]).2.2.2.length, _, _, _, _, _, _, _, _, _, _, _, _, _, _, _, _, _, _, _, _, _, _, _, _, _, _, _, _, _, _, _, _, _, _, _, _, _, rfl, by omega, by omega, by omega, ?_, rfl, ?_, d2 _ _ (c2 _ _ hR2), fun j hj => (((hT2 j hj).keep c2 (c3 _ _ hXb) (c3 _ _ hXb)).keep d2 (d3 _ _ hXb) (d3 _ _ hXb))⟩
    · rw [show (i + 1).toNat = i.toNat + 1 by omega]
      omega
    · exact b1.trans ((c1.trans (d1.wide c1.size (fun _ h => h))).wide (by have := b1.size; omega) (fun _ h => .inl h))
  · go_wp2
    go_ret
    rw [List.drop_eq_nil_of_le (by omega)] at hs
    simp only [tksLen, Int.add_zero] at hs
    exact ⟨by rw [← hs]; rfl, hX⟩

theorem markTS_none (A : Option Addr) (cap : Nat) (k : Int) (w : World) :
    Calls Try.prog 11 #[.slice A 0 cap, .int .i64 k] w fun en w' => en = .returned (.int .i64 k) ∧ w' = w := by
  go_enter Try.func11, Try.ntmps11
  go_wp2
  refine wp_loop_n (fun m a w' => a = { tmps := #[.slice A 0 cap, .int .i64 k, undef, undef, .int .i64 0, .int .i64 0, undef, undef, undef, undef, undef, undef, undef, undef, undef, undef, undef, undef, undef, undef, undef, undef, undef, undef, undef, undef, undef, undef, undef, undef, undef, undef, undef, undef, undef, undef, undef, undef, undef, undef, undef], defers := [] } ∧ w' = w) ?_ 0 _ _ ⟨rfl, rfl⟩
  rintro m _ w' ⟨rfl, rfl⟩
  go_wp2
  go_ret
  exact ⟨rfl, rfl⟩

def laws_markTaskS_d_e (_ : Nat) : EntD := { io := .pair (.int .i64) (.pair (.int .i64) (.pair (.sl (.int .i64)) (.sl (.int .i64)))), F := laws_markTaskS_d }

theorem laws_markTaskS_d_sound (N : Nat) : SoundD Try.prog 11 (laws_markTaskS_d_e N) := by
  intro X w v ob k z xs hX hM hF
  have hF : laws_markTaskS_d xs k = some z := hF
  unfold laws_markTaskS_d at hF
  obtain ⟨hb, hz⟩ := cond_some hF
  simp only [Bool.and_eq_true, decide_eq_true_eq] at hb
  cases hz
  unfold CallOk
  rw [show (#[v, .int .i64 k] : Array Value) = [v, .int .i64 k].toArray from rfl, enter_of Try.func11 rfl (by kernel_rfl)]
  refine ⟨rfl, ?_⟩
  have none : ∀ {A : Option Addr} {cap : Nat}, v = .slice A 0 cap → xs = [] → Calls Try.prog 11 [v, .int .i64 k].toArray w fun e w' => ∃ u, e = .returned u ∧ u = .int .i64 (k + tksLen xs) ∧ BelowX w.heap.size (fun b => X b ∨ ob = some b) w w' := by
    rintro A cap rfl rfl
    refine (markTS_none A cap k w).mono ?_
    rintro en w' ⟨rfl, rfl⟩
    exact ⟨_, rfl, by simp [tksLen], BelowX.refl _ _ _⟩
  cases ob with
  | none => exact none hM.1 hM.2
  | some b =>
    obtain ⟨⟨cs, e, h1, h2, h3⟩, o, c, rfl, h4, h5, h6⟩ := hM
    by_cases hc : c = 0
    · have hnil : xs = [] := List.eq_nil_of_length_eq_zero (by omega)
      exact none (by rw [hnil]; rfl) hnil
    · have ho := h5 hc
      subst ho
      have hXb : ¬ X b := fun h => (hX b h).2.1 rfl
      refine (markTS_some X b xs.length c k w xs rfl hb.1 hb.2 hXb ⟨cs, e, h1, h2⟩ (fun i hi => task_at (fun b h => (hX b h).2.2) h3 hi) (tks_le hb.1 hb.2)).mono ?_
      rintro en w' ⟨rfl, hw⟩
      exact ⟨_, rfl, rfl, hw.wide (Nat.le_refl _) (fun x hx => hx.imp id (fun h => by rw [h]))⟩

end Go.Proofs.Ytmdicmdodbndgaa
