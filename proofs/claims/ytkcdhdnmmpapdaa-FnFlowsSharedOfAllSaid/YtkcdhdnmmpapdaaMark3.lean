/-
  What markInt64SS does to memory. No condition.
-/
import Derived.Test.YtkcdhdnmmpapdaaMark1
import Derived.Test.YtkcdhdnmmpapdaaMarkF
import Derived.Test.YtkcdhdnmmpapdaaFwR
namespace Go.Proofs.Ytkcdhdnmmpapdaa
open Go Go.Proofs.Ytkcdhdnmmpapdaa.Fw
set_option maxRecDepth 100000
set_option linter.unusedVariables false

/-- A slice of n numbers in blocks that may be changed. -/
def Seg3 (H : Array Obj) (X : Nat → Prop) (v : Value) (n : Nat) : Prop := ∃ A c, v = .slice A n c ∧ (n ≠ 0 → ∃ b off, A = some ⟨b, off, none⟩ ∧ X b ∧ Room H b (off + n))

theorem Seg3.keep {H H' : Array Obj} {X : Nat → Prop} {v : Value} {n : Nat} (h : Seg3 H X v n) (hr : ∀ c k, Room H c k → Room H' c k) : Seg3 H' X v n := by
  obtain ⟨A, c, h1, h2⟩ := h
  refine ⟨A, c, h1, fun hn => ?_⟩
  obtain ⟨b, off, g1, g2, g3⟩ := h2 hn
  exact ⟨b, off, g1, g2, hr _ _ g3⟩

theorem seg_of3 {H : Array Obj} {X : Nat → Prop} (hX : ∀ b, X b → Unf H b) {xs : List Int} {cs : List Value} (h : RC (fun _ => X) H (.sl (.int .i64)) xs cs) : ∃ v, cs = [v] ∧ Seg3 H X v xs.length := by
  simp only [RC] at h
  obtain ⟨A, c, rfl, _, h2⟩ := h
  refine ⟨_, rfl, A, c, rfl, fun hn => ?_⟩
  obtain ⟨b, off, rfl, hb, hi⟩ := h2 (fun he => hn (by rw [he]; rfl))
  refine ⟨b, off, rfl, hb, ?_⟩
  obtain ⟨cs, e, hu⟩ := hX b hb
  refine ⟨cs, e, hu, ?_⟩
  have hlt : xs.length - 1 < xs.length := by omega
  obtain ⟨l, l1, l2, l3⟩ := hi (xs.length - 1) _ (List.getElem?_eq_getElem hlt)
  replace l3 : l = [.int .i64 (xs[xs.length - 1])] := l3
  subst l3
  have := l2 0 _ rfl
  unfold cellH at this
  rw [hu] at this
  simp [Sh.size] at this
  obtain ⟨h', _⟩ := Array.getElem?_eq_some_iff.1 this
  omega

theorem mark64_seg3 {X : Nat → Prop} {w : World} {v : Value} {n : Nat} {k : Int} (hk : 0 ≤ k) (hkn : k + n ≤ 4611686018427387904) (hs : Seg3 w.heap X v n) :
    Calls Try.prog 17 #[v, .int .i64 k] w fun en w' => en = .returned (.int .i64 (k + n)) ∧ BelowX w.heap.size X w w' ∧
      (∀ c k, Room w.heap c k → Room w'.heap c k) ∧ ∀ c k, ¬ X c → cellH w'.heap c k = cellH w.heap c k := by
  obtain ⟨A, cap, rfl, h⟩ := hs
  by_cases hn : n = 0
  · subst hn
    refine (mark64_none A cap k w).mono ?_
    rintro en w' ⟨rfl, rfl⟩
    exact ⟨by simp, BelowX.refl _ _ _, fun _ _ h => h, fun _ _ _ => rfl⟩
  · obtain ⟨b, off, rfl, hb, hr⟩ := h hn
    refine (mark64_some b off n cap k w hk hkn hr).mono ?_
    rintro en w' ⟨h1, h2, h3, h4⟩
    exact ⟨h1, h2.wide (Nat.le_refl _) (fun c hc => by rw [hc]; exact hb), h3, fun c k hc => h4 c k (fun he => hc (by rw [he]; exact hb))⟩

/-- A list's header in a block. -/
def ListAt (H : Array Obj) (X : Nat → Prop) (b i : Nat) (l : List Int) : Prop := ∃ v, cellH H b i = some v ∧ Seg3 H X v l.length

theorem ListAt.keep {H H' : Array Obj} {X : Nat → Prop} {b i : Nat} {l : List Int} (h : ListAt H X b i l) (hr : ∀ c k, Room H c k → Room H' c k) (h2 : cellH H' b i = cellH H b i) : ListAt H' X b i l := by
  obtain ⟨v, g1, g2⟩ := h
  exact ⟨v, h2.trans g1, g2.keep hr⟩

theorem list_at {H : Array Obj} {X : Nat → Prop} (hX : ∀ b, X b → Unf H b) {b : Nat} {xs : List (List Int)}
    (h : ∀ i x, xs[i]? = some x → ∃ l, l.length = 1 ∧ Reads H b (i * 1) l ∧ RC (fun _ => X) H (.sl (.int .i64)) x l) {i : Nat} (hi : i < xs.length) : ListAt H X b i (xs[i]) := by
  obtain ⟨l, l1, l2, l3⟩ := h i _ (List.getElem?_eq_getElem hi)
  obtain ⟨v, rfl, g⟩ := seg_of3 hX l3
  have := l2 0 _ rfl
  rw [Nat.mul_one, Nat.add_zero] at this
  exact ⟨v, this, g⟩

theorem markSS_some (X : Nat → Prop) (b n cap : Nat) (k : Int) (w : World) (xs : List (List Int)) (hn : n = xs.length) (hk : 0 ≤ k) (hkn : k + listsLen xs ≤ 4611686018427387904) (hXb : ¬ X b)
    (ht : ∀ i (hi : i < xs.length), ListAt w.heap X b i (xs[i])) (hlen : n ≤ 4611686018427387904) :
    Calls Try.prog 26 #[.slice (some ⟨b, 0, none⟩) n cap, .int .i64 k] w fun en w' => en = .returned (.int .i64 (k + listsLen xs)) ∧ BelowX w.heap.size X w w' := by
  subst hn
  go_enter Try.func26, Try.ntmps26
  go_wp2
  refine wp_loop_n (fun m a w' => ∃ i q u2 u3 u6 u7 u8 u9 u10 u11 u12 u13 u14 u15 u16 u17 u18, a = { tmps := #[.slice (some ⟨b, 0, none⟩) xs.length cap, .int .i64 q, u2, u3, .int .i64 0, .int .i64 i, u6, u7, u8, u9, u10, u11, u12, u13, u14, u15, u16, u17, u18], defers := [] } ∧
      0 ≤ q ∧ 0 ≤ i ∧ i ≤ xs.length ∧ q + listsLen (xs.drop i.toNat) = k + listsLen xs ∧ m = (xs.length - i).toNat ∧ BelowX w.heap.size X w w' ∧ ∀ i (hi : i < xs.length), ListAt w'.heap X b i (xs[i])) ?_ xs.length _ _
    ⟨0, k, undef, undef, undef, undef, undef, undef, undef, undef, undef, undef, undef, undef, undef, undef, undef, rfl, hk, Int.le_refl _, by omega, by simp, by omega, BelowX.refl _ _ _, ht⟩
  rintro m _ w' ⟨i, q, u2, u3, u6, u7, u8, u9, u10, u11, u12, u13, u14, u15, u16, u17, u18, rfl, hq, h0, h1, hs, rfl, hX, hT⟩
  by_cases hi : i < (xs.length : Int)
  · have hil : i.toNat < xs.length := by omega
    have hd := List.drop_eq_getElem_cons hil
    have hnn := listsLen_nonneg (xs.drop (i.toNat + 1))
    rw [hd] at hs
    simp only [listsLen] at hs
    obtain ⟨s1, p1, p3⟩ := hT i.toNat hil
    rw [← cell_eq] at p1
    go_wp21
    refine (mark64_seg3 (X := X) (v := s1) (n := (xs[i.toNat]).length) (by omega) (by omega) p3).mono ?_
    rintro en w3 ⟨rfl, c1, c2, c3⟩
    dsimp only
    go_wp21
    refine ⟨(xs.length - (i + 1)).toNat, by omega, i + 1, q + (xs[i.toNat]).length, _, _, _, _, _, _, _, _, _, _, _, _, _, _, _, rfl, by omega, by omega, by omega, ?_, rfl, ?_, fun j hj => (hT j hj).keep c2 (c3 _ _ hXb)⟩
    · rw [show (i + 1).toNat = i.toNat + 1 by omega]
      omega
    · exact hX.trans (c1.wide hX.size (fun _ h => h))
  · go_wp2
    go_ret
    rw [List.drop_eq_nil_of_le (by omega)] at hs
    simp only [listsLen, Int.add_zero] at hs
    exact ⟨by rw [← hs]; rfl, hX⟩

theorem markSS_none (A : Option Addr) (cap : Nat) (k : Int) (w : World) :
    Calls Try.prog 26 #[.slice A 0 cap, .int .i64 k] w fun en w' => en = .returned (.int .i64 k) ∧ w' = w := by
  go_enter Try.func26, Try.ntmps26
  go_wp2
  refine wp_loop_n (fun m a w' => a = { tmps := #[.slice A 0 cap, .int .i64 k, undef, undef, .int .i64 0, .int .i64 0, undef, undef, undef, undef, undef, undef, undef, undef, undef, undef, undef, undef, undef], defers := [] } ∧ w' = w) ?_ 0 _ _ ⟨rfl, rfl⟩
  rintro m _ w' ⟨rfl, rfl⟩
  go_wp2
  go_ret
  exact ⟨rfl, rfl⟩

def laws_markInt64SS_d_e (_ : Nat) : EntD := { io := .sl (.int .i64), F := laws_markInt64SS_d }

theorem laws_markInt64SS_d_sound (N : Nat) : SoundD Try.prog 26 (laws_markInt64SS_d_e N) := by
  intro X w v ob k z xs hX hM hF
  have hF : laws_markInt64SS_d xs k = some z := hF
  unfold laws_markInt64SS_d at hF
  obtain ⟨hb, hz⟩ := cond_some hF
  simp only [Bool.and_eq_true, decide_eq_true_eq] at hb
  cases hz
  unfold CallOk
  rw [show (#[v, .int .i64 k] : Array Value) = [v, .int .i64 k].toArray from rfl, enter_of Try.func26 rfl (by kernel_rfl)]
  refine ⟨rfl, ?_⟩
  have none : ∀ {A : Option Addr} {cap : Nat}, v = .slice A 0 cap → xs = [] → Calls Try.prog 26 [v, .int .i64 k].toArray w fun e w' => ∃ u, e = .returned u ∧ u = .int .i64 (k + listsLen xs) ∧ BelowX w.heap.size (fun b => X b ∨ ob = some b) w w' := by
    rintro A cap rfl rfl
    refine (markSS_none A cap k w).mono ?_
    rintro en w' ⟨rfl, rfl⟩
    exact ⟨_, rfl, by simp [listsLen], BelowX.refl _ _ _⟩
  cases ob with
  | none => exact none hM.1 hM.2
  | some b =>
    obtain ⟨⟨cs, e, h1, h2, h3⟩, o, c, rfl, h4, h5, h6⟩ := hM
    have h6 : ∀ n, bsz w.heap b = some n → c * 1 ≤ n := h6
    have h2 : xs.length * 1 ≤ cs.size := h2
    by_cases hc : c = 0
    · have hnil : xs = [] := List.eq_nil_of_length_eq_zero (by omega)
      exact none (by rw [hnil]; rfl) hnil
    · have ho := h5 hc
      subst ho
      have hXb : ¬ X b := fun h => (hX b h).2.1 rfl
      refine (markSS_some X b xs.length c k w xs rfl hb.1 hb.2.1 hXb (fun i hi => list_at (fun b h => (hX b h).2.2) h3 hi) hb.2.2).mono ?_
      rintro en w' ⟨rfl, hw⟩
      exact ⟨_, rfl, rfl, hw.wide (Nat.le_refl _) (fun x hx => .inl hx)⟩

end Go.Proofs.Ytkcdhdnmmpapdaa
