/-
  BufferOf: the plain law. No condition.
-/
import Derived.Test.YtblmginpolckoaaFun
import Derived.Test.YtblmginpolckoaaFlt
namespace Go.Proofs.Ytblmginpolckoaa
open Go Go.Proofs.Ytblmginpolckoaa.Fw
set_option linter.unusedVariables false
set_option linter.unusedSimpArgs false

section
variable {N : Nat} (hN : 9223372036854775808 ≤ N)
include hN

theorem sameFloat_self (v : Option Nat) : laws_sameFloat N v v = some (true, ()) := by
  have _ := hN
  unfold laws_sameFloat
  cases h : fcmp .neq .f64 v v
  · have h2 : fcmp .eql .f64 v v = true := by
      unfold fcmp at h ⊢
      simp only at h ⊢
      simpa using h
    simp only [cond_false]
    cases fcmp .eql .f64 v (toF .f64 0)
    · simp [h2]
    · simp
  · rfl

omit hN in
theorem fconvB_ok {a : Option Nat} (h : ∃ b, a = toF .f32 b) : ∃ v, ∀ {ρ : Type} (K : Option Nat → Option ρ), fconvB .f32 a .f64 K = K v := by
  obtain ⟨b, rfl⟩ := h
  cases hb : toF .f32 b with
  | none => exact ⟨none, fun K => rfl⟩
  | some x =>
    obtain rfl := fl_some hb
    obtain ⟨r, hr⟩ := widen_ok hb
    refine ⟨toF .f64 r, fun K => ?_⟩
    unfold fconvB
    dsimp only
    rw [hr]

omit hN in
theorem farith_toF {op : BinOp} (a b : Option Nat) : ∃ x, farith op .f32 a b = toF .f32 x := by
  have hn : toF .f32 2143289344 = none := by decide +kernel
  unfold farith
  cases a with
  | none => exact ⟨_, hn.symm⟩
  | some x =>
    cases b with
    | none => exact ⟨_, hn.symm⟩
    | some y =>
      dsimp only
      cases fbits op .f32 x y with
      | none => exact ⟨_, hn.symm⟩
      | some r => exact ⟨r, rfl⟩

theorem toFloat_eq {xs : List (Option Nat)} (hx : xs.length ≤ 4294967296) : laws_toFloat32S N xs = some (xs, ()) := by
  unfold laws_toFloat32S
  rw [mkOk_of (by omega)]
  exact copy_loop (xs := xs) (by omega) (by omega) (K := fun l => some (l, ()))

theorem eqFloat_self {xs : List (Option Nat)} (hx : xs.length ≤ 4294967296) (hw : ∀ x ∈ xs, ∃ b, x = toF .f32 b) : laws_eqFloat32S N xs xs = some (true, ()) := by
  unfold laws_eqFloat32S
  rw [show ((List.length xs : Int) != (List.length xs : Int)) = false by simp]
  simp only [cond_false]
  refine loop_list (xs := xs) (inv := fun _ => True) (i := fun s : Int × Unit => s.1) (f := fun _ _ => some (true, ())) (by omega) (fun s next _ hi => ?_) (fun s next v r _ h0 hlt hv hd hw1 hn => ?_) (by omega) (s := (0, ())) trivial (Int.le_refl _) (by simp only; omega)
  · try simp only at hi ⊢
    rw [decide_eq_false (by omega), cond_false]
  · try simp only at h0 hlt hv hw1 hn ⊢
    rw [decide_eq_true hlt, cond_true, hv]
    have hm : v ∈ xs := by
      have : v ∈ xs.drop s.1.toNat := by rw [hd]; exact List.mem_cons_self
      exact List.mem_of_mem_drop this
    obtain ⟨q, hq⟩ := fconvB_ok (hw v hm)
    simp only [Option.bind_some]
    rw [hq, hq, sameFloat_self hN]
    simp only [Option.bind_some, Bool.not_true, cond_false]
    rw [hw1]
    exact hn _ trivial rfl

/-- All are finite and none is negative. -/
def okS (xs : List (Option Nat)) : Bool := xs.all fun a => fin32 a && !fcmp .lss .f32 a (toF .f32 0)

def addS (s : Option Nat) (xs : List (Option Nat)) : Option Nat := xs.foldl (fun s a => farith .add .f32 s a) s

omit hN in
theorem addS_nn {xs : List (Option Nat)} (h : okS xs = true) : ∀ {s : Option Nat}, NonNeg s → NonNeg (addS s xs) := by
  induction xs with
  | nil => intro s hs; exact hs
  | cons a xs ih =>
    intro s hs
    unfold okS at h
    simp only [List.all_cons, Bool.and_eq_true, Bool.not_eq_true'] at h
    refine ih (by unfold okS; exact h.2) (add_nn hs h.1.1 ?_)
    have := lss_geq h.1.1
    rw [h.1.2] at this
    simpa using this.symm

theorem l03Sum_eq {xs : List (Option Nat)} (hx : xs.length ≤ 4294967296) : spec_l03Sum N xs true = some (if okS xs then (addS (toF .f32 0) xs, decide (1 ≤ xs.length ∧ xs.length ≤ 16), ()) else (toF .f32 0, false, ())) := by
  have key : ∀ s0 : Option Nat × Int × Unit, s0.2.1 = 0 → loopN (fun (s1 : Option Nat × Int × Unit) next2 =>
    cond (decide (s1.2.1 < (List.length xs : Int)))
      (Option.bind (idx xs s1.2.1) fun v3 =>
      Option.bind (spec_l01Finite N v3) fun r4 =>
      cond (!r4.1)
        (some ((toF .f32 0), false, ()))
        (cond true
          (Option.bind (idx xs s1.2.1) fun v5 =>
          cond (fcmp .lss .f32 v5 (toF .f32 0))
            (some ((toF .f32 0), false, ()))
            (Option.bind (idx xs s1.2.1) fun v6 =>
            next2 ((farith .add .f32 s1.1 v6), (w64 (s1.2.1 + 1)), ())))
          (Option.bind (idx xs s1.2.1) fun v7 =>
          next2 ((farith .add .f32 s1.1 v7), (w64 (s1.2.1 + 1)), ()))))
      (cond (decide ((List.length xs : Int) ≥ 1))
        (some (s1.1, (decide ((List.length xs : Int) ≤ 16)), ()))
        (some (s1.1, false, ())))) N s0 = some (if okS xs then (addS s0.1 xs, decide (1 ≤ xs.length ∧ xs.length ≤ 16), ()) else (toF .f32 0, false, ())) := by
    intro s0 h00
    have := loop_list (xs := xs) (inv := fun _ => True) (i := fun s : Option Nat × Int × Unit => s.2.1) (N := N) (s := s0)
      (f := fun l s => some (if okS l then (addS s.1 l, decide (1 ≤ xs.length ∧ xs.length ≤ 16), ()) else (toF .f32 0, false, ())))
      (body := fun (s1 : Option Nat × Int × Unit) next2 =>
    cond (decide (s1.2.1 < (List.length xs : Int)))
      (Option.bind (idx xs s1.2.1) fun v3 =>
      Option.bind (spec_l01Finite N v3) fun r4 =>
      cond (!r4.1)
        (some ((toF .f32 0), false, ()))
        (cond true
          (Option.bind (idx xs s1.2.1) fun v5 =>
          cond (fcmp .lss .f32 v5 (toF .f32 0))
            (some ((toF .f32 0), false, ()))
            (Option.bind (idx xs s1.2.1) fun v6 =>
            next2 ((farith .add .f32 s1.1 v6), (w64 (s1.2.1 + 1)), ())))
          (Option.bind (idx xs s1.2.1) fun v7 =>
          next2 ((farith .add .f32 s1.1 v7), (w64 (s1.2.1 + 1)), ()))))
      (cond (decide ((List.length xs : Int) ≥ 1))
        (some (s1.1, (decide ((List.length xs : Int) ≤ 16)), ()))
        (some (s1.1, false, ())))) (by omega) (fun s next _ hi => ?_) (fun s next v r _ h0 hlt hv hd hw1 hn => ?_) (by omega) trivial (by rw [h00]; omega) (by rw [h00]; omega)
    · rw [h00] at this
      simpa using this
    · try simp only at hi ⊢
      rw [decide_eq_false (by omega), cond_false]
      by_cases h1 : 1 ≤ xs.length
      · rw [decide_eq_true (show (List.length xs : Int) ≥ 1 by omega), cond_true]
        by_cases h2 : xs.length ≤ 16
        · rw [decide_eq_true (show (List.length xs : Int) ≤ 16 by omega), decide_eq_true ⟨h1, h2⟩]
          rfl
        · rw [decide_eq_false (show ¬ (List.length xs : Int) ≤ 16 by omega), decide_eq_false (fun h => h2 h.2)]
          rfl
      · rw [decide_eq_false (show ¬ (List.length xs : Int) ≥ 1 by omega), cond_false, decide_eq_false (fun h => h1 h.1)]
        rfl
    · try simp only at h0 hlt hv hw1 hn ⊢
      rw [decide_eq_true hlt, cond_true, hv]
      simp only [Option.bind_some]
      rw [show spec_l01Finite N v = some (fin32 v, ()) from rfl]
      simp only [Option.bind_some, cond_true]
      have e : okS (v :: r) = (fin32 v && !fcmp .lss .f32 v (toF .f32 0) && okS r) := rfl
      rw [e]
      cases fin32 v with
      | false => rfl
      | true =>
        simp only [Bool.not_true, cond_false]
        cases fcmp .lss .f32 v (toF .f32 0) with
        | true => rfl
        | false =>
          simp only [cond_false]
          rw [hw1]
          rw [hn _ trivial rfl]
          rfl
  unfold spec_l03Sum
  exact key (toF .f32 0, 0, ()) rfl

theorem addUp_eq {xs : List (Option Nat)} (hx : xs.length ≤ 4294967296) : impl_addUp N xs = some (addS (toF .f32 0) xs, ()) := by
  unfold impl_addUp
  have := loop_list (xs := xs) (inv := fun _ => True) (i := fun s : Option Nat × Int × Unit => s.2.1) (N := N) (s := ((toF .f32 0), 0, ()))
    (f := fun l s => some (addS s.1 l, ()))
    (body := fun (s1 : Option Nat × Int × Unit) next2 =>
    cond (decide (s1.2.1 < (List.length xs : Int)))
      (Option.bind (idx xs s1.2.1) fun v3 =>
      next2 ((farith .add .f32 s1.1 v3), (w64 (s1.2.1 + 1)), ()))
      (some (s1.1, ()))) (by omega) (fun s next _ hi => ?_) (fun s next v r _ h0 hlt hv hd hw1 hn => ?_) (by omega) trivial (Int.le_refl _) (by simp only; omega)
  · simpa using this
  · try simp only at hi ⊢
    rw [decide_eq_false (by omega), cond_false]
    rfl
  · try simp only at h0 hlt hv hw1 hn ⊢
    rw [decide_eq_true hlt, cond_true, hv]
    simp only [Option.bind_some]
    rw [hw1, hn _ trivial rfl]
    rfl

/-- A loop that looks for the first of which f is told. -/
theorem find_loop {xs : List (Option Nat)} (hx : xs.length ≤ 4294967296) {g : Option Nat → Option (Bool × Unit)} {f : Option Nat → Bool} (hg : ∀ a, g a = some (f a, ())) :
    ∃ n : Int, loopN (fun (s1 : Int × Unit) next2 =>
    cond (decide (s1.1 < (List.length xs : Int)))
      (Option.bind (idx xs s1.1) fun v3 =>
      Option.bind (g v3) fun r4 =>
      cond r4.1
        (some (s1.1, ()))
        (next2 ((w64 (s1.1 + 1)), ())))
      (some ((-1), ()))) N (0, ()) = some (n, ()) ∧ decide (n ≥ 0) = xs.any f := by
  have gen : ∀ (l : List (Option Nat)) (k : Nat), k + l.length ≤ 4294967296 → ∃ n : Int, (fun (l : List (Option Nat)) (i : Int) => (if l.any f then some (i + (l.findIdx f : Nat), ()) else some ((-1 : Int), ()))) l k = some (n, ()) ∧ decide (n ≥ 0) = l.any f := fun l k hk => by
    cases h : l.any f with
    | false => exact ⟨-1, by simp [h], by simp⟩
    | true => exact ⟨k + (l.findIdx f : Nat), by simp [h], by simp only [ge_iff_le, decide_eq_true_eq]; omega⟩
  obtain ⟨n, h1, h2⟩ := gen xs 0 (by omega)
  refine ⟨n, ?_, h2⟩
  rw [← h1]
  have := loop_list (xs := xs) (inv := fun _ => True) (i := fun s : Int × Unit => s.1) (N := N) (s := (0, ()))
    (f := fun l s => if l.any f then some (s.1 + (l.findIdx f : Nat), ()) else some ((-1 : Int), ()))
    (body := fun (s1 : Int × Unit) next2 =>
    cond (decide (s1.1 < (List.length xs : Int)))
      (Option.bind (idx xs s1.1) fun v3 =>
      Option.bind (g v3) fun r4 =>
      cond r4.1
        (some (s1.1, ()))
        (next2 ((w64 (s1.1 + 1)), ())))
      (some ((-1), ()))) (by omega) (fun s next _ hi => ?_) (fun s next v r _ h0 hlt hv hd hw1 hn => ?_) (by omega) trivial (Int.le_refl _) (by simp only; omega)
  · simpa using this
  · try simp only at hi ⊢
    rw [decide_eq_false (by omega), cond_false]
    rfl
  · try simp only at h0 hlt hv hw1 hn ⊢
    rw [decide_eq_true hlt, cond_true, hv]
    simp only [Option.bind_some]
    rw [hg]
    simp only [Option.bind_some]
    cases hf : f v with
    | true => simp [hf, List.findIdx_cons]
    | false =>
      simp only [cond_false]
      rw [hw1, hn _ trivial rfl]
      simp only [List.any_cons, hf, Bool.false_or, List.findIdx_cons, cond_false]
      cases r.any f with
      | false => rfl
      | true => simp; omega

theorem areFinite_eq {xs : List (Option Nat)} (hx : xs.length ≤ 4294967296) : impl_areFinite N xs = some (xs.all fin32, ()) := by
  obtain ⟨n, h1, h2⟩ := find_loop hN hx (g := impl_areFinite_1 N) (f := fun a => !fin32 a) (fun a => rfl)
  unfold impl_areFinite slices_ContainsFunc_float32_float32_impl_areFinite_1 slices_IndexFunc_float32_float32_impl_areFinite_1
  rw [h1]
  simp only [Option.bind_some, h2]
  congr 2
  rw [List.not_any_eq_all_not]
  simp

theorem areSpreads_eq {xs : List (Option Nat)} (hx : xs.length ≤ 4294967296) : impl_areSpreads N xs = some (decide (1 ≤ xs.length ∧ xs.length ≤ 16) && okS xs, ()) := by
  unfold impl_areSpreads
  by_cases h1 : 1 ≤ xs.length
  · rw [decide_eq_true (show (List.length xs : Int) ≥ 1 by omega), cond_true]
    by_cases h2 : xs.length ≤ 16
    · rw [decide_eq_true (show (List.length xs : Int) ≤ 16 by omega), decide_eq_true ⟨h1, h2⟩, cond_true, areFinite_eq hN hx]
      simp only [Option.bind_some, Bool.true_and]
      obtain ⟨n, q1, q2⟩ := find_loop hN hx (g := impl_areSpreads_1 N) (f := fun a => !fcmp .geq .f32 a (toF .f32 0)) (fun a => rfl)
      unfold slices_ContainsFunc_float32_float32_impl_areSpreads_1 slices_IndexFunc_float32_float32_impl_areSpreads_1
      rw [q1]
      simp only [Option.bind_some, q2]
      cases hf : xs.all fin32 with
      | false =>
        simp only [cond_false]
        congr 2
        symm
        rw [Bool.eq_false_iff]
        intro h
        have : xs.all fin32 = true := List.all_eq_true.2 fun a ha => by
          have := List.all_eq_true.1 h a ha
          simp only [Bool.and_eq_true] at this
          exact this.1
        rw [hf] at this
        cases this
      | true =>
        simp only [cond_true]
        congr 2
        rw [List.not_any_eq_all_not]
        unfold okS
        rw [Bool.eq_iff_iff, List.all_eq_true, List.all_eq_true]
        constructor
        · intro h a ha
          have h0 := List.all_eq_true.1 hf a ha
          have := h a ha
          rw [h0, lss_geq h0]
          simpa using this
        · intro h a ha
          have h0 := List.all_eq_true.1 hf a ha
          have := h a ha
          rw [h0, lss_geq h0] at this
          simpa using this
    · rw [decide_eq_false (show ¬ (List.length xs : Int) ≤ 16 by omega), decide_eq_false (fun h => h2 h.2)]
      rfl
  · rw [decide_eq_false (show ¬ (List.length xs : Int) ≥ 1 by omega), cond_false, decide_eq_false (fun h => h1 h.1)]
    rfl

omit hN in
theorem root_both {a : Option Nat} (h : NonNeg a) : ∃ v, spec_l01Sqrt N a = some (v, ()) ∧ impl_RootNumber N a = some (v, ()) := by
  obtain ⟨x, r, q, v, rfl, h1, h2, h3, h4, h5⟩ := root_chain h
  refine ⟨toF .f32 v, ?_, ?_⟩
  · unfold spec_l01Sqrt spec_l01Narrow math_Sqrt fsqrtT fconvB
    simp only [h1, h2, h3, h4, h5, Option.bind_some]
  · unfold impl_RootNumber math_Sqrt fsqrtT fconvB
    simp only [h1, h2, h3, h4, h5, Option.bind_some]

theorem buffer_both {xs : List (Option Nat)} (hx : xs.length ≤ 4294967296) (y : Option Nat) : ∃ a c, spec_BufferOf N xs y = some (a, c, ()) ∧ impl_BufferOf N xs y = some (a, c, ()) ∧ ∃ b, a = toF .f32 b := by
  unfold spec_BufferOf impl_BufferOf
  rw [l03Sum_eq hN hx, areSpreads_eq hN hx]
  simp only [Option.bind_some]
  rw [show spec_l01Finite N y = some (fin32 y, ()) from rfl, show impl_IsFinite N y = some (fin32 y, ()) from rfl]
  have z0 : ∃ (a : Option Nat) (c : Bool), some (toF .f32 0, false, ()) = some (a, c, ()) ∧ some (toF .f32 0, false, ()) = some (a, c, ()) ∧ ∃ b, a = toF .f32 b := ⟨_, _, rfl, rfl, 0, rfl⟩
  cases hok : okS xs with
  | false =>
    simp only [Bool.and_false, Bool.not_false, cond_true]
    exact z0
  | true =>
    cases hl : decide (1 ≤ xs.length ∧ xs.length ≤ 16) with
    | false => exact z0
    | true =>
      simp only [if_true, Bool.and_true, Bool.not_true, cond_false, Option.bind_some]
      cases fin32 y with
      | false => exact z0
      | true =>
        simp only [Bool.not_true, cond_false, addUp_eq hN hx, Option.bind_some]
        obtain ⟨v, h1, h2⟩ := root_both (N := N) (addS_nn hok zero_nn)
        rw [h1, h2]
        simp only [Option.bind_some]
        unfold spec_l02Number
        rw [show spec_l01Finite N (farith .mul .f32 y v) = some (fin32 (farith .mul .f32 y v), ()) from rfl, show impl_IsFinite N (farith .mul .f32 y v) = some (fin32 (farith .mul .f32 y v), ()) from rfl]
        simp only [Option.bind_some]
        cases fin32 (farith .mul .f32 y v) with
        | false => exact z0
        | true => exact ⟨_, _, rfl, rfl, farith_toF _ _⟩

theorem FnExactBufferOf_eq (xs : List (Option Nat)) (y : Option Nat) (hw : xs.length ≤ 9223372036854775807 ∧ ∀ x ∈ xs, ∃ b, x = toF .f32 b) : laws_FnExactBufferOf N xs y = some (true, ()) := by
  unfold laws_FnExactBufferOf
  by_cases hbig : (List.length xs : Int) > 1048576
  · rw [decide_eq_true hbig]
    rfl
  · rw [decide_eq_false hbig, cond_false]
    have hx : xs.length ≤ 4294967296 := by omega
    rw [toFloat_eq hN hx]
    simp only [Option.bind_some]
    obtain ⟨a, c, h1, h2, h3⟩ := buffer_both hN hx y
    rw [h1, h2]
    simp only [Option.bind_some]
    obtain ⟨q, hq⟩ := fconvB_ok h3
    rw [hq, hq, sameFloat_self hN]
    simp only [Option.bind_some, Bool.not_true, cond_false, BEq.rfl]
    rw [eqFloat_self hN hx hw.2]
    rfl
end

end Go.Proofs.Ytblmginpolckoaa
