/-
  impl.AreRoutes: its contract. No condition.
-/
import Derived.Test.YtgcmklniacjcfaaRo2
namespace Go.Proofs.Ytgcmklniacjcfaa
open Go Go.RowKit Go.Shelf Go.Proofs.Ytgcmklniacjcfaa.Fw
attribute [local go_sem] Oper.semAt_some
set_option maxRecDepth 100000
set_option linter.unusedVariables false

theorem frozen_below {n : Nat} {w w' : World} {p : Addr} (h : Below n w w') (hp : p.block < n) (hf : w.frozen? p = false) : w'.frozen? p = false := by
  unfold World.frozen? at hf ⊢
  rw [h.block _ hp]
  exact hf

set_option maxHeartbeats 4000000 in
theorem routes_false (A : Option Addr) (n cap : Nat) (x : Int) (bM : Bool) (w : World) (hb : bM = true → 1 ≤ x ∧ (n : Int) % x ≠ 0)
    (hM : ∀ W, Below w.heap.size w W → Calls Try.prog 82 #[.int .i64 x] W fun e W' => e = .returned (.bool bM) ∧ Below W.heap.size W W') :
    Calls Try.prog 71 #[.slice A n cap, .int .i64 x] w fun e W' => e = .returned (.bool false) ∧ Below w.heap.size w W' := by
  refine (callsIn_wide (n := 9)).1 ?_
  refine callsIn_of_wp_marks Try.func71 rfl trivial ?_ rfl
  simp only [Try.ntmps71, List.size_toArray, List.length_cons, List.length_nil, Nat.reduceAdd, Nat.reduceSub, Array.replicate_succ, Array.replicate_zero, List.push_toArray, List.append_toArray, List.nil_append, List.cons_append]
  have c0 := cell_new_l w (.bool false) 4
  cases bM
  · gi_wp2_with (refine ⟨trivial, ?_⟩; gi_at_call 82; refine (callsIn_wide.2 (hM _ ((Below.refl _ w).alloc (Nat.le_refl _) _))).mono ?_; rintro e w1 ⟨rfl, hb1⟩; have hr1 := (hb1.cell (p := ⟨w.heap.size, 0, none⟩) (by simp)).trans c0.1; have hf1 := frozen_below hb1 (by simp) c0.2)
    have hc5 := World.cell?_setCell_same' w1 ⟨w.heap.size, 0, none⟩ (.bool false) (by rw [hr1]; rfl)
    refine ⟨.bool false, ?_, rfl, (((Below.refl _ w).alloc (Nat.le_refl _) _).trans (hb1.mono (by simp))).setCell (p := ⟨w.heap.size, 0, none⟩) (by simp) _⟩
    simp [results, Try.f71, go_sem, hc5]
  · obtain ⟨h1, h2⟩ := hb rfl
    have h3 : ((n : Int) % x != 0) = true := by simpa using h2
    gi_wp2_with (refine ⟨trivial, ?_⟩; gi_at_call 82; refine (callsIn_wide.2 (hM _ ((Below.refl _ w).alloc (Nat.le_refl _) _))).mono ?_; rintro e w1 ⟨rfl, hb1⟩; have hr1 := (hb1.cell (p := ⟨w.heap.size, 0, none⟩) (by simp)).trans c0.1; have hf1 := frozen_below hb1 (by simp) c0.2)
    have hc5 := World.cell?_setCell_same' w1 ⟨w.heap.size, 0, none⟩ (.bool false) (by rw [hr1]; rfl)
    refine ⟨.bool false, ?_, rfl, (((Below.refl _ w).alloc (Nat.le_refl _) _).trans (hb1.mono (by simp))).setCell (p := ⟨w.heap.size, 0, none⟩) (by simp) _⟩
    simp [results, Try.f71, go_sem, hc5]


/-- The part k of a list. -/
def partL (m : Nat) (xs : List Int) (k : Nat) : List Int := (xs.drop (k * m)).take m

def partsF (fI : List Int → Option (Bool × Unit)) (m : Nat) (xs : List Int) : Nat → Option Bool
  | 0 => some true
  | k + 1 => Option.bind (partsF fI m xs k) fun b => Option.bind (fI (partL m xs k)) fun r => some (b && r.1)

def routesF (fM : Int → Option (Bool × Unit)) (fI : List Int → Option (Bool × Unit)) (x0 : List Int) (x1 : Int) : Option (Bool × Unit) :=
  Option.bind (fM x1) fun r => cond r.1
    (cond (decide (1 ≤ x1) && decide (x0.length ≤ 4294967296))
      (cond (decide ((x0.length : Int).tmod x1 = 0))
        (Option.bind (partsF fI x1.toNat x0 (x0.length / x1.toNat)) fun b => some (b && (decide (1 ≤ x0.length / x1.toNat) && decide (x0.length / x1.toNat ≤ 24)), ()))
        (some (false, ())))
      none)
    (some (false, ()))

theorem partsF_ok {fI : List Int → Option (Bool × Unit)} {m : Nat} {xs : List Int} : ∀ {q : Nat} {b : Bool}, partsF fI m xs q = some b →
    (∀ k, k < q → fI (partL m xs k) = some (((fI (partL m xs k)).map (·.1)).getD false, ())) ∧ b = (List.range q).all fun k => ((fI (partL m xs k)).map (·.1)).getD false := by
  intro q
  induction q with
  | zero => intro b h; cases h; exact ⟨fun k h => absurd h (Nat.not_lt_zero _), rfl⟩
  | succ q ih =>
    intro b h
    obtain ⟨b', h1, h2⟩ := Option.bind_eq_some_iff.1 h
    obtain ⟨r, h3, h4⟩ := Option.bind_eq_some_iff.1 h2
    cases h4
    obtain ⟨g1, rfl⟩ := ih h1
    refine ⟨fun k hk => ?_, ?_⟩
    · by_cases hkq : k = q
      · subst hkq
        rw [h3]
        rfl
      · exact g1 k (by omega)
    · rw [List.range_succ, List.all_append]
      simp [h3]

theorem calls_of {f : FuncId} {fn : Func} {code : Code} {vals : List Value} {w : World} {R : Value → World → Prop} (hf : Try.prog.funcs[f]? = some fn) (hb : fn.body = some code) (hname : (fn.name == "runtime.NumGoroutine") = false)
    (h : CallOk Try.prog f vals.toArray w R) : Calls Try.prog f vals.toArray w fun e w' => ∃ v, e = .returned v ∧ R v w' := by
  unfold CallOk at h
  rw [enter_of hf hb hname] at h
  exact h.2

/-- One boolean result. -/
theorem res_bool {ok : Bool → Nat → Prop} {B : Nat} {H : Array Obj} {y : Bool × Unit} {vs : List Value} {bs : List (Option Nat)} {v : Value} (h : ResR ok B H [.val .bool] y vs bs) (hv : Fw.valOf vs v) : v = .bool y.1 := by
  match vs, bs, h with
  | [u], [], h =>
    have hv : v = u := hv
    subst hv
    have h1 := h.1.1
    have h2 : aggV v = false := h.1.2
    rw [cells_one h2] at h1
    simp only [RC, List.cons.injEq, and_true] at h1
    exact h1
  | [], _, h => cases h
  | [_], _ :: _, h => exact h.2.elim
  | _ :: _ :: _, _, h => cases h.2

theorem routes_core {fM : Int → Option (Bool × Unit)} {fI : List Int → Option (Bool × Unit)} (hM : SoundC Try.prog 82 { ins := [.int .i64], outs := [.val .bool], F := fun x => fM x.1 })
    (hI : SoundC Try.prog 85 { ins := [.sl (.int .i64)], outs := [.val .bool], F := fun x => fI x.1 })
    (p : Nat → Prop) (w : World) (vals : List Value) (x0 : List Int) (x1 : Int) (y : Bool) (hp : ∀ b, p b → b < w.heap.size) (hA : ArgR (fun _ => p) w.heap [.sl (.int .i64), .int .i64] (x0, x1, ()) vals) (hF : routesF fM fI x0 x1 = some (y, ())) :
    CallOk Try.prog 71 vals.toArray w fun v w' => ∃ vs bs, Fw.valOf vs v ∧ Below w.heap.size w w' ∧ Dist bs ∧
      ResR (okRes p w.heap.size w'.heap bs) w.heap.size w'.heap [.val .bool] (y, ()) vs bs := by
  match vals, hA with
  | [v0, v1], hA =>
    obtain ⟨⟨h0, a0⟩, ⟨h1, a1⟩, _⟩ := hA
    have a0 : aggV v0 = false := a0
    have a1 : aggV v1 = false := a1
    have h0 : RC (fun _ => p) w.heap (.sl (.int .i64)) x0 v0.cells.toList := h0
    have h1 : RC (fun _ => p) w.heap (.int .i64) x1 v1.cells.toList := h1
    rw [cells_one a0] at h0
    rw [cells_one a1] at h1
    simp only [RC, List.cons.injEq, and_true] at h0 h1
    subst h1
    obtain ⟨A, cap, rfl, hcap, hx⟩ := h0
    have fin : (Calls Try.prog 71 #[.slice A x0.length cap, .int .i64 x1] w fun e W' => e = .returned (.bool y) ∧ Below w.heap.size w W') →
        CallOk Try.prog 71 [.slice A x0.length cap, .int .i64 x1].toArray w fun v w' => ∃ vs bs, Fw.valOf vs v ∧ Below w.heap.size w w' ∧ Dist bs ∧
          ResR (okRes p w.heap.size w'.heap bs) w.heap.size w'.heap [.val .bool] (y, ()) vs bs := fun h => by
      unfold CallOk
      rw [enter_of Try.func71 rfl (by kernel_rfl)]
      refine ⟨rfl, h.mono ?_⟩
      rintro e w' ⟨rfl, hb⟩
      exact ⟨_, rfl, [.bool y], [], rfl, hb, trivial, ⟨rfl, rfl⟩, trivial⟩
    refine fin ?_
    obtain ⟨⟨bM, _⟩, hm, hF⟩ := Option.bind_eq_some_iff.1 hF
    have hM' : ∀ W, Below w.heap.size w W → Calls Try.prog 82 #[.int .i64 x1] W fun e W' => e = .returned (.bool bM) ∧ Below W.heap.size W W' := fun W hW => by
      have := calls_of (vals := [.int .i64 x1]) Try.func82 rfl (by kernel_rfl) (hM (fun _ => False) W [.int .i64 x1] (x1, ()) (bM, ()) (fun b h => h.elim) ⟨⟨rfl, rfl⟩, trivial⟩ hm)
      refine this.mono ?_
      rintro e W' ⟨v, rfl, vs, bs, g1, g2, g3, g4⟩
      exact ⟨by rw [res_bool g4 g1], g2⟩
    cases bM with
    | false =>
      cases hF
      exact routes_false A x0.length cap x1 false w (fun h => by cases h) hM'
    | true =>
      have hF : cond (decide (1 ≤ x1) && decide (x0.length ≤ 4294967296)) (cond (decide ((x0.length : Int).tmod x1 = 0))
        (Option.bind (partsF fI x1.toNat x0 (x0.length / x1.toNat)) fun b => some (b && (decide (1 ≤ x0.length / x1.toNat) && decide (x0.length / x1.toNat ≤ 24)), ()))
        (some (false, ()))) none = some (y, ()) := hF
      obtain ⟨hc, hF⟩ := cond_some hF
      simp only [Bool.and_eq_true, decide_eq_true_eq] at hc
      by_cases hz : (x0.length : Int).tmod x1 = 0
      · rw [decide_eq_true hz] at hF
        obtain ⟨b, hp1, hF⟩ := Option.bind_eq_some_iff.1 hF
        cases hF
        obtain ⟨m, rfl⟩ : ∃ m : Nat, x1 = (m : Int) := ⟨x1.toNat, by omega⟩
        rw [Int.toNat_natCast] at hp1 ⊢
        have hz' : x0.length % m = 0 := by
          have h := hz
          rw [← Int.ofNat_tmod] at h
          omega
        have hq : x0.length / m * m = x0.length := Nat.div_mul_cancel (Nat.dvd_of_mod_eq_zero hz')
        obtain ⟨g1, rfl⟩ := partsF_ok hp1
        generalize hqq : x0.length / m = q at *
        have hall : ∀ (b off : Nat), (x0 ≠ [] → A = some ⟨b, off, none⟩) → Calls Try.prog 71 #[.slice A x0.length cap, .int .i64 (m : Int)] w fun e W' => e = .returned (.bool (((List.range q).all fun k => ((fI (partL m x0 k)).map (·.1)).getD false) && (decide (1 ≤ q) && decide (q ≤ 24)))) ∧ Below w.heap.size w W' := fun b off hA => by
          rw [← hq]
          refine routes_in m q cap A b off (fun h => hA (fun e => by rw [e] at hq; exact h hq)) (by omega) (by omega) (by omega) _ w hM' (fun k hk W hW => ?_)
          have hkm : k * m + m ≤ x0.length := by
            have := Nat.mul_le_mul_right m hk
            rw [hq, Nat.succ_mul] at this
            exact this
          have hne : x0 ≠ [] := fun e => by rw [e] at hkm; simp at hkm; omega
          obtain ⟨b', off', hA', hpb, hel⟩ := hx hne
          have hb : b' = b ∧ off' = off := by
            have := hA hne
            rw [hA'] at this
            cases this
            exact ⟨rfl, rfl⟩
          obtain ⟨rfl, rfl⟩ := hb
          have hlen : (partL m x0 k).length = m := by
            unfold partL
            rw [List.length_take, List.length_drop]
            omega
          have := calls_of (vals := [partV b' off' m k]) Try.func85 rfl (by kernel_rfl) (hI p W [partV b' off' m k] (partL m x0 k, ()) _ (fun b h => Nat.lt_of_lt_of_le (hp b h) hW.size) ⟨⟨?_, rfl⟩, trivial⟩ (g1 k hk))
          · refine this.mono ?_
            rintro e W' ⟨v, rfl, vs, bs, e1, e2, e3, e4⟩
            exact ⟨by rw [res_bool e4 e1], e2⟩
          · refine ⟨some ⟨b', off' + k * m, none⟩, m, ?_, by show (partL m x0 k).length ≤ m; omega, fun _ => ⟨b', off' + k * m, rfl, hpb, fun i x hi => ?_⟩⟩
            · show [partV b' off' m k] = _
              rw [hlen]
              rfl
            · have him : i < m := by
                have := (List.getElem?_eq_some_iff.1 hi).1
                rw [hlen] at this
                exact this
              have hi2 : x0[k * m + i]? = some x := by
                unfold partL at hi
                rw [List.getElem?_take_of_lt him, List.getElem?_drop] at hi
                exact hi
              obtain ⟨l, l1, l2, l3⟩ := hel _ _ hi2
              refine ⟨l, l1, fun j v hv => ?_, l3⟩
              rw [cellH_congr (hW.block b' (hp b' hpb))]
              have := l2 j v hv
              rw [show off' + k * m + i * Sh.size (.int .i64) = off' + (k * m + i) * Sh.size (.int .i64) from by simp [Sh.size]; omega]
              exact this
        by_cases hne : x0 = []
        · exact hall 0 0 (fun h => absurd hne h)
        · obtain ⟨b', off', hA', _⟩ := hx hne
          exact hall b' off' (fun _ => hA')
      · rw [decide_eq_false hz] at hF
        cases hF
        exact routes_false A x0.length cap x1 true w (fun _ => ⟨hc.1, by rw [Int.tmod_eq_emod_of_nonneg (Int.natCast_nonneg _)] at hz; exact hz⟩) hM'

theorem routes_sound {fM : Int → Option (Bool × Unit)} {fI : List Int → Option (Bool × Unit)} (hM : SoundC Try.prog 82 { ins := [.int .i64], outs := [.val .bool], F := fun x => fM x.1 })
    (hI : SoundC Try.prog 85 { ins := [.sl (.int .i64)], outs := [.val .bool], F := fun x => fI x.1 }) :
    SoundC Try.prog 71 { ins := [.sl (.int .i64), .int .i64], outs := [.val .bool], F := fun x => routesF fM fI x.1 x.2.1 } := by
  rintro p w vals ⟨x0, x1, _⟩ ⟨y, _⟩ hp hA hF
  exact routes_core hM hI p w vals x0 x1 y hp hA hF

end Go.Proofs.Ytgcmklniacjcfaa
