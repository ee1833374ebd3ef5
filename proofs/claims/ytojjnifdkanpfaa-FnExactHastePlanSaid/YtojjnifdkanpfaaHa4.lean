/-
  impl.HastePlan: its contract. No condition.
-/
import Derived.Test.YtojjnifdkanpfaaHa3
namespace Go.Proofs.Ytojjnifdkanpfaa.Ha
open Go Go.RowKit Go.Proofs.Ytojjnifdkanpfaa Go.Proofs.Ytojjnifdkanpfaa.Fw
open Go.Proofs.Ytojjnifdkanpfaa.Arr hiding Tk goJ goJ_step
set_option maxRecDepth 100000
set_option linter.unusedVariables false
set_option linter.unusedSimpArgs false

abbrev eEarly (fE : List Tk → Option (List Int × Unit)) : Ent := { ins := [.sl tkS], outs := [.own (.int .i64)], F := fun x => fE x.1 }
abbrev eLast (fL : List Tk → List Int → Option (Int × Unit)) : Ent := { ins := [.sl tkS, .sl (.int .i64)], outs := [.val (.int .i64)], F := fun x => fL x.1 x.2.1 }
abbrev eClone (fC : List Int → Option (List Int × Unit)) : Ent := { ins := [.sl (.int .i64)], outs := [.own (.int .i64)], F := fun x => fC x.1 }

theorem own_res {B : Nat} {ok : Bool → Nat → Prop} {H : Array Obj} {W : World} {l : List Int} {v : Value} (hH : W.heap = H) {vs : List Value} {bs : List (Option Nat)} (e1 : Fw.valOf vs v) (h : ResR ok B H [.own (.int .i64)] (l, ()) vs bs) (hl : l ≠ []) : ∃ O oc oz, v = .slice (some ⟨O, 0, none⟩) l.length oc ∧ B ≤ O ∧ RowL W O oz l ∧ l.length ≤ oc ∧ oc ≤ oz := by
  subst hH
  match vs, bs, h with
  | [u], [none], e4 => exact absurd e4.1.2 hl
  | [u], [some O], e4 =>
    have hv : v = u := e1
    subst hv
    obtain ⟨oc, oz, q1, q2, q3, q4, q5⟩ := own_row e4.1 hl
    exact ⟨O, oc, oz, by rw [q1], q2, q3, q4, q5⟩
  | [], _, e4 => cases e4
  | [_], [], e4 => exact e4.elim
  | [_], none :: _ :: _, e4 => exact e4.2.elim
  | [_], some _ :: _ :: _, e4 => exact e4.2.elim
  | _ :: _ :: _, [], e4 => exact e4.elim
  | _ :: _ :: _, _ :: _, e4 => exact e4.2.elim

theorem early_of {p : Nat → Prop} {fE : List Tk → Option (List Int × Unit)} (hE : SoundC Try.prog 27 (eEarly fE)) : EarlyC p fE := fun W SB c ts v hv hl hne hT hc hp => by
  have h := hE (fun q => p q ∨ q = SB) W [.slice (some ⟨SB, 0, none⟩) ts.length c] (ts, ()) (v, ()) (fun q h => by rcases h with h | h; exact hp q h; rw [h]; exact hT.lt) ⟨hT.arg hc, trivial⟩ hv
  have h := shop_calls Try.func27 rfl (by kernel_rfl) h
  refine h.mono ?_
  rintro e W' ⟨v, rfl, vs, bs, e1, e2, e3, e4⟩
  obtain ⟨O, oc, oz, q1, q2, q3, q4, q5⟩ := own_res rfl e1 e4 (fun h => hne (List.eq_nil_of_length_eq_zero (by rw [← hl, h]; rfl)))
  rw [hl] at q1 q4
  exact ⟨e2, O, oc, oz, by rw [q1], q3, q4⟩

theorem last_of {p : Nat → Prop} {fL : List Tk → List Int → Option (Int × Unit)} (hL : SoundC Try.prog 26 (eLast fL)) : LastC p fL := fun W SB c O oc oz ts s v hv hl hT hc hO hoc hp => by
  have harg := shop_arg (n := ts.length) (c := oc) hl hoc (p := fun q => (p q ∨ q = SB) ∨ q = O) (.inr rfl) hO
  have h := hL (fun q => (p q ∨ q = SB) ∨ q = O) W [.slice (some ⟨SB, 0, none⟩) ts.length c, .slice (some ⟨O, 0, none⟩) ts.length oc] (ts, s, ()) (v, ()) (fun q h => by rcases h with (h | h) | h; exact hp q h; rw [h]; exact hT.lt; rw [h]; exact hO.aLtE) ⟨⟨RC.mono_ (fun _ b hb => ⟨.inl hb, fun _ => rfl⟩) (hT.arg hc).1, rfl⟩, harg, trivial⟩ hv
  have h := shop_calls Try.func26 rfl (by kernel_rfl) h
  refine h.mono ?_
  rintro e W' ⟨v, rfl, vs, bs, e1, e2, e3, e4⟩
  exact ⟨e2, by rw [shop_int e4 e1]⟩

theorem clone_of {fC : List Int → Option (List Int × Unit)} (hC : SoundC Try.prog 28 (eClone fC)) : CloneC fC := fun W b z c l hv hl hc hrow => by
  have h := hC (fun q => q = b) W [.slice (some ⟨b, 0, none⟩) l.length c] (l, ()) (l, ()) (fun q h => by rw [h]; exact hrow.aLtE) ⟨shop_arg rfl hc rfl hrow, trivial⟩ hv
  have h := shop_calls Try.func28 rfl (by kernel_rfl) h
  refine h.mono ?_
  rintro e W' ⟨v, rfl, vs, bs, e1, e2, e3, e4⟩
  obtain ⟨O, oc, oz, q1, q2, q3, q4, q5⟩ := own_res rfl e1 e4 hl
  exact ⟨e2, O, oc, oz, by rw [q1], q2, q3, q4, q5⟩

/-- The times of tasks that are read. -/
theorem tk_reads {ok : Bool → Nat → Prop} {W : World} {b off : Nat} {xs : List Tk} (h : ∀ i x, xs[i]? = some x → ∃ l, l.length = Sh.size tkS ∧ Reads W.heap b (off + i * Sh.size tkS) l ∧ RC ok W.heap tkS x l) :
    ∀ i, i < xs.length → W.cell? ⟨b, off + i * 4, none⟩ = some (.int .i64 (xs.getD i tkD).1) := fun i hi => by
  obtain ⟨l, q1, q2, q3⟩ := h i (xs.getD i tkD) (by rw [List.getD_eq_getElem?_getD, List.getElem?_eq_getElem hi]; rfl)
  obtain ⟨v1, v2, rfl, _⟩ := tk_cells q3
  have := q2 0 _ rfl
  rw [show off + i * Sh.size tkS + 0 = off + i * 4 by rfl] at this
  rw [cell_eq]
  exact this

set_option maxHeartbeats 1000000 in
theorem ha_sound {fA : List Tk → Option (Bool × Unit)} {fM : List Int → Int → Int → Int → Int → Option (Bool × Unit)} {fW : Int → Int → Int → Option (Bool × Unit)} {fE : List Tk → Option (List Int × Unit)} {fL : List Tk → List Int → Option (Int × Unit)} {fC : List Int → Option (List Int × Unit)}
    (hA : SoundC Try.prog 21 { ins := [.sl tkS], outs := [.val .bool], F := fun x => fA x.1 })
    (hM : SoundC Try.prog 22 { ins := [.sl (.int .i64), .int .i64, .int .i64, .int .i64, .int .i64], outs := [.val .bool], F := fun x => fM x.1 x.2.1 x.2.2.1 x.2.2.2.1 x.2.2.2.2.1 })
    (hW : SoundC Try.prog 23 { ins := [.int .i64, .int .i64, .int .i64], outs := [.val .bool], F := fun x => fW x.1 x.2.1 x.2.2.1 })
    (hE : SoundC Try.prog 27 (eEarly fE)) (hL : SoundC Try.prog 26 (eLast fL)) (hC : SoundC Try.prog 28 (eClone fC)) :
    SoundC Try.prog 8 { ins := [.sl tkS, .sl (.int .i64), .sl (.int .i64), .int .i64], outs := [.own (.int .i64), .val (.int .i64), .val .bool], F := fun x => haF fA fM fW fE fL fC x.1 x.2.1 x.2.2.1 x.2.2.2.1 } := by
  rintro p w vals ⟨xs, ms, cs, fin, _⟩ ⟨yl, yv, yb, _⟩ hp hArg hF
  match vals, hArg with
  | [v0, v1, v2, v3], hArg =>
    obtain ⟨⟨h0, a0⟩, ⟨h1, a1⟩, ⟨h2, a2⟩, ⟨h3, a3⟩, _⟩ := hArg
    have h3 : v3 = .int .i64 fin := shop_one h3 a3
    subst h3
    obtain ⟨A0, c0, hc0, hcap0, hx0⟩ := h0
    obtain rfl : v0 = .slice A0 xs.length c0 := shop_one hc0 a0
    obtain ⟨A1, c1, hc1, hcap1, hx1⟩ := h1
    obtain rfl : v1 = .slice A1 ms.length c1 := shop_one hc1 a1
    obtain ⟨A2, c2, hc2, hcap2, hx2⟩ := h2
    obtain rfl : v2 = .slice A2 cs.length c2 := shop_one hc2 a2
    have g0 : RC (fun _ => p) w.heap (.sl tkS) xs [.slice A0 xs.length c0] := ⟨A0, c0, rfl, hcap0, hx0⟩
    have g1 : RC (fun _ => p) w.heap (.sl (.int .i64)) ms [.slice A1 ms.length c1] := ⟨A1, c1, rfl, hcap1, hx1⟩
    have g2 : RC (fun _ => p) w.heap (.sl (.int .i64)) cs [.slice A2 cs.length c2] := ⟨A2, c2, rfl, hcap2, hx2⟩
    obtain ⟨⟨ok1, _⟩, hr1, hF⟩ := Option.bind_eq_some_iff.1 hF
    have hAC : ∀ W, Below w.heap.size w W → Calls Try.prog 21 #[.slice A0 xs.length c0] W fun e W' => Below W.heap.size W W' ∧ e = .returned (.bool ok1) := fun W hb => by
      have h := hA p W [.slice A0 xs.length c0] (xs, ()) (ok1, ()) (fun b h => Nat.lt_of_lt_of_le (hp b h) hb.size) ⟨⟨shop_mono hp hb g0, rfl⟩, trivial⟩ hr1
      have h := shop_calls Try.func21 rfl (by kernel_rfl) h
      refine h.mono ?_
      rintro e W' ⟨v, rfl, vs, bs, e1, e2, e3, e4⟩
      exact ⟨e2, by rw [shop_bool e4 e1]⟩
    have hMC : ∀ (A : Option Addr) (l : List Int) (c : Nat) (t : Int) (r : Bool), RC (fun _ => p) w.heap (.sl (.int .i64)) l [.slice A l.length c] → fM l xs.length xs.length 0 t = some (r, ()) → ∀ W, Below w.heap.size w W → Calls Try.prog 22 #[.slice A l.length c, .int .i64 (xs.length : Int), .int .i64 (xs.length : Int), .int .i64 0, .int .i64 t] W fun e W' => Below W.heap.size W W' ∧ e = .returned (.bool r) := fun A l c t r g hr W hb => by
      have h := hM p W [.slice A l.length c, .int .i64 (xs.length : Int), .int .i64 (xs.length : Int), .int .i64 0, .int .i64 t] (l, (xs.length : Int), (xs.length : Int), 0, t, ()) (r, ()) (fun b h => Nat.lt_of_lt_of_le (hp b h) hb.size) ⟨⟨shop_mono hp hb g, rfl⟩, ⟨rfl, rfl⟩, ⟨rfl, rfl⟩, ⟨rfl, rfl⟩, ⟨rfl, rfl⟩, trivial⟩ hr
      have h := shop_calls Try.func22 rfl (by kernel_rfl) h
      refine h.mono ?_
      rintro e W' ⟨v, rfl, vs, bs, e1, e2, e3, e4⟩
      exact ⟨e2, by rw [shop_bool e4 e1]⟩
    have hWC : ∀ (r : Bool), fW fin 0 100000 = some (r, ()) → ∀ W, Below w.heap.size w W → Calls Try.prog 23 #[.int .i64 fin, .int .i64 0, .int .i64 100000] W fun e W' => Below W.heap.size W W' ∧ e = .returned (.bool r) := fun r hr W hb => by
      have h := hW p W [.int .i64 fin, .int .i64 0, .int .i64 100000] (fin, 0, 100000, ()) (r, ()) (fun b h => Nat.lt_of_lt_of_le (hp b h) hb.size) ⟨⟨rfl, rfl⟩, ⟨rfl, rfl⟩, ⟨rfl, rfl⟩, trivial⟩ hr
      have h := shop_calls Try.func23 rfl (by kernel_rfl) h
      refine h.mono ?_
      rintro e W' ⟨v, rfl, vs, bs, e1, e2, e3, e4⟩
      exact ⟨e2, by rw [shop_bool e4 e1]⟩
    have hno : ∀ {y : List Int × Int × Bool × Unit}, noH = some y → y = ([], 0, false, ()) := fun h => (Option.some.inj h).symm
    have hend : ∀ {e : Ending} {W' : World}, Below w.heap.size w W' ∧ e = .returned (.tuple #[.slice none 0 0, .int .i64 0, .bool false]) → ∃ v, e = .returned v ∧ ∃ vs bs, Fw.valOf vs v ∧ Below w.heap.size w W' ∧ Dist bs ∧ ResR (okRes p w.heap.size W'.heap bs) w.heap.size W'.heap [.own (.int .i64), .val (.int .i64), .val .bool] ([], 0, false, ()) vs bs := by
      rintro e W' ⟨hb, rfl⟩
      exact ⟨_, rfl, [.slice none 0 0, .int .i64 0, .bool false], [none], rfl, hb, by simp [Dist], ⟨rfl, rfl⟩, ⟨rfl, rfl⟩, ⟨rfl, rfl⟩, trivial⟩
    unfold CallOk
    rw [enter_of Try.func8 rfl (by kernel_rfl)]
    refine ⟨rfl, ?_⟩
    cases ok1 with
    | false =>
      cases hno hF
      exact (ha_false0 w hAC).mono fun e W' h => hend h
    | true =>
      simp only [cond_true] at hF
      by_cases hn5 : xs.length > 5
      · simp only [decide_eq_true hn5, cond_true] at hF
        cases hno hF
        exact (ha_false1 w hAC (decide_eq_true (by omega))).mono fun e W' h => hend h
      · simp only [decide_eq_false hn5, cond_false] at hF
        obtain ⟨⟨ok2, _⟩, hr2, hF⟩ := Option.bind_eq_some_iff.1 hF
        have hn : decide (((xs.length : Nat) : Int) > 5) = false := decide_eq_false (by omega)
        have hMC1 := hMC A1 ms c1 3 ok2 g1 hr2
        cases ok2 with
        | false =>
          cases hno hF
          exact (ha_false2 w hAC hMC1 hn).mono fun e W' h => hend h
        | true =>
          simp only [cond_true] at hF
          obtain ⟨⟨ok3, _⟩, hr3, hF⟩ := Option.bind_eq_some_iff.1 hF
          have hMC2 := hMC A2 cs c2 1000 ok3 g2 hr3
          cases ok3 with
          | false =>
            cases hno hF
            exact (ha_false3 w hAC hMC1 hMC2 hn).mono fun e W' h => hend h
          | true =>
            simp only [cond_true] at hF
            obtain ⟨⟨ok4, _⟩, hr4, hF⟩ := Option.bind_eq_some_iff.1 hF
            have hWC1 := hWC ok4 hr4
            cases ok4 with
            | false =>
              cases hno hF
              exact (ha_false4 w hAC hMC1 hMC2 hWC1 hn).mono fun e W' h => hend h
            | true =>
              simp only [cond_true] at hF
              obtain ⟨hg, hF⟩ := cond_some hF
              simp only [Bool.and_eq_true, decide_eq_true_eq] at hg
              obtain ⟨k1, k2, k3⟩ := hg
              obtain ⟨S', hput, hG⟩ := Option.bind_eq_some_iff.1 hF
              clear hF
              have hne : ∀ {α : Type} {l : List α}, l.length = xs.length → l ≠ [] := fun h e => by
                rw [e] at h
                simp at h
                omega
              obtain ⟨B0, o0, rfl, hp0, hel0⟩ := hx0 (hne rfl)
              obtain ⟨B1, o1, rfl, hp1, hel1⟩ := hx1 (hne k2)
              obtain ⟨B2, o2, rfl, hp2, hel2⟩ := hx2 (hne k3)
              have hr0 := tk_reads hel0
              have hr1 := shop_reads hel1
              have hr2 := shop_reads hel2
              rw [k2] at hr1 hMC1 ⊢
              rw [k3] at hr2 hMC2 ⊢
              have hcall := ha_any (early_of hE) (last_of hL) (clone_of hC) (list := xs) (most := ms) (costs := cs) (fin := fin) (n := xs.length) (LA := B0) (lo := o0) (lc := c0) (MA := B1) (mo := o1) (mc := c1) (CA := B2) (co := o2) (cc := c2) ⟨k1, by omega⟩ rfl w hp (hp B0 hp0) (hp B1 hp1) (hp B2 hp2) g0 hr0 hr1 hr2 hput hAC hMC1 hMC2 hWC1
              refine hcall.mono ?_
              rintro e W' ⟨hbe, x, v, rfl, hbest, hx⟩
              cases hG
              cases hS : S'.2.2.1 with
              | none =>
                rw [hS] at hbest
                have hv : v = .slice none 0 0 := hbest
                subst hv
                exact ⟨_, rfl, [.slice none 0 0, .int .i64 S'.2.2.2, .bool false], [none], rfl, hbe, by simp [Dist], ⟨rfl, rfl⟩, ⟨rfl, rfl⟩, ⟨rfl, rfl⟩, trivial⟩
              | some l =>
                rw [hS] at hbest
                obtain ⟨D, dc, dz, rfl, hrow, hD, hd1, hd2⟩ := hbest
                exact ⟨_, rfl, [.slice (some ⟨D, 0, none⟩) l.length dc, .int .i64 S'.2.2.2, .bool true], [some D], rfl, hbe, by simp [Dist], row_own (by omega) hrow hd1 hd2, ⟨rfl, rfl⟩, ⟨rfl, rfl⟩, trivial⟩

end Go.Proofs.Ytojjnifdkanpfaa.Ha
