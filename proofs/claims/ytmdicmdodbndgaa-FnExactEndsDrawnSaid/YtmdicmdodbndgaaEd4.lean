/-
  impl.EndsDrawn, spec.EndsDrawn: their contracts. No condition.
-/
import Derived.Test.YtmdicmdodbndgaaEd3
namespace Go.Proofs.Ytmdicmdodbndgaa.Ed
open Go Go.RowKit Go.Proofs.Ytmdicmdodbndgaa Go.Proofs.Ytmdicmdodbndgaa.Fw
open Go.Proofs.Ytmdicmdodbndgaa.Arr hiding Tk goJ goJ_step
set_option maxRecDepth 100000
set_option linter.unusedVariables false
set_option linter.unusedSimpArgs false

abbrev eEarly (fE : List Tk → Option (List Int × Unit)) : Ent := { ins := [.sl tkS], outs := [.own (.int .i64)], F := fun x => fE x.1 }
abbrev eLast (fL : List Tk → List Int → Option (Int × Unit)) : Ent := { ins := [.sl tkS, .sl (.int .i64)], outs := [.val (.int .i64)], F := fun x => fL x.1 x.2.1 }
abbrev eDraw (fD : DrawF) : Ent := { ins := [.flt .f32, .flt .f32, .flt .f32, .int .i64], outs := [.val (.flt .f32), .val (.int .i64)], F := fun x => fD x.1 x.2.1 x.2.2.1 x.2.2.2.1 }
abbrev eAre (fA : List Tk → Option (Bool × Unit)) : Ent := { ins := [.sl tkS], outs := [.val .bool], F := fun x => fA x.1 }
abbrev eSeed (fS : Int → Option (Bool × Unit)) : Ent := { ins := [.int .i64], outs := [.val .bool], F := fun x => fS x.1 }
abbrev eIn (fW : Int → Int → Int → Option (Bool × Unit)) : Ent := { ins := [.int .i64, .int .i64, .int .i64], outs := [.val .bool], F := fun x => fW x.1 x.2.1 x.2.2.1 }

theorem own_res {B : Nat} {ok : Bool → Nat → Prop} {H : Array Obj} {W : World} {l : List Int} {v : Value} (hH : W.heap = H) {vs : List Value} {bs : List (Option Nat)} (e1 : Fw.valOf vs v) (h : ResR ok B H [.own (.int .i64)] (l, ()) vs bs) (hl : l ≠ []) : ∃ O oc oz, v = .slice (some ⟨O, 0, none⟩) l.length oc ∧ B ≤ O ∧ RowL W O oz l ∧ l.length ≤ oc ∧ oc ≤ oz := by
  subst hH
  match vs, bs, h with
  | [u], [none], e4 => exact absurd e4.1.2 hl
  | [u], [some O], e4 =>
    have hv : v = u := e1
    subst hv
    obtain ⟨oc, oz, q1, q2, q3, q4, q5⟩ := own_row e4.1 hl
    exact ⟨O, oc, oz, by rw [q1], q2, q3, q4, q5⟩
  | [], _, e4 => cases e4
  | [_], [], e4 => exact e4.elim
  | [_], none :: _ :: _, e4 => exact e4.2.elim
  | [_], some _ :: _ :: _, e4 => exact e4.2.elim
  | _ :: _ :: _, [], e4 => exact e4.elim
  | _ :: _ :: _, _ :: _, e4 => exact e4.2.elim

/-- A drawn number and the next seed. -/
theorem draw_res {B : Nat} {ok : Bool → Nat → Prop} {H : Array Obj} {x : Nat} {n : Int} {v : Value} {vs : List Value} {bs : List (Option Nat)} (e1 : Fw.valOf vs v) (h : ResR ok B H [.val (.flt .f32), .val (.int .i64)] (some x, n, ()) vs bs) : v = .tuple #[.float .f32 x, .int .i64 n] := by
  match vs, bs, h with
  | [u1, u2], [], h =>
    obtain ⟨⟨⟨b, h1, h2⟩, a1⟩, ⟨h3, a3⟩, _⟩ := h
    have e2 : v = .tuple #[u1, u2] := e1
    have e3 : u1 = .float .f32 b := shop_one h1 a1
    have e4 : u2 = .int .i64 n := shop_one h3 a3
    have e5 : b = x := fl_some h2.symm
    rw [e2, e3, e4, e5]
  | [], _, h => cases h
  | [_], [], h => exact h.2.elim
  | [_], _ :: _, h => exact h.2.elim
  | [_, _], _ :: _, h => exact h.2.2.elim
  | _ :: _ :: _ :: _, [], h => exact h.2.2.elim
  | _ :: _ :: _ :: _, _ :: _, h => exact h.2.2.elim

theorem rows_FES {p : Nat → Prop} {fE : List Tk → Option (List Int × Unit)} (hE : SoundC Try.prog 31 (eEarly fE)) : RowsC 31 p fE := fun W SB c ts v hv hl hne hT hc hp => by
  have h := hE (fun q => p q ∨ q = SB) W [.slice (some ⟨SB, 0, none⟩) ts.length c] (ts, ()) (v, ()) (fun q h => by rcases h with h | h; exact hp q h; rw [h]; exact hT.lt) ⟨hT.arg hc, trivial⟩ hv
  have h := shop_calls Try.func31 rfl (by kernel_rfl) h
  refine h.mono ?_
  rintro e W' ⟨v, rfl, vs, bs, e1, e2, e3, e4⟩
  obtain ⟨O, oc, oz, q1, q2, q3, q4, q5⟩ := own_res rfl e1 e4 (fun h => hne (List.eq_nil_of_length_eq_zero (by rw [← hl, h]; rfl)))
  rw [hl] at q1 q4
  exact ⟨e2, O, oc, oz, by rw [q1], q3, q4, q2⟩

theorem rows_FSK {p : Nat → Prop} {fE : List Tk → Option (List Int × Unit)} (hE : SoundC Try.prog 32 (eEarly fE)) : RowsC 32 p fE := fun W SB c ts v hv hl hne hT hc hp => by
  have h := hE (fun q => p q ∨ q = SB) W [.slice (some ⟨SB, 0, none⟩) ts.length c] (ts, ()) (v, ()) (fun q h => by rcases h with h | h; exact hp q h; rw [h]; exact hT.lt) ⟨hT.arg hc, trivial⟩ hv
  have h := shop_calls Try.func32 rfl (by kernel_rfl) h
  refine h.mono ?_
  rintro e W' ⟨v, rfl, vs, bs, e1, e2, e3, e4⟩
  obtain ⟨O, oc, oz, q1, q2, q3, q4, q5⟩ := own_res rfl e1 e4 (fun h => hne (List.eq_nil_of_length_eq_zero (by rw [← hl, h]; rfl)))
  rw [hl] at q1 q4
  exact ⟨e2, O, oc, oz, by rw [q1], q3, q4, q2⟩

theorem rows_FSY {p : Nat → Prop} {fE : List Tk → Option (List Int × Unit)} (hE : SoundC Try.prog 22 (eEarly fE)) : RowsC 22 p fE := fun W SB c ts v hv hl hne hT hc hp => by
  have h := hE (fun q => p q ∨ q = SB) W [.slice (some ⟨SB, 0, none⟩) ts.length c] (ts, ()) (v, ()) (fun q h => by rcases h with h | h; exact hp q h; rw [h]; exact hT.lt) ⟨hT.arg hc, trivial⟩ hv
  have h := shop_calls Try.func22 rfl (by kernel_rfl) h
  refine h.mono ?_
  rintro e W' ⟨v, rfl, vs, bs, e1, e2, e3, e4⟩
  obtain ⟨O, oc, oz, q1, q2, q3, q4, q5⟩ := own_res rfl e1 e4 (fun h => hne (List.eq_nil_of_length_eq_zero (by rw [← hl, h]; rfl)))
  rw [hl] at q1 q4
  exact ⟨e2, O, oc, oz, by rw [q1], q3, q4, q2⟩

theorem rows_FSL {p : Nat → Prop} {fE : List Tk → Option (List Int × Unit)} (hE : SoundC Try.prog 23 (eEarly fE)) : RowsC 23 p fE := fun W SB c ts v hv hl hne hT hc hp => by
  have h := hE (fun q => p q ∨ q = SB) W [.slice (some ⟨SB, 0, none⟩) ts.length c] (ts, ()) (v, ()) (fun q h => by rcases h with h | h; exact hp q h; rw [h]; exact hT.lt) ⟨hT.arg hc, trivial⟩ hv
  have h := shop_calls Try.func23 rfl (by kernel_rfl) h
  refine h.mono ?_
  rintro e W' ⟨v, rfl, vs, bs, e1, e2, e3, e4⟩
  obtain ⟨O, oc, oz, q1, q2, q3, q4, q5⟩ := own_res rfl e1 e4 (fun h => hne (List.eq_nil_of_length_eq_zero (by rw [← hl, h]; rfl)))
  rw [hl] at q1 q4
  exact ⟨e2, O, oc, oz, by rw [q1], q3, q4, q2⟩

theorem last_FLE {p : Nat → Prop} {fL : List Tk → List Int → Option (Int × Unit)} (hL : SoundC Try.prog 30 (eLast fL)) : EndC 30 p fL := fun W SB c O oc oz ts s v hv hl hT hc hO hoc hp => by
  have harg := shop_arg (n := ts.length) (c := oc) hl hoc (p := fun q => (p q ∨ q = SB) ∨ q = O) (.inr rfl) hO
  have h := hL (fun q => (p q ∨ q = SB) ∨ q = O) W [.slice (some ⟨SB, 0, none⟩) ts.length c, .slice (some ⟨O, 0, none⟩) ts.length oc] (ts, s, ()) (v, ()) (fun q h => by rcases h with (h | h) | h; exact hp q h; rw [h]; exact hT.lt; rw [h]; exact hO.aLtE) ⟨⟨RC.mono_ (fun _ b hb => ⟨.inl hb, fun _ => rfl⟩) (hT.arg hc).1, rfl⟩, harg, trivial⟩ hv
  have h := shop_calls Try.func30 rfl (by kernel_rfl) h
  refine h.mono ?_
  rintro e W' ⟨v, rfl, vs, bs, e1, e2, e3, e4⟩
  exact ⟨e2, by rw [shop_int e4 e1]⟩

theorem last_FSE {p : Nat → Prop} {fL : List Tk → List Int → Option (Int × Unit)} (hL : SoundC Try.prog 21 (eLast fL)) : EndC 21 p fL := fun W SB c O oc oz ts s v hv hl hT hc hO hoc hp => by
  have harg := shop_arg (n := ts.length) (c := oc) hl hoc (p := fun q => (p q ∨ q = SB) ∨ q = O) (.inr rfl) hO
  have h := hL (fun q => (p q ∨ q = SB) ∨ q = O) W [.slice (some ⟨SB, 0, none⟩) ts.length c, .slice (some ⟨O, 0, none⟩) ts.length oc] (ts, s, ()) (v, ()) (fun q h => by rcases h with (h | h) | h; exact hp q h; rw [h]; exact hT.lt; rw [h]; exact hO.aLtE) ⟨⟨RC.mono_ (fun _ b hb => ⟨.inl hb, fun _ => rfl⟩) (hT.arg hc).1, rfl⟩, harg, trivial⟩ hv
  have h := shop_calls Try.func21 rfl (by kernel_rfl) h
  refine h.mono ?_
  rintro e W' ⟨v, rfl, vs, bs, e1, e2, e3, e4⟩
  exact ⟨e2, by rw [shop_int e4 e1]⟩

theorem draw_FTD {fD : DrawF} (hD : SoundC Try.prog 29 (eDraw fD)) : DrawC 29 fD := fun W lo hi x sd n hlo hhi hv => by
  have h := hD (fun _ => False) W [.float .f32 lo, .float .f32 1065353216, .float .f32 hi, .int .i64 sd] (some lo, toF .f32 1065353216, some hi, sd, ()) (some x, n, ()) (fun _ h => h.elim) ⟨⟨⟨lo, rfl, hlo.symm⟩, rfl⟩, ⟨⟨1065353216, rfl, rfl⟩, rfl⟩, ⟨⟨hi, rfl, hhi.symm⟩, rfl⟩, ⟨rfl, rfl⟩, trivial⟩ hv
  have h := shop_calls Try.func29 rfl (by kernel_rfl) h
  refine h.mono ?_
  rintro e W' ⟨v, rfl, vs, bs, e1, e2, e3, e4⟩
  exact ⟨e2, by rw [draw_res e1 e4]⟩

theorem draw_FSD {fD : DrawF} (hD : SoundC Try.prog 20 (eDraw fD)) : DrawC 20 fD := fun W lo hi x sd n hlo hhi hv => by
  have h := hD (fun _ => False) W [.float .f32 lo, .float .f32 1065353216, .float .f32 hi, .int .i64 sd] (some lo, toF .f32 1065353216, some hi, sd, ()) (some x, n, ()) (fun _ h => h.elim) ⟨⟨⟨lo, rfl, hlo.symm⟩, rfl⟩, ⟨⟨1065353216, rfl, rfl⟩, rfl⟩, ⟨⟨hi, rfl, hhi.symm⟩, rfl⟩, ⟨rfl, rfl⟩, trivial⟩ hv
  have h := shop_calls Try.func20 rfl (by kernel_rfl) h
  refine h.mono ?_
  rintro e W' ⟨v, rfl, vs, bs, e1, e2, e3, e4⟩
  exact ⟨e2, by rw [draw_res e1 e4]⟩

theorem gd_num {lo hi : Nat} (h : Gd lo hi) : toF .f32 lo = some lo ∧ toF .f32 hi = some hi := by
  have key : ∀ {x y : Nat} {o : Ordering}, FloatKind.f32.format.order x y = some o → toF .f32 x = some x ∧ toF .f32 y = some y := fun {x y o} h => by
    have e := forder_eq (k := .f32) (x := x) (y := y) rfl rfl
    rw [h] at e
    unfold forder at e
    cases h1 : toF .f32 x with
    | none => rw [h1] at e; cases e
    | some x' =>
      rw [h1] at e
      cases h2 : toF .f32 y with
      | none => rw [h2] at e; cases e
      | some y' => exact ⟨by rw [fl_some h1], by rw [fl_some h2]⟩
  exact key h.g5

set_option maxHeartbeats 1000000 in
theorem ed_sound {fA : List Tk → Option (Bool × Unit)} {fS : Int → Option (Bool × Unit)} {fW : Int → Int → Int → Option (Bool × Unit)} {fD : DrawF} {fE : List Tk → Option (List Int × Unit)} {fL : List Tk → List Int → Option (Int × Unit)} {fK : List Tk → Option (List Int × Unit)}
    (hA : SoundC Try.prog 25 (eAre fA)) (hS : SoundC Try.prog 26 (eSeed fS)) (hW : SoundC Try.prog 27 (eIn fW)) (hD : SoundC Try.prog 29 (eDraw fD)) (hE : SoundC Try.prog 31 (eEarly fE)) (hL : SoundC Try.prog 30 (eLast fL)) (hK : SoundC Try.prog 32 (eEarly fK)) :
    SoundC Try.prog 7 { ins := [.sl tkS, .flt .f32, .flt .f32, .int .i64, .int .i64], outs := [.own (.int .i64), .own (.flt .f32), .val (.int .i64), .val .bool], F := fun x => edF fA fS fW fD fE fL fK x.1 x.2.1 x.2.2.1 x.2.2.2.1 x.2.2.2.2.1 } := by
  rintro p w vals ⟨xs, lo, hi, sd, ct, _⟩ ⟨yl, ys, yv, yb, yu⟩ hp hArg hF
  match vals, hArg with
  | [v0, v1, v2, v3, v4], hArg =>
    obtain ⟨⟨h0, a0⟩, ⟨⟨lb, h1, hlo⟩, a1⟩, ⟨⟨hb, h2, hhi⟩, a2⟩, ⟨h3, a3⟩, ⟨h4, a4⟩, _⟩ := hArg
    have h3 : v3 = .int .i64 sd := shop_one h3 a3
    have h4 : v4 = .int .i64 ct := shop_one h4 a4
    have h1 : v1 = .float .f32 lb := shop_one h1 a1
    have h2 : v2 = .float .f32 hb := shop_one h2 a2
    have hlo : lo = toF .f32 lb := hlo
    have hhi : hi = toF .f32 hb := hhi
    subst h1 h2 h3 h4 hlo hhi
    obtain ⟨A0, c0, hc0, hcap0, hx0⟩ := h0
    obtain rfl : v0 = .slice A0 xs.length c0 := shop_one hc0 a0
    have g0 : RC (fun _ => p) w.heap (.sl tkS) xs [.slice A0 xs.length c0] := ⟨A0, c0, rfl, hcap0, hx0⟩
    obtain ⟨⟨ok1, _⟩, hr1, hF⟩ := Option.bind_eq_some_iff.1 hF
    have hAC : ∀ W, Below w.heap.size w W → Calls Try.prog 25 #[.slice A0 xs.length c0] W fun e W' => Below W.heap.size W W' ∧ e = .returned (.bool ok1) := fun W hb => by
      have h := hA p W [.slice A0 xs.length c0] (xs, ()) (ok1, ()) (fun b h => Nat.lt_of_lt_of_le (hp b h) hb.size) ⟨⟨shop_mono hp hb g0, rfl⟩, trivial⟩ hr1
      have h := shop_calls Try.func25 rfl (by kernel_rfl) h
      refine h.mono ?_
      rintro e W' ⟨v, rfl, vs, bs, e1, e2, e3, e4⟩
      exact ⟨e2, by rw [shop_bool e4 e1]⟩
    have hSC : ∀ (r : Bool), fS sd = some (r, ()) → ∀ W, Below w.heap.size w W → Calls Try.prog 26 #[.int .i64 sd] W fun e W' => Below W.heap.size W W' ∧ e = .returned (.bool r) := fun r hr W hb => by
      have h := hS p W [.int .i64 sd] (sd, ()) (r, ()) (fun b h => Nat.lt_of_lt_of_le (hp b h) hb.size) ⟨⟨rfl, rfl⟩, trivial⟩ hr
      have h := shop_calls Try.func26 rfl (by kernel_rfl) h
      refine h.mono ?_
      rintro e W' ⟨v, rfl, vs, bs, e1, e2, e3, e4⟩
      exact ⟨e2, by rw [shop_bool e4 e1]⟩
    have hWC : ∀ (r : Bool), fW ct 1 64 = some (r, ()) → ∀ W, Below w.heap.size w W → Calls Try.prog 27 #[.int .i64 ct, .int .i64 1, .int .i64 64] W fun e W' => Below W.heap.size W W' ∧ e = .returned (.bool r) := fun r hr W hb => by
      have h := hW p W [.int .i64 ct, .int .i64 1, .int .i64 64] (ct, 1, 64, ()) (r, ()) (fun b h => Nat.lt_of_lt_of_le (hp b h) hb.size) ⟨⟨rfl, rfl⟩, ⟨rfl, rfl⟩, ⟨rfl, rfl⟩, trivial⟩ hr
      have h := shop_calls Try.func27 rfl (by kernel_rfl) h
      refine h.mono ?_
      rintro e W' ⟨v, rfl, vs, bs, e1, e2, e3, e4⟩
      exact ⟨e2, by rw [shop_bool e4 e1]⟩
    have hno : ∀ {y : List Int × List (Option Nat) × Int × Bool × Unit}, noE = some y → y = ([], [], 0, false, ()) := fun h => (Option.some.inj h).symm
    have hend : ∀ {e : Ending} {W' : World}, Below w.heap.size w W' ∧ e = .returned (.tuple #[.slice none 0 0, .slice none 0 0, .int .i64 0, .bool false]) → ∃ v, e = .returned v ∧ ∃ vs bs, Fw.valOf vs v ∧ Below w.heap.size w W' ∧ Dist bs ∧ ResR (okRes p w.heap.size W'.heap bs) w.heap.size W'.heap [.own (.int .i64), .own (.flt .f32), .val (.int .i64), .val .bool] ([], [], 0, false, ()) vs bs := by
      rintro e W' ⟨hb, rfl⟩
      exact ⟨_, rfl, [.slice none 0 0, .slice none 0 0, .int .i64 0, .bool false], [none, none], rfl, hb, by simp [Dist], ⟨rfl, rfl⟩, ⟨rfl, rfl⟩, ⟨rfl, rfl⟩, ⟨rfl, rfl⟩, trivial⟩
    unfold CallOk
    rw [enter_of Try.func7 rfl (by kernel_rfl)]
    refine ⟨rfl, ?_⟩
    cases ok1 with
    | false =>
      cases hno hF
      exact (ed_false0 w hAC).mono fun e W' h => hend h
    | true =>
      simp only [cond_true] at hF
      cases hgd : gdI (toF .f32 lb) (toF .f32 hb) with
      | false =>
        rw [hgd] at hF
        cases hno hF
        exact (ed_false1 w (fun h => by rw [gd_iff.2 h] at hgd; cases hgd) hAC).mono fun e W' h => hend h
      | true =>
        have hg := gd_iff.1 hgd
        rw [hgd] at hF
        simp only [cond_true] at hF
        obtain ⟨⟨ok2, _⟩, hr2, hF⟩ := Option.bind_eq_some_iff.1 hF
        have hSC1 := hSC ok2 hr2
        cases ok2 with
        | false =>
          cases hno hF
          exact (ed_false2 w hg hAC hSC1).mono fun e W' h => hend h
        | true =>
          simp only [cond_true] at hF
          obtain ⟨⟨ok3, _⟩, hr3, hF⟩ := Option.bind_eq_some_iff.1 hF
          have hWC1 := hWC ok3 hr3
          cases ok3 with
          | false =>
            cases hno hF
            exact (ed_false3 w hg hAC hSC1 hWC1).mono fun e W' h => hend h
          | true =>
            simp only [cond_true] at hF
            obtain ⟨hk, hF⟩ := cond_some hF
            simp only [Bool.and_eq_true, decide_eq_true_eq] at hk
            obtain ⟨k1, k2, k3, k4⟩ := hk
            obtain ⟨R, hR, hF⟩ := Option.bind_eq_some_iff.1 hF
            obtain ⟨shs, hsh, hF⟩ := Option.bind_eq_some_iff.1 hF
            obtain ⟨n1, n2⟩ := gd_num hg
            rw [n1, n2] at hR
            obtain ⟨B0, o0, rfl, hp0, hel0⟩ := hx0 (fun e => by have e : xs = [] := e; rw [e] at k1; simp at k1)
            have hcall := ed_any (draw_FTD hD) (rows_FES hE) (last_FLE hL) (rows_FSK hK) (list := xs) (n := xs.length) (lo := lb) (hi := hb) (sd := sd) (ct := ct) (LA := B0) (lo0 := o0) (lc := c0) ⟨k1, k2⟩ ⟨k3, k4⟩ rfl hg n1 n2 w hp (hp B0 hp0) g0 (tk_all hel0) hR hsh hAC hSC1 hWC1
            have hnum := shT_num hsh
            cases hF
            refine hcall.mono ?_
            rintro e W' ⟨hbe, D, dc, dz, F, fc, fz, rfl, hrow, hrf, ⟨hD1, hF1, hDF⟩, ⟨hd1, hd2⟩, hf1, hf2⟩
            exact ⟨_, rfl, [.slice (some ⟨D, 0, none⟩) R.2.1.length dc, .slice (some ⟨F, 0, none⟩) shs.length fc, .int .i64 R.1, .bool true], [some D, some F], rfl, hbe, by simp [Dist]; exact hDF, row_own hD1 hrow hd1 hd2, rowF_own hnum hF1 hrf hf1 hf2, ⟨rfl, rfl⟩, ⟨rfl, rfl⟩, trivial⟩

set_option maxHeartbeats 1000000 in
theorem es_sound {fA : List Tk → Option (Bool × Unit)} {fS : Int → Option (Bool × Unit)} {fW : Int → Int → Int → Option (Bool × Unit)} {fD : DrawF} {fE : List Tk → Option (List Int × Unit)} {fL : List Tk → List Int → Option (Int × Unit)} {fK : List Tk → Option (List Int × Unit)}
    (hA : SoundC Try.prog 17 (eAre fA)) (hS : SoundC Try.prog 18 (eSeed fS)) (hW : SoundC Try.prog 19 (eIn fW)) (hD : SoundC Try.prog 20 (eDraw fD)) (hE : SoundC Try.prog 22 (eEarly fE)) (hL : SoundC Try.prog 21 (eLast fL)) (hK : SoundC Try.prog 23 (eEarly fK)) :
    SoundC Try.prog 5 { ins := [.sl tkS, .flt .f32, .flt .f32, .int .i64, .int .i64], outs := [.own (.int .i64), .own (.flt .f32), .val (.int .i64), .val .bool], F := fun x => edF fA fS fW fD fE fL fK x.1 x.2.1 x.2.2.1 x.2.2.2.1 x.2.2.2.2.1 } := by
  rintro p w vals ⟨xs, lo, hi, sd, ct, _⟩ ⟨yl, ys, yv, yb, yu⟩ hp hArg hF
  match vals, hArg with
  | [v0, v1, v2, v3, v4], hArg =>
    obtain ⟨⟨h0, a0⟩, ⟨⟨lb, h1, hlo⟩, a1⟩, ⟨⟨hb, h2, hhi⟩, a2⟩, ⟨h3, a3⟩, ⟨h4, a4⟩, _⟩ := hArg
    have h3 : v3 = .int .i64 sd := shop_one h3 a3
    have h4 : v4 = .int .i64 ct := shop_one h4 a4
    have h1 : v1 = .float .f32 lb := shop_one h1 a1
    have h2 : v2 = .float .f32 hb := shop_one h2 a2
    have hlo : lo = toF .f32 lb := hlo
    have hhi : hi = toF .f32 hb := hhi
    subst h1 h2 h3 h4 hlo hhi
    obtain ⟨A0, c0, hc0, hcap0, hx0⟩ := h0
    obtain rfl : v0 = .slice A0 xs.length c0 := shop_one hc0 a0
    have g0 : RC (fun _ => p) w.heap (.sl tkS) xs [.slice A0 xs.length c0] := ⟨A0, c0, rfl, hcap0, hx0⟩
    obtain ⟨⟨ok1, _⟩, hr1, hF⟩ := Option.bind_eq_some_iff.1 hF
    have hAC : ∀ W, Below w.heap.size w W → Calls Try.prog 17 #[.slice A0 xs.length c0] W fun e W' => Below W.heap.size W W' ∧ e = .returned (.bool ok1) := fun W hb => by
      have h := hA p W [.slice A0 xs.length c0] (xs, ()) (ok1, ()) (fun b h => Nat.lt_of_lt_of_le (hp b h) hb.size) ⟨⟨shop_mono hp hb g0, rfl⟩, trivial⟩ hr1
      have h := shop_calls Try.func17 rfl (by kernel_rfl) h
      refine h.mono ?_
      rintro e W' ⟨v, rfl, vs, bs, e1, e2, e3, e4⟩
      exact ⟨e2, by rw [shop_bool e4 e1]⟩
    have hSC : ∀ (r : Bool), fS sd = some (r, ()) → ∀ W, Below w.heap.size w W → Calls Try.prog 18 #[.int .i64 sd] W fun e W' => Below W.heap.size W W' ∧ e = .returned (.bool r) := fun r hr W hb => by
      have h := hS p W [.int .i64 sd] (sd, ()) (r, ()) (fun b h => Nat.lt_of_lt_of_le (hp b h) hb.size) ⟨⟨rfl, rfl⟩, trivial⟩ hr
      have h := shop_calls Try.func18 rfl (by kernel_rfl) h
      refine h.mono ?_
      rintro e W' ⟨v, rfl, vs, bs, e1, e2, e3, e4⟩
      exact ⟨e2, by rw [shop_bool e4 e1]⟩
    have hWC : ∀ (r : Bool), fW ct 1 64 = some (r, ()) → ∀ W, Below w.heap.size w W → Calls Try.prog 19 #[.int .i64 ct, .int .i64 1, .int .i64 64] W fun e W' => Below W.heap.size W W' ∧ e = .returned (.bool r) := fun r hr W hb => by
      have h := hW p W [.int .i64 ct, .int .i64 1, .int .i64 64] (ct, 1, 64, ()) (r, ()) (fun b h => Nat.lt_of_lt_of_le (hp b h) hb.size) ⟨⟨rfl, rfl⟩, ⟨rfl, rfl⟩, ⟨rfl, rfl⟩, trivial⟩ hr
      have h := shop_calls Try.func19 rfl (by kernel_rfl) h
      refine h.mono ?_
      rintro e W' ⟨v, rfl, vs, bs, e1, e2, e3, e4⟩
      exact ⟨e2, by rw [shop_bool e4 e1]⟩
    have hno : ∀ {y : List Int × List (Option Nat) × Int × Bool × Unit}, noE = some y → y = ([], [], 0, false, ()) := fun h => (Option.some.inj h).symm
    have hend : ∀ {e : Ending} {W' : World}, Below w.heap.size w W' ∧ e = .returned (.tuple #[.slice none 0 0, .slice none 0 0, .int .i64 0, .bool false]) → ∃ v, e = .returned v ∧ ∃ vs bs, Fw.valOf vs v ∧ Below w.heap.size w W' ∧ Dist bs ∧ ResR (okRes p w.heap.size W'.heap bs) w.heap.size W'.heap [.own (.int .i64), .own (.flt .f32), .val (.int .i64), .val .bool] ([], [], 0, false, ()) vs bs := by
      rintro e W' ⟨hb, rfl⟩
      exact ⟨_, rfl, [.slice none 0 0, .slice none 0 0, .int .i64 0, .bool false], [none, none], rfl, hb, by simp [Dist], ⟨rfl, rfl⟩, ⟨rfl, rfl⟩, ⟨rfl, rfl⟩, ⟨rfl, rfl⟩, trivial⟩
    unfold CallOk
    rw [enter_of Try.func5 rfl (by kernel_rfl)]
    refine ⟨rfl, ?_⟩
    cases ok1 with
    | false =>
      cases hno hF
      exact (es_false0 w hAC).mono fun e W' h => hend h
    | true =>
      simp only [cond_true] at hF
      cases hgd : gdI (toF .f32 lb) (toF .f32 hb) with
      | false =>
        rw [hgd] at hF
        cases hno hF
        exact (es_false1 w (fun h => by rw [gd_iff.2 h] at hgd; cases hgd) hAC).mono fun e W' h => hend h
      | true =>
        have hg := gd_iff.1 hgd
        rw [hgd] at hF
        simp only [cond_true] at hF
        obtain ⟨⟨ok2, _⟩, hr2, hF⟩ := Option.bind_eq_some_iff.1 hF
        have hSC1 := hSC ok2 hr2
        cases ok2 with
        | false =>
          cases hno hF
          exact (es_false2 w hg hAC hSC1).mono fun e W' h => hend h
        | true =>
          simp only [cond_true] at hF
          obtain ⟨⟨ok3, _⟩, hr3, hF⟩ := Option.bind_eq_some_iff.1 hF
          have hWC1 := hWC ok3 hr3
          cases ok3 with
          | false =>
            cases hno hF
            exact (es_false3 w hg hAC hSC1 hWC1).mono fun e W' h => hend h
          | true =>
            simp only [cond_true] at hF
            obtain ⟨hk, hF⟩ := cond_some hF
            simp only [Bool.and_eq_true, decide_eq_true_eq] at hk
            obtain ⟨k1, k2, k3, k4⟩ := hk
            obtain ⟨R, hR, hF⟩ := Option.bind_eq_some_iff.1 hF
            obtain ⟨shs, hsh, hF⟩ := Option.bind_eq_some_iff.1 hF
            obtain ⟨n1, n2⟩ := gd_num hg
            rw [n1, n2] at hR
            obtain ⟨B0, o0, rfl, hp0, hel0⟩ := hx0 (fun e => by have e : xs = [] := e; rw [e] at k1; simp at k1)
            have hcall := es_any (draw_FSD hD) (rows_FSY hE) (last_FSE hL) (rows_FSL hK) (list := xs) (n := xs.length) (lo := lb) (hi := hb) (sd := sd) (ct := ct) (LA := B0) (lo0 := o0) (lc := c0) ⟨k1, k2⟩ ⟨k3, k4⟩ rfl hg n1 n2 w hp (hp B0 hp0) g0 (tk_all hel0) hR hsh hAC hSC1 hWC1
            have hnum := shT_num hsh
            cases hF
            refine hcall.mono ?_
            rintro e W' ⟨hbe, D, dc, dz, F, fc, fz, rfl, hrow, hrf, ⟨hD1, hF1, hDF⟩, ⟨hd1, hd2⟩, hf1, hf2⟩
            exact ⟨_, rfl, [.slice (some ⟨D, 0, none⟩) R.2.1.length dc, .slice (some ⟨F, 0, none⟩) shs.length fc, .int .i64 R.1, .bool true], [some D, some F], rfl, hbe, by simp [Dist]; exact hDF, row_own hD1 hrow hd1 hd2, rowF_own hnum hF1 hrf hf1 hf2, ⟨rfl, rfl⟩, ⟨rfl, rfl⟩, trivial⟩

end Go.Proofs.Ytmdicmdodbndgaa.Ed
