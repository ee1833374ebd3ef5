/-
  impl.ShopStarts: its contract. No condition.
-/
import Derived.Test.YtgcmklniacjcfaaShop2
namespace Go.Proofs.Ytgcmklniacjcfaa
open Go Go.RowKit Go.Proofs.Ytgcmklniacjcfaa.Fw
set_option maxRecDepth 100000
set_option linter.unusedVariables false
set_option linter.unusedSimpArgs false

theorem shop_calls {f : FuncId} {fn : Func} {code : Code} {vals : List Value} {w : World} {R : Value → World → Prop} (hf : Try.prog.funcs[f]? = some fn) (hb : fn.body = some code) (hname : (fn.name == "runtime.NumGoroutine") = false)
    (h : CallOk Try.prog f vals.toArray w R) : Calls Try.prog f vals.toArray w fun e w' => ∃ v, e = .returned v ∧ R v w' := by
  unfold CallOk at h
  rw [enter_of hf hb hname] at h
  exact h.2

theorem shop_one {v u : Value} (h : v.cells.toList = [u]) (ha : aggV v = false) : v = u := by
  rw [cells_one ha] at h
  cases h
  rfl

/-- A row as an argument. -/
theorem shop_arg {W : World} {b z n c : Nat} {l : List Int} (hl : l.length = n) (hc : n ≤ c) {p : Nat → Prop} (hp : p b) (h : RowL W b z l) :
    RC (fun _ => p) W.heap (.sl (.int .i64)) l (Value.slice (some ⟨b, 0, none⟩) n c).cells.toList ∧ aggV (Value.slice (some ⟨b, 0, none⟩) n c) = Sh.isAgg (.sl (.int .i64)) := by
  obtain ⟨cs, e, h1, h2, h3⟩ := h
  refine ⟨⟨some ⟨b, 0, none⟩, c, by rw [hl]; rfl, by omega, fun _ => ⟨b, 0, rfl, hp, fun i x hi => ⟨[.int .i64 x], rfl, fun j v hv => ?_, rfl⟩⟩⟩, rfl⟩
  have hj : j = 0 := by
    cases j with
    | zero => rfl
    | succ j => cases hv
  subst hj
  cases hv
  unfold cellH
  rw [h1]
  simp only
  rw [show 0 + i * Sh.size (.int .i64) + 0 = i by simp [Sh.size]]
  exact h3 i x hi

/-- The numbers of a list that is read. -/
theorem shop_reads {ok : Bool → Nat → Prop} {W : World} {b off : Nat} {xs : List Int} (h : ∀ i x, xs[i]? = some x → ∃ l, l.length = Sh.size (.int .i64) ∧ Reads W.heap b (off + i * Sh.size (.int .i64)) l ∧ RC ok W.heap (.int .i64) x l) :
    ∀ i, i < xs.length → W.cell? ⟨b, off + i, none⟩ = some (.int .i64 (xs.getD i 0)) := fun i hi => by
  obtain ⟨l, q1, q2, q3⟩ := h i (xs.getD i 0) (by rw [List.getD_eq_getElem?_getD, List.getElem?_eq_getElem hi]; rfl)
  have q3 : l = [.int .i64 (xs.getD i 0)] := q3
  have := q2 0 (.int .i64 (xs.getD i 0)) (by rw [q3]; rfl)
  rw [show off + i * Sh.size (.int .i64) + 0 = off + i by simp [Sh.size]] at this
  rw [cell_eq]
  exact this

theorem routed_res {p : Nat → Prop} {W W' : World} {bs : List (Option Nat)} {y : (List Int × Int × Int) × Bool × Unit} {vs : List Value} {v : Value} (hs : W.heap.size ≤ W'.heap.size)
    (h : ResR (okRes p W.heap.size W'.heap bs) W.heap.size W'.heap [.val (.pair (.sl (.int .i64)) (.pair (.int .i64) (.int .i64))), .val .bool] y vs bs) (hv : Fw.valOf vs v) :
    ∃ A2 c2, v = .tuple #[.agg #[.slice A2 y.1.1.length c2, .int .i64 y.1.2.1, .int .i64 y.1.2.2], .bool y.2.1] ∧ (y.1.1 ≠ [] → ∃ B off, A2 = some ⟨B, off, none⟩ ∧ B < W'.heap.size ∧ ∀ i, i < y.1.1.length → W'.cell? ⟨B, off + i, none⟩ = some (.int .i64 (y.1.1.getD i 0))) := by
  match vs, bs, h with
  | [u1, u2], [], h =>
    obtain ⟨⟨⟨d1, d2, e1, r1, d3, d4, e2, r3, r4⟩, a1⟩, ⟨r5, a2⟩, _⟩ := h
    have h2 : u2 = .bool y.2.1 := shop_one r5 a2
    obtain ⟨A2, c2, e3, _, hc⟩ := r1
    have e4 : d3 = [.int .i64 y.1.2.1] := r3
    have e5 : d4 = [.int .i64 y.1.2.2] := r4
    have e6 : u1.cells.toList = [.slice A2 y.1.1.length c2, .int .i64 y.1.2.1, .int .i64 y.1.2.2] := by rw [e1, e2, e3, e4, e5]; rfl
    obtain ⟨ws, rfl⟩ := agg_cells a1
    have e7 : ws = #[.slice A2 y.1.1.length c2, .int .i64 y.1.2.1, .int .i64 y.1.2.2] := by
      apply Array.ext'
      exact e6
    have hv : v = .tuple #[.agg ws, u2] := hv
    refine ⟨A2, c2, by rw [hv, e7, h2], fun hne => ?_⟩
    obtain ⟨B, off, g1, g2, g3⟩ := hc hne
    refine ⟨B, off, g1, ?_, shop_reads g3⟩
    rcases g2.1 with ⟨k, _⟩ | ⟨_, k⟩ <;> omega
  | [], _, h => cases h
  | [_], _, h => exact h.2.elim
  | [_, _], _ :: _, h => exact h.2.2.elim
  | _ :: _ :: _ :: _, _, h => exact h.2.2.elim

theorem shop_int {ok : Bool → Nat → Prop} {B : Nat} {H : Array Obj} {y : Int × Unit} {vs : List Value} {bs : List (Option Nat)} {v : Value} (h : ResR ok B H [.val (.int .i64)] y vs bs) (hv : Fw.valOf vs v) : v = .int .i64 y.1 := by
  match vs, bs, h with
  | [u], [], h =>
    have hv : v = u := hv
    subst hv
    exact shop_one h.1.1 h.1.2
  | [], _, h => cases h
  | [_], _ :: _, h => exact h.2.elim
  | _ :: _ :: _, _, h => exact h.2.elim

theorem shop_bool {ok : Bool → Nat → Prop} {B : Nat} {H : Array Obj} {y : Bool × Unit} {vs : List Value} {bs : List (Option Nat)} {v : Value} (h : ResR ok B H [.val .bool] y vs bs) (hv : Fw.valOf vs v) : v = .bool y.1 := by
  match vs, bs, h with
  | [u], [], h =>
    have hv : v = u := hv
    subst hv
    exact shop_one h.1.1 h.1.2
  | [], _, h => cases h
  | [_], _ :: _, h => exact h.2.elim
  | _ :: _ :: _, _, h => exact h.2.elim

/-- A row of the call's own, handed back. -/
theorem shop_own {ok : Bool → Nat → Prop} {W : World} {B O n : Nat} {l : List Int} (hO : B ≤ O) (hl : l.length = n) (h : RowL W O n l) : OwnR ok B W.heap (.int .i64) l (.slice (some ⟨O, 0, none⟩) n n) (some O) := by
  obtain ⟨cs, te, k2, k3, k4⟩ := h
  refine ⟨hO, ⟨cs, te, k2, by simpa [Sh.size] using k3.1, fun i x hi => ⟨[.int .i64 x], rfl, fun j v hv => ?_, rfl⟩⟩, 0, n, by rw [hl], by rw [hl]; exact Nat.le_refl _, fun _ => rfl, fun n' hn' => ?_⟩
  · have hj : j = 0 := by
      cases j with
      | zero => rfl
      | succ j => cases hv
    subst hj
    cases hv
    unfold cellH
    rw [k2]
    simp only
    rw [show i * Sh.size (.int .i64) + 0 = i by simp [Sh.size]]
    exact k4 i x hi
  · unfold bsz at hn'
    rw [k2] at hn'
    cases hn'
    rw [k3.2]
    simp [Sh.size]

theorem shop_mono {p : Nat → Prop} {w W : World} (hp : ∀ b, p b → b < w.heap.size) (hb : Below w.heap.size w W) {s : Sh} {x : s.den} {cs : List Value} (h : RC (fun _ => p) w.heap s x cs) : RC (fun _ => p) W.heap s x cs :=
  RC.mono_ (fun i b h => ⟨h, fun o => by
    unfold cellH
    rw [hb.block b (hp b h)]⟩) h

theorem start_sound {fR : List Int → List Int → Int → Option ((List Int × Int × Int) × Bool × Unit)} {fW : List Int → Int → Int → Option (Bool × Unit)} {fM : List Int → Option (Int × Unit)}
    (hS : SoundC Try.prog 35 { ins := [.sl (.int .i64), .sl (.int .i64), .int .i64], outs := [.val (.pair (.sl (.int .i64)) (.pair (.int .i64) (.int .i64))), .val .bool], F := fun x => fR x.1 x.2.1 x.2.2.1 })
    (hW : SoundC Try.prog 36 { ins := [.sl (.int .i64), .int .i64, .int .i64], outs := [.val .bool], F := fun x => fW x.1 x.2.1 x.2.2.1 })
    (hM : SoundC Try.prog 31 { ins := [.sl (.int .i64)], outs := [.val (.int .i64)], F := fun x => fM x.1 }) :
    SoundC Try.prog 15 { ins := [.sl (.int .i64), .sl (.int .i64), .int .i64, .sl (.int .i64)], outs := [.own (.int .i64), .val (.int .i64), .val .bool], F := fun x => startF fR fW fM x.1 x.2.1 x.2.2.1 x.2.2.2.1 } := by
  rintro p w vals ⟨rt, xs, M, tu, _⟩ ⟨yl, yv, yb, _⟩ hp hA hF
  match vals, hA with
  | [v0, v1, v2, v3], hA =>
    obtain ⟨⟨h0, a0⟩, ⟨h1, a1⟩, ⟨h2, a2⟩, ⟨h3, a3⟩, _⟩ := hA
    have h2 : v2 = .int .i64 M := shop_one h2 a2
    subst h2
    obtain ⟨A0, c0, hc0, hcap0, hx0⟩ := h0
    obtain rfl : v0 = .slice A0 rt.length c0 := shop_one hc0 a0
    obtain ⟨A1, c1, hc1, hcap1, hx1⟩ := h1
    obtain rfl : v1 = .slice A1 xs.length c1 := shop_one hc1 a1
    obtain ⟨A3, c3, hc3, hcap3, hx3⟩ := h3
    obtain rfl : v3 = .slice A3 tu.length c3 := shop_one hc3 a3
    obtain ⟨r, hr, hF⟩ := Option.bind_eq_some_iff.1 hF
    obtain ⟨⟨ts, q0, m0⟩, ok, _⟩ := r
    have hSC : ∀ W, Below w.heap.size w W → Calls Try.prog 35 #[.slice A0 rt.length c0, .slice A1 xs.length c1, .int .i64 M] W fun e W' => Below W.heap.size W W' ∧ ∃ A2 c2, e = .returned (.tuple #[.agg #[.slice A2 ts.length c2, .int .i64 q0, .int .i64 m0], .bool ok]) ∧ (ts ≠ [] → ∃ B off, A2 = some ⟨B, off, none⟩ ∧ B < W'.heap.size ∧ ∀ i, i < ts.length → W'.cell? ⟨B, off + i, none⟩ = some (.int .i64 (ts.getD i 0))) := fun W hb => by
      have h := hS p W [.slice A0 rt.length c0, .slice A1 xs.length c1, .int .i64 M] (rt, xs, M, ()) ((ts, q0, m0), ok, ()) (fun b h => Nat.lt_of_lt_of_le (hp b h) hb.size)
        ⟨⟨shop_mono hp hb (show RC (fun _ => p) w.heap (.sl (.int .i64)) rt [.slice A0 rt.length c0] from ⟨A0, c0, rfl, hcap0, hx0⟩), rfl⟩, ⟨shop_mono hp hb (show RC (fun _ => p) w.heap (.sl (.int .i64)) xs [.slice A1 xs.length c1] from ⟨A1, c1, rfl, hcap1, hx1⟩), rfl⟩, ⟨rfl, rfl⟩, trivial⟩ hr
      have h := shop_calls Try.func35 rfl (by kernel_rfl) h
      refine h.mono ?_
      rintro e W' ⟨v, rfl, vs, bs, e1, e2, e3, e4⟩
      obtain ⟨A2, c2, hv, hc⟩ := routed_res e2.size e4 e1
      exact ⟨e2, A2, c2, by rw [hv], hc⟩
    unfold CallOk
    rw [enter_of Try.func15 rfl (by kernel_rfl)]
    refine ⟨rfl, ?_⟩
    cases ok with
    | false =>
      cases hF
      refine (start_false1 w fun W hb => (hSC W hb).mono ?_).mono ?_
      · rintro e W' ⟨h1, A2, c2, h2, _⟩
        exact ⟨h1, A2, _, c2, q0, m0, h2⟩
      · rintro e W' ⟨hb, rfl⟩
        exact ⟨_, rfl, [.slice none 0 0, .int .i64 0, .bool false], [none], rfl, hb, by simp [Dist], ⟨rfl, rfl⟩, ⟨rfl, rfl⟩, ⟨rfl, rfl⟩, trivial⟩
    | true =>
      obtain ⟨hc, hF⟩ := cond_some hF
      simp only [Bool.and_eq_true, decide_eq_true_eq] at hc
      obtain ⟨g0, g1, g2, g3, g4, g5, g6, g7⟩ := hc
      subst g0
      subst g1
      by_cases hl : tu.length = ts.length
      · simp only [decide_eq_true hl, cond_true] at hF
        obtain ⟨a, ha, hF⟩ := Option.bind_eq_some_iff.1 hF
        obtain ⟨ab, _⟩ := a
        have hAC : ∀ W, Below w.heap.size w W → Calls Try.prog 36 #[.slice A3 tu.length c3, .int .i64 0, .int .i64 (q0 - 1)] W fun e W' => Below W.heap.size W W' ∧ e = .returned (.bool ab) := fun W hb => by
          have h := hW p W [.slice A3 tu.length c3, .int .i64 0, .int .i64 (q0 - 1)] (tu, 0, q0 - 1, ()) (ab, ()) (fun b h => Nat.lt_of_lt_of_le (hp b h) hb.size)
            ⟨⟨shop_mono hp hb (show RC (fun _ => p) w.heap (.sl (.int .i64)) tu [.slice A3 tu.length c3] from ⟨A3, c3, rfl, hcap3, hx3⟩), rfl⟩, ⟨rfl, rfl⟩, ⟨rfl, rfl⟩, trivial⟩ ha
          have h := shop_calls Try.func36 rfl (by kernel_rfl) h
          refine h.mono ?_
          rintro e W' ⟨v, rfl, vs, bs, e1, e2, e3, e4⟩
          exact ⟨e2, by rw [shop_bool e4 e1]⟩
        cases ab with
        | false =>
          cases hF
          rw [hl] at hAC ⊢
          refine (start_false3 (m := m0) w ⟨g4, g5⟩ (fun W hb => ?_) hAC).mono ?_
          · refine (hSC W hb).mono ?_
            rintro e W' ⟨h1, A2, c2, h2, _⟩
            exact ⟨h1, A2, _, c2, h2⟩
          · rintro e W' ⟨hb, rfl⟩
            exact ⟨_, rfl, [.slice none 0 0, .int .i64 0, .bool false], [none], rfl, hb, by simp [Dist], ⟨rfl, rfl⟩, ⟨rfl, rfl⟩, ⟨rfl, rfl⟩, trivial⟩
        | true =>
          simp only [cond_true] at hF
          obtain ⟨hok, hF⟩ := cond_some hF
          obtain ⟨m, rfl⟩ : ∃ m : Nat, m0 = (m : Int) := ⟨m0.toNat, by omega⟩
          obtain ⟨q, rfl⟩ : ∃ q : Nat, q0 = (q : Int) := ⟨q0.toNat, by omega⟩
          simp only [Int.toNat_natCast] at hok hF
          have hqm : q * m = ts.length := by
            have := g6
            rw [← Int.natCast_mul] at this
            omega
          have hlen : 1 ≤ ts.length := by
            rw [← hqm]
            exact Nat.mul_le_mul (by omega : 1 ≤ q) (by omega : 1 ≤ m)
          have hne : ∀ {l : List Int}, l.length = ts.length → l ≠ [] := fun h e => by
            rw [e] at h
            simp at h
            omega
          obtain ⟨B0, o0, rfl, hp0, hel0⟩ := hx0 (hne g7)
          obtain ⟨B1, o1, rfl, hp1, hel1⟩ := hx1 (hne rfl)
          obtain ⟨B3, o3, rfl, hp3, hel3⟩ := hx3 (hne hl)
          obtain ⟨l1, l2, l3, l4⟩ := shopT_len (m := m) (q := q) (rt := rt) (xs := ts) (tu := tu) ts.length
          have hrd := shop_reads hel0
          have hud := shop_reads hel3
          rw [g7] at hrd hSC ⊢
          rw [hl] at hud hAC ⊢
          have hmv : ∃ mx : Int, (∀ t, t < ts.length → ((shopT m q rt ts tu t).1.1.getD (tu.getD t 0).toNat 0 == (m : Int)) = false) → fM (shopT m q rt ts tu ts.length).1.2.2 = some (mx, ()) ∧ (yl, yv, yb, ()) = ((shopT m q rt ts tu ts.length).2, mx, true, ()) := by
            by_cases hall : ∀ t, t < ts.length → ((shopT m q rt ts tu t).1.1.getD (tu.getD t 0).toNat 0 == (m : Int)) = false
            · rw [show (List.range ts.length).all (fun t => !((shopT m q rt ts tu t).1.1.getD (tu.getD t 0).toNat 0 == (m : Int))) = true from List.all_eq_true.2 fun t ht => by rw [hall t (List.mem_range.1 ht)]; rfl] at hF
              obtain ⟨vm, hvm, hF⟩ := Option.bind_eq_some_iff.1 hF
              cases hF
              exact ⟨vm.1, fun _ => ⟨hvm, rfl⟩⟩
            · exact ⟨0, fun h => absurd h hall⟩
          obtain ⟨mx, hmx⟩ := hmv
          have hcall := start_any (rt := rt) (xs := ts) (tu := tu) (q := q) (m := m) (XB := B1) (xo := o1) (xc := c1) (RB := B0) (roff := o0) (rc := c0) (UB := B3) (uo := o3) (uc := c3) ⟨by omega, by omega⟩ ⟨by omega, by omega⟩ hqm g7 hl w (hp B0 hp0) (hp B3 hp3) (mx := mx) hrd hud
            (fun t ht => List.all_eq_true.1 hok t (List.mem_range.2 ht))
            (fun W hb => (hSC W hb).mono (by
              rintro e W' ⟨h1, A2, c2, rfl, h3⟩
              obtain ⟨B, off, rfl, h4, h5⟩ := h3 (hne rfl)
              exact ⟨h1, B, off, c2, rfl, h4, h5⟩))
            hAC
            (fun hall W FB hb hrow => by
              have h := hM (fun b => b = FB) W [.slice (some ⟨FB, 0, none⟩) m m] ((shopT m q rt ts tu ts.length).1.2.2, ()) (mx, ()) (fun b h => by rw [h]; exact hrow.lt) ⟨shop_arg l3 (Nat.le_refl _) rfl hrow, trivial⟩ (hmx hall).1
              have h := shop_calls Try.func31 rfl (by kernel_rfl) h
              refine h.mono ?_
              rintro e W' ⟨v, rfl, vs, bs, e1, e2, e3, e4⟩
              exact ⟨e2, by rw [shop_int e4 e1]⟩)
          refine hcall.mono ?_
          rintro e W' ⟨hb, ⟨hall, O, rfl, hO, hrow⟩ | ⟨⟨t, ht, hst⟩, rfl⟩⟩
          · have hy := (hmx hall).2
            cases hy
            exact ⟨_, rfl, [.slice (some ⟨O, 0, none⟩) ts.length ts.length, .int .i64 yv, .bool true], [some O], rfl, hb, by simp [Dist], shop_own hO l4 hrow, ⟨rfl, rfl⟩, ⟨rfl, rfl⟩, trivial⟩
          · rw [show (List.range ts.length).all (fun t => !((shopT m q rt ts tu t).1.1.getD (tu.getD t 0).toNat 0 == (m : Int))) = false by
              rw [Bool.eq_false_iff]
              intro h
              have := List.all_eq_true.1 h t (List.mem_range.2 ht)
              rw [hst] at this
              cases this] at hF
            cases hF
            exact ⟨_, rfl, [.slice none 0 0, .int .i64 0, .bool false], [none], rfl, hb, by simp [Dist], ⟨rfl, rfl⟩, ⟨rfl, rfl⟩, ⟨rfl, rfl⟩, trivial⟩
      · simp only [decide_eq_false hl, cond_false] at hF
        cases hF
        refine (start_false2 w hl fun W hb => (hSC W hb).mono ?_).mono ?_
        · rintro e W' ⟨h1, A2, c2, h2, _⟩
          exact ⟨h1, A2, _, c2, q0, m0, h2⟩
        · rintro e W' ⟨hb, rfl⟩
          exact ⟨_, rfl, [.slice none 0 0, .int .i64 0, .bool false], [none], rfl, hb, by simp [Dist], ⟨rfl, rfl⟩, ⟨rfl, rfl⟩, ⟨rfl, rfl⟩, trivial⟩

end Go.Proofs.Ytgcmklniacjcfaa
