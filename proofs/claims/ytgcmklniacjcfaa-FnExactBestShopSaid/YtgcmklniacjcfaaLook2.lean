/-
  spec.BestShop: its contract. No condition.
-/
import Derived.Test.YtgcmklniacjcfaaLook1
namespace Go.Proofs.Ytgcmklniacjcfaa
open Go Go.RowKit Go.Proofs.Ytgcmklniacjcfaa.Fw
set_option maxRecDepth 100000
set_option linter.unusedVariables false
set_option linter.unusedSimpArgs false

/-- No shop. -/
theorem look_false1 {A0 A1 : Option Addr} {n0 c0 n1 c1 : Nat} {M : Int} (w : World) (hS : ∀ W, Below w.heap.size w W → Calls Try.prog 32 #[.slice A0 n0 c0, .slice A1 n1 c1, .int .i64 M] W fun e W' => Below W.heap.size W W' ∧ e = .returned (.bool false)) :
    Calls Try.prog 16 #[.slice A0 n0 c0, .slice A1 n1 c1, .int .i64 M] w fun e W' => Below w.heap.size w W' ∧ e = .returned (.tuple #[.slice none 0 0, .int .i64 0, .bool false]) := by
  go_enter Try.func16, Try.ntmps16
  go_wp2_with (go_at_call 32; refine (hS _ (Below.refl _ _)).mono ?_; rintro e W1 ⟨hb1, rfl⟩)
  go_ret3
  exact ⟨hb1, rfl⟩

/-- Too many steps. -/
theorem look_false2 {A0 A1 : Option Addr} {n0 c0 n1 c1 : Nat} {M : Int} (w : World) (hn : 8 < n1) (hS : ∀ W, Below w.heap.size w W → Calls Try.prog 32 #[.slice A0 n0 c0, .slice A1 n1 c1, .int .i64 M] W fun e W' => Below W.heap.size W W' ∧ e = .returned (.bool true)) :
    Calls Try.prog 16 #[.slice A0 n0 c0, .slice A1 n1 c1, .int .i64 M] w fun e W' => Below w.heap.size w W' ∧ e = .returned (.tuple #[.slice none 0 0, .int .i64 0, .bool false]) := by
  have h8 : decide ((n1 : Int) > 8) = true := by simp; omega
  go_enter Try.func16, Try.ntmps16
  go_wp2_with (go_at_call 32; refine (hS _ (Below.refl _ _)).mono ?_; rintro e W1 ⟨hb1, rfl⟩)
  go_ret3
  exact ⟨hb1, rfl⟩

set_option maxHeartbeats 16000000 in
theorem look_top {fT : List Int → Option (List Int × Int × Unit)} {w : World} {A0 A1 : Option Addr} {n0 c0 n1 c1 q : Nat} {M : Int} (hT : TurnC w A0 n0 c0 A1 n1 c1 M fT) (hn1 : 1 ≤ n1) (hn8 : n1 ≤ 8) (hq : q ≤ 24) (hM : 0 ≤ M ∧ M ≤ 8) {a' : List Int × Int}
    (hr : lookP fT q n1 (List.replicate q M) [] ([], 0) = some a')
    (hS : ∀ W, Below w.heap.size w W → Calls Try.prog 32 #[.slice A0 n0 c0, .slice A1 n1 c1, .int .i64 M] W fun e W' => Below W.heap.size W W' ∧ e = .returned (.bool true))
    (hC : ∀ W, Below w.heap.size w W → Calls Try.prog 27 #[.slice A1 n1 c1, .int .i64 M] W fun e W' => Below W.heap.size W W' ∧ e = .returned (.int .i64 (q : Int))) :
    Calls Try.prog 16 #[.slice A0 n0 c0, .slice A1 n1 c1, .int .i64 M] w fun e W' => Below w.heap.size w W' ∧ ∃ D dc dz, e = .returned (.tuple #[.slice (some ⟨D, 0, none⟩) a'.1.length dc, .int .i64 a'.2, .bool true]) ∧ w.heap.size ≤ D ∧ RowL W' D dz a'.1 ∧ a'.1.length ≤ dc ∧ dc ≤ dz := by
  have h8 : decide ((n1 : Int) > 8) = false := by simp; omega
  go_enter Try.func16, Try.ntmps16
  go_wp2_with (go_at_call 32; refine (hS _ (Below.refl _ _)).mono ?_; rintro e W1 ⟨hb1, rfl⟩)
  have hs1 := hb1.size
  clear hS
  go_loopw [9, 10] (fun s9 i wr => ∃ k : Nat, k ≤ q ∧ i = .int .i64 (k : Int) ∧ ∃ (L lc lz : Nat), s9 = .slice (some ⟨L, 0, none⟩) k lc ∧ RowL wr L lz (List.replicate k M) ∧ k ≤ lc ∧ lc ≤ lz ∧ w.heap.size ≤ L ∧ Below w.heap.size w wr) (fun _ i _ => q - (intOf i).toNat)
  case atStart => exact ⟨0, Nat.zero_le _, rfl, W1.heap.size, 0, 0, rfl, ⟨#[], 2, perm_new rfl _, ⟨Nat.le_refl _, rfl⟩, fun i x hi => by cases hi⟩, Nat.le_refl _, Nat.le_refl _, hs1, hb1.alloc hs1 _⟩
  case round =>
    obtain ⟨k, hk, rfl, L, lc, lz, rfl, hL, hlc, hlz, hLw, hbk⟩ := hrel
    by_cases hlt : k < q
    · go_wp2_with (first
        | (go_at_call 27; refine (hC _ hbk).mono ?_; rintro e W2 ⟨hb2, rfl⟩
           obtain ⟨L3, lc3, lz3, W3, happ, hR, hR1, hR2, hR3, hC3⟩ := app_one (W := W2.alloc (.cells #[.int .i64 M] 2)) (X := W2.heap.size) (xc := 1) (v := M) ((hL.bel hb2).alloc _) (by rw [List.length_replicate]; exact hlc) hlz (by rw [List.length_replicate]; omega) (perm_cell (i := 0) (perm_new rfl _))
           simp only [List.length_replicate] at happ hR1)
        | (at_builtin; refine Lib.wpList_append_run _ rfl _ _ _ _ rfl _ _ rfl rfl _ _ happ ?_))
      have hs2 := hb2.size
      have hsk := hbk.size
      have hs3 : W2.heap.size + 1 ≤ W3.heap.size := by simpa using hC3.size
      have hL3 : w.heap.size ≤ L3 := by
        rcases hR3 with h | h
        · omega
        · have : W2.heap.size + 1 ≤ L3 := by simpa using h
          omega
      rw [show List.replicate k M ++ [M] = List.replicate (k + 1) M from (List.replicate_succ' (n := k) (a := M)).symm] at hR
      refine ⟨⟨k + 1, hlt, by simp, L3, lc3, lz3, rfl, hR, hR1, hR2, hL3, ?_⟩, by simp [intOf]; omega⟩
      have h2 := (hbk.trans (hb2.mono hbk.size)).alloc (by omega) (.cells #[.int .i64 M] 2)
      exact h2.trans (hC3.below (by rintro z hz rfl; omega) h2.size)
    · obtain rfl : k = q := by omega
      go_wp2_with (first
        | (go_at_call 27; refine (hC _ hbk).mono ?_; rintro e W2 ⟨hb2, rfl⟩
           have hlook := look_any hT hn8 hq n1 (List.replicate k M) [] ([], 0) a' L lc lz W2.heap.size 0 0 (W2.heap.size + 1) 0 0 ((W2.alloc (.cells #[] 2)).alloc (.cells #[] 2)) (by simp) (by simp) hlc (((hL.bel hb2).alloc _).alloc _) (Nat.le_refl _) ⟨#[], 2, perm_alloc (perm_new rfl _) _, ⟨Nat.le_refl _, rfl⟩, fun i x hi => by cases hi⟩ ⟨Nat.le_refl _, Nat.le_refl _⟩ ⟨#[], 2, perm_new (by simp) _, ⟨Nat.le_refl _, rfl⟩, fun i x hi => by cases hi⟩
             ⟨by have := (hL.bel hb2).ltE; omega, by have := (hL.bel hb2).ltE; omega, hLw⟩ (((hbk.trans (hb2.mono hbk.size)).alloc (by have := hbk.size; have := hb2.size; omega) _).alloc (by have := hbk.size; have := hb2.size; simp; omega) _) hr
           simp only [List.length_nil] at hlook)
        | (go_at_call 39; refine hlook.mono ?_; rintro e W7 ⟨D7, dc7, dz7, rfl, hC7, hL7, hd71, hd72, hD7, hDn7⟩))
      go_ret3
      have hs2 := hb2.size
      have hsk := hbk.size
      have h2 := (((hbk.trans (hb2.mono hbk.size)).alloc (by omega) (.cells #[] 2)).alloc (by simp; omega) (.cells #[] 2))
      refine ⟨h2.trans (hC7.below (by rintro z hz rfl; omega) h2.size), D7, dc7, dz7, rfl, ?_, hD7, hd71, hd72⟩
      rcases hDn7 with h | h
      · omega
      · have : W2.heap.size + 1 + 1 ≤ D7 := by simpa using h
        omega

theorem turnC_of {p : Nat → Prop} {w : World} {A0 A1 : Option Addr} {c0 c1 : Nat} {rt xs : List Int} {M : Int} {fT : List Int → List Int → Int → List Int → Option (List Int × Int × Unit)} (hp : ∀ b, p b → b < w.heap.size)
    (h0 : RC (fun _ => p) w.heap (.sl (.int .i64)) rt [.slice A0 rt.length c0]) (h1 : RC (fun _ => p) w.heap (.sl (.int .i64)) xs [.slice A1 xs.length c1])
    (hT : SoundC Try.prog 34 { ins := [.sl (.int .i64), .sl (.int .i64), .int .i64, .sl (.int .i64)], outs := [.own (.int .i64), .val (.int .i64)], F := fun x => fT x.1 x.2.1 x.2.2.1 x.2.2.2.1 }) : TurnC w A0 rt.length c0 A1 xs.length c1 M (fT rt xs M) := by
  intro W T tz tc tu v hb hv hrow htc
  obtain ⟨o, last, _⟩ := v
  have hm : ∀ {s : Sh} {x : s.den} {cs : List Value}, RC (fun _ => p) w.heap s x cs → RC (fun _ b => p b ∨ b = T) W.heap s x cs := fun h => RC.mono_ (fun i b h => ⟨.inl h, fun o => by
    unfold cellH
    rw [hb.block b (hp b h)]⟩) h
  have h := hT (fun b => p b ∨ b = T) W [.slice A0 rt.length c0, .slice A1 xs.length c1, .int .i64 M, .slice (some ⟨T, 0, none⟩) tu.length tc] (rt, xs, M, tu, ()) (o, last, ()) (fun b h => by
      rcases h with h | rfl
      · exact Nat.lt_of_lt_of_le (hp b h) hb.size
      · exact hrow.ltE) ⟨⟨hm h0, rfl⟩, ⟨hm h1, rfl⟩, ⟨rfl, rfl⟩, shop_arg (p := fun b => p b ∨ b = T) rfl htc (.inr rfl) hrow, trivial⟩ hv
  have h := shop_calls Try.func34 rfl (by kernel_rfl) h
  refine h.mono ?_
  rintro e W' ⟨v, rfl, vs, bs, e1, e2, e3, e4⟩
  refine ⟨e2, ?_⟩
  match vs, bs, e4 with
  | [u1, u2], [none], e4 =>
    obtain ⟨q1, _⟩ := e4.1
    have q2 : u2 = .int .i64 last := shop_one e4.2.1.1 e4.2.1.2
    have hv : v = .tuple #[u1, u2] := e1
    exact ⟨_, _, _, by rw [hv, q1, q2]⟩
  | [u1, u2], [some O], e4 =>
    obtain ⟨_, _, o', c', q1, _⟩ := e4.1
    have q2 : u2 = .int .i64 last := shop_one e4.2.1.1 e4.2.1.2
    have hv : v = .tuple #[u1, u2] := e1
    exact ⟨_, _, _, by rw [hv, q1, q2]⟩
  | [], _, e4 => cases e4
  | _ :: _, [], e4 => exact e4.elim
  | [_], _ :: _, e4 => exact e4.2.elim
  | [_, _], _ :: _ :: _, e4 => exact e4.2.2.elim
  | _ :: _ :: _ :: _, _ :: _, e4 => exact e4.2.2.elim

theorem look_sound {fS : List Int → List Int → Int → Option (Bool × Unit)} {fC : List Int → Int → Option (Int × Unit)} {fT : List Int → List Int → Int → List Int → Option (List Int × Int × Unit)}
    (hS : SoundC Try.prog 32 { ins := [.sl (.int .i64), .sl (.int .i64), .int .i64], outs := [.val .bool], F := fun x => fS x.1 x.2.1 x.2.2.1 })
    (hC : SoundC Try.prog 27 { ins := [.sl (.int .i64), .int .i64], outs := [.val (.int .i64)], F := fun x => fC x.1 x.2.1 })
    (hT : SoundC Try.prog 34 { ins := [.sl (.int .i64), .sl (.int .i64), .int .i64, .sl (.int .i64)], outs := [.own (.int .i64), .val (.int .i64)], F := fun x => fT x.1 x.2.1 x.2.2.1 x.2.2.2.1 }) :
    SoundC Try.prog 16 { ins := [.sl (.int .i64), .sl (.int .i64), .int .i64], outs := [.own (.int .i64), .val (.int .i64), .val .bool], F := fun x => lookF fS fC fT x.1 x.2.1 x.2.2.1 } := by
  rintro p w vals ⟨rt, xs, M, _⟩ ⟨yl, yv, yb, _⟩ hp hA hF
  match vals, hA with
  | [v0, v1, v2], hA =>
    obtain ⟨⟨h0, a0⟩, ⟨h1, a1⟩, ⟨h2, a2⟩, _⟩ := hA
    have h2 : v2 = .int .i64 M := shop_one h2 a2
    subst h2
    obtain ⟨A0, c0, hc0, hcap0, hx0⟩ := h0
    obtain rfl : v0 = .slice A0 rt.length c0 := shop_one hc0 a0
    obtain ⟨A1, c1, hc1, hcap1, hx1⟩ := h1
    obtain rfl : v1 = .slice A1 xs.length c1 := shop_one hc1 a1
    have g0 : RC (fun _ => p) w.heap (.sl (.int .i64)) rt [.slice A0 rt.length c0] := ⟨A0, c0, rfl, hcap0, hx0⟩
    have g1 : RC (fun _ => p) w.heap (.sl (.int .i64)) xs [.slice A1 xs.length c1] := ⟨A1, c1, rfl, hcap1, hx1⟩
    obtain ⟨⟨ok, _⟩, hr, hF⟩ := Option.bind_eq_some_iff.1 hF
    have hSC : ∀ W, Below w.heap.size w W → Calls Try.prog 32 #[.slice A0 rt.length c0, .slice A1 xs.length c1, .int .i64 M] W fun e W' => Below W.heap.size W W' ∧ e = .returned (.bool ok) := fun W hb => by
      have h := hS p W [.slice A0 rt.length c0, .slice A1 xs.length c1, .int .i64 M] (rt, xs, M, ()) (ok, ()) (fun b h => Nat.lt_of_lt_of_le (hp b h) hb.size) ⟨⟨shop_mono hp hb g0, rfl⟩, ⟨shop_mono hp hb g1, rfl⟩, ⟨rfl, rfl⟩, trivial⟩ hr
      have h := shop_calls Try.func32 rfl (by kernel_rfl) h
      refine h.mono ?_
      rintro e W' ⟨v, rfl, vs, bs, e1, e2, e3, e4⟩
      exact ⟨e2, by rw [shop_bool e4 e1]⟩
    unfold CallOk
    rw [enter_of Try.func16 rfl (by kernel_rfl)]
    refine ⟨rfl, ?_⟩
    cases ok with
    | false =>
      cases hF
      refine (look_false1 w hSC).mono ?_
      rintro e W' ⟨hb, rfl⟩
      exact ⟨_, rfl, [.slice none 0 0, .int .i64 0, .bool false], [none], rfl, hb, by simp [Dist], ⟨rfl, rfl⟩, ⟨rfl, rfl⟩, ⟨rfl, rfl⟩, trivial⟩
    | true =>
      by_cases hl : 8 < xs.length
      · simp only [cond_true, decide_eq_true hl] at hF
        cases hF
        refine (look_false2 w hl hSC).mono ?_
        rintro e W' ⟨hb, rfl⟩
        exact ⟨_, rfl, [.slice none 0 0, .int .i64 0, .bool false], [none], rfl, hb, by simp [Dist], ⟨rfl, rfl⟩, ⟨rfl, rfl⟩, ⟨rfl, rfl⟩, trivial⟩
      · simp only [cond_true, decide_eq_false hl, cond_false] at hF
        obtain ⟨⟨q0, _⟩, hq, hF⟩ := Option.bind_eq_some_iff.1 hF
        obtain ⟨hc, hF⟩ := cond_some hF
        simp only [Bool.and_eq_true, decide_eq_true_eq] at hc
        obtain ⟨k1, k2, k3, k4, k5⟩ := hc
        obtain ⟨a', ha, hG⟩ := Option.bind_eq_some_iff.1 hF
        clear hF
        obtain ⟨q, rfl⟩ : ∃ q : Nat, q0 = (q : Int) := ⟨q0.toNat, by omega⟩
        simp only [Int.toNat_natCast] at ha
        have hCC : ∀ W, Below w.heap.size w W → Calls Try.prog 27 #[.slice A1 xs.length c1, .int .i64 M] W fun e W' => Below W.heap.size W W' ∧ e = .returned (.int .i64 (q : Int)) := fun W hb => by
          have h := hC p W [.slice A1 xs.length c1, .int .i64 M] (xs, M, ()) ((q : Int), ()) (fun b h => Nat.lt_of_lt_of_le (hp b h) hb.size) ⟨⟨shop_mono hp hb g1, rfl⟩, ⟨rfl, rfl⟩, trivial⟩ hq
          have h := shop_calls Try.func27 rfl (by kernel_rfl) h
          refine h.mono ?_
          rintro e W' ⟨v, rfl, vs, bs, e1, e2, e3, e4⟩
          exact ⟨e2, by rw [shop_int e4 e1]⟩
        refine (look_top (turnC_of hp g0 g1 hT) k3 (by omega) (by omega) ⟨k4, k5⟩ ha hSC hCC).mono ?_
        rintro e W' ⟨hb, D, dc, dz, rfl, hD, hrow, hcap, hcz⟩
        cases hG
        exact ⟨_, rfl, [.slice (some ⟨D, 0, none⟩) a'.1.length dc, .int .i64 a'.2, .bool true], [some D], rfl, hb, by simp [Dist], row_own hD hrow hcap hcz, ⟨rfl, rfl⟩, ⟨rfl, rfl⟩, trivial⟩

end Go.Proofs.Ytgcmklniacjcfaa
