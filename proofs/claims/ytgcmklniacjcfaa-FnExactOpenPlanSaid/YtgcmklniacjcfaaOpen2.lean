/-
  impl.OpenPlan: its contract. No condition.
-/
import Derived.Test.YtgcmklniacjcfaaOpen1
namespace Go.Proofs.Ytgcmklniacjcfaa
open Go Go.RowKit Go.Proofs.Ytgcmklniacjcfaa.Fw
set_option maxRecDepth 100000
set_option linter.unusedVariables false
set_option linter.unusedSimpArgs false

theorem open_calls {f : FuncId} {fn : Func} {code : Code} {vals : List Value} {w : World} {R : Value → World → Prop} (hf : Try.prog.funcs[f]? = some fn) (hb : fn.body = some code) (hname : (fn.name == "runtime.NumGoroutine") = false)
    (h : CallOk Try.prog f vals.toArray w R) : Calls Try.prog f vals.toArray w fun e w' => ∃ v, e = .returned v ∧ R v w' := by
  unfold CallOk at h
  rw [enter_of hf hb hname] at h
  exact h.2

theorem open_one {v u : Value} (h : v.cells.toList = [u]) (ha : aggV v = false) : v = u := by
  rw [cells_one ha] at h
  cases h
  rfl

/-- A row as an argument. -/
theorem row_arg {W : World} {b z n c : Nat} {l : List Int} (hl : l.length = n) (hc : n ≤ c) {p : Nat → Prop} (hp : p b) (h : RowL W b z l) :
    RC (fun _ => p) W.heap (.sl (.int .i64)) l (Value.slice (some ⟨b, 0, none⟩) n c).cells.toList ∧ aggV (Value.slice (some ⟨b, 0, none⟩) n c) = Sh.isAgg (.sl (.int .i64)) := by
  obtain ⟨cs, e, h1, h2, h3⟩ := h
  refine ⟨⟨some ⟨b, 0, none⟩, c, by rw [hl]; rfl, by omega, fun _ => ⟨b, 0, rfl, hp, fun i x hi => ⟨[.int .i64 x], rfl, fun j v hv => ?_, rfl⟩⟩⟩, rfl⟩
  have hj : j = 0 := by
    cases j with
    | zero => rfl
    | succ j => cases hv
  subst hj
  cases hv
  unfold cellH
  rw [h1]
  simp only
  rw [show 0 + i * Sh.size (.int .i64) + 0 = i by simp [Sh.size]]
  exact h3 i x hi

/-- No shop. -/
theorem open_false {A : Option Addr} {n cap : Nat} {M : Int} (w : World) (hS : ∀ W, Below w.heap.size w W → Calls Try.prog 29 #[.slice A n cap, .int .i64 M] W fun e W' => Below W.heap.size W W' ∧ ∃ A2 n2 c2 q m, e = .returned (.tuple #[.agg #[.slice A2 n2 c2, .int .i64 q, .int .i64 m], .bool false])) :
    Calls Try.prog 10 #[.slice A n cap, .int .i64 M] w fun e W' => Below w.heap.size w W' ∧ e = .returned (.tuple #[.slice none 0 0, .int .i64 0, .bool false]) := by
  go_enter Try.func10, Try.ntmps10
  go_wp2_with (go_at_call 29; refine (hS _ (Below.refl _ _)).mono ?_; rintro e W1 ⟨hb1, A2, n2, c2, q, m, rfl⟩)
  go_ret3
  exact ⟨hb1.alloc hb1.size _, rfl⟩

theorem asShop_res {ok : Bool → Nat → Prop} {B : Nat} {H : Array Obj} {y : (List Int × Int × Int) × Bool × Unit} {vs : List Value} {bs : List (Option Nat)} {v : Value}
    (h : ResR ok B H [.val (.pair (.sl (.int .i64)) (.pair (.int .i64) (.int .i64))), .val .bool] y vs bs) (hv : Fw.valOf vs v) :
    ∃ A2 n2 c2, v = .tuple #[.agg #[.slice A2 n2 c2, .int .i64 y.1.2.1, .int .i64 y.1.2.2], .bool y.2.1] := by
  match vs, bs, h with
  | [u1, u2], [], h =>
    obtain ⟨⟨⟨d1, d2, e1, r1, d3, d4, e2, r3, r4⟩, a1⟩, ⟨r5, a2⟩, _⟩ := h
    have h2 : u2 = .bool y.2.1 := open_one r5 a2
    obtain ⟨A2, c2, e3, _⟩ := r1
    have e4 : d3 = [.int .i64 y.1.2.1] := r3
    have e5 : d4 = [.int .i64 y.1.2.2] := r4
    have e6 : u1.cells.toList = [.slice A2 y.1.1.length c2, .int .i64 y.1.2.1, .int .i64 y.1.2.2] := by rw [e1, e2, e3, e4, e5]; rfl
    obtain ⟨ws, rfl⟩ := agg_cells a1
    have e7 : ws = #[.slice A2 y.1.1.length c2, .int .i64 y.1.2.1, .int .i64 y.1.2.2] := by
      apply Array.ext'
      exact e6
    have hv : v = .tuple #[.agg ws, u2] := hv
    exact ⟨A2, _, c2, by rw [hv, e7, h2]⟩
  | [], _, h => cases h
  | [_], _, h => exact h.2.elim
  | [_, _], _ :: _, h => exact h.2.2.elim
  | _ :: _ :: _ :: _, _, h => exact h.2.2.elim

theorem open_sound {fS : List Int → Int → Option ((List Int × Int × Int) × Bool × Unit)} {fN : Int → Option (List Int × Unit)} {fM : List Int → Option (Int × Unit)}
    (hS : SoundC Try.prog 29 { ins := [.sl (.int .i64), .int .i64], outs := [.val (.pair (.sl (.int .i64)) (.pair (.int .i64) (.int .i64))), .val .bool], F := fun x => fS x.1 x.2.1 })
    (hN : SoundC Try.prog 30 { ins := [.int .i64], outs := [.own (.int .i64)], F := fun x => fN x.1 })
    (hM : SoundC Try.prog 31 { ins := [.sl (.int .i64)], outs := [.val (.int .i64)], F := fun x => fM x.1 }) :
    SoundC Try.prog 10 { ins := [.sl (.int .i64), .int .i64], outs := [.own (.int .i64), .val (.int .i64), .val .bool], F := fun x => openF fS fN fM x.1 x.2.1 } := by
  rintro p w vals ⟨xs, M, _⟩ ⟨yl, yv, yb, _⟩ hp hA hF
  match vals, hA with
  | [v0, v1], hA =>
    obtain ⟨⟨h0, a0⟩, ⟨h1, a1⟩, _⟩ := hA
    have h1 : v1 = .int .i64 M := open_one h1 a1
    subst h1
    obtain ⟨A, cap, hc0, hcap, hx⟩ := h0
    have h0' : v0 = .slice A xs.length cap := open_one hc0 a0
    subst h0'
    obtain ⟨r, hr, hF⟩ := Option.bind_eq_some_iff.1 hF
    obtain ⟨⟨ts, q0, m0⟩, ok, _⟩ := r
    have hSC : ∀ W, Below w.heap.size w W → Calls Try.prog 29 #[.slice A xs.length cap, .int .i64 M] W fun e W' => Below W.heap.size W W' ∧ ∃ A2 n2 c2, e = .returned (.tuple #[.agg #[.slice A2 n2 c2, .int .i64 q0, .int .i64 m0], .bool ok]) := fun W hb => by
      have h := hS p W [.slice A xs.length cap, .int .i64 M] (xs, M, ()) ((ts, q0, m0), ok, ()) (fun b h => Nat.lt_of_lt_of_le (hp b h) hb.size)
        ⟨⟨RC.mono_ (fun i b h => ⟨h, fun o => by
          unfold cellH
          rw [hb.block b (hp b h)]⟩) (show RC (fun _ => p) w.heap (.sl (.int .i64)) xs [.slice A xs.length cap] from ⟨A, cap, rfl, hcap, hx⟩), rfl⟩, ⟨rfl, rfl⟩, trivial⟩ hr
      have h := open_calls Try.func29 rfl (by kernel_rfl) h
      refine h.mono ?_
      rintro e W' ⟨v, rfl, vs, bs, e1, e2, e3, e4⟩
      obtain ⟨A2, n2, c2, hv⟩ := asShop_res e4 e1
      exact ⟨e2, A2, n2, c2, by rw [hv]⟩
    unfold CallOk
    rw [enter_of Try.func10 rfl (by kernel_rfl)]
    refine ⟨rfl, ?_⟩
    cases ok with
    | false =>
      cases hF
      refine (open_false w fun W hb => (hSC W hb).mono ?_).mono ?_
      · rintro e W' ⟨h1, A2, n2, c2, h2⟩
        exact ⟨h1, A2, n2, c2, q0, m0, h2⟩
      · rintro e W' ⟨hb, rfl⟩
        exact ⟨_, rfl, [.slice none 0 0, .int .i64 0, .bool false], [none], rfl, hb, by simp [Dist], ⟨rfl, rfl⟩, ⟨rfl, rfl⟩, ⟨rfl, rfl⟩, trivial⟩
    | true =>
      obtain ⟨hc, hF⟩ := cond_some hF
      simp only [Bool.and_eq_true, decide_eq_true_eq] at hc
      obtain ⟨g1, g2, g3, g4, g5, g6, g7⟩ := hc
      subst g1
      obtain ⟨o, ho, hF⟩ := Option.bind_eq_some_iff.1 hF
      obtain ⟨hoe, hF⟩ := cond_some hF
      simp only [decide_eq_true_eq] at hoe
      obtain ⟨vm, hvm, hF⟩ := Option.bind_eq_some_iff.1 hF
      cases hF
      obtain ⟨m, rfl⟩ : ∃ m : Nat, m0 = (m : Int) := ⟨m0.toNat, by omega⟩
      obtain ⟨q, rfl⟩ : ∃ q : Nat, q0 = (q : Int) := ⟨q0.toNat, by omega⟩
      rw [Int.toNat_natCast, Int.toNat_natCast] at *
      have hqm : q * m = xs.length := by
        have := g6
        rw [← Int.natCast_mul] at this
        omega
      have hne : xs ≠ [] := fun e => by
        rw [e] at hqm
        have : 1 * 1 ≤ q * m := Nat.mul_le_mul (by omega) (by omega)
        simp at hqm
        omega
      have hlen : 1 ≤ xs.length := by
        cases xs with
        | nil => exact absurd rfl hne
        | cons x xs => simp
      obtain ⟨B, off, rfl, hpB, hel⟩ := hx hne
      obtain ⟨l1, l2, l3⟩ := openL_len (m := m) (q := q) (xs := xs) xs.length
      have hx192 : xs.length ≤ 192 := by
        rw [← hqm]
        exact Nat.mul_le_mul (by omega : q ≤ 24) (by omega : m ≤ 8)
      have hcall := open_any (xs := xs) (q := q) (m := m) (B := B) (off := off) (cap := cap) ⟨by omega, by omega⟩ ⟨by omega, by omega⟩ hqm w (hp B hpB) (mx := vm.1) (fun i hi => by
          obtain ⟨l, q1, q2, q3⟩ := hel i (xs.getD i 0) (by rw [List.getD_eq_getElem?_getD, List.getElem?_eq_getElem hi]; rfl)
          have q3 : l = [.int .i64 (xs.getD i 0)] := q3
          have := q2 0 (.int .i64 (xs.getD i 0)) (by rw [q3]; rfl)
          rw [show off + i * Sh.size (.int .i64) + 0 = off + i by simp [Sh.size]] at this
          rw [cell_eq]
          exact this)
        (fun t ht => List.all_eq_true.1 g7 t (List.mem_range.2 ht)) hSC
        (fun W hb => by
          have h := hN (fun _ => False) W [.int .i64 (xs.length : Int)] ((xs.length : Int), ()) o (fun b h => h.elim) ⟨⟨rfl, rfl⟩, trivial⟩ ho
          have h := open_calls Try.func30 rfl (by kernel_rfl) h
          refine h.mono ?_
          rintro e W' ⟨v, rfl, vs, bs, e1, e2, e3, e4⟩
          refine ⟨e2, ?_⟩
          obtain ⟨o1, _⟩ := o
          simp only at hoe
          subst hoe
          match vs, bs, e4 with
          | [u], [bk], e4 =>
            have hv : v = u := e1
            subst hv
            have e5 := e4.1
            cases bk with
            | none =>
              have h5 : xs.length = 0 := by simpa using congrArg List.length e5.2
              omega
            | some O =>
              obtain ⟨k1, ⟨cs, te, k2, k3, k4⟩, oo, c, k5, k6, k7, k8⟩ := e5
              simp only [List.length_replicate, Sh.size, Nat.mul_one] at k3 k5 k6 k8
              have hoo := k7 (by omega)
              subst hoo
              refine ⟨O, c, cs.size, by rw [k5], k1, ⟨cs, te, k2, ⟨by simpa using k3, rfl⟩, fun i x hi => ?_⟩, k6, k8 cs.size (by unfold bsz; rw [k2])⟩
              obtain ⟨l, q1, q2, q3⟩ := k4 i x hi
              have q3 : l = [.int .i64 x] := q3
              have := q2 0 (.int .i64 x) (by rw [q3]; rfl)
              unfold cellH at this
              rw [k2] at this
              simpa [Sh.size] using this
          | [], _, e4 => cases e4
          | [_], [], e4 => exact e4.elim
          | [_], _ :: _ :: _, e4 => exact e4.2.elim
          | _ :: _ :: _, [], e4 => exact e4.elim
          | _ :: _ :: _, [_], e4 => exact e4.2.elim
          | _ :: _ :: _, _ :: _ :: _, e4 => exact e4.2.elim)
        (fun W FB hb hrow => by
          have hFB : FB < W.heap.size := by
            obtain ⟨cs, e, h1, _⟩ := hrow
            exact lt_of_block h1
          have h := hM (fun b => b = FB) W [.slice (some ⟨FB, 0, none⟩) m m] ((openL m q xs xs.length).2.2, ()) vm (fun b h => by rw [h]; exact hFB) ⟨row_arg l3 (Nat.le_refl _) rfl hrow, trivial⟩ hvm
          have h := open_calls Try.func31 rfl (by kernel_rfl) h
          refine h.mono ?_
          rintro e W' ⟨v, rfl, vs, bs, e1, e2, e3, e4⟩
          refine ⟨e2, ?_⟩
          match vs, bs, e4 with
          | [u], [], e4 =>
            have hv : v = u := e1
            subst hv
            have : v = .int .i64 vm.1 := open_one e4.1.1 e4.1.2
            rw [this]
          | [], _, e4 => cases e4
          | [_], _ :: _, e4 => exact e4.2.elim
          | _ :: _ :: _, _, e4 => exact e4.2.elim)
      refine hcall.mono ?_
      rintro e W' ⟨hb, O, c, z, rfl, hO, ⟨cs, te, k2, k3, k4⟩, hc1, hc2⟩
      refine ⟨_, rfl, [.slice (some ⟨O, 0, none⟩) xs.length c, .int .i64 vm.1, .bool true], [some O], rfl, hb, by simp [Dist], ⟨hO, ⟨cs, te, k2, by simpa [Sh.size] using k3.1, fun i x hi => ⟨[.int .i64 x], rfl, fun j v hv => ?_, rfl⟩⟩, 0, c, by rw [l1], by rw [l1]; exact hc1, fun _ => rfl, fun n' hn' => ?_⟩, ⟨rfl, rfl⟩, ⟨rfl, rfl⟩, trivial⟩
      · have hj : j = 0 := by
          cases j with
          | zero => rfl
          | succ j => cases hv
        subst hj
        cases hv
        unfold cellH
        rw [k2]
        simp only
        rw [show i * Sh.size (.int .i64) + 0 = i by simp [Sh.size]]
        exact k4 i x hi
      · unfold bsz at hn'
        rw [k2] at hn'
        cases hn'
        rw [k3.2]
        simpa [Sh.size] using hc2

end Go.Proofs.Ytgcmklniacjcfaa
