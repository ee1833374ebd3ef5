/-
  impl.firstLeast: its contract. No condition.
-/
import Derived.Shelf.RegionOpenPlain
import Derived.Test.YtnnfapnpijjbdaaPerm3
namespace Go.Proofs.Ytnnfapnpijjbdaa
open Go Go.RowKit Go.Proofs.Ytnnfapnpijjbdaa.Fw
set_option maxRecDepth 100000
set_option linter.unusedVariables false
set_option linter.unusedSimpArgs false

set_option maxHeartbeats 4000000 in
theorem least_any {w0 : World} {n : Nat} (hn : n ≤ 1000) (hn1 : 1 ≤ n) {caps : Array Value} {tf : List Int → Option (Int × Bool × Unit)} (hC : SoundC Try.prog 29 { ins := [.sl (.int .i64)], outs := [.own (.int .i64)], F := fun x => cond (appOk 0 (List.length x.1)) (some (x.1, ())) none })
    (htell : ∀ (W : World) (A : Nat) (cur : Array Value) (ord : List Int) (x : Int) (ok : Bool), Below w0.heap.size w0 W → W.heap[A]? = some (.cells cur 2 (0, 0)) → cur.toList.take ord.length = ord.map (fun x => Value.int .i64 x) → ord.length = n → tf ord = some (x, ok, ()) →
      Calls Try.prog 62 (#[.slice (some ⟨A, 0, none⟩) n n] ++ caps) W fun e W' => e = .returned (.tuple #[.int .i64 x, .bool ok]) ∧ Below W.heap.size W W')
    {acc : Option (List Int) × Int} (hr : runP (stepL tf) n n [] (List.replicate n false) (none, 0) = some acc) :
    Calls Try.prog 61 #[.int .i64 (n : Int), .func (.func 62) #[] caps] w0 fun e W' => Below w0.heap.size w0 W' ∧ ∃ v, e = .returned (.tuple #[v, .int .i64 acc.2, .bool acc.1.isSome]) ∧ BestR w0.heap.size W'.heap acc.1 v := by
  obtain ⟨W3, hW3⟩ : ∃ W3, W3 = ((w0.alloc (.cells #[.func (.func 62) #[] caps] 82)).alloc (.cells #[.slice none 0 0] 22)).alloc (.cells #[.int .i64 0] 2) := ⟨_, rfl⟩
  have hs3 : W3.heap.size = w0.heap.size + 3 := by rw [hW3]; simp
  have hJ3 : JL w0 (.func (.func 62) #[] caps) (none, 0) W3 := by
    rw [hW3]
    exact ⟨(((Below.refl _ w0).alloc (Nat.le_refl _) _).alloc (by simp) _).alloc (by simp; omega) _, perm_alloc (perm_alloc (perm_new rfl _) _) _, ⟨_, perm_alloc (perm_new (by simp) _) _, rfl⟩, perm_new (by simp) _⟩
  have hperm := permute_any (f := stepL tf) (J := JL w0 (.func (.func 62) #[] caps)) (n := n) (caps := #[.pointer (some ⟨w0.heap.size, 0, none⟩), .pointer (some ⟨w0.heap.size + 1, 0, none⟩), .pointer (some ⟨w0.heap.size + 2, 0, none⟩)]) rfl hn hn1 W3
    (fun a W W' r h1 h2 h3 h4 => h1.grown (by omega) (by omega) h4)
    (fun a a' W ord us h1 h2 h3 h4 => by
      rw [hs3] at h2 ⊢
      exact do_any hn hn1 hC htell a a' W ord us _ h1 h2 h3 h4) hJ3 hr
  have q22 : ∀ (w : World) (a : Option Addr) (l c : Nat), (binOp .neq 22 (.slice a l c) (.slice none 0 0)).run Try.prog w = .ok (.bool (!a.isNone)) w := fun w a l c => run_neq_slice_nil w _ _ a l c Try.underlying22
  rw [hW3] at hperm
  go_enter Try.func61, Try.ntmps61
  go_wp2_with (go_at_call 85; refine hperm.mono ?_; rintro e W5 ⟨rfl, hJ5⟩; obtain ⟨v, b1, b2⟩ := hJ5.bb; have c1 := cell_of_one b1; have c2 := cell_of_one hJ5.lb)
  cases hb : acc.1 with
  | none =>
    rw [hb] at b2
    have b2 : v = .slice none 0 0 := b2
    subst b2
    go_region
    all_goals go_wp2
    all_goals
      go_ret3
      rw [hb]
      exact ⟨hJ5.bel.drew, _, rfl, rfl⟩
  | some l =>
    rw [hb] at b2
    obtain ⟨g, b2⟩ := b2
    have b3 := b2
    obtain ⟨_, _, o, c, rfl, _⟩ := b3
    go_region
    all_goals go_wp2
    all_goals
      go_ret3
      rw [hb]
      exact ⟨hJ5.bel.drew, _, rfl, g, b2⟩

theorem perm_one {v u : Value} (h : v.cells.toList = [u]) (ha : aggV v = false) : v = u := by
  rw [cells_one ha] at h
  cases h
  rfl

theorem least_sound {s : Sh} {capS : List Sh} (unf : s.den → dens capS) (hunf : ∀ (ok : Bool → Nat → Prop) (H : Array Obj) (x : s.den) (cs : List Value), RC ok H s x cs → ArgR ok H capS (unf x) cs)
    {TF : dens (Sh.sl (.int .i64) :: capS) → Option (Int × Bool × Unit)} (hC : SoundC Try.prog 29 { ins := [.sl (.int .i64)], outs := [.own (.int .i64)], F := fun x => cond (appOk 0 (List.length x.1)) (some (x.1, ())) none })
    (hT : SoundC Try.prog 62 { ins := .sl (.int .i64) :: capS, outs := [.val (.int .i64), .val .bool], F := TF }) :
    SoundC Try.prog 61 { ins := [.int .i64, .clo 62 s], outs := [.own (.int .i64), .val (.int .i64), .val .bool], F := fun x => leastF (fun o => TF (o, unf x.2.1)) x.1 } := by
  rintro p w vals ⟨n0, xc, _⟩ ⟨yl, yx, yb, _⟩ hp hA hF
  match vals, hA with
  | [v0, v1], hA =>
    obtain ⟨⟨h0, a0⟩, ⟨h1, a1⟩, _⟩ := hA
    have h0 : v0 = .int .i64 n0 := perm_one h0 a0
    subst h0
    obtain ⟨caps, hc, h1⟩ := h1
    have h1' : v1 = .func (.func 62) #[] caps := perm_one hc a1
    subst h1'
    unfold leastF at hF
    obtain ⟨hn, hF⟩ := cond_some hF
    simp only [Bool.and_eq_true, decide_eq_true_eq] at hn
    obtain ⟨n, rfl⟩ : ∃ n : Nat, n0 = (n : Int) := ⟨Int.toNat n0, (Int.toNat_of_nonneg (Int.le_trans (by decide) hn.1)).symm⟩
    rw [Int.toNat_natCast] at hF
    obtain ⟨acc, hr, hF⟩ := Option.bind_eq_some_iff.1 hF
    cases hF
    have hcall := least_any (w0 := w) (n := n) (by omega) (by omega) (caps := caps) hC (fun W A cur ord x ok hb g1 g2 g3 g4 => by
      have hpW : ∀ b, p b → b < W.heap.size := fun b h => Nat.lt_of_lt_of_le (hp b h) hb.size
      have h := hT (fun b => p b ∨ b = A) W (.slice (some ⟨A, 0, none⟩) n n :: caps.toList) (ord, unf xc) (x, ok, ()) (fun b h => h.elim (hpW b) (fun e => by rw [e]; exact lt_of_block g1))
        ⟨perm_arg g3 (.inr rfl) g1 g2, hunf _ _ _ _ (RC.mono_ (fun i b h => ⟨.inl h, fun o => by
          unfold cellH
          rw [hb.block b (hp b h)]⟩) h1)⟩ g4
      have h := perm_calls Try.func62 rfl (by kernel_rfl) h
      rw [show ((Value.slice (some ⟨A, 0, none⟩) n n :: caps.toList).toArray : Array Value) = #[.slice (some ⟨A, 0, none⟩) n n] ++ caps by apply Array.ext'; simp] at h
      refine h.mono ?_
      rintro e W' ⟨v, rfl, vs, bs, e1, e2, e3, e4⟩
      refine ⟨?_, e2⟩
      match vs, bs, e4 with
      | [u1, u2], [], e4 =>
        obtain ⟨⟨r1, r2⟩, ⟨r3, r4⟩, _⟩ := e4
        have r1 : u1 = .int .i64 x := perm_one r1 r2
        have r3 : u2 = .bool ok := perm_one r3 r4
        have e1 : v = .tuple #[u1, u2] := e1
        rw [e1, r1, r3]
      | [], _, e4 => cases e4
      | [_], _, e4 => exact e4.2.elim
      | [_, _], _ :: _, e4 => exact e4.2.2.elim
      | _ :: _ :: _ :: _, _, e4 => exact e4.2.2.elim) hr
    unfold CallOk
    have harr : ([Value.int .i64 (n : Int), .func (.func 62) #[] caps].toArray : Array Value) = #[.int .i64 (n : Int), .func (.func 62) #[] caps] := rfl
    rw [enter_of Try.func61 rfl (by kernel_rfl), harr]
    refine ⟨rfl, hcall.mono ?_⟩
    rintro e W' ⟨hb, v, rfl, hv⟩
    cases hbest : acc.1 with
    | none =>
      rw [hbest] at hv
      have hv : v = .slice none 0 0 := hv
      subst hv
      exact ⟨_, rfl, [.slice none 0 0, .int .i64 acc.2, .bool false], [none], rfl, hb, by simp [Dist], ⟨rfl, rfl⟩, ⟨rfl, rfl⟩, ⟨rfl, rfl⟩, trivial⟩
    | some l =>
      rw [hbest] at hv
      obtain ⟨g, hv⟩ := hv
      exact ⟨_, rfl, [v, .int .i64 acc.2, .bool true], [some g], rfl, hb, by simp [Dist], own_congr (Nat.le_trans (by omega) hv.1) hv rfl, ⟨rfl, rfl⟩, ⟨rfl, rfl⟩, trivial⟩

/-- One captured variable. -/
theorem least_sound1 {t : Sh} {TF : dens [Sh.sl (.int .i64), .bx t] → Option (Int × Bool × Unit)} (hC : SoundC Try.prog 29 { ins := [.sl (.int .i64)], outs := [.own (.int .i64)], F := fun x => cond (appOk 0 (List.length x.1)) (some (x.1, ())) none })
    (hT : SoundC Try.prog 62 { ins := [.sl (.int .i64), .bx t], outs := [.val (.int .i64), .val .bool], F := TF }) :
    SoundC Try.prog 61 { ins := [.int .i64, .clo 62 (.bx t)], outs := [.own (.int .i64), .val (.int .i64), .val .bool], F := fun x => leastF (fun o => TF (o, x.2.1, ())) x.1 } :=
  least_sound (s := .bx t) (capS := [.bx t]) (fun x => (x, ())) (fun ok H x cs h => by
    have h' := h
    obtain ⟨b, off, l, rfl, _⟩ := h'
    exact ⟨⟨h, rfl⟩, trivial⟩) hC hT

/-- Two captured variables. -/
theorem least_sound2 {t u : Sh} {TF : dens [Sh.sl (.int .i64), .bx t, .bx u] → Option (Int × Bool × Unit)} (hC : SoundC Try.prog 29 { ins := [.sl (.int .i64)], outs := [.own (.int .i64)], F := fun x => cond (appOk 0 (List.length x.1)) (some (x.1, ())) none })
    (hT : SoundC Try.prog 62 { ins := [.sl (.int .i64), .bx t, .bx u], outs := [.val (.int .i64), .val .bool], F := TF }) :
    SoundC Try.prog 61 { ins := [.int .i64, .clo 62 (.pair (.bx t) (.bx u))], outs := [.own (.int .i64), .val (.int .i64), .val .bool], F := fun x => leastF (fun o => TF (o, x.2.1.1, x.2.1.2, ())) x.1 } :=
  least_sound (s := .pair (.bx t) (.bx u)) (capS := [.bx t, .bx u]) (fun x => (x.1, x.2, ())) (fun ok H x cs h => by
    obtain ⟨c1, c2, rfl, h1, h2⟩ := h
    have h1' := h1
    have h2' := h2
    obtain ⟨b, off, l, rfl, _⟩ := h1'
    obtain ⟨b', off', l', rfl, _⟩ := h2'
    exact ⟨⟨h1, rfl⟩, ⟨h2, rfl⟩, trivial⟩) hC hT

end Go.Proofs.Ytnnfapnpijjbdaa
