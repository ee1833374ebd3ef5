/-
  impl.firstLeast: the function that impl.permute hands each order to. No condition.
-/
import Derived.Lib.LazyBuf
import Derived.Test.YtnnfapnpijjbdaaPerm2
namespace Go.Proofs.Ytnnfapnpijjbdaa
open Go Go.RowKit Go.Proofs.Ytnnfapnpijjbdaa.Fw
set_option maxRecDepth 100000
set_option linter.unusedVariables false
set_option linter.unusedSimpArgs false

/-- What the best order is kept as. -/
def BestR (s0 : Nat) (H : Array Obj) : Option (List Int) → Value → Prop
  | none, v => v = .slice none 0 0
  | some l, v => ∃ g, OwnR (fun _ _ => False) (s0 + 10) H (.int .i64) l v (some g)

structure JL (w0 : World) (TELL : Value) (acc : Option (List Int) × Int) (W : World) : Prop where
  bel : Below w0.heap.size w0 W
  tb : W.heap[w0.heap.size]? = some (.cells #[TELL] 82 (0, 0))
  bb : ∃ v, W.heap[w0.heap.size + 1]? = some (.cells #[v] 22 (0, 0)) ∧ BestR w0.heap.size W.heap acc.1 v
  lb : W.heap[w0.heap.size + 2]? = some (.cells #[.int .i64 acc.2] 2 (0, 0))

theorem own_congr {B B' : Nat} {ok ok' : Bool → Nat → Prop} {H H' : Array Obj} {l : List Int} {v : Value} {g : Nat} (hB : B' ≤ g) (h : OwnR ok B H (.int .i64) l v (some g)) (hg : H'[g]? = H[g]?) : OwnR ok' B' H' (.int .i64) l v (some g) := by
  obtain ⟨h1, ⟨cs, e, a1, a2, a3⟩, o, c, b1, b2, b3, b4⟩ := h
  refine ⟨hB, ⟨cs, e, hg.trans a1, a2, fun i x hx => ?_⟩, o, c, b1, b2, b3, fun n hn => b4 n ?_⟩
  · obtain ⟨r, r1, r2, r3⟩ := a3 i x hx
    refine ⟨r, r1, fun j u hu => ?_, r3⟩
    have := r2 j u hu
    unfold cellH at this ⊢
    rw [hg]
    exact this
  · unfold bsz at hn ⊢
    rw [hg] at hn
    exact hn

theorem own_lt {B : Nat} {ok : Bool → Nat → Prop} {H : Array Obj} {l : List Int} {v : Value} {g : Nat} (h : OwnR ok B H (.int .i64) l v (some g)) : g < H.size := by
  obtain ⟨h1, ⟨cs, e, a1, a2, a3⟩, _⟩ := h
  rcases Nat.lt_or_ge g H.size with h' | h'
  · exact h'
  · rw [Array.getElem?_eq_none h'] at a1
    cases a1

theorem BestR.congr {s0 : Nat} {H H' : Array Obj} {o : Option (List Int)} {v : Value} (h : BestR s0 H o v) (hg : ∀ g, s0 + 10 ≤ g → g < H.size → H'[g]? = H[g]?) : BestR s0 H' o v := by
  cases o with
  | none => exact h
  | some l =>
    obtain ⟨g, h⟩ := h
    exact ⟨g, own_congr h.1 h (hg g h.1 (own_lt h))⟩

theorem JL.grown {w0 : World} {TELL : Value} {acc : Option (List Int) × Int} {W W' : World} {r : Nat} (h : JL w0 TELL acc W) (h1 : w0.heap.size + 3 ≤ r) (h2 : r < w0.heap.size + 10) (hg : W.grownBy W' (some r)) : JL w0 TELL acc W' := by
  obtain ⟨a1, a2, ⟨v, a3, a4⟩, a5⟩ := h
  refine ⟨a1.grown hg a1.size (fun k hk => by cases hk; omega), perm_grown a2 hg (by omega), ⟨v, perm_grown a3 hg (by omega), a4.congr fun g g1 g2 => hg.block g g2 (fun e => by have := Option.some.inj e; omega)⟩, perm_grown a5 hg (by omega)⟩

theorem JL.below {w0 : World} {TELL : Value} {acc : Option (List Int) × Int} {W W' : World} (h : JL w0 TELL acc W) (hb : Below W.heap.size W W') : JL w0 TELL acc W' := by
  obtain ⟨a1, a2, ⟨v, a3, a4⟩, a5⟩ := h
  exact ⟨a1.trans (hb.mono a1.size), (hb.block _ (lt_of_block a2)).trans a2, ⟨v, (hb.block _ (lt_of_block a3)).trans a3, a4.congr fun g g1 g2 => hb.block g g2⟩, (hb.block _ (lt_of_block a5)).trans a5⟩

theorem perm_calls {f : FuncId} {fn : Func} {code : Code} {vals : List Value} {w : World} {R : Value → World → Prop} (hf : Try.prog.funcs[f]? = some fn) (hb : fn.body = some code) (hname : (fn.name == "runtime.NumGoroutine") = false)
    (h : CallOk Try.prog f vals.toArray w R) : Calls Try.prog f vals.toArray w fun e w' => ∃ v, e = .returned v ∧ R v w' := by
  unfold CallOk at h
  rw [enter_of hf hb hname] at h
  exact h.2

/-- A list in a row of cells, as an argument. -/
theorem perm_arg {n : Nat} {ord : List Int} (hlen : ord.length = n) {p : Nat → Prop} {W : World} {A : Nat} {cur : Array Value} (hp : p A) (h1 : W.heap[A]? = some (.cells cur 2 (0, 0))) (h3 : cur.toList.take ord.length = ord.map (fun x => Value.int .i64 x)) :
    RC (fun _ => p) W.heap (.sl (.int .i64)) ord (Value.slice (some ⟨A, 0, none⟩) n n).cells.toList ∧ aggV (Value.slice (some ⟨A, 0, none⟩) n n) = Sh.isAgg (.sl (.int .i64)) := by
  refine ⟨⟨some ⟨A, 0, none⟩, n, by rw [hlen]; rfl, by omega, fun _ => ⟨A, 0, rfl, hp, fun i x hi => ⟨[.int .i64 x], rfl, fun j v hv => ?_, rfl⟩⟩⟩, rfl⟩
  have hj : j = 0 := by
    cases j with
    | zero => rfl
    | succ j => cases hv
  subst hj
  cases hv
  unfold cellH
  rw [h1]
  simp only
  have hi' : i < ord.length := (List.getElem?_eq_some_iff.1 hi).1
  have := congrArg (fun l => l[i]?) h3
  simp only [List.getElem?_take_of_lt hi', List.getElem?_map, hi, Option.map_some] at this
  rw [Array.getElem?_toList] at this
  rw [show 0 + i * Sh.size (.int .i64) + 0 = i by simp [Sh.size]]
  exact this

theorem clone_calls {n : Nat} (hn : n ≤ 1000) (hC : SoundC Try.prog 29 { ins := [.sl (.int .i64)], outs := [.own (.int .i64)], F := fun x => cond (appOk 0 (List.length x.1)) (some (x.1, ())) none })
    {ord : List Int} (hlen : ord.length = n) {W : World} {A : Nat} {cur : Array Value} (h1 : W.heap[A]? = some (.cells cur 2 (0, 0))) (h3 : cur.toList.take ord.length = ord.map (fun x => Value.int .i64 x)) (hne : ord ≠ []) :
    Calls Try.prog 29 #[.slice (some ⟨A, 0, none⟩) n n] W fun e W' => Below W.heap.size W W' ∧ ∃ g o c, e = .returned (.slice (some ⟨g, o, none⟩) n c) ∧ OwnR (fun _ _ => False) W.heap.size W'.heap (.int .i64) ord (.slice (some ⟨g, o, none⟩) n c) (some g) := by
  have h := hC (fun b => b = A) W [.slice (some ⟨A, 0, none⟩) n n] (ord, ()) (ord, ()) (fun b hb => by rw [hb]; exact lt_of_block h1) ⟨perm_arg hlen rfl h1 h3, trivial⟩ (by
    show cond (appOk 0 (List.length ord)) _ _ = _
    rw [show appOk 0 (List.length ord) = true by unfold appOk LIM; simp; omega]
    rfl)
  refine (perm_calls Try.func29 rfl (by kernel_rfl) h).mono ?_
  rintro e W' ⟨v, rfl, vs, bs, g1, g2, g3, g4⟩
  refine ⟨g2, ?_⟩
  match vs, bs, g4 with
  | [u], [bk], g4 =>
    have hv : v = u := g1
    subst hv
    have g5 := g4.1
    cases bk with
    | none => exact absurd g5.2 hne
    | some g =>
      have g6 := g5
      obtain ⟨_, _, o, c, hv, _⟩ := g6
      rw [hlen] at hv
      refine ⟨g, o, c, by rw [hv], ?_⟩
      rw [hv] at g5
      exact own_congr g5.1 g5 rfl
  | [], _, g4 => cases g4
  | [_], [], g4 => exact g4.elim
  | [_], _ :: _ :: _, g4 => exact g4.2.elim
  | _ :: _ :: _, [], g4 => exact g4.elim
  | _ :: _ :: _, [_], g4 => exact g4.2.elim
  | _ :: _ :: _, _ :: _ :: _, g4 => exact g4.2.elim

set_option maxHeartbeats 4000000 in
theorem do_any {w0 : World} {n : Nat} (hn : n ≤ 1000) (hn1 : 1 ≤ n) {caps : Array Value} {tf : List Int → Option (Int × Bool × Unit)} (hC : SoundC Try.prog 29 { ins := [.sl (.int .i64)], outs := [.own (.int .i64)], F := fun x => cond (appOk 0 (List.length x.1)) (some (x.1, ())) none })
    (htell : ∀ (W : World) (A : Nat) (cur : Array Value) (ord : List Int) (x : Int) (ok : Bool), Below w0.heap.size w0 W → W.heap[A]? = some (.cells cur 2 (0, 0)) → cur.toList.take ord.length = ord.map (fun x => Value.int .i64 x) → ord.length = n → tf ord = some (x, ok, ()) →
      Calls Try.prog 62 (#[.slice (some ⟨A, 0, none⟩) n n] ++ caps) W fun e W' => e = .returned (.tuple #[.int .i64 x, .bool ok]) ∧ Below W.heap.size W W')
    (acc acc' : Option (List Int) × Int) (W : World) (ord : List Int) (us : List Bool) (DO : Value) (hJ : JL w0 (.func (.func 62) #[] caps) acc W) (hP : PI n (w0.heap.size + 3) DO ord us W) (hlen : ord.length = n) (hs : stepL tf acc ord = some acc') :
    Calls Try.prog 86 (#[.slice (some ⟨w0.heap.size + 3 + 2, 0, none⟩) n n] ++ #[.pointer (some ⟨w0.heap.size, 0, none⟩), .pointer (some ⟨w0.heap.size + 1, 0, none⟩), .pointer (some ⟨w0.heap.size + 2, 0, none⟩)]) W fun e W' =>
      e = .returned (.tuple #[]) ∧ JL w0 (.func (.func 62) #[] caps) acc' W' ∧ ∀ k, w0.heap.size + 3 ≤ k → k < w0.heap.size + 3 + 7 → W'.heap[k]? = W.heap[k]? := by
  obtain ⟨⟨x, ok, u⟩, ht, hs⟩ := Option.bind_eq_some_iff.1 hs
  obtain ⟨cur, a1, a2, a3⟩ := hP.ar
  have hcall := htell W _ cur ord x ok hJ.bel a1 a3 hlen ht
  have c0 := cell_of_one hJ.tb
  have hk : ∀ W1, Below W.heap.size W W1 → ∀ k, w0.heap.size + 3 ≤ k → k < w0.heap.size + 3 + 7 → W1.heap[k]? = W.heap[k]? := fun W1 hb k h1 h2 => hb.block k (by have := lt_of_block hP.pb; omega)
  have q22 : ∀ (w : World) (a : Option Addr) (l c : Nat), (binOp .eql 22 (.slice a l c) (.slice none 0 0)).run Try.prog w = .ok (.bool a.isNone) w := fun w a l c => Lib.run_eql_slice_nil w _ _ a l c _ _ Try.underlying22
  have e0 : (#[.slice (some ⟨w0.heap.size + 3 + 2, 0, none⟩) n n] ++ #[.pointer (some ⟨w0.heap.size, 0, none⟩), .pointer (some ⟨w0.heap.size + 1, 0, none⟩), .pointer (some ⟨w0.heap.size + 2, 0, none⟩)] : Array Value) = #[.slice (some ⟨w0.heap.size + 3 + 2, 0, none⟩) n n, .pointer (some ⟨w0.heap.size, 0, none⟩), .pointer (some ⟨w0.heap.size + 1, 0, none⟩), .pointer (some ⟨w0.heap.size + 2, 0, none⟩)] := by simp
  rw [e0]
  have fin : ∀ W1, JL w0 (.func (.func 62) #[] caps) acc W1 → Below W.heap.size W W1 → acc' = acc → (JL w0 (.func (.func 62) #[] caps) acc' W1 ∧ ∀ k, w0.heap.size + 3 ≤ k → k < w0.heap.size + 3 + 7 → W1.heap[k]? = W.heap[k]?) := fun W1 h1 h2 h3 => by
    rw [h3]
    exact ⟨h1, hk W1 h2⟩
  cases ok with
  | false =>
    simp only [Bool.false_and, cond_false] at hs
    go_enter Try.func86, Try.ntmps86
    go_wp2_with (go_at_call 62; refine hcall.mono ?_; rintro e W1 ⟨rfl, hb1⟩)
    go_end0
    exact ⟨rfl, fin W1 (hJ.below hb1) hb1 (Option.some.inj hs).symm⟩
  | true =>
    simp only [Bool.true_and] at hs
    obtain ⟨v, b1, b2⟩ := hJ.bb
    have hne : ord ≠ [] := fun e => by rw [e] at hlen; simp at hlen; omega
    -- the best one is written anew
    have hclone : ∀ W1, Below W.heap.size W W1 → Calls Try.prog 29 #[.slice (some ⟨w0.heap.size + 3 + 2, 0, none⟩) n n] W1 fun e W' => Below W1.heap.size W1 W' ∧ ∃ g o c, e = .returned (.slice (some ⟨g, o, none⟩) n c) ∧ OwnR (fun _ _ => False) W1.heap.size W'.heap (.int .i64) ord (.slice (some ⟨g, o, none⟩) n c) (some g) := fun W1 hb =>
      clone_calls hn hC hlen ((hb.block _ (lt_of_block a1)).trans a1) a3 hne
    have keep : ∀ W1 W2 (v2 : Value), Below W.heap.size W W1 → Below W1.heap.size W1 W2 → (∃ g, OwnR (fun _ _ => False) W1.heap.size W2.heap (.int .i64) ord v2 (some g)) → acc' = (some ord, x) →
        (JL w0 (.func (.func 62) #[] caps) acc' ((W2.setCell ⟨w0.heap.size + 1, 0, none⟩ v2).setCell ⟨w0.heap.size + 2, 0, none⟩ (.int .i64 x)) ∧ ∀ k, w0.heap.size + 3 ≤ k → k < w0.heap.size + 3 + 7 → ((W2.setCell ⟨w0.heap.size + 1, 0, none⟩ v2).setCell ⟨w0.heap.size + 2, 0, none⟩ (.int .i64 x)).heap[k]? = W.heap[k]?) := fun W1 W2 v2 hb1 hb2 hg hacc => by
      rw [hacc]
      have hb := hb1.trans (hb2.mono hb1.size)
      have hJ2 := hJ.below hb
      obtain ⟨g, hg⟩ := hg
      have hlt := lt_of_block hP.pb
      have hg1 := hg.1
      obtain ⟨v', d1, d2⟩ := hJ2.bb
      have hs1 := hb1.size
      refine ⟨⟨(hJ2.bel.setCell (p := ⟨w0.heap.size + 1, 0, none⟩) (by simp) _).setCell (p := ⟨w0.heap.size + 2, 0, none⟩) (by simp) _, perm_set (perm_set hJ2.tb _ (by simp) _) _ (by simp) _, ⟨v2, perm_set (one_setCell d1) _ (by simp) _, g, own_congr (by omega) hg ?_⟩, one_setCell (perm_set hJ2.lb _ (by simp) _)⟩, fun k h1 h2 => ?_⟩
      · rw [Below.heap_setCell _ _ _ _ (show g ≠ w0.heap.size + 2 by omega), Below.heap_setCell _ _ _ _ (show g ≠ w0.heap.size + 1 by omega)]
      · rw [Below.heap_setCell _ _ _ _ (show k ≠ w0.heap.size + 2 by omega), Below.heap_setCell _ _ _ _ (show k ≠ w0.heap.size + 1 by omega)]
        exact hk W2 hb k h1 h2
    have f1 : ∀ W1, Below W.heap.size W W1 → W1.frozen? ⟨w0.heap.size + 1, 0, none⟩ = false ∧ W1.frozen? ⟨w0.heap.size + 2, 0, none⟩ = false ∧ W1.cell? ⟨w0.heap.size + 1, 0, none⟩ = some v ∧ W1.cell? ⟨w0.heap.size + 2, 0, none⟩ = some (.int .i64 acc.2) := fun W1 hb =>
      ⟨free_of_one ((hb.block _ (lt_of_block b1)).trans b1), free_of_one ((hb.block _ (lt_of_block hJ.lb)).trans hJ.lb), cell_of_one ((hb.block _ (lt_of_block b1)).trans b1), cell_of_one ((hb.block _ (lt_of_block hJ.lb)).trans hJ.lb)⟩
    cases hbest : acc.1 with
    | none =>
      rw [hbest] at hs b2
      have b2 : v = .slice none 0 0 := b2
      subst b2
      go_enter Try.func86, Try.ntmps86
      go_wp2_with (first | (go_at_call 62; refine hcall.mono ?_; rintro e W1 ⟨rfl, hb1⟩; obtain ⟨f11, f12, f13, f14⟩ := f1 W1 hb1) | (go_at_call 29; refine (hclone _ hb1).mono ?_; rintro e W2 ⟨hb2, g, o, c, rfl, hg⟩; obtain ⟨f21, f22, f23, f24⟩ := f1 W2 (hb1.trans (hb2.mono hb1.size))))
      go_end0
      exact ⟨rfl, keep W1 W2 _ hb1 hb2 ⟨g, hg⟩ (Option.some.inj hs).symm⟩
    | some l =>
      rw [hbest] at hs b2
      obtain ⟨g0, b2⟩ := b2
      obtain ⟨_, _, o0, c0', rfl, _⟩ := b2
      by_cases hlt : x < acc.2
      · rw [decide_eq_true hlt] at hs
        go_enter Try.func86, Try.ntmps86
        go_wp2_with (first | (go_at_call 62; refine hcall.mono ?_; rintro e W1 ⟨rfl, hb1⟩; obtain ⟨f11, f12, f13, f14⟩ := f1 W1 hb1) | (go_at_call 29; refine (hclone _ hb1).mono ?_; rintro e W2 ⟨hb2, g, o, c, rfl, hg⟩; obtain ⟨f21, f22, f23, f24⟩ := f1 W2 (hb1.trans (hb2.mono hb1.size))))
        go_end0
        exact ⟨rfl, keep W1 W2 _ hb1 hb2 ⟨g, hg⟩ (Option.some.inj hs).symm⟩
      · rw [decide_eq_false hlt] at hs
        go_enter Try.func86, Try.ntmps86
        go_wp2_with (first | (go_at_call 62; refine hcall.mono ?_; rintro e W1 ⟨rfl, hb1⟩; obtain ⟨f11, f12, f13, f14⟩ := f1 W1 hb1) | (go_at_call 29; refine (hclone _ hb1).mono ?_; rintro e W2 ⟨hb2, g, o, c, rfl, hg⟩; obtain ⟨f21, f22, f23, f24⟩ := f1 W2 (hb1.trans (hb2.mono hb1.size))))
        go_end0
        exact ⟨rfl, fin W1 (hJ.below hb1) hb1 (Option.some.inj hs).symm⟩

end Go.Proofs.Ytnnfapnpijjbdaa
