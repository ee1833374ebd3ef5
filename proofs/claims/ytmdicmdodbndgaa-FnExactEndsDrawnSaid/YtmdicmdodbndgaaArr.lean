/-
  Rows in memory, what changes and what stays, append: for the walks by hand. No condition.
-/
import Derived.BigRegion
import Derived.BigQuiet
import Derived.RegionTactic
import Derived.Deep.RegionHeld3
import Derived.Deep.AppendSrc
import Derived.Lib.AppendZeros
import Derived.Lib.SliceRun
import Derived.ArgAppend
import Derived.Deep.DeepCutAuto
import Derived.Laws.EntriesVeiled
import Derived.Test.YtmdicmdodbndgaaPermU
namespace Go.Proofs.Ytmdicmdodbndgaa.Arr
open Go Go.RowKit Go.Proofs.Ytmdicmdodbndgaa Go.Proofs.Ytmdicmdodbndgaa.Fw
set_option maxRecDepth 100000
set_option linter.unusedVariables false
set_option linter.unusedSimpArgs false

/-- One after another. -/
def goJ {α : Type} (f : Nat → α → Option α) : Nat → Nat → α → Option α
  | 0, _, a => some a
  | d + 1, j, a => Option.bind (f j a) (goJ f d (j + 1))

/-- All is as it was, but for the blocks of a set. -/
structure Chg (S : Nat → Prop) (w w' : World) : Prop where
  os : w'.os = w.os
  tape : w'.tape = w.tape
  output : w'.output = w.output
  size : w.heap.size ≤ w'.heap.size
  block : ∀ k, k < w.heap.size → ¬ S k → w'.heap[k]? = w.heap[k]?

theorem Chg.refl (S : Nat → Prop) (w : World) : Chg S w w := ⟨rfl, rfl, rfl, Nat.le_refl _, fun _ _ _ => rfl⟩

theorem Chg.alloc {S : Nat → Prop} {w w' : World} (h : Chg S w w') (o : Obj) : Chg S w (w'.alloc o) :=
  ⟨h.os, h.tape, h.output, by have := h.size; simp; omega, fun k hk hs => by
    rw [← h.block k hk hs]
    have := h.size
    show (w'.heap.push o)[k]? = _
    rw [Array.getElem?_push, if_neg (by omega)]⟩

theorem Chg.set {S : Nat → Prop} {w w' : World} (h : Chg S w w') {a : Addr} (ha : S a.block) (v : Value) : Chg S w (w'.setCell a v) :=
  ⟨h.os, h.tape, h.output, by have := h.size; simpa using this, fun k hk hs => (Below.heap_setCell _ _ _ _ (fun e => hs (by rw [e]; exact ha))).trans (h.block k hk hs)⟩

theorem Chg.drew {S : Nat → Prop} {w w' : World} (h : Chg S w w') : Chg S w w'.drew := ⟨h.os, h.tape, h.output, h.size, h.block⟩

theorem Chg.below {S : Nat → Prop} {B : Nat} {w w' : World} (h : Chg S w w') (hB : ∀ k, k < B → ¬ S k) (hs : B ≤ w.heap.size) : Below B w w' :=
  ⟨h.os, h.tape, h.output, h.size, fun k hk => h.block k (by omega) (hB k hk)⟩

theorem _root_.Go.Proofs.Ytmdicmdodbndgaa.RowL.aSamE {W W' : World} {b z : Nat} {l : List Int} (h : RowL W b z l) (e : W'.heap[b]? = W.heap[b]?) : RowL W' b z l := by
  obtain ⟨cs, t, h1, h2, h3⟩ := h
  exact ⟨cs, t, e.trans h1, h2, h3⟩

theorem _root_.Go.Proofs.Ytmdicmdodbndgaa.RowL.aLtE {W : World} {b z : Nat} {l : List Int} (h : RowL W b z l) : b < W.heap.size := by
  obtain ⟨cs, t, h1, h2, h3⟩ := h
  exact lt_of_block h1

theorem _root_.Go.Proofs.Ytmdicmdodbndgaa.RowL.aPre {W : World} {b z : Nat} {l r : List Int} (h : RowL W b z (l ++ r)) : RowL W b z l := by
  obtain ⟨cs, t, h1, h2, h3⟩ := h
  refine ⟨cs, t, h1, ⟨by have := h2.1; simp at this; omega, h2.2⟩, fun i x hi => h3 i x ?_⟩
  have hlt : i < l.length := by
    rcases Nat.lt_or_ge i l.length with h | h
    · exact h
    · rw [List.getElem?_eq_none h] at hi; cases hi
  rw [List.getElem?_append_left hlt]
  exact hi

/-- One number more. -/
theorem app_one {W : World} {T tc tz X xc : Nat} {tu : List Int} {v : Int} (hT : RowL W T tz tu) (htc : tu.length ≤ tc) (hz : tc ≤ tz) (hlen : tu.length ≤ 1000) (hX : W.cell? ⟨X, 0, none⟩ = some (.int .i64 v)) :
    ∃ T' tc' tz' W', (Builtin.append_ #[25, 25] 25 #[.slice (some ⟨T, 0, none⟩) tu.length tc, .slice (some ⟨X, 0, none⟩) 1 xc]).run Try.prog W = .ok (.slice (some ⟨T', 0, none⟩) (tu.length + 1) tc') W' ∧ RowL W' T' tz' (tu ++ [v]) ∧ tu.length + 1 ≤ tc' ∧ tc' ≤ tz' ∧ (T' = T ∨ W.heap.size ≤ T') ∧ Chg (fun b => b = T) W W' := by
  obtain ⟨i0, hi0, hz0, hz1, hz2⟩ := info_parts perm_info_int
  have hsrc : Src Try.prog i0.size 25 (.slice (some ⟨X, 0, none⟩) 1 xc) 1 [.int .i64 v] W := Src.ofSlice W Try.underlying25 ⟨X, 0, none⟩ 1 xc _ (by rw [hz1]; rfl) (fun j u hj => by
    cases j with
    | zero => cases hj; exact hX
    | succ j => simp at hj) (fun u hu => by
    obtain rfl := List.mem_singleton.1 hu
    rfl)
  obtain ⟨cs, t, h1, h2, h3⟩ := hT
  by_cases hroom : tu.length + 1 ≤ tc
  · have hr := run_append_room_src W 25 25 25 2 i0 Try.underlying25 hi0 T 0 tu.length tc _ 1 _ hsrc hroom (fun j hj => by
      have hj : j = 0 := by simpa using hj
      subst hj
      rw [perm_cell h1, hz1, Array.getElem?_eq_getElem (by omega)]
      rfl) (fun j hj => perm_free h1)
    refine ⟨T, tc, tz, _, hr, ?_, hroom, hz, .inl rfl, ?_⟩
    · rw [hz1, Nat.mul_one, Nat.zero_add]
      show RowL (W.setCell ⟨T, tu.length, none⟩ (.int .i64 v)) T tz (tu ++ [v])
      refine ⟨_, t, perm_row h1 _, ⟨by simp; omega, by simpa using h2.2⟩, fun i x hi => ?_⟩
      rw [Array.getElem?_setIfInBounds]
      by_cases he : tu.length = i
      · subst he
        rw [List.getElem?_append_right (Nat.le_refl _)] at hi
        simp at hi
        subst hi
        rw [if_pos rfl, if_pos (by omega)]
      · rw [if_neg he]
        have : i < tu.length := by
          rcases Nat.lt_or_ge i (tu ++ [v]).length with h | h
          · simp at h; omega
          · rw [List.getElem?_eq_none h] at hi; cases hi
        rw [List.getElem?_append_left this] at hi
        exact h3 i x hi
    · rw [hz1, Nat.mul_one, Nat.zero_add]
      show Chg (fun b => b = T) W (W.setCell ⟨T, tu.length, none⟩ (.int .i64 v))
      exact Chg.set (S := fun b => b = T) (Chg.refl _ _) (a := ⟨T, tu.length, none⟩) rfl _
  · have hold : ∀ w' : World, w'.heap = W.heap → (Builtin.firstCells i0.size tu.length (.slice (some ⟨T, 0, none⟩) tu.length tc)).run Try.prog w' = .ok (tu.map (Value.int .i64)).toArray w' := fun w' hw => by
      refine run_firstCells_some w' i0.size tu.length ⟨T, 0, none⟩ tu.length tc _ (by rw [hz1]; simp) (fun j u hj => ?_)
      rw [List.getElem?_map] at hj
      obtain ⟨x, hx, rfl⟩ := Option.map_eq_some_iff.1 hj
      have e : (⟨T, 0, none⟩ : Addr).add j = ⟨T, j, none⟩ := by unfold Addr.add; split <;> simp_all
      have hc : w'.cell? ⟨T, j, none⟩ = W.cell? ⟨T, j, none⟩ := by unfold World.cell?; rw [hw]
      rw [e, hc, perm_cell h1]
      exact h3 j x hx
    have hg : tc < tu.length + 1 := by omega
    have hr := run_append_grow_src W 25 25 25 2 i0 _ Try.underlying25 hi0 hz0 (some ⟨T, 0, none⟩) tu.length tc _ (hold W.drew rfl) _ 1 _ hsrc hg (by omega) (growslice_fits hg (by rw [hz2]; omega))
    have hge := grownCap_ge W (tu.length + 1) tc 2
    refine ⟨W.heap.size, _, _, _, hr, ⟨_, 2, perm_new rfl _, ⟨?_, rfl⟩, fun i x hi => ?_⟩, hge, ?_, .inr (Nat.le_refl _), (Chg.refl _ _).drew.alloc _⟩
    · simp
    · rw [Array.getElem?_append_left (by
        rcases Nat.lt_or_ge i (tu ++ [v]).length with h | h
        · simpa using h
        · rw [List.getElem?_eq_none h] at hi; cases hi)]
      rw [List.getElem?_toArray]
      have : (tu.map (Value.int .i64) ++ [Value.int .i64 v]) = (tu ++ [v]).map (Value.int .i64) := by simp
      rw [this, List.getElem?_map, hi]
      rfl
    · rw [Array.size_append, size_zeroCells, List.size_toArray, show (Value.int IntKind.i64 0).cells.size = 1 from rfl]
      simp
      omega

theorem cell_same {W W' : World} {p : Addr} (h : W'.heap[p.block]? = W.heap[p.block]?) : W'.cell? p = W.cell? p := by
  unfold World.cell?
  rw [h]

theorem Chg.trans {S S' : Nat → Prop} {w w1 w2 : World} (h : Chg S w w1) (h' : Chg S' w1 w2) (hs : ∀ k, k < w.heap.size → S' k → S k) : Chg S w w2 :=
  ⟨h'.os.trans h.os, h'.tape.trans h.tape, h'.output.trans h.output, Nat.le_trans h.size h'.size, fun k hk hn => (h'.block k (Nat.lt_of_lt_of_le hk h.size) (fun e => hn (hs k hk e))).trans (h.block k hk hn)⟩

theorem shop_calls {f : FuncId} {fn : Func} {code : Code} {vals : List Value} {w : World} {R : Value → World → Prop} (hf : Try.prog.funcs[f]? = some fn) (hb : fn.body = some code) (hname : (fn.name == "runtime.NumGoroutine") = false)
    (h : CallOk Try.prog f vals.toArray w R) : Calls Try.prog f vals.toArray w fun e w' => ∃ v, e = .returned v ∧ R v w' := by
  unfold CallOk at h
  rw [enter_of hf hb hname] at h
  exact h.2

theorem shop_one {v u : Value} (h : v.cells.toList = [u]) (ha : aggV v = false) : v = u := by
  rw [cells_one ha] at h
  cases h
  rfl

/-- A row as an argument. -/
theorem shop_arg {W : World} {b z n c : Nat} {l : List Int} (hl : l.length = n) (hc : n ≤ c) {p : Nat → Prop} (hp : p b) (h : RowL W b z l) :
    RC (fun _ => p) W.heap (.sl (.int .i64)) l (Value.slice (some ⟨b, 0, none⟩) n c).cells.toList ∧ aggV (Value.slice (some ⟨b, 0, none⟩) n c) = Sh.isAgg (.sl (.int .i64)) := by
  obtain ⟨cs, e, h1, h2, h3⟩ := h
  refine ⟨⟨some ⟨b, 0, none⟩, c, by rw [hl]; rfl, by omega, fun _ => ⟨b, 0, rfl, hp, fun i x hi => ⟨[.int .i64 x], rfl, fun j v hv => ?_, rfl⟩⟩⟩, rfl⟩
  have hj : j = 0 := by
    cases j with
    | zero => rfl
    | succ j => cases hv
  subst hj
  cases hv
  unfold cellH
  rw [h1]
  simp only
  rw [show 0 + i * Sh.size (.int .i64) + 0 = i by simp [Sh.size]]
  exact h3 i x hi

/-- The numbers of a list that is read. -/
theorem shop_reads {ok : Bool → Nat → Prop} {W : World} {b off : Nat} {xs : List Int} (h : ∀ i x, xs[i]? = some x → ∃ l, l.length = Sh.size (.int .i64) ∧ Reads W.heap b (off + i * Sh.size (.int .i64)) l ∧ RC ok W.heap (.int .i64) x l) :
    ∀ i, i < xs.length → W.cell? ⟨b, off + i, none⟩ = some (.int .i64 (xs.getD i 0)) := fun i hi => by
  obtain ⟨l, q1, q2, q3⟩ := h i (xs.getD i 0) (by rw [List.getD_eq_getElem?_getD, List.getElem?_eq_getElem hi]; rfl)
  have q3 : l = [.int .i64 (xs.getD i 0)] := q3
  have := q2 0 (.int .i64 (xs.getD i 0)) (by rw [q3]; rfl)
  rw [show off + i * Sh.size (.int .i64) + 0 = off + i by simp [Sh.size]] at this
  rw [cell_eq]
  exact this

theorem shop_int {ok : Bool → Nat → Prop} {B : Nat} {H : Array Obj} {y : Int × Unit} {vs : List Value} {bs : List (Option Nat)} {v : Value} (h : ResR ok B H [.val (.int .i64)] y vs bs) (hv : Fw.valOf vs v) : v = .int .i64 y.1 := by
  match vs, bs, h with
  | [u], [], h =>
    have hv : v = u := hv
    subst hv
    exact shop_one h.1.1 h.1.2
  | [], _, h => cases h
  | [_], _ :: _, h => exact h.2.elim
  | _ :: _ :: _, _, h => exact h.2.elim

theorem shop_bool {ok : Bool → Nat → Prop} {B : Nat} {H : Array Obj} {y : Bool × Unit} {vs : List Value} {bs : List (Option Nat)} {v : Value} (h : ResR ok B H [.val .bool] y vs bs) (hv : Fw.valOf vs v) : v = .bool y.1 := by
  match vs, bs, h with
  | [u], [], h =>
    have hv : v = u := hv
    subst hv
    exact shop_one h.1.1 h.1.2
  | [], _, h => cases h
  | [_], _ :: _, h => exact h.2.elim
  | _ :: _ :: _, _, h => exact h.2.elim

theorem shop_mono {p : Nat → Prop} {w W : World} (hp : ∀ b, p b → b < w.heap.size) (hb : Below w.heap.size w W) {s : Sh} {x : s.den} {cs : List Value} (h : RC (fun _ => p) w.heap s x cs) : RC (fun _ => p) W.heap s x cs :=
  RC.mono_ (fun i b h => ⟨h, fun o => by
    unfold cellH
    rw [hb.block b (hp b h)]⟩) h

/-- Nothing old has changed. -/
abbrev Ext (w W : World) : Prop := Chg (fun _ => False) w W

theorem Ext.of {n : Nat} {w W V : World} (h : Ext w W) (hb : Below W.heap.size W V) : Ext w V :=
  Chg.trans h (S' := fun _ => False) ⟨hb.os, hb.tape, hb.output, hb.size, fun k hk _ => hb.block k hk⟩ (fun k _ h => h)

theorem Ext.new {w W : World} (h : Ext w W) {a : Addr} (ha : w.heap.size ≤ a.block) (v : Value) : Ext w (W.setCell a v) :=
  ⟨h.os, h.tape, h.output, by have := h.size; simpa using this, fun k hk hs => (Below.heap_setCell _ _ _ _ (fun e => by omega)).trans (h.block k hk hs)⟩

theorem _root_.Go.Proofs.Ytmdicmdodbndgaa.RowL.aBel {W V : World} {O z : Nat} {l : List Int} (h : RowL W O z l) (hb : Below W.heap.size W V) : RowL V O z l := h.aSamE (hb.block _ h.aLtE)

theorem Ext.weak {W V : World} (h : Ext W V) (S : Nat → Prop) : Chg S W V := ⟨h.os, h.tape, h.output, h.size, fun z hz _ => h.block z hz id⟩

theorem goJ_step {α : Type} {f : Nat → α → Option α} {d j : Nat} {a a' : α} (h : goJ f (d + 1) j a = some a') : ∃ a1, f j a = some a1 ∧ goJ f d (j + 1) a1 = some a' := Option.bind_eq_some_iff.1 h

/-- A new row, as a result that is the callee's own. -/
theorem own_row {ok : Bool → Nat → Prop} {B O : Nat} {W : World} {l : List Int} {v : Value} (h : OwnR ok B W.heap (.int .i64) l v (some O)) (hl : l ≠ []) : ∃ oc oz, v = .slice (some ⟨O, 0, none⟩) l.length oc ∧ B ≤ O ∧ RowL W O oz l ∧ l.length ≤ oc ∧ oc ≤ oz := by
  obtain ⟨hB, ⟨cs, e, h1, h2, h3⟩, o, c, hv, hc, ho, hn⟩ := h
  have hpos : 0 < l.length := by
    cases l with
    | nil => exact absurd rfl hl
    | cons x r => simp
  have ho := ho (by omega)
  subst ho
  have hn := hn cs.size (by unfold bsz; rw [h1])
  refine ⟨c, cs.size, hv, hB, ⟨cs, e, h1, ⟨by simpa [Sh.size] using h2, rfl⟩, fun i x hi => ?_⟩, hc, by simpa [Sh.size] using hn⟩
  obtain ⟨r, q1, q2, q3⟩ := h3 i x hi
  have q3 : r = [.int .i64 x] := q3
  have := q2 0 (.int .i64 x) (by rw [q3]; rfl)
  unfold cellH at this
  rw [h1] at this
  simpa [Sh.size] using this

theorem row_own {ok : Bool → Nat → Prop} {W : World} {B O c z : Nat} {l : List Int} (hO : B ≤ O) (h : RowL W O z l) (hc : l.length ≤ c) (hz : c ≤ z) : OwnR ok B W.heap (.int .i64) l (.slice (some ⟨O, 0, none⟩) l.length c) (some O) := by
  obtain ⟨cs, te, k2, k3, k4⟩ := h
  refine ⟨hO, ⟨cs, te, k2, by simpa [Sh.size] using k3.1, fun i x hi => ⟨[.int .i64 x], rfl, fun j v hv => ?_, rfl⟩⟩, 0, c, rfl, hc, fun _ => rfl, fun n' hn' => ?_⟩
  · have hj : j = 0 := by
      cases j with
      | zero => rfl
      | succ j => cases hv
    subst hj
    cases hv
    unfold cellH
    rw [k2]
    simp only
    rw [show i * Sh.size (.int .i64) + 0 = i by simp [Sh.size]]
    exact k4 i x hi
  · unfold bsz at hn'
    rw [k2] at hn'
    cases hn'
    rw [k3.2]
    simpa [Sh.size] using hz

/-- A row put behind an empty new one. -/
theorem app_row {W : World} {E T tc tz : Nat} {tu : List Int} (hE : RowL W E 0 []) (hT : RowL W T tz tu) (htc : tu.length ≤ tc) (hlen : tu.length ≤ 1000) :
    ∃ T' tc' tz' W', (Builtin.append_ #[25, 25] 25 #[.slice (some ⟨E, 0, none⟩) 0 0, .slice (some ⟨T, 0, none⟩) tu.length tc]).run Try.prog W = .ok (.slice (some ⟨T', 0, none⟩) tu.length tc') W' ∧ RowL W' T' tz' tu ∧ tu.length ≤ tc' ∧ tc' ≤ tz' ∧ (T' = E ∨ W.heap.size ≤ T') ∧ Ext W W' := by
  obtain ⟨i0, hi0, hz0, hz1, hz2⟩ := info_parts perm_info_int
  obtain ⟨cs, t, h1, h2, h3⟩ := hT
  have hsrc : Src Try.prog i0.size 25 (.slice (some ⟨T, 0, none⟩) tu.length tc) tu.length (tu.map (Value.int .i64)) W := Src.ofSlice W Try.underlying25 ⟨T, 0, none⟩ tu.length tc _ (by rw [hz1]; simp) (fun j u hj => by
    rw [List.getElem?_map] at hj
    obtain ⟨x, hx, rfl⟩ := Option.map_eq_some_iff.1 hj
    have e : (⟨T, 0, none⟩ : Addr).add j = ⟨T, j, none⟩ := by unfold Addr.add; split <;> simp_all
    rw [e, perm_cell h1]
    exact h3 j x hx) (fun u hu => by
    obtain ⟨x, _, rfl⟩ := List.mem_map.1 hu
    rfl)
  by_cases hemp : tu = []
  · subst hemp
    have hr := run_append_room_src W 25 25 25 2 i0 Try.underlying25 hi0 E 0 0 0 _ 0 _ hsrc (Nat.le_refl _) (fun j hj => absurd hj (by simp)) (fun j hj => absurd hj (by simp))
    exact ⟨E, 0, 0, W, hr, hE, Nat.le_refl _, Nat.le_refl _, .inl rfl, Chg.refl _ _⟩
  · have hpos : 0 < tu.length := by
      rcases Nat.eq_zero_or_pos tu.length with h | h
      · exact absurd (List.eq_nil_of_length_eq_zero h) hemp
      · exact h
    have hold : ∀ w' : World, w'.heap = W.heap → (Builtin.firstCells i0.size 0 (.slice (some ⟨E, 0, none⟩) 0 0)).run Try.prog w' = .ok ([] : List Value).toArray w' := fun w' hw =>
      run_firstCells_some w' i0.size 0 ⟨E, 0, none⟩ 0 0 [] (by simp) (fun j u hj => by simp at hj)
    have hg : 0 < 0 + tu.length := by omega
    have hr := run_append_grow_src W 25 25 25 2 i0 _ Try.underlying25 hi0 hz0 (some ⟨E, 0, none⟩) 0 0 [] (hold W.drew rfl) _ tu.length _ hsrc hg (by omega) (growslice_fits hg (by rw [hz2]; omega))
    have hge := grownCap_ge W (0 + tu.length) 0 2
    rw [Nat.zero_add] at hr hge
    refine ⟨W.heap.size, _, _, _, hr, ⟨_, 2, perm_new rfl _, ⟨?_, rfl⟩, fun i x hi => ?_⟩, hge, ?_, .inr (Nat.le_refl _), (Chg.refl _ _).drew.alloc _⟩
    · simp
    · rw [Array.getElem?_append_left (by
        rcases Nat.lt_or_ge i tu.length with h | h
        · simpa using h
        · rw [List.getElem?_eq_none h] at hi; cases hi)]
      rw [List.getElem?_toArray, List.nil_append, List.getElem?_map, hi]
      rfl
    · rw [Array.size_append, size_zeroCells, List.size_toArray, show (Value.int IntKind.i64 0).cells.size = 1 from rfl]
      simp
      omega

theorem getD_set_self7 {l : List Int} {k : Nat} {v : Int} (h : k < l.length) : (l.set k v).getD k 0 = v := by
  rw [List.getD_eq_getElem?_getD, List.getElem?_set_self h]
  rfl

theorem set_getD_self7 {l : List Int} {k : Nat} : l.set k (l.getD k 0) = l := by
  refine List.ext_getElem? fun i => ?_
  rw [List.getElem?_set]
  split
  · rename_i h
    subst h
    split
    · rename_i h2
      rw [List.getD_eq_getElem?_getD, List.getElem?_eq_getElem h2]
      rfl
    · rename_i h2
      rw [List.getElem?_eq_none (by omega)]
  · rfl

end Go.Proofs.Ytmdicmdodbndgaa.Arr
