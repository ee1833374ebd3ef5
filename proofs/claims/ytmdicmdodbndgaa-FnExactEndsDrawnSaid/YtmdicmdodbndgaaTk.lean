/-
  Tasks in memory: a row of the call's own, its times set anew, a row copied. No condition.
-/
import Derived.Test.YtmdicmdodbndgaaArr
namespace Go.Proofs.Ytmdicmdodbndgaa.Arr
open Go Go.RowKit Go.Proofs.Ytmdicmdodbndgaa Go.Proofs.Ytmdicmdodbndgaa.Fw
set_option maxRecDepth 100000
set_option linter.unusedVariables false
set_option linter.unusedSimpArgs false

abbrev tkS : Sh := .pair (.int .i64) (.pair (.int .i64) (.pair (.sl (.int .i64)) (.sl (.int .i64))))
abbrev Tk := Int × Int × List Int × List Int

theorem info_tk : (Try.prog.info? 46).map (fun i => (i.zero, i.size, i.bytes)) = some (some (Value.agg #[Value.int IntKind.i64 0, Value.int IntKind.i64 0, Value.slice none 0 0, Value.slice none 0 0]), 4, 64) := by kernel_rfl

/-- A row of tasks; what their lists name lies elsewhere. -/
def TR (p : Nat → Prop) (W : World) (SB : Nat) (ts : List Tk) : Prop :=
  ∃ cs t, W.heap[SB]? = some (.cells cs t (0, 0)) ∧ ts.length * 4 ≤ cs.size ∧ ∀ i x, ts[i]? = some x → ∃ l, l.length = 4 ∧ (∀ j v, l[j]? = some v → cs[i * 4 + j]? = some v) ∧ RC (fun _ => p) W.heap tkS x l

theorem TR.lt {p : Nat → Prop} {W : World} {SB : Nat} {ts : List Tk} (h : TR p W SB ts) : SB < W.heap.size := by
  obtain ⟨cs, t, h1, _⟩ := h
  exact lt_of_block h1

/-- All that counts is as it was. -/
theorem TR.same {p : Nat → Prop} {W W' : World} {SB : Nat} {ts : List Tk} (h : TR p W SB ts) (h1 : W'.heap[SB]? = W.heap[SB]?) (h2 : ∀ b, p b → W'.heap[b]? = W.heap[b]?) : TR p W' SB ts := by
  obtain ⟨cs, t, a1, a2, a3⟩ := h
  refine ⟨cs, t, h1.trans a1, a2, fun i x hi => ?_⟩
  obtain ⟨l, l1, l2, l3⟩ := a3 i x hi
  exact ⟨l, l1, l2, RC.mono_ (fun _ b hb => ⟨hb, fun o => by unfold cellH; rw [h2 b hb]⟩) l3⟩

/-- The cells of a task. -/
theorem tk_cells {ok : Bool → Nat → Prop} {H : Array Obj} {x : Tk} {l : List Value} (h : RC ok H tkS x l) : ∃ v1 v2, l = [.int .i64 x.1, .int .i64 x.2.1, v1, v2] ∧ RC ok H (.sl (.int .i64)) x.2.2.1 [v1] ∧ RC ok H (.sl (.int .i64)) x.2.2.2 [v2] := by
  obtain ⟨c1, c2, rfl, h1, c3, c4, rfl, h2, c5, c6, rfl, h3, h4⟩ := h
  have h1 : c1 = [.int .i64 x.1] := h1
  have h2 : c3 = [.int .i64 x.2.1] := h2
  have h3' := h3
  have h4' := h4
  obtain ⟨A, c, rfl, _⟩ := h3'
  obtain ⟨A2, c2, rfl, _⟩ := h4'
  subst h1
  subst h2
  exact ⟨_, _, rfl, h3, h4⟩

theorem tk_of {ok : Bool → Nat → Prop} {H : Array Obj} {x : Tk} {v1 v2 : Value} (h3 : RC ok H (.sl (.int .i64)) x.2.2.1 [v1]) (h4 : RC ok H (.sl (.int .i64)) x.2.2.2 [v2]) : RC ok H tkS x [.int .i64 x.1, .int .i64 x.2.1, v1, v2] :=
  ⟨[.int .i64 x.1], [.int .i64 x.2.1, v1, v2], rfl, rfl, [.int .i64 x.2.1], [v1, v2], rfl, rfl, [v1], [v2], rfl, h3, h4⟩

/-- The time of a task. -/
theorem TR.time {p : Nat → Prop} {W : World} {SB : Nat} {ts : List Tk} (h : TR p W SB ts) {i : Nat} {x : Tk} (hi : ts[i]? = some x) : W.cell? ⟨SB, i * 4, none⟩ = some (.int .i64 x.1) ∧ W.frozen? ⟨SB, i * 4, none⟩ = false := by
  obtain ⟨cs, t, a1, a2, a3⟩ := h
  obtain ⟨l, l1, l2, l3⟩ := a3 i x hi
  obtain ⟨v1, v2, rfl, _⟩ := tk_cells l3
  exact ⟨(perm_cell a1).trans (by simpa using l2 0 _ rfl), perm_free a1⟩

/-- A time set anew. -/
theorem TR.set {p : Nat → Prop} {W : World} {SB : Nat} {ts : List Tk} (h : TR p W SB ts) (hp : ¬ p SB) {i : Nat} {x : Tk} (hi : ts[i]? = some x) (v : Int) : TR p (W.setCell ⟨SB, i * 4, none⟩ (.int .i64 v)) SB (ts.set i (v, x.2)) := by
  obtain ⟨cs, t, a1, a2, a3⟩ := h
  have hlt : i < ts.length := by
    rcases Nat.lt_or_ge i ts.length with h | h
    · exact h
    · rw [List.getElem?_eq_none h] at hi; cases hi
  have hmono : ∀ {s : Sh} {x : s.den} {l : List Value}, RC (fun _ => p) W.heap s x l → RC (fun _ => p) (W.setCell ⟨SB, i * 4, none⟩ (.int .i64 v)).heap s x l := fun h => RC.mono_ (fun _ b hb => ⟨hb, fun o => by
    unfold cellH
    rw [Below.heap_setCell _ _ _ _ (show b ≠ SB from fun e => hp (e ▸ hb))]⟩) h
  refine ⟨_, t, perm_row a1 _, by simpa using a2, fun k y hk => ?_⟩
  rw [List.getElem?_set] at hk
  by_cases e : i = k
  · subst e
    rw [if_pos rfl, if_pos hlt] at hk
    cases hk
    obtain ⟨l, l1, l2, l3⟩ := a3 i x hi
    obtain ⟨v1, v2, rfl, g1, g2⟩ := tk_cells l3
    refine ⟨[.int .i64 v, .int .i64 x.2.1, v1, v2], rfl, fun j u hj => ?_, tk_of (x := (v, x.2)) (hmono g1) (hmono g2)⟩
    rw [Array.getElem?_setIfInBounds]
    cases j with
    | zero =>
      cases hj
      rw [if_pos (by omega), if_pos (by omega)]
    | succ j =>
      rw [if_neg (by omega)]
      exact l2 (j + 1) u hj
  · rw [if_neg e] at hk
    obtain ⟨l, l1, l2, l3⟩ := a3 k y hk
    refine ⟨l, l1, fun j u hj => ?_, hmono l3⟩
    have hj4 : j < 4 := by
      rcases Nat.lt_or_ge j l.length with h | h
      · omega
      · rw [List.getElem?_eq_none h] at hj; cases hj
    rw [Array.getElem?_setIfInBounds, if_neg (by omega)]
    exact l2 j u hj

/-- As an argument. -/
theorem TR.arg {p : Nat → Prop} {W : World} {SB c : Nat} {ts : List Tk} (h : TR p W SB ts) (hc : ts.length ≤ c) :
    RC (fun _ b => p b ∨ b = SB) W.heap (.sl tkS) ts (Value.slice (some ⟨SB, 0, none⟩) ts.length c).cells.toList ∧ aggV (Value.slice (some ⟨SB, 0, none⟩) ts.length c) = Sh.isAgg (.sl tkS) := by
  obtain ⟨cs, t, a1, a2, a3⟩ := h
  refine ⟨⟨some ⟨SB, 0, none⟩, c, rfl, hc, fun _ => ⟨SB, 0, rfl, .inr rfl, fun i x hi => ?_⟩⟩, rfl⟩
  obtain ⟨l, l1, l2, l3⟩ := a3 i x hi
  refine ⟨l, l1, fun j v hj => ?_, RC.mono_ (fun _ b hb => ⟨.inl hb, fun _ => rfl⟩) l3⟩
  unfold cellH
  rw [a1]
  simp only
  rw [Nat.zero_add]
  exact l2 j v hj

theorem addr_add (b o j : Nat) : (⟨b, o, none⟩ : Addr).add j = ⟨b, o + j, none⟩ := by unfold Addr.add; split <;> simp_all

set_option maxHeartbeats 1000000 in
/-- A row of tasks put behind an empty new one. -/
theorem app_tasks {p : Nat → Prop} {W : World} {E A0 o0 c0 : Nat} {ts : List Tk} (hE : ∃ t, W.heap[E]? = some (.cells #[] t (0, 0))) (hne : ts ≠ []) (hlen : ts.length ≤ 100000) (hA : RC (fun _ => p) W.heap (.sl tkS) ts [.slice (some ⟨A0, o0, none⟩) ts.length c0]) (hlt : ∀ b, p b → b < W.heap.size) :
    ∃ T c W', (Builtin.append_ #[29, 29] 29 #[.slice (some ⟨E, 0, none⟩) 0 0, .slice (some ⟨A0, o0, none⟩) ts.length c0]).run Try.prog W = .ok (.slice (some ⟨T, 0, none⟩) ts.length c) W' ∧ TR p W' T ts ∧ ts.length ≤ c ∧ T = W.heap.size ∧ Ext W W' := by
  obtain ⟨A, c, e1, hcap, hel⟩ := hA
  cases e1
  obtain ⟨B, off, e2, hpB, hel⟩ := hel hne
  cases e2
  obtain ⟨i0, hi0, hz0, hz1, hz2⟩ := info_parts info_tk
  obtain ⟨te, hE⟩ := hE
  -- the cells that are copied
  obtain ⟨news, hnews⟩ : ∃ news, news = (List.range (ts.length * 4)).map (fun j => (W.cell? ⟨A0, o0 + j, none⟩).getD (.bool false)) := ⟨_, rfl⟩
  have hlen4 : news.length = ts.length * 4 := by rw [hnews]; simp
  have hget : ∀ j, j < ts.length * 4 → news[j]? = some ((W.cell? ⟨A0, o0 + j, none⟩).getD (.bool false)) := fun j hj => by
    rw [hnews, List.getElem?_map, List.getElem?_range hj]
    rfl
  have hcell : ∀ i x, ts[i]? = some x → ∃ l, l.length = 4 ∧ (∀ j v, l[j]? = some v → W.cell? ⟨A0, o0 + (i * 4 + j), none⟩ = some v) ∧ RC (fun _ => p) W.heap tkS x l := fun i x hi => by
    obtain ⟨l, l1, l2, l3⟩ := hel i x hi
    refine ⟨l, l1, fun j v hj => ?_, l3⟩
    have := l2 j v hj
    rw [cell_eq]
    rw [show tkS.size = 4 from rfl, Nat.add_assoc] at this
    exact this
  have hone : ∀ j, j < ts.length * 4 → ∃ v, W.cell? ⟨A0, o0 + j, none⟩ = some v ∧ v.oneCell' = true := fun j hj => by
    have hi : j / 4 < ts.length := by omega
    obtain ⟨l, l1, l2, l3⟩ := hcell (j / 4) _ (List.getElem?_eq_getElem hi)
    obtain ⟨v1, v2, rfl, g1, g2⟩ := tk_cells l3
    obtain ⟨A1, c1, e1, _⟩ := g1
    obtain ⟨A2, c2, e2, _⟩ := g2
    cases e1
    cases e2
    have hj4 : j % 4 < 4 := Nat.mod_lt _ (by decide)
    have hjj : o0 + (j / 4 * 4 + j % 4) = o0 + j := by omega
    have h0 := l2 (j % 4)
    rw [hjj] at h0
    match hm : j % 4, hj4 with
    | 0, _ => exact ⟨_, h0 _ (by rw [hm]; rfl), rfl⟩
    | 1, _ => exact ⟨_, h0 _ (by rw [hm]; rfl), rfl⟩
    | 2, _ => exact ⟨_, h0 _ (by rw [hm]; rfl), rfl⟩
    | 3, _ => exact ⟨_, h0 _ (by rw [hm]; rfl), rfl⟩
  have hnw : ∀ j v, news[j]? = some v → W.cell? ⟨A0, o0 + j, none⟩ = some v := fun j v hj => by
    have hlt : j < ts.length * 4 := by
      rcases Nat.lt_or_ge j news.length with h | h
      · omega
      · rw [List.getElem?_eq_none h] at hj; cases hj
    obtain ⟨u, hu, _⟩ := hone j hlt
    rw [hget j hlt, hu] at hj
    cases hj
    exact hu
  have hsrc : Src Try.prog i0.size 29 (.slice (some ⟨A0, o0, none⟩) ts.length c0) ts.length news W := Src.ofSlice W Try.underlying29 ⟨A0, o0, none⟩ ts.length c0 _ (by rw [hz1]; exact hlen4) (fun j u hj => by
    rw [addr_add]
    exact hnw j u hj) (fun u hu => by
    obtain ⟨j, hj, rfl⟩ := List.getElem_of_mem hu
    obtain ⟨v, hv, h1⟩ := hone j (by omega)
    have := hnw j _ (List.getElem?_eq_getElem hj)
    rw [hv] at this
    cases this
    exact h1)
  have hpos : 0 < ts.length := by
    cases ts with
    | nil => exact absurd rfl hne
    | cons x r => simp
  have hold : ∀ w' : World, (Builtin.firstCells i0.size 0 (.slice (some ⟨E, 0, none⟩) 0 0)).run Try.prog w' = .ok ([] : List Value).toArray w' := fun w' =>
    run_firstCells_some w' i0.size 0 ⟨E, 0, none⟩ 0 0 [] (by simp) (fun j u hj => by simp at hj)
  have hg : 0 < 0 + ts.length := by omega
  have hr := run_append_grow_src W 29 29 29 46 i0 _ Try.underlying29 hi0 hz0 (some ⟨E, 0, none⟩) 0 0 [] (hold W.drew) _ ts.length _ hsrc hg (by omega) (growslice_fits hg (by rw [hz2]; omega))
  have hge := grownCap_ge W (0 + ts.length) 0 46
  rw [Nat.zero_add] at hr hge
  refine ⟨W.heap.size, _, _, hr, ⟨_, 46, perm_new rfl _, by simp; omega, fun i x hi => ?_⟩, hge, rfl, (Chg.refl _ _).drew.alloc _⟩
  obtain ⟨l, l1, l2, l3⟩ := hcell i x hi
  have hil : i < ts.length := by
    rcases Nat.lt_or_ge i ts.length with h | h
    · exact h
    · rw [List.getElem?_eq_none h] at hi; cases hi
  refine ⟨l, l1, fun j v hj => ?_, RC.mono_ (fun _ b hb => ⟨hb, fun o => ?_⟩) l3⟩
  · have hj4 : j < 4 := by
      rcases Nat.lt_or_ge j l.length with h | h
      · omega
      · rw [List.getElem?_eq_none h] at hj; cases hj
    rw [Array.getElem?_append_left (by simp; omega), List.getElem?_toArray, List.nil_append, hget _ (by omega), l2 j v hj]
    rfl
  · unfold cellH
    rw [((Chg.refl (fun _ => False) W).drew.alloc _).block b (hlt b hb) id]

end Go.Proofs.Ytmdicmdodbndgaa.Arr
