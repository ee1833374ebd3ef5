/-
  Rows of floats in memory; a task read whole. No condition.
-/
import Derived.Deep.LoopGhost
import Derived.Test.YtmdicmdodbndgaaTkC
import Derived.Test.YtmdicmdodbndgaaMix
namespace Go.Proofs.Ytmdicmdodbndgaa.Arr
open Go Go.RowKit Go.Proofs.Ytmdicmdodbndgaa Go.Proofs.Ytmdicmdodbndgaa.Fw
set_option maxRecDepth 100000
set_option linter.unusedVariables false
set_option linter.unusedSimpArgs false

theorem results_tmp4 {fn : Func} {t u v x : Tmp} (h : fn.results = #[.tmp t, .tmp u, .tmp v, .tmp x]) (tmps : Array Value) (P : Program) (w : World) :
    (results fn tmps).run P w = .ok (.tuple #[tmps.getD t undef, tmps.getD u undef, tmps.getD v undef, tmps.getD x undef]) w := by
  simp [results, h]

theorem info_flt : (Try.prog.info? 23).map (fun i => (i.zero, i.size, i.bytes)) = some (some (Value.float FloatKind.f32 0), 1, 4) := by kernel_rfl

/-- A row that begins with a list of floats. -/
def RowF (W : World) (b z : Nat) (l : List Nat) : Prop := ∃ cs e, W.heap[b]? = some (.cells cs e (0, 0)) ∧ (l.length ≤ cs.size ∧ cs.size = z) ∧ ∀ (i : Nat) (x : Nat), l[i]? = some x → cs[i]? = some (.float .f32 x)

theorem RowF.aSamE {W W' : World} {b z : Nat} {l : List Nat} (h : RowF W b z l) (e : W'.heap[b]? = W.heap[b]?) : RowF W' b z l := by
  obtain ⟨cs, t, h1, h2, h3⟩ := h
  exact ⟨cs, t, e.trans h1, h2, h3⟩

theorem RowF.aLtE {W : World} {b z : Nat} {l : List Nat} (h : RowF W b z l) : b < W.heap.size := by
  obtain ⟨cs, t, h1, h2, h3⟩ := h
  exact lt_of_block h1

/-- One float more. -/
theorem app_flt {W : World} {T tc tz X xc : Nat} {tu : List Nat} {v : Nat} (hT : RowF W T tz tu) (htc : tu.length ≤ tc) (hz : tc ≤ tz) (hlen : tu.length ≤ 1000) (hX : W.cell? ⟨X, 0, none⟩ = some (.float .f32 v)) :
    ∃ T' tc' tz' W', (Builtin.append_ #[26, 26] 26 #[.slice (some ⟨T, 0, none⟩) tu.length tc, .slice (some ⟨X, 0, none⟩) 1 xc]).run Try.prog W = .ok (.slice (some ⟨T', 0, none⟩) (tu.length + 1) tc') W' ∧ RowF W' T' tz' (tu ++ [v]) ∧ tu.length + 1 ≤ tc' ∧ tc' ≤ tz' ∧ (T' = T ∨ W.heap.size ≤ T') ∧ Chg (fun b => b = T) W W' := by
  obtain ⟨i0, hi0, hz0, hz1, hz2⟩ := info_parts info_flt
  have hsrc : Src Try.prog i0.size 26 (.slice (some ⟨X, 0, none⟩) 1 xc) 1 [.float .f32 v] W := Src.ofSlice W Try.underlying26 ⟨X, 0, none⟩ 1 xc _ (by rw [hz1]; rfl) (fun j u hj => by
    cases j with
    | zero => cases hj; exact hX
    | succ j => simp at hj) (fun u hu => by
    obtain rfl := List.mem_singleton.1 hu
    rfl)
  obtain ⟨cs, t, h1, h2, h3⟩ := hT
  by_cases hroom : tu.length + 1 ≤ tc
  · have hr := run_append_room_src W 26 26 26 23 i0 Try.underlying26 hi0 T 0 tu.length tc _ 1 _ hsrc hroom (fun j hj => by
      have hj : j = 0 := by simpa using hj
      subst hj
      rw [perm_cell h1, hz1, Array.getElem?_eq_getElem (by omega)]
      rfl) (fun j hj => perm_free h1)
    refine ⟨T, tc, tz, _, hr, ?_, hroom, hz, .inl rfl, ?_⟩
    · rw [hz1, Nat.mul_one, Nat.zero_add]
      show RowF (W.setCell ⟨T, tu.length, none⟩ (.float .f32 v)) T tz (tu ++ [v])
      refine ⟨_, t, perm_row h1 _, ⟨by simp; omega, by simpa using h2.2⟩, fun i x hi => ?_⟩
      rw [Array.getElem?_setIfInBounds]
      by_cases he : tu.length = i
      · subst he
        rw [List.getElem?_append_right (Nat.le_refl _)] at hi
        simp at hi
        subst hi
        rw [if_pos rfl, if_pos (by omega)]
      · rw [if_neg he]
        have : i < tu.length := by
          rcases Nat.lt_or_ge i (tu ++ [v]).length with h | h
          · simp at h; omega
          · rw [List.getElem?_eq_none h] at hi; cases hi
        rw [List.getElem?_append_left this] at hi
        exact h3 i x hi
    · rw [hz1, Nat.mul_one, Nat.zero_add]
      show Chg (fun b => b = T) W (W.setCell ⟨T, tu.length, none⟩ (.float .f32 v))
      exact Chg.set (S := fun b => b = T) (Chg.refl _ _) (a := ⟨T, tu.length, none⟩) rfl _
  · have hold : ∀ w' : World, w'.heap = W.heap → (Builtin.firstCells i0.size tu.length (.slice (some ⟨T, 0, none⟩) tu.length tc)).run Try.prog w' = .ok (tu.map (Value.float .f32)).toArray w' := fun w' hw => by
      refine run_firstCells_some w' i0.size tu.length ⟨T, 0, none⟩ tu.length tc _ (by rw [hz1]; simp) (fun j u hj => ?_)
      rw [List.getElem?_map] at hj
      obtain ⟨x, hx, rfl⟩ := Option.map_eq_some_iff.1 hj
      have e : (⟨T, 0, none⟩ : Addr).add j = ⟨T, j, none⟩ := by unfold Addr.add; split <;> simp_all
      have hc : w'.cell? ⟨T, j, none⟩ = W.cell? ⟨T, j, none⟩ := by unfold World.cell?; rw [hw]
      rw [e, hc, perm_cell h1]
      exact h3 j x hx
    have hg : tc < tu.length + 1 := by omega
    have hr := run_append_grow_src W 26 26 26 23 i0 _ Try.underlying26 hi0 hz0 (some ⟨T, 0, none⟩) tu.length tc _ (hold W.drew rfl) _ 1 _ hsrc hg (by omega) (growslice_fits hg (by rw [hz2]; omega))
    have hge := grownCap_ge W (tu.length + 1) tc 23
    refine ⟨W.heap.size, _, _, _, hr, ⟨_, 23, perm_new rfl _, ⟨?_, rfl⟩, fun i x hi => ?_⟩, hge, ?_, .inr (Nat.le_refl _), (Chg.refl _ _).drew.alloc _⟩
    · simp
    · rw [Array.getElem?_append_left (by
        rcases Nat.lt_or_ge i (tu ++ [v]).length with h | h
        · simpa using h
        · rw [List.getElem?_eq_none h] at hi; cases hi)]
      rw [List.getElem?_toArray]
      have : (tu.map (Value.float .f32) ++ [Value.float .f32 v]) = (tu ++ [v]).map (Value.float .f32) := by simp
      rw [this, List.getElem?_map, hi]
      rfl
    · rw [Array.size_append, size_zeroCells, List.size_toArray, show (Value.float FloatKind.f32 0).cells.size = 1 from rfl]
      simp
      omega

theorem rowF_own {ok : Bool → Nat → Prop} {W : World} {B O c z : Nat} {l : List Nat} (hl : ∀ x ∈ l, toF .f32 x = some x) (hO : B ≤ O) (h : RowF W O z l) (hc : l.length ≤ c) (hz : c ≤ z) : OwnR ok B W.heap (.flt .f32) (l.map some) (.slice (some ⟨O, 0, none⟩) l.length c) (some O) := by
  obtain ⟨cs, te, k2, k3, k4⟩ := h
  refine ⟨hO, ⟨cs, te, k2, by simpa [Sh.size] using k3.1, fun i x hi => ?_⟩, 0, c, by rw [List.length_map], by rw [List.length_map]; exact hc, fun _ => rfl, fun n' hn' => ?_⟩
  · rw [List.getElem?_map] at hi
    obtain ⟨u, hu, rfl⟩ := Option.map_eq_some_iff.1 hi
    refine ⟨[.float .f32 u], rfl, fun j v hv => ?_, u, rfl, (hl u (List.mem_of_getElem? hu)).symm⟩
    have hj : j = 0 := by
      cases j with
      | zero => rfl
      | succ j => cases hv
    subst hj
    cases hv
    unfold cellH
    rw [k2]
    simp only
    rw [show i * Sh.size (.flt .f32) + 0 = i by simp [Sh.size]]
    exact k4 i u hu
  · unfold bsz at hn'
    rw [k2] at hn'
    cases hn'
    rw [k3.2]
    simpa [Sh.size] using hz

/-- The cells of tasks that are read. -/
theorem tk_all {ok : Bool → Nat → Prop} {W : World} {b off : Nat} {xs : List Tk} (h : ∀ i x, xs[i]? = some x → ∃ l, l.length = Sh.size tkS ∧ Reads W.heap b (off + i * Sh.size tkS) l ∧ RC ok W.heap tkS x l) :
    ∀ i x, xs[i]? = some x → ∃ v1 v2, W.cell? ⟨b, off + i * 4, none⟩ = some (.int .i64 x.1) ∧ W.cell? ⟨b, off + i * 4 + 1, none⟩ = some (.int .i64 x.2.1) ∧ W.cell? ⟨b, off + i * 4 + 2, none⟩ = some v1 ∧ W.cell? ⟨b, off + i * 4 + 3, none⟩ = some v2 ∧ (∃ A1 m1 c1, v1 = .slice A1 m1 c1) ∧ ∃ A2 m2 c2, v2 = .slice A2 m2 c2 := fun i x hi => by
  obtain ⟨l, q1, q2, q3⟩ := h i x hi
  obtain ⟨v1, v2, rfl, ⟨A1, c1, h1, _⟩, ⟨A2, c2, h2, _⟩⟩ := tk_cells q3
  simp only [cell_eq]
  exact ⟨v1, v2, q2 0 _ rfl, q2 1 _ rfl, q2 2 _ rfl, q2 3 _ rfl, ⟨A1, _, c1, by cases h1; rfl⟩, ⟨A2, _, c2, by cases h2; rfl⟩⟩

theorem flt_mul {P : Program} (w : World) (t : TypeId) {x y r : Nat} (h : FloatKind.f32.format.mul x y = some r) : (binOp .mul t (.float .f32 x) (.float .f32 y)).run P w = .ok (.float .f32 r) w := by
  simp [binOp, Op.floatArith, h]

theorem flt_quo {P : Program} (w : World) (t : TypeId) {x y r : Nat} (h : FloatKind.f32.format.div x y = some r) : (binOp .quo t (.float .f32 x) (.float .f32 y)).run P w = .ok (.float .f32 r) w := by
  simp [binOp, Op.floatArith, h]

theorem flt_toInt {P : Program} (w : World) {s d : TypeId} {x : Nat} {z : Int} (hs : P.underlying s = some (.float .f32)) (hd : P.underlying d = some (.int .i64)) (h : (Ieee.single.read x).toInt .zero = some z) (hz : -1000000000 ≤ z ∧ z ≤ 1000000000) : (convert s d (.float .f32 x)).run P w = .ok (.int .i64 z) w := by
  have h1 : (FloatKind.f32.decode x).toInt .zero = some z := h
  have h2 : IntKind.min .i64 ≤ z ∧ z ≤ IntKind.max .i64 := by
    rw [show IntKind.min .i64 = -9223372036854775808 from by decide, show IntKind.max .i64 = 9223372036854775807 from by decide]
    omega
  simp [convert, run_underlying hs, run_underlying hd, Conv.floatToInt, h1, h2]
  intro h3
  omega

theorem int_toFlt {P : Program} (w : World) {s d : TypeId} {n : Int} (hs : P.underlying s = some (.int .i64)) (hd : P.underlying d = some (.float .f32)) : (convert s d (.int .i64 n)).run P w = .ok (.float .f32 (FloatKind.nearest .f32 n)) w := by
  simp [convert, run_underlying hs, run_underlying hd, Conv.intToFloat]

theorem tdiv_small {a : Int} (h1 : -1000000000000000 ≤ a) (h2 : a ≤ 1000000000000000) : -1000000000000000 ≤ Int.tdiv a 1000 ∧ Int.tdiv a 1000 ≤ 1000000000000000 := by
  have h := Int.natAbs_tdiv a 1000
  generalize Int.tdiv a 1000 = q at h
  have : q.natAbs ≤ a.natAbs := by rw [h]; exact Nat.div_le_self _ _
  omega

end Go.Proofs.Ytmdicmdodbndgaa.Arr
