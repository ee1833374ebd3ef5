/-
  impl.BestShop: the closure that puts one more turn. No condition.
-/
import Derived.Deep.RegionHeld3
import Derived.Deep.AppendSrc
import Derived.Lib.AppendZeros
import Derived.Lib.SliceRun
import Derived.ArgAppend
import Derived.Deep.DeepCutAuto
import Derived.Test.YtgcmklniacjcfaaShop1
import Derived.Test.YtgcmklniacjcfaaShopB
namespace Go.Proofs.Ytgcmklniacjcfaa
open Go Go.RowKit Go.Proofs.Ytgcmklniacjcfaa.Fw
set_option maxRecDepth 100000
set_option linter.unusedVariables false
set_option linter.unusedSimpArgs false

theorem RowL.samE {W W' : World} {b z : Nat} {l : List Int} (h : RowL W b z l) (e : W'.heap[b]? = W.heap[b]?) : RowL W' b z l := by
  obtain ⟨cs, t, h1, h2, h3⟩ := h
  exact ⟨cs, t, e.trans h1, h2, h3⟩
theorem RowL.ltE {W : World} {b z : Nat} {l : List Int} (h : RowL W b z l) : b < W.heap.size := by
  obtain ⟨cs, t, h1, h2, h3⟩ := h
  exact lt_of_block h1
theorem RowL.pre {W : World} {b z : Nat} {l r : List Int} (h : RowL W b z (l ++ r)) : RowL W b z l := by
  obtain ⟨cs, t, h1, h2, h3⟩ := h
  refine ⟨cs, t, h1, ⟨by have := h2.1; simp at this; omega, h2.2⟩, fun i x hi => h3 i x ?_⟩
  have hlt : i < l.length := by
    rcases Nat.lt_or_ge i l.length with h | h
    · exact h
    · rw [List.getElem?_eq_none h] at hi; cases hi
  rw [List.getElem?_append_left hlt]
  exact hi

/-- One number more. -/
theorem app_one {W : World} {T tc tz X xc : Nat} {tu : List Int} {v : Int} (hT : RowL W T tz tu) (htc : tu.length ≤ tc) (hz : tc ≤ tz) (hlen : tu.length ≤ 1000) (hX : W.cell? ⟨X, 0, none⟩ = some (.int .i64 v)) :
    ∃ T' tc' tz' W', (Builtin.append_ #[22, 22] 22 #[.slice (some ⟨T, 0, none⟩) tu.length tc, .slice (some ⟨X, 0, none⟩) 1 xc]).run Try.prog W = .ok (.slice (some ⟨T', 0, none⟩) (tu.length + 1) tc') W' ∧ RowL W' T' tz' (tu ++ [v]) ∧ tu.length + 1 ≤ tc' ∧ tc' ≤ tz' ∧ (T' = T ∨ W.heap.size ≤ T') ∧ Chg (fun b => b = T) W W' := by
  obtain ⟨i0, hi0, hz0, hz1, hz2⟩ := info_parts perm_info_int
  have hsrc : Src Try.prog i0.size 22 (.slice (some ⟨X, 0, none⟩) 1 xc) 1 [.int .i64 v] W := Src.ofSlice W Try.underlying22 ⟨X, 0, none⟩ 1 xc _ (by rw [hz1]; rfl) (fun j u hj => by
    cases j with
    | zero => cases hj; exact hX
    | succ j => simp at hj) (fun u hu => by
    obtain rfl := List.mem_singleton.1 hu
    rfl)
  obtain ⟨cs, t, h1, h2, h3⟩ := hT
  by_cases hroom : tu.length + 1 ≤ tc
  · have hr := run_append_room_src W 22 22 22 2 i0 Try.underlying22 hi0 T 0 tu.length tc _ 1 _ hsrc hroom (fun j hj => by
      have hj : j = 0 := by simpa using hj
      subst hj
      rw [perm_cell h1, hz1, Array.getElem?_eq_getElem (by omega)]
      rfl) (fun j hj => perm_free h1)
    refine ⟨T, tc, tz, _, hr, ?_, hroom, hz, .inl rfl, ?_⟩
    · rw [hz1, Nat.mul_one, Nat.zero_add]
      show RowL (W.setCell ⟨T, tu.length, none⟩ (.int .i64 v)) T tz (tu ++ [v])
      refine ⟨_, t, perm_row h1 _, ⟨by simp; omega, by simpa using h2.2⟩, fun i x hi => ?_⟩
      rw [Array.getElem?_setIfInBounds]
      by_cases he : tu.length = i
      · subst he
        rw [List.getElem?_append_right (Nat.le_refl _)] at hi
        simp at hi
        subst hi
        rw [if_pos rfl, if_pos (by omega)]
      · rw [if_neg he]
        have : i < tu.length := by
          rcases Nat.lt_or_ge i (tu ++ [v]).length with h | h
          · simp at h; omega
          · rw [List.getElem?_eq_none h] at hi; cases hi
        rw [List.getElem?_append_left this] at hi
        exact h3 i x hi
    · rw [hz1, Nat.mul_one, Nat.zero_add]
      show Chg (fun b => b = T) W (W.setCell ⟨T, tu.length, none⟩ (.int .i64 v))
      exact Chg.set (S := fun b => b = T) (Chg.refl _ _) (a := ⟨T, tu.length, none⟩) rfl _
  · have hold : ∀ w' : World, w'.heap = W.heap → (Builtin.firstCells i0.size tu.length (.slice (some ⟨T, 0, none⟩) tu.length tc)).run Try.prog w' = .ok (tu.map (Value.int .i64)).toArray w' := fun w' hw => by
      refine run_firstCells_some w' i0.size tu.length ⟨T, 0, none⟩ tu.length tc _ (by rw [hz1]; simp) (fun j u hj => ?_)
      rw [List.getElem?_map] at hj
      obtain ⟨x, hx, rfl⟩ := Option.map_eq_some_iff.1 hj
      have e : (⟨T, 0, none⟩ : Addr).add j = ⟨T, j, none⟩ := by unfold Addr.add; split <;> simp_all
      have hc : w'.cell? ⟨T, j, none⟩ = W.cell? ⟨T, j, none⟩ := by unfold World.cell?; rw [hw]
      rw [e, hc, perm_cell h1]
      exact h3 j x hx
    have hg : tc < tu.length + 1 := by omega
    have hr := run_append_grow_src W 22 22 22 2 i0 _ Try.underlying22 hi0 hz0 (some ⟨T, 0, none⟩) tu.length tc _ (hold W.drew rfl) _ 1 _ hsrc hg (by omega) (growslice_fits hg (by rw [hz2]; omega))
    have hge := grownCap_ge W (tu.length + 1) tc 2
    refine ⟨W.heap.size, _, _, _, hr, ⟨_, 2, perm_new rfl _, ⟨?_, rfl⟩, fun i x hi => ?_⟩, hge, ?_, .inr (Nat.le_refl _), (Chg.refl _ _).drew.alloc _⟩
    · simp
    · rw [Array.getElem?_append_left (by
        rcases Nat.lt_or_ge i (tu ++ [v]).length with h | h
        · simpa using h
        · rw [List.getElem?_eq_none h] at hi; cases hi)]
      rw [List.getElem?_toArray]
      have : (tu.map (Value.int .i64) ++ [Value.int .i64 v]) = (tu ++ [v]).map (Value.int .i64) := by simp
      rw [this, List.getElem?_map, hi]
      rfl
    · rw [Array.size_append, size_zeroCells, List.size_toArray, show (Value.int IntKind.i64 0).cells.size = 1 from rfl]
      simp
      omega

/-- The best list so far, as it lies. -/
def BestR (W : World) (b T : Nat) : Option (List Int) → Value → Prop
  | none, v => v = .slice none 0 0
  | some l, v => ∃ D dc dz, v = .slice (some ⟨D, 0, none⟩) l.length dc ∧ RowL W D dz l ∧ b + 6 ≤ D ∧ D ≠ T ∧ l.length ≤ dc ∧ dc ≤ dz

/-- The captured variables' cells. -/
def shopPs (a b : Nat) : List Value := [.pointer (some ⟨b + 4, 0, none⟩), .pointer (some ⟨a + 1, 0, none⟩), .pointer (some ⟨b + 1, 0, none⟩), .pointer (some ⟨b + 2, 0, none⟩), .pointer (some ⟨b, 0, none⟩), .pointer (some ⟨a, 0, none⟩), .pointer (some ⟨b + 5, 0, none⟩)]

/-- What holds of memory while one looks for the best turns. -/
structure BI (a b XB xo xc B off c RB ro rc n q m : Nat) (rt xs : List Int) (T tc tz : Nat) (tu : List Int) (best : BS) (W : World) : Prop where
  lt : a + 1 < b ∧ B < b ∧ RB < b
  rtb : W.heap[a]? = some (.cells #[.slice (some ⟨RB, ro, none⟩) n rc] 22 (0, 0))
  tmb : W.heap[a + 1]? = some (.cells #[.slice (some ⟨XB, xo, none⟩) n xc] 22 (0, 0))
  shb : W.heap[b]? = some (.cells #[.slice (some ⟨B, off, none⟩) n c, .int .i64 (q : Int), .int .i64 (m : Int)] 44 (0, 0))
  bsb : ∃ v, W.heap[b + 1]? = some (.cells #[v] 22 (0, 0)) ∧ BestR W b T best.1 v
  lsb : W.heap[b + 2]? = some (.cells #[.int .i64 best.2] 2 (0, 0))
  tub : W.heap[b + 4]? = some (.cells #[.slice (some ⟨T, 0, none⟩) tu.length tc] 22 (0, 0))
  pub : W.heap[b + 5]? = some (.cells #[.func (.func 40) #[] (shopPs a b).toArray] 60 (0, 0))
  trow : RowL W T tz tu
  tcap : tu.length ≤ tc ∧ tc ≤ tz
  tpl : T = b + 3 ∨ b + 6 ≤ T
  xb : ∀ i, i < n → W.cell? ⟨B, off + i, none⟩ = some (.int .i64 (xs.getD i 0))
  rb : ∀ i, i < n → W.cell? ⟨RB, ro + i, none⟩ = some (.int .i64 (rt.getD i 0))

theorem cell_same {W W' : World} {p : Addr} (h : W'.heap[p.block]? = W.heap[p.block]?) : W'.cell? p = W.cell? p := by
  unfold World.cell?
  rw [h]

theorem BI.below {a b XB xo xc B off c RB ro rc n q m : Nat} {rt xs : List Int} {T tc tz : Nat} {tu : List Int} {best : BS} {W W' : World} (h : BI a b XB xo xc B off c RB ro rc n q m rt xs T tc tz tu best W) (hb : ∀ k, k < W.heap.size → W'.heap[k]? = W.heap[k]?) :
    BI a b XB xo xc B off c RB ro rc n q m rt xs T tc tz tu best W' := by
  obtain ⟨lt, rtb, tmb, shb, ⟨v, bsb, hv⟩, lsb, tub, pub, trow, tcap, tpl, xb, rb⟩ := h
  have hp := lt_of_block pub
  refine ⟨lt, (hb _ (by omega)).trans rtb, (hb _ (by omega)).trans tmb, (hb _ (by omega)).trans shb, ⟨v, (hb _ (by omega)).trans bsb, ?_⟩, (hb _ (by omega)).trans lsb, (hb _ (by omega)).trans tub, (hb _ (by omega)).trans pub, trow.samE (hb _ trow.ltE), tcap, tpl,
    fun i hi => (cell_same (hb B (by omega))).trans (xb i hi), fun i hi => (cell_same (hb RB (by omega))).trans (rb i hi)⟩
  cases hbest : best.1 with
  | none => rw [hbest] at hv; exact hv
  | some l =>
    rw [hbest] at hv
    obtain ⟨D, dc, dz, e, hD, h1, h2⟩ := hv
    exact ⟨D, dc, dz, e, hD.samE (hb _ hD.ltE), h1, h2⟩

/-- The turns' own array has grown, and its variable with it. -/
theorem BI.turns {a b XB xo xc B off c RB ro rc n q m : Nat} {rt xs : List Int} {T tc tz : Nat} {tu : List Int} {best : BS} {W W' : World} (h : BI a b XB xo xc B off c RB ro rc n q m rt xs T tc tz tu best W) {T' tc' tz' : Nat} {tu' : List Int}
    (hc : Chg (fun k => k = T) W W') (hrow : RowL W' T' tz' tu') (hcap : tu'.length ≤ tc' ∧ tc' ≤ tz') (hT : T' = T ∨ W.heap.size ≤ T') :
    BI a b XB xo xc B off c RB ro rc n q m rt xs T' tc' tz' tu' best (W'.setCell ⟨b + 4, 0, none⟩ (.slice (some ⟨T', 0, none⟩) tu'.length tc')) := by
  obtain ⟨lt, rtb, tmb, shb, ⟨v, bsb, hv⟩, lsb, tub, pub, trow, tcap, tpl, xb, rb⟩ := h
  have hp := lt_of_block pub
  have hb : ∀ k, k < W.heap.size → k ≠ T → k ≠ b + 4 → (W'.setCell ⟨b + 4, 0, none⟩ (.slice (some ⟨T', 0, none⟩) tu'.length tc')).heap[k]? = W.heap[k]? := fun k h1 h2 h3 => (Below.heap_setCell _ _ _ _ h3).trans (hc.block k h1 h2)
  have h4 := perm_row (i := 0) ((hc.block (b + 4) (by omega) (by omega)).trans tub) (.slice (some ⟨T', 0, none⟩) tu'.length tc')
  refine ⟨lt, (hb _ (by omega) (by omega) (by omega)).trans rtb, (hb _ (by omega) (by omega) (by omega)).trans tmb, (hb _ (by omega) (by omega) (by omega)).trans shb, ⟨v, (hb _ (by omega) (by omega) (by omega)).trans bsb, ?_⟩, (hb _ (by omega) (by omega) (by omega)).trans lsb, by simpa using h4, (hb _ (by omega) (by omega) (by omega)).trans pub, hrow.other (by show T' ≠ b + 4; omega) _, hcap, by omega,
    fun i hi => (cell_same (hb B (by omega) (by omega) (by omega))).trans (xb i hi), fun i hi => (cell_same (hb RB (by omega) (by omega) (by omega))).trans (rb i hi)⟩
  cases hbest : best.1 with
  | none => rw [hbest] at hv; exact hv
  | some l =>
    rw [hbest] at hv
    obtain ⟨D, dc, dz, e, hD, h1, h2, h3⟩ := hv
    have hDl := hD.ltE
    exact ⟨D, dc, dz, e, hD.samE (hb D (by omega) (by omega) (by omega)), h1, by omega, h3⟩

theorem Chg.trans {S S' : Nat → Prop} {w w1 w2 : World} (h : Chg S w w1) (h' : Chg S' w1 w2) (hs : ∀ k, k < w.heap.size → S' k → S k) : Chg S w w2 :=
  ⟨h'.os.trans h.os, h'.tape.trans h.tape, h'.output.trans h.output, Nat.le_trans h.size h'.size, fun k hk hn => (h'.block k (Nat.lt_of_lt_of_le hk h.size) (fun e => hn (hs k hk e))).trans (h.block k hk hn)⟩

/-- A contract of slices.Max. -/
def MaxC (fM : List Int → Option (Int × Unit)) : Prop := ∀ (W : World) (b z c : Nat) (l : List Int) (v : Int), fM l = some (v, ()) → l.length ≤ c → RowL W b z l →
  Calls Try.prog 31 #[.slice (some ⟨b, 0, none⟩) l.length c] W fun e W' => Below W.heap.size W W' ∧ e = .returned (.int .i64 v)
/-- A contract of slices.Clone. -/
def CloneC (g : FuncId) (fC : List Int → Option (List Int × Unit)) : Prop := ∀ (W : World) (b z c : Nat) (l : List Int), fC l = some (l, ()) → l ≠ [] → l.length ≤ c → RowL W b z l →
  Calls Try.prog g #[.slice (some ⟨b, 0, none⟩) l.length c] W fun e W' => Below W.heap.size W W' ∧ ∃ O oc oz, e = .returned (.slice (some ⟨O, 0, none⟩) l.length oc) ∧ W.heap.size ≤ O ∧ RowL W' O oz l ∧ l.length ≤ oc ∧ oc ≤ oz

theorem best_eqn {W : World} {b T : Nat} {o : Option (List Int)} {v : Value} (h : BestR W b T o v) (w : World) (n' c' : Nat) : (binOp .eql 22 v (.slice none n' c')).run Try.prog w = .ok (.bool o.isNone) w := by
  cases o with
  | none =>
    have h : v = .slice none 0 0 := h
    rw [h]
    exact Lib.run_eql_slice_nil w _ _ none 0 0 n' c' Try.underlying22
  | some l =>
    obtain ⟨D, dc, dz, rfl, _⟩ := h
    exact Lib.run_eql_slice_nil w _ _ (some ⟨D, 0, none⟩) l.length dc n' c' Try.underlying22

/-- The best one is put down anew. -/
theorem BI.better {a b XB xo xc B off c RB ro rc n q m : Nat} {rt xs : List Int} {T tc tz : Nat} {tu : List Int} {best : BS} {W : World} (h : BI a b XB xo xc B off c RB ro rc n q m rt xs T tc tz tu best W) {O oc oz : Nat} {l : List Int} {v : Int}
    (hO : RowL W O oz l) (hO1 : b + 6 ≤ O) (hO2 : O ≠ T) (hoc : l.length ≤ oc ∧ oc ≤ oz) :
    BI a b XB xo xc B off c RB ro rc n q m rt xs T tc tz tu (some l, v) ((W.setCell ⟨b + 1, 0, none⟩ (.slice (some ⟨O, 0, none⟩) l.length oc)).setCell ⟨b + 2, 0, none⟩ (.int .i64 v)) := by
  obtain ⟨lt, rtb, tmb, shb, ⟨u, bsb, hu⟩, lsb, tub, pub, trow, tcap, tpl, xb, rb⟩ := h
  have hb : ∀ k, k ≠ b + 1 → k ≠ b + 2 → ((W.setCell ⟨b + 1, 0, none⟩ (.slice (some ⟨O, 0, none⟩) l.length oc)).setCell ⟨b + 2, 0, none⟩ (.int .i64 v)).heap[k]? = W.heap[k]? := fun k h1 h2 => (Below.heap_setCell _ _ _ _ h2).trans (Below.heap_setCell _ _ _ _ h1)
  have h1 := perm_row (i := 0) bsb (.slice (some ⟨O, 0, none⟩) l.length oc)
  have h2 := perm_row (i := 0) (perm_set (b := b + 2) lsb ⟨b + 1, 0, none⟩ (by show b + 2 ≠ b + 1; omega) (.slice (some ⟨O, 0, none⟩) l.length oc)) (.int .i64 v)
  refine ⟨lt, (hb _ (by omega) (by omega)).trans rtb, (hb _ (by omega) (by omega)).trans tmb, (hb _ (by omega) (by omega)).trans shb, ⟨.slice (some ⟨O, 0, none⟩) l.length oc, ?_, O, oc, oz, rfl, hO.samE (hb O (by omega) (by omega)), hO1, hO2, hoc⟩, by simpa using h2, (hb _ (by omega) (by omega)).trans tub, (hb _ (by omega) (by omega)).trans pub, trow.samE (hb T (by omega) (by omega)), tcap, tpl,
    fun i hi => (cell_same (hb B (by omega) (by omega))).trans (xb i hi), fun i hi => (cell_same (hb RB (by omega) (by omega))).trans (rb i hi)⟩
  exact perm_set (by simpa using h1) ⟨b + 2, 0, none⟩ (by show b + 1 ≠ b + 2; omega) _

set_option maxHeartbeats 4000000 in
/-- The end: all turns are taken. -/
theorem put_leaf {fM : List Int → Option (Int × Unit)} {fCL : List Int → Option (List Int × Unit)} (hM : MaxC fM) (hCL : CloneC 41 fCL)
    {a b XB xo xc B off c RB ro rc n q m : Nat} {rt xs : List Int} (hn1 : 1 ≤ n) {s : TS} {tu : List Int} {best best' : BS} {T tc tz NB nc JB jc FB fc zf : Nat} {W : World} (hlen : tu.length = n) (l3 : s.2.2.length = m) (hfc : m ≤ fc)
    (hF : RowL W FB zf s.2.2) (hI : BI a b XB xo xc B off c RB ro rc n q m rt xs T tc tz tu best W) (hr : leafP fM fCL s tu best = some best') :
    Calls Try.prog 40 (.agg #[.slice (some ⟨B, off, none⟩) n c, .int .i64 (q : Int), .int .i64 (m : Int), .slice (some ⟨RB, ro, none⟩) n rc, .slice (some ⟨NB, 0, none⟩) q nc, .slice (some ⟨JB, 0, none⟩) q jc, .slice (some ⟨FB, 0, none⟩) m fc] :: shopPs a b).toArray W
      fun e W' => e = .returned (.tuple #[]) ∧ ∃ T' tc' tz', BI a b XB xo xc B off c RB ro rc n q m rt xs T' tc' tz' tu best' W' ∧ (T' = T ∨ W.heap.size ≤ T') ∧ Chg (fun k => k = b + 1 ∨ k = b + 2 ∨ k = b + 4 ∨ k = T) W W' := by
  obtain ⟨⟨v, _⟩, hv, hr⟩ := Option.bind_eq_some_iff.1 hr
  simp only at hr
  obtain ⟨W1, hW1⟩ : ∃ W1, W1 = W.alloc (.cells #[.slice (some ⟨B, off, none⟩) n c, .int .i64 (q : Int), .int .i64 (m : Int), .slice (some ⟨RB, ro, none⟩) n rc, .slice (some ⟨NB, 0, none⟩) q nc, .slice (some ⟨JB, 0, none⟩) q jc, .slice (some ⟨FB, 0, none⟩) m fc] 55) := ⟨_, rfl⟩
  have hC1 : Chg (fun _ => False) W W1 := by rw [hW1]; exact (Chg.refl _ _).alloc _
  have hI1 := hI.below fun k hk => hC1.block k hk id
  have hF1 : RowL W1 FB zf s.2.2 := by rw [hW1]; exact hF.alloc _
  have hbx : W1.heap[W.heap.size]? = some (.cells #[.slice (some ⟨B, off, none⟩) n c, .int .i64 (q : Int), .int .i64 (m : Int), .slice (some ⟨RB, ro, none⟩) n rc, .slice (some ⟨NB, 0, none⟩) q nc, .slice (some ⟨JB, 0, none⟩) q jc, .slice (some ⟨FB, 0, none⟩) m fc] 55 (0, 0)) := by rw [hW1]; exact perm_new rfl _
  have ct6 := perm_cell (i := 6) hbx
  have ctu := perm_cell (i := 0) hI1.tub
  have ctm := perm_cell (i := 0) hI1.tmb
  simp only [List.getElem?_toArray, List.getElem?_cons_succ, List.getElem?_cons_zero] at ct6 ctu ctm
  rw [hlen] at ctu
  have hmx := hM W1 FB zf fc s.2.2 v hv (by omega) hF1
  rw [l3] at hmx
  have hTl := hI.trow.ltE
  have hpl := lt_of_block hI.pub
  have hsz : W.heap.size < W1.heap.size := by rw [hW1]; simp
  obtain ⟨bo, le⟩ := best
  have hne : tu ≠ [] := fun h => by rw [h] at hlen; simp at hlen; omega
  cases bo with
  | none =>
    simp only [Option.isNone_none, Bool.true_or, cond_true] at hr
    obtain ⟨hcl, hr⟩ := cond_some hr
    cases hr
    have hcl := of_decide_eq_true hcl
    unfold shopPs
    go_enter Try.func40, Try.ntmps40
    go_upto_region 1 with (fail)
    rw [← hW1]
    clear hW1
    go_wp2_with (first | (go_at_call 31; refine hmx.mono ?_; rintro e W2 ⟨hb2, rfl⟩; have hI2 := hI1.below (fun k hk => hb2.block k hk); obtain ⟨bv, hbv, hbr⟩ := hI2.bsb; have cb := perm_cell (i := 0) hbv; have cl := perm_cell (i := 0) hI2.lsb; have ctu2 := perm_cell (i := 0) hI2.tub; simp only [List.getElem?_toArray, List.getElem?_cons_zero] at cb cl ctu2; have qe := best_eqn hbr; obtain rfl : bv = .slice none 0 0 := hbr; simp only [Option.isNone_none] at qe) | (go_at_call 41; have hc2 := hCL W2 T tz tc tu hcl hne hI2.tcap.1 hI2.trow; rw [hlen] at hc2; refine hc2.mono ?_; rintro e W3 ⟨hb3, O, oc, oz, rfl, hO1, hO2, hO3, hO4⟩; have hI3 := hI2.below (fun k hk => hb3.block k hk); have cb3 := perm_cell (i := 0) ((hb3.block _ (lt_of_block hbv)).trans hbv); have fb3 := perm_free (i := 0) ((hb3.block _ (lt_of_block hbv)).trans hbv); have cl3 := perm_cell (i := 0) (perm_set hI3.lsb ⟨b + 1, 0, none⟩ (by show b + 2 ≠ b + 1; omega) (.slice (some ⟨O, 0, none⟩) n oc)); have fl3 := perm_free (i := 0) (perm_set hI3.lsb ⟨b + 1, 0, none⟩ (by show b + 2 ≠ b + 1; omega) (.slice (some ⟨O, 0, none⟩) n oc)); simp only [List.getElem?_toArray, List.getElem?_cons_zero] at cb3 cl3))
    refine bodyPost_ret (results_none rfl _ _ _) rfl ?_
    have h12 : Chg (fun _ => False) W W2 := hC1.trans (S' := fun _ => False) ⟨hb2.os, hb2.tape, hb2.output, hb2.size, fun k hk _ => hb2.block k hk⟩ (fun k _ h => h)
    have h13 : Chg (fun _ => False) W W3 := h12.trans (S' := fun _ => False) ⟨hb3.os, hb3.tape, hb3.output, hb3.size, fun k hk _ => hb3.block k hk⟩ (fun k _ h => h)
    have hT3 := hI3.trow.ltE
    have hTW2 := hI2.trow.ltE
    have hsz2 := h12.size
    have hb := hI3.better (v := v) hO2 (by omega) (by omega) (by rw [hlen]; exact ⟨hO3, hO4⟩)
    rw [hlen] at hb
    exact ⟨rfl, T, tc, tz, hb, .inl rfl, ((show Chg (fun k => k = b + 1 ∨ k = b + 2 ∨ k = b + 4 ∨ k = T) W W3 from ⟨h13.os, h13.tape, h13.output, h13.size, fun k hk hn => h13.block k hk id⟩).set (a := ⟨b + 1, 0, none⟩) (.inl rfl) _).set (a := ⟨b + 2, 0, none⟩) (.inr (.inl rfl)) _⟩
  | some bl =>
    cases hlt : decide (v < le) with
    | true =>
      simp only [Option.isNone_some, hlt, Bool.or_true, cond_true] at hr
      obtain ⟨hcl, hr⟩ := cond_some hr
      cases hr
      have hcl := of_decide_eq_true hcl
      unfold shopPs
      go_enter Try.func40, Try.ntmps40
      go_upto_region 1 with (fail)
      rw [← hW1]
      clear hW1
      go_wp2_with (first | (go_at_call 31; refine hmx.mono ?_; rintro e W2 ⟨hb2, rfl⟩; have hI2 := hI1.below (fun k hk => hb2.block k hk); obtain ⟨bv, hbv, hbr⟩ := hI2.bsb; have cb := perm_cell (i := 0) hbv; have cl := perm_cell (i := 0) hI2.lsb; have ctu2 := perm_cell (i := 0) hI2.tub; simp only [List.getElem?_toArray, List.getElem?_cons_zero] at cb cl ctu2; have qe := best_eqn hbr; obtain ⟨D, dc, dz, rfl, hD⟩ := hbr; simp only [Option.isNone_some] at qe) | (go_at_call 41; have hc2 := hCL W2 T tz tc tu hcl hne hI2.tcap.1 hI2.trow; rw [hlen] at hc2; refine hc2.mono ?_; rintro e W3 ⟨hb3, O, oc, oz, rfl, hO1, hO2, hO3, hO4⟩; have hI3 := hI2.below (fun k hk => hb3.block k hk); have cb3 := perm_cell (i := 0) ((hb3.block _ (lt_of_block hbv)).trans hbv); have fb3 := perm_free (i := 0) ((hb3.block _ (lt_of_block hbv)).trans hbv); have cl3 := perm_cell (i := 0) (perm_set hI3.lsb ⟨b + 1, 0, none⟩ (by show b + 2 ≠ b + 1; omega) (.slice (some ⟨O, 0, none⟩) n oc)); have fl3 := perm_free (i := 0) (perm_set hI3.lsb ⟨b + 1, 0, none⟩ (by show b + 2 ≠ b + 1; omega) (.slice (some ⟨O, 0, none⟩) n oc)); simp only [List.getElem?_toArray, List.getElem?_cons_zero] at cb3 cl3))
      refine bodyPost_ret (results_none rfl _ _ _) rfl ?_
      have h12 : Chg (fun _ => False) W W2 := hC1.trans (S' := fun _ => False) ⟨hb2.os, hb2.tape, hb2.output, hb2.size, fun k hk _ => hb2.block k hk⟩ (fun k _ h => h)
      have h13 : Chg (fun _ => False) W W3 := h12.trans (S' := fun _ => False) ⟨hb3.os, hb3.tape, hb3.output, hb3.size, fun k hk _ => hb3.block k hk⟩ (fun k _ h => h)
      have hT3 := hI3.trow.ltE
      have hTW2 := hI2.trow.ltE
      have hsz2 := h12.size
      have hb := hI3.better (v := v) hO2 (by omega) (by omega) (by rw [hlen]; exact ⟨hO3, hO4⟩)
      rw [hlen] at hb
      exact ⟨rfl, T, tc, tz, hb, .inl rfl, ((show Chg (fun k => k = b + 1 ∨ k = b + 2 ∨ k = b + 4 ∨ k = T) W W3 from ⟨h13.os, h13.tape, h13.output, h13.size, fun k hk hn => h13.block k hk id⟩).set (a := ⟨b + 1, 0, none⟩) (.inl rfl) _).set (a := ⟨b + 2, 0, none⟩) (.inr (.inl rfl)) _⟩
    | false =>
      simp only [Option.isNone_some, hlt, Bool.or_false, cond_false] at hr
      cases hr
      unfold shopPs
      go_enter Try.func40, Try.ntmps40
      go_upto_region 1 with (fail)
      rw [← hW1]
      clear hW1
      go_wp2_with (first | (go_at_call 31; refine hmx.mono ?_; rintro e W2 ⟨hb2, rfl⟩; have hI2 := hI1.below (fun k hk => hb2.block k hk); obtain ⟨bv, hbv, hbr⟩ := hI2.bsb; have cb := perm_cell (i := 0) hbv; have cl := perm_cell (i := 0) hI2.lsb; have ctu2 := perm_cell (i := 0) hI2.tub; simp only [List.getElem?_toArray, List.getElem?_cons_zero] at cb cl ctu2; have qe := best_eqn hbr; obtain ⟨D, dc, dz, rfl, hD⟩ := hbr; simp only [Option.isNone_some] at qe) | (go_at_call 41; have hc2 := hCL W2 T tz tc tu hcl hne hI2.tcap.1 hI2.trow; rw [hlen] at hc2; refine hc2.mono ?_; rintro e W3 ⟨hb3, O, oc, oz, rfl, hO1, hO2, hO3, hO4⟩; have hI3 := hI2.below (fun k hk => hb3.block k hk); have cb3 := perm_cell (i := 0) ((hb3.block _ (lt_of_block hbv)).trans hbv); have fb3 := perm_free (i := 0) ((hb3.block _ (lt_of_block hbv)).trans hbv); have cl3 := perm_cell (i := 0) (perm_set hI3.lsb ⟨b + 1, 0, none⟩ (by show b + 2 ≠ b + 1; omega) (.slice (some ⟨O, 0, none⟩) n oc)); have fl3 := perm_free (i := 0) (perm_set hI3.lsb ⟨b + 1, 0, none⟩ (by show b + 2 ≠ b + 1; omega) (.slice (some ⟨O, 0, none⟩) n oc)); simp only [List.getElem?_toArray, List.getElem?_cons_zero] at cb3 cl3))
      refine bodyPost_ret (results_none rfl _ _ _) rfl ?_
      have h12 : Chg (fun _ => False) W W2 := hC1.trans (S' := fun _ => False) ⟨hb2.os, hb2.tape, hb2.output, hb2.size, fun k hk _ => hb2.block k hk⟩ (fun k _ h => h)
      exact ⟨rfl, T, tc, tz, hI2, .inl rfl, ⟨h12.os, h12.tape, h12.output, h12.size, fun k hk hn => h12.block k hk id⟩⟩

end Go.Proofs.Ytgcmklniacjcfaa
