/-
  impl.BestShop: its contract. No condition.
-/
import Derived.Laws.EntriesVeiled
import Derived.Test.YtgcmklniacjcfaaShop5
import Derived.Test.YtgcmklniacjcfaaShop3
namespace Go.Proofs.Ytgcmklniacjcfaa
open Go Go.RowKit Go.Proofs.Ytgcmklniacjcfaa.Fw
set_option maxRecDepth 100000
set_option linter.unusedVariables false
set_option linter.unusedSimpArgs false

/-- No shop. -/
theorem best_false1 {A0 A1 : Option Addr} {n0 c0 n1 c1 : Nat} {M : Int} (w : World) (hS : ∀ W, Below w.heap.size w W → Calls Try.prog 35 #[.slice A0 n0 c0, .slice A1 n1 c1, .int .i64 M] W fun e W' => Below W.heap.size W W' ∧ ∃ A2 n2 c2 q m, e = .returned (.tuple #[.agg #[.slice A2 n2 c2, .int .i64 q, .int .i64 m], .bool false])) :
    Calls Try.prog 17 #[.slice A0 n0 c0, .slice A1 n1 c1, .int .i64 M] w fun e W' => Below w.heap.size w W' ∧ e = .returned (.tuple #[.slice none 0 0, .int .i64 0, .bool false]) := by
  have hw2 : Below w.heap.size w ((w.alloc (.cells #[.slice A0 n0 c0] 22)).alloc (.cells #[.slice A1 n1 c1] 22)) := ((Below.refl _ _).alloc (Nat.le_refl _) _).alloc (by simp) _
  go_enter Try.func17, Try.ntmps17
  go_wp2_with (go_at_call 35; refine (hS _ hw2).mono ?_; rintro e W1 ⟨hb1, A2, n2, c2, q, m, rfl⟩)
  go_ret3
  exact ⟨(hw2.trans (hb1.mono hw2.size)).alloc (by have := hw2.size; have := hb1.size; omega) _, rfl⟩

/-- Too many steps. -/
theorem best_false2 {A0 A1 : Option Addr} {n0 c0 n1 c1 : Nat} {M : Int} (w : World) (hn : 8 < n1) (hS : ∀ W, Below w.heap.size w W → Calls Try.prog 35 #[.slice A0 n0 c0, .slice A1 n1 c1, .int .i64 M] W fun e W' => Below W.heap.size W W' ∧ ∃ A2 n2 c2 q m, e = .returned (.tuple #[.agg #[.slice A2 n2 c2, .int .i64 q, .int .i64 m], .bool true])) :
    Calls Try.prog 17 #[.slice A0 n0 c0, .slice A1 n1 c1, .int .i64 M] w fun e W' => Below w.heap.size w W' ∧ e = .returned (.tuple #[.slice none 0 0, .int .i64 0, .bool false]) := by
  have hw2 : Below w.heap.size w ((w.alloc (.cells #[.slice A0 n0 c0] 22)).alloc (.cells #[.slice A1 n1 c1] 22)) := ((Below.refl _ _).alloc (Nat.le_refl _) _).alloc (by simp) _
  have h8 : decide ((n1 : Int) > 8) = true := by simp; omega
  go_enter Try.func17, Try.ntmps17
  go_wp2_with (go_at_call 35; refine (hS _ hw2).mono ?_; rintro e W1 ⟨hb1, A2, n2, c2, q, m, rfl⟩; have ctm := fun o => perm_cell (i := 0) (perm_alloc ((hb1.block (w.heap.size + 1) (by simp)).trans (perm_new (by simp) _)) o); simp only [List.getElem?_toArray, List.getElem?_cons_zero] at ctm)
  go_ret3
  exact ⟨(hw2.trans (hb1.mono hw2.size)).alloc (by have := hw2.size; have := hb1.size; omega) _, rfl⟩

theorem BestR.drew {W : World} {b T : Nat} {o : Option (List Int)} {v : Value} (h : BestR W b T o v) : BestR W.drew b T o v := by
  cases o with
  | none => exact h
  | some l =>
    obtain ⟨D, dc, dz, e, h1, h2⟩ := h
    exact ⟨D, dc, dz, e, h1.drew, h2⟩

set_option maxHeartbeats 16000000 in
theorem best_any {fM : List Int → Option (Int × Unit)} {fCI fCL : List Int → Option (List Int × Unit)} (hM : MaxC fM) (hCI : CloneC 42 fCI) (hCL : CloneC 41 fCL)
    {rt xs : List Int} {q m XB xo xc RB ro rc : Nat} (hm : 1 ≤ m ∧ m ≤ 8) (hq : 1 ≤ q ∧ q ≤ 24) (hqm : q * m = xs.length) (hrl : rt.length = xs.length) (hn1 : 1 ≤ xs.length) (hn8 : xs.length ≤ 8) (w : World) (hR0 : RB < w.heap.size)
    {best' : BS} (hr : searchP fM fCI fCL m q rt xs xs.length (zeroT m q) [] (none, 0) = some best')
    (hrs : ∀ i, i < xs.length → w.cell? ⟨RB, ro + i, none⟩ = some (.int .i64 (rt.getD i 0)))
    (hS : ∀ W, Below w.heap.size w W → Calls Try.prog 35 #[.slice (some ⟨RB, ro, none⟩) xs.length rc, .slice (some ⟨XB, xo, none⟩) xs.length xc, .int .i64 (m : Int)] W fun e W' => Below W.heap.size W W' ∧ ∃ B off c, e = .returned (.tuple #[.agg #[.slice (some ⟨B, off, none⟩) xs.length c, .int .i64 (q : Int), .int .i64 (m : Int)], .bool true]) ∧ B < W'.heap.size ∧ ∀ i, i < xs.length → W'.cell? ⟨B, off + i, none⟩ = some (.int .i64 (xs.getD i 0))) :
    Calls Try.prog 17 #[.slice (some ⟨RB, ro, none⟩) xs.length rc, .slice (some ⟨XB, xo, none⟩) xs.length xc, .int .i64 (m : Int)] w fun e W' => Below w.heap.size w W' ∧ ∃ v b T, e = .returned (.tuple #[v, .int .i64 best'.2, .bool true]) ∧ w.heap.size ≤ b ∧ BestR W' b T best'.1 v := by
  have hw2 : Below w.heap.size w ((w.alloc (.cells #[.slice (some ⟨RB, ro, none⟩) xs.length rc] 22)).alloc (.cells #[.slice (some ⟨XB, xo, none⟩) xs.length xc] 22)) := ((Below.refl _ _).alloc (Nat.le_refl _) _).alloc (by simp) _
  have h8 : decide ((xs.length : Int) > 8) = false := by simp; omega
  go_enter Try.func17, Try.ntmps17
  go_wp2_with (go_at_call 35; refine (hS _ hw2).mono ?_; rintro e W1 ⟨hb1, B, off, c, rfl, hBlt, hxb⟩; have hT1 := (hb1.block (w.heap.size + 1) (by simp)).trans (perm_new (by simp) _); have hT0 := (hb1.block w.heap.size (by simp; omega)).trans (perm_alloc (perm_new rfl _) _); have ctm := fun o => perm_cell (i := 0) (perm_alloc hT1 o); simp only [List.getElem?_toArray, List.getElem?_cons_zero] at ctm)
  have hz1 : w.heap.size + 2 ≤ W1.heap.size := by have := hb1.size; simpa using this
  obtain ⟨W8, hW8⟩ : ∃ W8, W8 = (((((W1.alloc (.cells #[.slice (some ⟨B, off, none⟩) xs.length c, .int .i64 (q : Int), .int .i64 (m : Int)] 44)).alloc (.cells #[.slice none 0 0] 22)).alloc (.cells #[.int .i64 0] 2)).alloc (.cells #[] 2)).alloc (.cells #[.slice (some ⟨W1.heap.size + 1 + 1 + 1, 0, none⟩) 0 0] 22)).alloc (.cells #[.func (.func 40) #[] (shopPs w.heap.size W1.heap.size).toArray] 60) := ⟨_, rfl⟩
  have hz8 : W8.heap.size = W1.heap.size + 6 := by rw [hW8]; simp
  have hb8 : Below w.heap.size w W8 := by
    have h1 : Below w.heap.size w W1 := hw2.trans (hb1.mono hw2.size)
    have hA : ∀ W' o, Below w.heap.size w W' → Below w.heap.size w (W'.alloc o) := fun W' o h => h.alloc h.size o
    rw [hW8]
    exact hA _ _ (hA _ _ (hA _ _ (hA _ _ (hA _ _ (hA _ _ h1)))))
  have hk8 : ∀ k, k < W1.heap.size → W8.heap[k]? = W1.heap[k]? := fun k hk => by
    rw [hW8]
    have h6 := ((((((Chg.refl (fun _ => False) W1).alloc (.cells #[.slice (some ⟨B, off, none⟩) xs.length c, .int .i64 (q : Int), .int .i64 (m : Int)] 44)).alloc (.cells #[.slice none 0 0] 22)).alloc (.cells #[.int .i64 0] 2)).alloc (.cells #[] 2)).alloc (.cells #[.slice (some ⟨W1.heap.size + 1 + 1 + 1, 0, none⟩) 0 0] 22)).alloc (.cells #[.func (.func 40) #[] (shopPs w.heap.size W1.heap.size).toArray] 60)
    exact h6.block k hk id
  have hI8 : BI w.heap.size W1.heap.size XB xo xc B off c RB ro rc xs.length q m rt xs (W1.heap.size + 3) 0 0 [] (none, 0) W8 := by
    refine ⟨⟨by omega, hBlt, by omega⟩, (hk8 _ (by omega)).trans hT0, (hk8 _ (by omega)).trans hT1, ?_, ⟨.slice none 0 0, ?_, rfl⟩, ?_, ?_, ?_, ⟨#[], 2, ?_, ⟨Nat.le_refl _, rfl⟩, fun i x hi => by cases hi⟩, ⟨Nat.le_refl _, Nat.le_refl _⟩, .inl rfl, fun i hi => (cell_same (hk8 B hBlt)).trans (hxb i hi), fun i hi => (hb8.cell (p := ⟨RB, ro + i, none⟩) hR0).trans (hrs i hi)⟩
    all_goals rw [hW8]
    · exact perm_alloc (perm_alloc (perm_alloc (perm_alloc (perm_alloc (perm_new rfl _) _) _) _) _) _
    · exact perm_alloc (perm_alloc (perm_alloc (perm_alloc (perm_new (by simp) _) _) _) _) _
    · exact perm_alloc (perm_alloc (perm_alloc (perm_new (by simp) _) _) _) _
    · exact perm_alloc (perm_new (by simp) _) _
    · exact perm_new (by simp) _
    · exact perm_alloc (perm_alloc (perm_new (by simp) _) _) _
  have p8 := perm_cell (i := 0) hI8.pub
  have s80 := perm_cell (i := 0) hI8.shb
  have s81 := perm_cell (i := 1) hI8.shb
  have s82 := perm_cell (i := 2) hI8.shb
  have r8 := perm_cell (i := 0) hI8.rtb
  simp only [List.getElem?_toArray, List.getElem?_cons_succ, List.getElem?_cons_zero] at p8 s80 s81 s82 r8
  unfold shopPs at hW8 p8
  have hE8 : (((((W1.alloc (.cells #[.slice (some ⟨B, off, none⟩) xs.length c, .int .i64 (q : Int), .int .i64 (m : Int)] 44)).alloc (.cells #[.slice none 0 0] 22)).alloc (.cells #[.int .i64 0] 2)).alloc (.cells #[] 2)).alloc (.cells #[.slice (some ⟨W1.heap.size + 1 + 1 + 1, 0, none⟩) 0 0] 22)).alloc (.cells #[.func (.func 40) #[] #[.pointer (some ⟨W1.heap.size + 1 + 1 + 1 + 1, 0, none⟩), .pointer (some ⟨w.heap.size + 1, 0, none⟩), .pointer (some ⟨W1.heap.size + 1, 0, none⟩), .pointer (some ⟨W1.heap.size + 1 + 1, 0, none⟩), .pointer (some ⟨W1.heap.size, 0, none⟩), .pointer (some ⟨w.heap.size, 0, none⟩), .pointer (some ⟨W1.heap.size + 1 + 1 + 1 + 1 + 1, 0, none⟩)]] 60) = W8 := hW8.symm
  rw [hE8]
  clear hE8 hW8 hk8 ctm
  have q1 : W1.heap.size + 1 + 1 = W1.heap.size + 2 := rfl
  have q2 : W1.heap.size + 2 + 1 + 1 = W1.heap.size + 4 := rfl
  have q3 : W1.heap.size + 4 + 1 = W1.heap.size + 5 := rfl
  simp only [q1, q2, q3]
  have hS8 : ∀ V, Ext W8 V → V.cell? ⟨W1.heap.size + 5, 0, none⟩ = some (.func (.func 40) #[] #[.pointer (some ⟨W1.heap.size + 4, 0, none⟩), .pointer (some ⟨w.heap.size + 1, 0, none⟩), .pointer (some ⟨W1.heap.size + 1, 0, none⟩), .pointer (some ⟨W1.heap.size + 2, 0, none⟩), .pointer (some ⟨W1.heap.size, 0, none⟩), .pointer (some ⟨w.heap.size, 0, none⟩), .pointer (some ⟨W1.heap.size + 5, 0, none⟩)]) ∧
      V.cell? ⟨W1.heap.size, 0, none⟩ = some (.slice (some ⟨B, off, none⟩) xs.length c) ∧ V.cell? ⟨W1.heap.size, 1, none⟩ = some (.int .i64 (q : Int)) ∧ V.cell? ⟨W1.heap.size, 2, none⟩ = some (.int .i64 (m : Int)) ∧ V.cell? ⟨w.heap.size, 0, none⟩ = some (.slice (some ⟨RB, ro, none⟩) xs.length rc) := fun V hV => by
    have h := hI8.below fun k hk => hV.block k hk id
    exact ⟨perm_cell h.pub, perm_cell h.shb, perm_cell h.shb, perm_cell h.shb, perm_cell h.rtb⟩
  have hE0 : Ext W8 W8.drew := (Chg.refl _ _).drew
  obtain ⟨c01, c02, c03, c04, c05⟩ := hS8 _ hE0
  clear p8 s80 s81 s82 r8
  go_region_held3 (fun V => V.cell? ⟨W1.heap.size + 5, 0, none⟩ = some (.func (.func 40) #[] #[.pointer (some ⟨W1.heap.size + 4, 0, none⟩), .pointer (some ⟨w.heap.size + 1, 0, none⟩), .pointer (some ⟨W1.heap.size + 1, 0, none⟩), .pointer (some ⟨W1.heap.size + 2, 0, none⟩), .pointer (some ⟨W1.heap.size, 0, none⟩), .pointer (some ⟨w.heap.size, 0, none⟩), .pointer (some ⟨W1.heap.size + 5, 0, none⟩)]) ∧
      V.cell? ⟨W1.heap.size, 0, none⟩ = some (.slice (some ⟨B, off, none⟩) xs.length c) ∧ V.cell? ⟨W1.heap.size, 1, none⟩ = some (.int .i64 (q : Int)) ∧ V.cell? ⟨W1.heap.size, 2, none⟩ = some (.int .i64 (m : Int)) ∧ V.cell? ⟨w.heap.size, 0, none⟩ = some (.slice (some ⟨RB, ro, none⟩) xs.length rc))
    ((first | with_reducible exact h10 | with_reducible exact hS8 _ hE9 | with_reducible exact hS8 _ hE0 | with_reducible exact hS8 _ hE0.drew | go_keep))
    (first
    | (go_at_call 37; refine (steps_any hm hq _).mono ?_; rintro e W9 ⟨hb9, NB, JB, FB, rfl, hn0, hj0, hf0, d1, d2, d3, hN9, hJ9, hF9⟩; have hE9 : Ext W8 W9 := Ext.of (n := 0) (by first | with_reducible exact hE0 | with_reducible exact hE0.drew) hb9)
    | (go_at_call 40
       have hput := put_shop hM hCI hCL hm hq hqm hrl hn1 hn8 xs.length (zeroT m q) [] (none, 0) best' (W1.heap.size + 3) 0 0 NB q q JB q q FB m m W9 (by simp) (by simp [zeroT]) (by simp [zeroT]) (by simp [zeroT]) (Nat.le_refl _) (Nat.le_refl _) (Nat.le_refl _) hN9 hJ9 hF9 ⟨by have h := hz8 ▸ hn0; omega, by have h := hz8 ▸ hj0; omega, by have h := hz8 ▸ hf0; omega⟩ ⟨by have h := hz8 ▸ hn0; omega, by have h := hz8 ▸ hj0; omega, by have h := hz8 ▸ hf0; omega⟩ (hI8.below fun k hk => hE9.block k hk id) hr
       refine hput.mono ?_
       rintro e W10 ⟨rfl, T', tc', tz', hI10, hT10, hC10⟩
       obtain ⟨v, hv, hbr⟩ := hI10.bsb
       obtain ⟨vA, vn, vc, rfl⟩ : ∃ A n c, v = .slice A n c := by
         cases hbo : best'.1 with
         | none => rw [hbo] at hbr; exact ⟨_, _, _, hbr⟩
         | some l => rw [hbo] at hbr; obtain ⟨D, dc, dz, e, _⟩ := hbr; exact ⟨_, _, _, e⟩
       have cb := perm_cell (i := 0) hv
       have cl := perm_cell (i := 0) hI10.lsb
       simp only [List.getElem?_toArray, List.getElem?_cons_zero] at cb cl
       have h10 : W10.cell? ⟨W1.heap.size + 5, 0, none⟩ = some (.func (.func 40) #[] #[.pointer (some ⟨W1.heap.size + 4, 0, none⟩), .pointer (some ⟨w.heap.size + 1, 0, none⟩), .pointer (some ⟨W1.heap.size + 1, 0, none⟩), .pointer (some ⟨W1.heap.size + 2, 0, none⟩), .pointer (some ⟨W1.heap.size, 0, none⟩), .pointer (some ⟨w.heap.size, 0, none⟩), .pointer (some ⟨W1.heap.size + 5, 0, none⟩)]) ∧
      W10.cell? ⟨W1.heap.size, 0, none⟩ = some (.slice (some ⟨B, off, none⟩) xs.length c) ∧ W10.cell? ⟨W1.heap.size, 1, none⟩ = some (.int .i64 (q : Int)) ∧ W10.cell? ⟨W1.heap.size, 2, none⟩ = some (.int .i64 (m : Int)) ∧ W10.cell? ⟨w.heap.size, 0, none⟩ = some (.slice (some ⟨RB, ro, none⟩) xs.length rc) := ⟨perm_cell hI10.pub, perm_cell hI10.shb, perm_cell hI10.shb, perm_cell hI10.shb, perm_cell hI10.rtb⟩
       have HFIN : Hid (Below w.heap.size w W10 ∧ BestR W10 W1.heap.size T' best'.1 (.slice vA vn vc)) := ⟨(hb8.trans ((hE9.weak _).below (B := w.heap.size) (S := fun _ => False) (fun k hk h => h) hb8.size)).trans (hC10.below (by rintro k hk (e | e | e | e) <;> omega) (Nat.le_trans hb8.size hE9.size)), hbr⟩))
  all_goals go_wp2_with fail
  all_goals go_region
  all_goals go_wp2_with fail
  all_goals go_ret3
  all_goals exact ⟨HFIN.out.1.drew, _, W1.heap.size, T', rfl, by omega, HFIN.out.2.drew⟩

/-- A new row, as a result that is the callee's own. -/
theorem own_row {ok : Bool → Nat → Prop} {B O : Nat} {W : World} {l : List Int} {v : Value} (h : OwnR ok B W.heap (.int .i64) l v (some O)) (hl : l ≠ []) : ∃ oc oz, v = .slice (some ⟨O, 0, none⟩) l.length oc ∧ B ≤ O ∧ RowL W O oz l ∧ l.length ≤ oc ∧ oc ≤ oz := by
  obtain ⟨hB, ⟨cs, e, h1, h2, h3⟩, o, c, hv, hc, ho, hn⟩ := h
  have hpos : 0 < l.length := by
    cases l with
    | nil => exact absurd rfl hl
    | cons x r => simp
  have ho := ho (by omega)
  subst ho
  have hn := hn cs.size (by unfold bsz; rw [h1])
  refine ⟨c, cs.size, hv, hB, ⟨cs, e, h1, ⟨by simpa [Sh.size] using h2, rfl⟩, fun i x hi => ?_⟩, hc, by simpa [Sh.size] using hn⟩
  obtain ⟨r, q1, q2, q3⟩ := h3 i x hi
  have q3 : r = [.int .i64 x] := q3
  have := q2 0 (.int .i64 x) (by rw [q3]; rfl)
  unfold cellH at this
  rw [h1] at this
  simpa [Sh.size] using this

theorem row_own {ok : Bool → Nat → Prop} {W : World} {B O c z : Nat} {l : List Int} (hO : B ≤ O) (h : RowL W O z l) (hc : l.length ≤ c) (hz : c ≤ z) : OwnR ok B W.heap (.int .i64) l (.slice (some ⟨O, 0, none⟩) l.length c) (some O) := by
  obtain ⟨cs, te, k2, k3, k4⟩ := h
  refine ⟨hO, ⟨cs, te, k2, by simpa [Sh.size] using k3.1, fun i x hi => ⟨[.int .i64 x], rfl, fun j v hv => ?_, rfl⟩⟩, 0, c, rfl, hc, fun _ => rfl, fun n' hn' => ?_⟩
  · have hj : j = 0 := by
      cases j with
      | zero => rfl
      | succ j => cases hv
    subst hj
    cases hv
    unfold cellH
    rw [k2]
    simp only
    rw [show i * Sh.size (.int .i64) + 0 = i by simp [Sh.size]]
    exact k4 i x hi
  · unfold bsz at hn'
    rw [k2] at hn'
    cases hn'
    rw [k3.2]
    simpa [Sh.size] using hz

theorem cloneC_of {g : FuncId} {fn : Func} {code : Code} (hf : Try.prog.funcs[g]? = some fn) (hb : fn.body = some code) (hname : (fn.name == "runtime.NumGoroutine") = false) {fC : List Int → Option (List Int × Unit)}
    (hC : SoundC Try.prog g { ins := [.sl (.int .i64)], outs := [.own (.int .i64)], F := fun x => fC x.1 }) : CloneC g fC := fun W b z c l hv hl hc hrow => by
  have h := hC (fun k => k = b) W [.slice (some ⟨b, 0, none⟩) l.length c] (l, ()) (l, ()) (fun b h => by rw [h]; exact hrow.lt) ⟨shop_arg rfl hc rfl hrow, trivial⟩ hv
  have h := shop_calls hf hb hname h
  refine h.mono ?_
  rintro e W' ⟨v, rfl, vs, bs, e1, e2, e3, e4⟩
  refine ⟨e2, ?_⟩
  match vs, bs, e4 with
  | [u], [none], e4 => exact absurd e4.1.2 hl
  | [u], [some O], e4 =>
    have hv : v = u := e1
    subst hv
    obtain ⟨oc, oz, q1, q2, q3, q4, q5⟩ := own_row e4.1 hl
    exact ⟨O, oc, oz, by rw [q1], q2, q3, q4, q5⟩
  | [], _, e4 => cases e4
  | [_], [], e4 => exact e4.elim
  | [_], none :: _ :: _, e4 => exact e4.2.elim
  | [_], some _ :: _ :: _, e4 => exact e4.2.elim
  | _ :: _ :: _, [], e4 => exact e4.elim
  | _ :: _ :: _, _ :: _, e4 => exact e4.2.elim

theorem maxC_of {fM : List Int → Option (Int × Unit)} (hM : SoundC Try.prog 31 { ins := [.sl (.int .i64)], outs := [.val (.int .i64)], F := fun x => fM x.1 }) : MaxC fM := fun W b z c l v hv hc hrow => by
  have h := hM (fun k => k = b) W [.slice (some ⟨b, 0, none⟩) l.length c] (l, ()) (v, ()) (fun b h => by rw [h]; exact hrow.lt) ⟨shop_arg rfl hc rfl hrow, trivial⟩ hv
  have h := shop_calls Try.func31 rfl (by kernel_rfl) h
  refine h.mono ?_
  rintro e W' ⟨v, rfl, vs, bs, e1, e2, e3, e4⟩
  exact ⟨e2, by rw [shop_int e4 e1]⟩

theorem bestShop_sound {fR : List Int → List Int → Int → Option ((List Int × Int × Int) × Bool × Unit)} {fM : List Int → Option (Int × Unit)} {fCI fCL : List Int → Option (List Int × Unit)}
    (hS : SoundC Try.prog 35 { ins := [.sl (.int .i64), .sl (.int .i64), .int .i64], outs := [.val (.pair (.sl (.int .i64)) (.pair (.int .i64) (.int .i64))), .val .bool], F := fun x => fR x.1 x.2.1 x.2.2.1 })
    (hM : SoundC Try.prog 31 { ins := [.sl (.int .i64)], outs := [.val (.int .i64)], F := fun x => fM x.1 })
    (hCI : SoundC Try.prog 42 { ins := [.sl (.int .i64)], outs := [.own (.int .i64)], F := fun x => fCI x.1 })
    (hCL : SoundC Try.prog 41 { ins := [.sl (.int .i64)], outs := [.own (.int .i64)], F := fun x => fCL x.1 }) :
    SoundC Try.prog 17 { ins := [.sl (.int .i64), .sl (.int .i64), .int .i64], outs := [.own (.int .i64), .val (.int .i64), .val .bool], F := fun x => bestF fR fM fCI fCL x.1 x.2.1 x.2.2.1 } := by
  rintro p w vals ⟨rt, xs, M, _⟩ ⟨yl, yv, yb, _⟩ hp hA hF
  match vals, hA with
  | [v0, v1, v2], hA =>
    obtain ⟨⟨h0, a0⟩, ⟨h1, a1⟩, ⟨h2, a2⟩, _⟩ := hA
    have h2 : v2 = .int .i64 M := shop_one h2 a2
    subst h2
    obtain ⟨A0, c0, hc0, hcap0, hx0⟩ := h0
    obtain rfl : v0 = .slice A0 rt.length c0 := shop_one hc0 a0
    obtain ⟨A1, c1, hc1, hcap1, hx1⟩ := h1
    obtain rfl : v1 = .slice A1 xs.length c1 := shop_one hc1 a1
    obtain ⟨r, hr, hF⟩ := Option.bind_eq_some_iff.1 hF
    obtain ⟨⟨ts, q0, m0⟩, ok, _⟩ := r
    have hSC : ∀ W, Below w.heap.size w W → Calls Try.prog 35 #[.slice A0 rt.length c0, .slice A1 xs.length c1, .int .i64 M] W fun e W' => Below W.heap.size W W' ∧ ∃ A2 c2, e = .returned (.tuple #[.agg #[.slice A2 ts.length c2, .int .i64 q0, .int .i64 m0], .bool ok]) ∧ (ts ≠ [] → ∃ B off, A2 = some ⟨B, off, none⟩ ∧ B < W'.heap.size ∧ ∀ i, i < ts.length → W'.cell? ⟨B, off + i, none⟩ = some (.int .i64 (ts.getD i 0))) := fun W hb => by
      have h := hS p W [.slice A0 rt.length c0, .slice A1 xs.length c1, .int .i64 M] (rt, xs, M, ()) ((ts, q0, m0), ok, ()) (fun b h => Nat.lt_of_lt_of_le (hp b h) hb.size)
        ⟨⟨shop_mono hp hb (show RC (fun _ => p) w.heap (.sl (.int .i64)) rt [.slice A0 rt.length c0] from ⟨A0, c0, rfl, hcap0, hx0⟩), rfl⟩, ⟨shop_mono hp hb (show RC (fun _ => p) w.heap (.sl (.int .i64)) xs [.slice A1 xs.length c1] from ⟨A1, c1, rfl, hcap1, hx1⟩), rfl⟩, ⟨rfl, rfl⟩, trivial⟩ hr
      have h := shop_calls Try.func35 rfl (by kernel_rfl) h
      refine h.mono ?_
      rintro e W' ⟨v, rfl, vs, bs, e1, e2, e3, e4⟩
      obtain ⟨A2, c2, hv, hc⟩ := routed_res e2.size e4 e1
      exact ⟨e2, A2, c2, by rw [hv], hc⟩
    unfold CallOk
    rw [enter_of Try.func17 rfl (by kernel_rfl)]
    refine ⟨rfl, ?_⟩
    cases ok with
    | false =>
      cases hF
      refine (best_false1 w fun W hb => (hSC W hb).mono ?_).mono ?_
      · rintro e W' ⟨h1, A2, c2, h2, _⟩
        exact ⟨h1, A2, _, c2, q0, m0, h2⟩
      · rintro e W' ⟨hb, rfl⟩
        exact ⟨_, rfl, [.slice none 0 0, .int .i64 0, .bool false], [none], rfl, hb, by simp [Dist], ⟨rfl, rfl⟩, ⟨rfl, rfl⟩, ⟨rfl, rfl⟩, trivial⟩
    | true =>
      obtain ⟨hc, hF⟩ := cond_some hF
      simp only [Bool.and_eq_true, decide_eq_true_eq] at hc
      obtain ⟨g0, g1, g2, g3, g4, g5, g6, g7⟩ := hc
      subst g0
      subst g1
      by_cases hl : 8 < ts.length
      · rw [decide_eq_true hl] at hF
        cases hF
        refine (best_false2 w hl fun W hb => (hSC W hb).mono ?_).mono ?_
        · rintro e W' ⟨h1, A2, c2, h2, _⟩
          exact ⟨h1, A2, _, c2, q0, m0, h2⟩
        · rintro e W' ⟨hb, rfl⟩
          exact ⟨_, rfl, [.slice none 0 0, .int .i64 0, .bool false], [none], rfl, hb, by simp [Dist], ⟨rfl, rfl⟩, ⟨rfl, rfl⟩, ⟨rfl, rfl⟩, trivial⟩
      · rw [decide_eq_false hl, cond_false] at hF
        obtain ⟨best', hb, hF⟩ := Option.bind_eq_some_iff.1 hF
        obtain ⟨m, rfl⟩ : ∃ m : Nat, m0 = (m : Int) := ⟨m0.toNat, by omega⟩
        obtain ⟨q, rfl⟩ : ∃ q : Nat, q0 = (q : Int) := ⟨q0.toNat, by omega⟩
        simp only [Int.toNat_natCast] at hb
        have hqm : q * m = ts.length := by
          have := g6
          rw [← Int.natCast_mul] at this
          omega
        have hlen : 1 ≤ ts.length := by
          rw [← hqm]
          exact Nat.mul_le_mul (by omega : 1 ≤ q) (by omega : 1 ≤ m)
        have hne : ∀ {l : List Int}, l.length = ts.length → l ≠ [] := fun h e => by
          rw [e] at h
          simp at h
          omega
        obtain ⟨B0, o0, rfl, hp0, hel0⟩ := hx0 (hne g7)
        obtain ⟨B1, o1, rfl, hp1, hel1⟩ := hx1 (hne rfl)
        have hrd := shop_reads hel0
        rw [g7] at hrd hSC ⊢
        have hcall := best_any (maxC_of hM) (cloneC_of Try.func42 rfl (by kernel_rfl) hCI) (cloneC_of Try.func41 rfl (by kernel_rfl) hCL) (rt := rt) (xs := ts) (q := q) (m := m) (XB := B1) (xo := o1) (xc := c1) (RB := B0) (ro := o0) (rc := c0) ⟨by omega, by omega⟩ ⟨by omega, by omega⟩ hqm g7 hlen (by omega) w (hp B0 hp0) hb hrd
          (fun W hb => (hSC W hb).mono (by
            rintro e W' ⟨h1, A2, c2, rfl, h3⟩
            obtain ⟨B, off, rfl, h4, h5⟩ := h3 (hne rfl)
            exact ⟨h1, B, off, c2, rfl, h4, h5⟩))
        refine hcall.mono ?_
        rintro e W' ⟨hbe, v, b, T, rfl, hbw, hbr⟩
        obtain ⟨bo, le⟩ := best'
        cases hF
        cases bo with
        | none =>
          have hbr : v = .slice none 0 0 := hbr
          subst hbr
          exact ⟨_, rfl, [.slice none 0 0, .int .i64 le, .bool true], [none], rfl, hbe, by simp [Dist], ⟨rfl, rfl⟩, ⟨rfl, rfl⟩, ⟨rfl, rfl⟩, trivial⟩
        | some l =>
          obtain ⟨D, dc, dz, rfl, h1, h2, h3, h4, h5⟩ := hbr
          exact ⟨_, rfl, [.slice (some ⟨D, 0, none⟩) l.length dc, .int .i64 le, .bool true], [some D], rfl, hbe, by simp [Dist], row_own (by omega) h1 h4 h5, ⟨rfl, rfl⟩, ⟨rfl, rfl⟩, trivial⟩

end Go.Proofs.Ytgcmklniacjcfaa
