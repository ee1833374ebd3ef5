/-
  spec.l04Search, walked. No condition.
-/
import Derived.Test.YtgcmklniacjcfaaShop6
namespace Go.Proofs.Ytgcmklniacjcfaa
open Go Go.RowKit Go.Proofs.Ytgcmklniacjcfaa.Fw
set_option maxRecDepth 100000
set_option linter.unusedVariables false
set_option linter.unusedSimpArgs false

/-- A row put behind an empty new one. -/
theorem app_row {W : World} {E T tc tz : Nat} {tu : List Int} (hE : RowL W E 0 []) (hT : RowL W T tz tu) (htc : tu.length ≤ tc) (hlen : tu.length ≤ 1000) :
    ∃ T' tc' tz' W', (Builtin.append_ #[22, 22] 22 #[.slice (some ⟨E, 0, none⟩) 0 0, .slice (some ⟨T, 0, none⟩) tu.length tc]).run Try.prog W = .ok (.slice (some ⟨T', 0, none⟩) tu.length tc') W' ∧ RowL W' T' tz' tu ∧ tu.length ≤ tc' ∧ tc' ≤ tz' ∧ (T' = E ∨ W.heap.size ≤ T') ∧ Ext W W' := by
  obtain ⟨i0, hi0, hz0, hz1, hz2⟩ := info_parts perm_info_int
  obtain ⟨cs, t, h1, h2, h3⟩ := hT
  have hsrc : Src Try.prog i0.size 22 (.slice (some ⟨T, 0, none⟩) tu.length tc) tu.length (tu.map (Value.int .i64)) W := Src.ofSlice W Try.underlying22 ⟨T, 0, none⟩ tu.length tc _ (by rw [hz1]; simp) (fun j u hj => by
    rw [List.getElem?_map] at hj
    obtain ⟨x, hx, rfl⟩ := Option.map_eq_some_iff.1 hj
    have e : (⟨T, 0, none⟩ : Addr).add j = ⟨T, j, none⟩ := by unfold Addr.add; split <;> simp_all
    rw [e, perm_cell h1]
    exact h3 j x hx) (fun u hu => by
    obtain ⟨x, _, rfl⟩ := List.mem_map.1 hu
    rfl)
  by_cases hemp : tu = []
  · subst hemp
    have hr := run_append_room_src W 22 22 22 2 i0 Try.underlying22 hi0 E 0 0 0 _ 0 _ hsrc (Nat.le_refl _) (fun j hj => absurd hj (by simp)) (fun j hj => absurd hj (by simp))
    exact ⟨E, 0, 0, W, hr, hE, Nat.le_refl _, Nat.le_refl _, .inl rfl, Chg.refl _ _⟩
  · have hpos : 0 < tu.length := by
      rcases Nat.eq_zero_or_pos tu.length with h | h
      · exact absurd (List.eq_nil_of_length_eq_zero h) hemp
      · exact h
    have hold : ∀ w' : World, w'.heap = W.heap → (Builtin.firstCells i0.size 0 (.slice (some ⟨E, 0, none⟩) 0 0)).run Try.prog w' = .ok ([] : List Value).toArray w' := fun w' hw =>
      run_firstCells_some w' i0.size 0 ⟨E, 0, none⟩ 0 0 [] (by simp) (fun j u hj => by simp at hj)
    have hg : 0 < 0 + tu.length := by omega
    have hr := run_append_grow_src W 22 22 22 2 i0 _ Try.underlying22 hi0 hz0 (some ⟨E, 0, none⟩) 0 0 [] (hold W.drew rfl) _ tu.length _ hsrc hg (by omega) (growslice_fits hg (by rw [hz2]; omega))
    have hge := grownCap_ge W (0 + tu.length) 0 2
    rw [Nat.zero_add] at hr hge
    refine ⟨W.heap.size, _, _, _, hr, ⟨_, 2, perm_new rfl _, ⟨?_, rfl⟩, fun i x hi => ?_⟩, hge, ?_, .inr (Nat.le_refl _), (Chg.refl _ _).drew.alloc _⟩
    · simp
    · rw [Array.getElem?_append_left (by
        rcases Nat.lt_or_ge i tu.length with h | h
        · simpa using h
        · rw [List.getElem?_eq_none h] at hi; cases hi)]
      rw [List.getElem?_toArray, List.nil_append, List.getElem?_map, hi]
      rfl
    · rw [Array.size_append, size_zeroCells, List.size_toArray, show (Value.int IntKind.i64 0).cells.size = 1 from rfl]
      simp
      omega

/-- A contract of spec.l04Turned, where all old blocks are as they were. -/
def TurnC (w : World) (A0 : Option Addr) (n0 c0 : Nat) (A1 : Option Addr) (n1 c1 : Nat) (m : Int) (fT : List Int → Option (List Int × Int × Unit)) : Prop :=
  ∀ (W : World) (T tz tc : Nat) (tu : List Int) (v : List Int × Int × Unit), Below w.heap.size w W → fT tu = some v → RowL W T tz tu → tu.length ≤ tc →
    Calls Try.prog 34 #[.slice A0 n0 c0, .slice A1 n1 c1, .int .i64 m, .slice (some ⟨T, 0, none⟩) tu.length tc] W fun e W' => Below W.heap.size W W' ∧ ∃ A n c, e = .returned (.tuple #[.slice A n c, .int .i64 v.2.1])

theorem getD_set_self7 {l : List Int} {k : Nat} {v : Int} (h : k < l.length) : (l.set k v).getD k 0 = v := by
  rw [List.getD_eq_getElem?_getD, List.getElem?_set_self h]
  rfl

theorem set_getD_self7 {l : List Int} {k : Nat} : l.set k (l.getD k 0) = l := by
  refine List.ext_getElem? fun i => ?_
  rw [List.getElem?_set]
  split
  · rename_i h
    subst h
    split
    · rename_i h2
      rw [List.getD_eq_getElem?_getD, List.getElem?_eq_getElem h2]
      rfl
    · rename_i h2
      rw [List.getElem?_eq_none (by omega)]
  · rfl

/-- What comes out of the search. -/
def LookR (L lz : Nat) (left : List Int) (D : Nat) (a' : List Int × Int) (W : World) (e : Ending) (W' : World) : Prop :=
  ∃ D' dc' dz', e = .returned (.tuple #[.slice (some ⟨D', 0, none⟩) a'.1.length dc', .int .i64 a'.2]) ∧ Chg (fun k => k = L) W W' ∧ RowL W' L lz left ∧ a'.1.length ≤ dc' ∧ dc' ≤ dz' ∧ RowL W' D' dz' a'.1 ∧ (D' = D ∨ W.heap.size ≤ D')

set_option maxHeartbeats 16000000 in
theorem look_leaf {fT : List Int → Option (List Int × Int × Unit)} {w : World} {A0 A1 : Option Addr} {n0 c0 n1 c1 : Nat} {m : Int} (hT : TurnC w A0 n0 c0 A1 n1 c1 m fT) (hn8 : n1 ≤ 8) {left tu : List Int} {a a' : List Int × Int} {L lc lz T tc tz D dc dz q : Nat} {W : World} (hlen : tu.length = n1)
    (hL : RowL W L lz left) (htc : tu.length ≤ tc) (hTr : RowL W T tz tu) (hdc : a.1.length ≤ dc ∧ dc ≤ dz) (hD : RowL W D dz a.1) (hb : Below w.heap.size w W) (hr : (Option.bind (fT tu) fun v => some (cond (decide (a.1.length = 0) || decide (v.2.1 < a.2)) (tu, v.2.1) a)) = some a') :
    Calls Try.prog 39 #[.slice A0 n0 c0, .slice A1 n1 c1, .int .i64 m, .slice (some ⟨T, 0, none⟩) tu.length tc, .slice (some ⟨L, 0, none⟩) q lc, .slice (some ⟨D, 0, none⟩) a.1.length dc, .int .i64 a.2] W (LookR L lz left D a' W) := by
  obtain ⟨v, hv, hr⟩ := Option.bind_eq_some_iff.1 hr
  have hcall := hT W T tz tc tu v hb hv hTr htc
  obtain ⟨bl, le⟩ := a
  subst hlen
  obtain ⟨o, last, _⟩ := v
  simp only at hcall hr hdc hD
  cases hc : decide (bl.length = 0) || decide (last < le) with
  | false =>
    rw [hc] at hr
    obtain rfl : (bl, le) = a' := Option.some.inj hr
    simp only [Bool.or_eq_false_iff] at hc
    obtain ⟨hc1, hc2⟩ := hc
    have hc1' : ((bl.length : Int) == 0) = false := by
      have := of_decide_eq_false hc1
      simp only [beq_eq_false_iff_ne]
      omega
    clear hT hr hv hn8 hb
    go_enter Try.func39, Try.ntmps39
    go_wp2_with (go_at_call 34; refine hcall.mono ?_; rintro e W2 ⟨hb2, A, n, c, rfl⟩)
    refine bodyPost_ret (results_tmp2 rfl _ _ _) rfl ?_
    exact ⟨D, dc, dz, rfl, ⟨hb2.os, hb2.tape, hb2.output, hb2.size, fun k hk _ => hb2.block k hk⟩, hL.bel hb2, hdc.1, hdc.2, hD.bel hb2, .inl rfl⟩
  | true =>
    rw [hc] at hr
    obtain rfl : (tu, last) = a' := Option.some.inj hr
    cases hc1 : decide (bl.length = 0) with
    | true =>
      have hc1' : ((bl.length : Int) == 0) = true := by
        have := of_decide_eq_true hc1
        simp [this]
      clear hT hr hv hb
      go_enter Try.func39, Try.ntmps39
      go_wp2_with (first
        | (go_at_call 34; refine hcall.mono ?_; rintro e W2 ⟨hb2, A, n, c, rfl⟩
           obtain ⟨T', tc', tz', W4, happ, hR, hR1, hR2, hR3, hE⟩ := app_row (W := W2.alloc (.cells #[] 2)) (E := W2.heap.size) ⟨#[], 2, perm_new rfl _, ⟨Nat.le_refl _, rfl⟩, fun i x hi => by cases hi⟩ ((hTr.bel hb2).alloc _) htc (by omega))
        | (at_builtin; refine Lib.wpList_append_run _ rfl _ _ _ _ rfl _ _ rfl rfl _ _ happ ?_))
      refine bodyPost_ret (results_tmp2 rfl _ _ _) rfl ?_
      have hL2 := (hL.bel hb2).alloc (.cells #[] 2)
      have hs2 := hb2.size
      have hs4 := hE.size
      have hs5 : W2.heap.size + 1 ≤ T' ∨ T' = W2.heap.size := by
        rcases hR3 with h | h
        · exact .inr h
        · exact .inl (by simpa using h)
      refine ⟨T', tc', tz', rfl, ⟨hE.os.trans hb2.os, hE.tape.trans hb2.tape, hE.output.trans hb2.output, by simp at hs4; omega, fun k hk _ => ?_⟩, hL2.samE (hE.block _ hL2.ltE id), hR1, hR2, hR, .inr (by omega)⟩
      exact (hE.block k (by simp; omega) id).trans ((((Chg.refl (fun _ => False) W2).alloc _).block k (by omega) id).trans (hb2.block k hk))
    | false =>
      rw [hc1, Bool.false_or] at hc
      have hc1' : ((bl.length : Int) == 0) = false := by
        have := of_decide_eq_false hc1
        simp only [beq_eq_false_iff_ne]
        omega
      clear hT hr hv hb
      go_enter Try.func39, Try.ntmps39
      go_wp2_with (first
        | (go_at_call 34; refine hcall.mono ?_; rintro e W2 ⟨hb2, A, n, c, rfl⟩
           obtain ⟨T', tc', tz', W4, happ, hR, hR1, hR2, hR3, hE⟩ := app_row (W := W2.alloc (.cells #[] 2)) (E := W2.heap.size) ⟨#[], 2, perm_new rfl _, ⟨Nat.le_refl _, rfl⟩, fun i x hi => by cases hi⟩ ((hTr.bel hb2).alloc _) htc (by omega))
        | (at_builtin; refine Lib.wpList_append_run _ rfl _ _ _ _ rfl _ _ rfl rfl _ _ happ ?_))
      refine bodyPost_ret (results_tmp2 rfl _ _ _) rfl ?_
      have hL2 := (hL.bel hb2).alloc (.cells #[] 2)
      have hs2 := hb2.size
      have hs4 := hE.size
      have hs5 : W2.heap.size + 1 ≤ T' ∨ T' = W2.heap.size := by
        rcases hR3 with h | h
        · exact .inr h
        · exact .inl (by simpa using h)
      refine ⟨T', tc', tz', rfl, ⟨hE.os.trans hb2.os, hE.tape.trans hb2.tape, hE.output.trans hb2.output, by simp at hs4; omega, fun k hk _ => ?_⟩, hL2.samE (hE.block _ hL2.ltE id), hR1, hR2, hR, .inr (by omega)⟩
      exact (hE.block k (by simp; omega) id).trans ((((Chg.refl (fun _ => False) W2).alloc _).block k (by omega) id).trans (hb2.block k hk))

set_option maxHeartbeats 16000000 in
theorem look_any {fT : List Int → Option (List Int × Int × Unit)} {w : World} {A0 A1 : Option Addr} {n0 c0 n1 c1 q : Nat} {m : Int} (hT : TurnC w A0 n0 c0 A1 n1 c1 m fT) (hn8 : n1 ≤ 8) (hq : q ≤ 24) :
    ∀ (r : Nat) (left tu : List Int) (a a' : List Int × Int) (L lc lz T tc tz D dc dz : Nat) (W : World), tu.length + r = n1 → left.length = q → q ≤ lc → RowL W L lz left → tu.length ≤ tc → RowL W T tz tu → a.1.length ≤ dc ∧ dc ≤ dz → RowL W D dz a.1 → L ≠ T ∧ L ≠ D ∧ w.heap.size ≤ L → Below w.heap.size w W → lookP fT q r left tu a = some a' →
      Calls Try.prog 39 #[.slice A0 n0 c0, .slice A1 n1 c1, .int .i64 m, .slice (some ⟨T, 0, none⟩) tu.length tc, .slice (some ⟨L, 0, none⟩) q lc, .slice (some ⟨D, 0, none⟩) a.1.length dc, .int .i64 a.2] W (LookR L lz left D a' W) := by
  intro r
  induction r with
  | zero =>
    intro left tu a a' L lc lz T tc tz D dc dz W hlen hlq hlc hL htc hTr hdc hD hne hb hr
    exact look_leaf hT hn8 (by omega) hL htc hTr hdc hD hb hr
  | succ r ih =>
    intro left tu a a' L lc lz T tc tz D dc dz W hlen hlq hlc hL htc hTr hdc hD hne hb hr
    obtain ⟨ne1, ne2, ne3⟩ := hne
    have heq : ((tu.length : Int) == (n1 : Int)) = false := by
      simp only [beq_eq_false_iff_ne]
      omega
    obtain ⟨bl, le⟩ := a
    simp only at hdc hD
    clear hT
    have hLW := hL.ltE
    have HR : Hid (lookP fT q (r + 1) left tu (bl, le) = some a') := hr
    clear hr
    go_enter Try.func39, Try.ntmps39
    go_wp2_with fail
    go_loopw [5, 6, 18] (fun s5 s6 i wr => ∃ k : Nat, k ≤ q ∧ i = .int .i64 (k : Int) ∧ ∃ (ak : List Int) (lk : Int) (Dk dck dzk : Nat), s5 = .slice (some ⟨Dk, 0, none⟩) ak.length dck ∧ s6 = .int .i64 lk ∧
        Hid (goJ (fun i (a : List Int × Int) => cond (left.getD i 0 == 0) (some a) (cond (decide (0 ≤ left.getD i 0) && decide (left.getD i 0 ≤ 1000)) (lookP fT q r (left.set i (left.getD i 0 - 1)) (tu ++ [(i : Int)]) a) none)) (q - k) k (ak, lk) = some a') ∧
        RowL wr L lz left ∧ ak.length ≤ dck ∧ dck ≤ dzk ∧ RowL wr Dk dzk ak ∧ (Dk = D ∨ W.heap.size ≤ Dk) ∧ Chg (fun k => k = L) W wr) (fun _ _ i _ => q - (intOf i).toNat)
    case atStart => exact ⟨0, Nat.zero_le _, rfl, bl, le, D, dc, dz, rfl, rfl, HR, hL, hdc.1, hdc.2, hD, .inl rfl, Chg.refl _ _⟩
    case round =>
      obtain ⟨k, hk, rfl, ak, lk, Dk, dck, dzk, rfl, rfl, HG, hLk, hdk1, hdk2, hDk, hDn, hCk⟩ := hrel
      by_cases hlt : k < q
      · have hg := HG.out
        rw [show q - k = (q - k - 1) + 1 by omega] at hg
        obtain ⟨a1, hf1, hg1⟩ := goJ_step hg
        rw [show q - k - 1 = q - (k + 1) by omega] at hg1
        obtain ⟨lv, hlv⟩ : ∃ v : Int, v = left.getD k 0 := ⟨_, rfl⟩
        have cL : wr.cell? ⟨L, k, none⟩ = some (.int .i64 lv) := by rw [hlv]; exact hLk.cell (by omega)
        have fL := hLk.free k
        rw [← hlv] at hf1
        cases hz : (lv == (0 : Int)) with
        | true =>
          rw [hz] at hf1
          obtain rfl : (ak, lk) = a1 := Option.some.inj hf1
          have HG2 : Hid (goJ (fun i (a : List Int × Int) => cond (left.getD i 0 == 0) (some a) (cond (decide (0 ≤ left.getD i 0) && decide (left.getD i 0 ≤ 1000)) (lookP fT q r (left.set i (left.getD i 0 - 1)) (tu ++ [(i : Int)]) a) none)) (q - (k + 1)) (k + 1) (ak, lk) = some a') := hg1
          clear hlv hg hg1 hf1 HG
          go_wp2_with fail
          go_roundw
          case rel => exact ⟨k + 1, hlt, by simp, ak, lk, Dk, dck, dzk, rfl, rfl, HG2, hLk, hdk1, hdk2, hDk, hDn, hCk⟩
          case measure => simp [intOf]; omega
        | false =>
          rw [hz, cond_false] at hf1
          obtain ⟨hok, hsr⟩ := cond_some hf1
          simp only [Bool.and_eq_true, decide_eq_true_eq] at hok
          have HG2 : Hid (goJ (fun i (a : List Int × Int) => cond (left.getD i 0 == 0) (some a) (cond (decide (0 ≤ left.getD i 0) && decide (left.getD i 0 ≤ 1000)) (lookP fT q r (left.set i (left.getD i 0 - 1)) (tu ++ [(i : Int)]) a) none)) (q - (k + 1)) (k + 1) a1 = some a') := hg1
          have HL : Hid (lv = left.getD k 0) := hlv
          have hLl := hLk.ltE
          have hDl := hDk.ltE
          have hsk := hCk.size
          have hTl := hTr.ltE
          have hTk : RowL wr T tz tu := hTr.samE (hCk.block T hTl (Ne.symm ne1))
          have hLa := hLk.set (i := k) (by omega) (lv - 1)
          have hTa := hTk.other (a := ⟨L, k, none⟩) (Ne.symm ne1) (.int .i64 (lv - 1))
          have hDa := hDk.other (a := ⟨L, k, none⟩) (show Dk ≠ L by omega) (.int .i64 (lv - 1))
          have hca := hCk.set (a := ⟨L, k, none⟩) rfl (.int .i64 (lv - 1))
          obtain ⟨T3, tc3, tz3, W4, happ1, hR3, hR31, hR32, hR33, hE4⟩ := app_row (W := (wr.setCell ⟨L, k, none⟩ (.int .i64 (lv - 1))).alloc (.cells #[] 2)) (E := wr.heap.size) ⟨#[], 2, perm_new (by simp) _, ⟨Nat.le_refl _, rfl⟩, fun i x hi => by cases hi⟩ (hTa.alloc _) htc (by omega)
          have hs4 : wr.heap.size + 1 ≤ W4.heap.size := by simpa using hE4.size
          have hT3 : wr.heap.size ≤ T3 := by
            rcases hR33 with h | h
            · omega
            · have : wr.heap.size + 1 ≤ T3 := by simpa using h
              omega
          have hT3l := hR3.ltE
          have hL4 := (hLa.alloc (.cells #[] 2)).samE (hE4.block L (by simp; omega) id)
          have hD4 := (hDa.alloc (.cells #[] 2)).samE (hE4.block Dk (by simp; omega) id)
          have hk4 : ∀ z, z < wr.heap.size → z ≠ L → W4.heap[z]? = wr.heap[z]? := fun z hz hn => (hE4.block z (by simp; omega) id).trans ((((Chg.refl (fun _ => False) (wr.setCell ⟨L, k, none⟩ (.int .i64 (lv - 1)))).alloc _).block z (by simp; omega) id).trans (Below.heap_setCell _ _ _ _ hn))
          obtain ⟨T5, tc5, tz5, W6, happ2, hR5, hR51, hR52, hR53, hC6⟩ := app_one (W := W4.alloc (.cells #[.int .i64 (k : Int)] 2)) (X := W4.heap.size) (xc := 1) (v := (k : Int)) (hR3.alloc _) hR31 hR32 (by omega) (perm_cell (i := 0) (perm_new rfl _))
          have hs6 : W4.heap.size + 1 ≤ W6.heap.size := by simpa using hC6.size
          have hT5 : wr.heap.size ≤ T5 := by
            rcases hR53 with h | h
            · omega
            · have : W4.heap.size + 1 ≤ T5 := by simpa using h
              omega
          have hL6 := (hL4.alloc (.cells #[.int .i64 (k : Int)] 2)).samE (hC6.block L (by simp; omega) (by omega))
          have hD6 := (hD4.alloc (.cells #[.int .i64 (k : Int)] 2)).samE (hC6.block Dk (by simp; omega) (by omega))
          have hk6 : ∀ z, z < wr.heap.size → z ≠ L → W6.heap[z]? = wr.heap[z]? := fun z hz hn => (hC6.block z (by simp; omega) (by omega)).trans ((((Chg.refl (fun _ => False) W4).alloc _).block z (by omega) id).trans (hk4 z hz hn))
          have hb6 : Below w.heap.size w W6 := ⟨hC6.os.trans (hE4.os.trans (hCk.os.trans hb.os)), hC6.tape.trans (hE4.tape.trans (hCk.tape.trans hb.tape)), hC6.output.trans (hE4.output.trans (hCk.output.trans hb.output)), by have := hb.size; omega, fun z hz => by
            have := hb.size
            exact (hk6 z (by omega) (by omega)).trans ((hCk.block z (by omega) (by omega)).trans (hb.block z hz))⟩
          have hput := ih (left.set k (lv - 1)) (tu ++ [(k : Int)]) (ak, lk) a1 L lc lz T5 tc5 tz5 Dk dck dzk W6 (by rw [List.length_append, List.length_singleton]; omega) (by rw [List.length_set]; exact hlq) hlc hL6 (by rw [List.length_append, List.length_singleton]; exact hR51) hR5 ⟨hdk1, hdk2⟩ hD6 ⟨by omega, by omega, ne3⟩ hb6 hsr
          simp only [List.length_append, List.length_singleton] at hput
          have HC : Hid (∀ W7, Chg (fun k => k = L) W6 W7 → Chg (fun k => k = L) W W7 ∧ wr.heap.size ≤ W7.heap.size) := fun W7 h7 => by
            have := h7.size
            refine ⟨⟨h7.os.trans (hC6.os.trans (hE4.os.trans hCk.os)), h7.tape.trans (hC6.tape.trans (hE4.tape.trans hCk.tape)), h7.output.trans (hC6.output.trans (hE4.output.trans hCk.output)), by omega, fun z hz hn => ?_⟩, by omega⟩
            exact (h7.block z (by omega) hn).trans ((hk6 z (by omega) hn).trans (hCk.block z hz hn))
          clear hlv hg hg1 hf1 HG hsr hk4 hk6 hC6 hE4
          go_wp2_with (first
            | (at_builtin; refine Lib.wpList_append_run _ rfl _ _ _ _ rfl _ _ rfl rfl _ _ happ1 ?_)
            | (at_builtin; refine Lib.wpList_append_run _ rfl _ _ _ _ rfl _ _ rfl rfl _ _ happ2 ?_)
            | (go_at_call 39; refine hput.mono ?_; rintro e W7 ⟨D7, dc7, dz7, rfl, hC7, hL7, hd71, hd72, hD7, hDn7⟩
               have cL7 := hL7.cell (i := k) (by rw [List.length_set]; omega)
               rw [getD_set_self7 (by omega)] at cL7
               have fL7 := hL7.free k))
          all_goals go_roundw
          case rel =>
            have hL8 := hL7.set (i := k) (by rw [List.length_set]; omega) (lv - 1 + 1)
            rw [List.set_set, show lv - 1 + 1 = left.getD k 0 by rw [← HL.out]; omega, set_getD_self7] at hL8
            obtain ⟨hC8, hs8⟩ := HC.out W7 hC7
            refine ⟨k + 1, hlt, by simp, a1.1, a1.2, D7, dc7, dz7, rfl, rfl, HG2, ?_, hd71, hd72, ?_, by omega, ?_⟩
            · rw [show lv = left.getD k 0 from HL.out]
              exact hL8
            · exact hD7.other (a := ⟨L, k, none⟩) (show D7 ≠ L by omega) _
            · exact hC8.set (a := ⟨L, k, none⟩) rfl _
          case measure => simp [intOf]; omega
      · obtain rfl : k = q := by omega
        have hg := HG.out
        rw [Nat.sub_self] at hg
        obtain rfl : (ak, lk) = a' := Option.some.inj hg
        go_wp2_with fail
        refine bodyPost_ret (results_tmp2 rfl _ _ _) rfl ?_
        exact ⟨Dk, dck, dzk, rfl, hCk, hLk, hdk1, hdk2, hDk, hDn⟩

end Go.Proofs.Ytgcmklniacjcfaa
