/-
  impl.BestShop: the closure, by recursion. No condition.
-/
import Derived.Test.YtgcmklniacjcfaaShop4
namespace Go.Proofs.Ytgcmklniacjcfaa
open Go Go.RowKit Go.Proofs.Ytgcmklniacjcfaa.Fw
set_option maxRecDepth 100000
set_option linter.unusedVariables false
set_option linter.unusedSimpArgs false

/-- Nothing old has changed. -/
abbrev Ext (w W : World) : Prop := Chg (fun _ => False) w W
theorem Ext.of {n : Nat} {w W V : World} (h : Ext w W) (hb : Below W.heap.size W V) : Ext w V :=
  Chg.trans h (S' := fun _ => False) ⟨hb.os, hb.tape, hb.output, hb.size, fun k hk _ => hb.block k hk⟩ (fun k _ h => h)

theorem Ext.new {w W : World} (h : Ext w W) {a : Addr} (ha : w.heap.size ≤ a.block) (v : Value) : Ext w (W.setCell a v) :=
  ⟨h.os, h.tape, h.output, by have := h.size; simpa using this, fun k hk hs => (Below.heap_setCell _ _ _ _ (fun e => by omega)).trans (h.block k hk hs)⟩
theorem Ext.set7 {w W : World} (h : Ext w W) {U : Nat} (hU : w.heap.size ≤ U) (v0 v1 v2 v3 v4 v5 v6 : Value) :
    Ext w (((((((W.setCell ⟨U, 0, none⟩ v0).setCell ⟨U, 1, none⟩ v1).setCell ⟨U, 2, none⟩ v2).setCell ⟨U, 3, none⟩ v3).setCell ⟨U, 4, none⟩ v4).setCell ⟨U, 5, none⟩ v5).setCell ⟨U, 6, none⟩ v6) :=
  ((((((Ext.new h (a := ⟨U, 0, none⟩) hU v0).new (a := ⟨U, 1, none⟩) hU v1).new (a := ⟨U, 2, none⟩) hU v2).new (a := ⟨U, 3, none⟩) hU v3).new (a := ⟨U, 4, none⟩) hU v4).new (a := ⟨U, 5, none⟩) hU v5).new (a := ⟨U, 6, none⟩) hU v6

theorem goJ_step {α : Type} {f : Nat → α → Option α} {d j : Nat} {a a' : α} (h : goJ f (d + 1) j a = some a') : ∃ a1, f j a = some a1 ∧ goJ f d (j + 1) a1 = some a' := Option.bind_eq_some_iff.1 h

/-- What the region leaves that copies the state. -/
def CutR (B off c RB ro rc n q m : Nat) (s : TS) (wr : World) (p : Value) (wx : World) : Prop :=
  ∃ U O1 oc1 oz1 O2 oc2 oz2 O3 oc3 oz3, p = .pointer (some ⟨U, 0, none⟩) ∧ Ext wr wx ∧
    wx.heap[U]? = some (.cells #[.slice (some ⟨B, off, none⟩) n c, .int .i64 (q : Int), .int .i64 (m : Int), .slice (some ⟨RB, ro, none⟩) n rc, .slice (some ⟨O1, 0, none⟩) q oc1, .slice (some ⟨O2, 0, none⟩) q oc2, .slice (some ⟨O3, 0, none⟩) m oc3] 55 (0, 0)) ∧
    (wr.heap.size ≤ U ∧ wr.heap.size ≤ O1 ∧ wr.heap.size ≤ O2 ∧ wr.heap.size ≤ O3) ∧ (O1 ≠ O2 ∧ O1 ≠ O3 ∧ O2 ≠ O3 ∧ U ≠ O1 ∧ U ≠ O2 ∧ U ≠ O3) ∧ RowL wx O1 oz1 s.1 ∧ RowL wx O2 oz2 s.2.1 ∧ RowL wx O3 oz3 s.2.2 ∧ q ≤ oc1 ∧ q ≤ oc2 ∧ m ≤ oc3

theorem RowL.set7 {W : World} {O z U : Nat} {l : List Int} (h : RowL W O z l) (hU : O ≠ U) (v0 v1 v2 v3 v4 v5 v6 : Value) :
    RowL (((((((W.setCell ⟨U, 0, none⟩ v0).setCell ⟨U, 1, none⟩ v1).setCell ⟨U, 2, none⟩ v2).setCell ⟨U, 3, none⟩ v3).setCell ⟨U, 4, none⟩ v4).setCell ⟨U, 5, none⟩ v5).setCell ⟨U, 6, none⟩ v6) O z l :=
  ((((((h.other (a := ⟨U, 0, none⟩) hU v0).other (a := ⟨U, 1, none⟩) hU v1).other (a := ⟨U, 2, none⟩) hU v2).other (a := ⟨U, 3, none⟩) hU v3).other (a := ⟨U, 4, none⟩) hU v4).other (a := ⟨U, 5, none⟩) hU v5).other (a := ⟨U, 6, none⟩) hU v6

theorem RowL.bel {W V : World} {O z : Nat} {l : List Int} (h : RowL W O z l) (hb : Below W.heap.size W V) : RowL V O z l := h.samE (hb.block _ h.ltE)

theorem Ext.weak {W V : World} (h : Ext W V) (S : Nat → Prop) : Chg S W V := ⟨h.os, h.tape, h.output, h.size, fun z hz _ => h.block z hz id⟩

/-- The last turn is taken back. -/
theorem BI.cut {a b XB xo xc B off c RB ro rc n q m : Nat} {rt xs : List Int} {T tc tz : Nat} {tu : List Int} {v : Int} {best : BS} {W : World} (h : BI a b XB xo xc B off c RB ro rc n q m rt xs T tc tz (tu ++ [v]) best W) :
    BI a b XB xo xc B off c RB ro rc n q m rt xs T tc tz tu best (W.setCell ⟨b + 4, 0, none⟩ (.slice (some ⟨T, 0, none⟩) tu.length tc)) := by
  have hp := lt_of_block h.pub
  have hcap := h.tcap
  rw [List.length_append, List.length_singleton] at hcap
  exact h.turns (Chg.refl _ _) h.trow.pre (by omega) (.inl rfl)

set_option maxHeartbeats 16000000 in
theorem put_shop {fM : List Int → Option (Int × Unit)} {fCI fCL : List Int → Option (List Int × Unit)} (hM : MaxC fM) (hCI : CloneC 42 fCI) (hCL : CloneC 41 fCL)
    {a b XB xo xc B off c RB ro rc q m : Nat} {rt xs : List Int} (hm : 1 ≤ m ∧ m ≤ 8) (hq : 1 ≤ q ∧ q ≤ 24) (hqm : q * m = xs.length) (hrl : rt.length = xs.length) (hn1 : 1 ≤ xs.length) (hn8 : xs.length ≤ 8) :
    ∀ (r : Nat) (s : TS) (tu : List Int) (best best' : BS) (T tc tz NB nc zn JB jc zj FB fc zf : Nat) (W : World), tu.length + r = xs.length → s.1.length = q → s.2.1.length = q → s.2.2.length = m → q ≤ nc → q ≤ jc → m ≤ fc →
      RowL W NB zn s.1 → RowL W JB zj s.2.1 → RowL W FB zf s.2.2 → b + 6 ≤ NB ∧ b + 6 ≤ JB ∧ b + 6 ≤ FB → NB ≠ T ∧ JB ≠ T ∧ FB ≠ T → BI a b XB xo xc B off c RB ro rc xs.length q m rt xs T tc tz tu best W → searchP fM fCI fCL m q rt xs r s tu best = some best' →
      Calls Try.prog 40 (.agg #[.slice (some ⟨B, off, none⟩) xs.length c, .int .i64 (q : Int), .int .i64 (m : Int), .slice (some ⟨RB, ro, none⟩) xs.length rc, .slice (some ⟨NB, 0, none⟩) q nc, .slice (some ⟨JB, 0, none⟩) q jc, .slice (some ⟨FB, 0, none⟩) m fc] :: shopPs a b).toArray W
        fun e W' => e = .returned (.tuple #[]) ∧ ∃ T' tc' tz', BI a b XB xo xc B off c RB ro rc xs.length q m rt xs T' tc' tz' tu best' W' ∧ (T' = T ∨ W.heap.size ≤ T') ∧ Chg (fun k => k = b + 1 ∨ k = b + 2 ∨ k = b + 4 ∨ k = T) W W' := by
  intro r
  induction r with
  | zero =>
    intro s tu best best' T tc tz NB nc zn JB jc zj FB fc zf W hlen l1 l2 l3 c1 c2 c3 hN hJ hF hb hT hI hr
    exact put_leaf hM hCL hn1 (by omega) l3 c3 hF hI hr
  | succ r ih =>
    intro s tu best best' T tc tz NB nc zn JB jc zj FB fc zf W hlen l1 l2 l3 c1 c2 c3 hN hJ hF hb hT hI hr
    obtain ⟨W1, hW1⟩ : ∃ W1, W1 = W.alloc (.cells #[.slice (some ⟨B, off, none⟩) xs.length c, .int .i64 (q : Int), .int .i64 (m : Int), .slice (some ⟨RB, ro, none⟩) xs.length rc, .slice (some ⟨NB, 0, none⟩) q nc, .slice (some ⟨JB, 0, none⟩) q jc, .slice (some ⟨FB, 0, none⟩) m fc] 55) := ⟨_, rfl⟩
    have hC1 : Ext W W1 := by rw [hW1]; exact (Chg.refl _ _).alloc _
    have hI1 := hI.below fun k hk => hC1.block k hk id
    have hN1 : RowL W1 NB zn s.1 := by rw [hW1]; exact hN.alloc _
    have hJ1 : RowL W1 JB zj s.2.1 := by rw [hW1]; exact hJ.alloc _
    have hF1 : RowL W1 FB zf s.2.2 := by rw [hW1]; exact hF.alloc _
    have hTl := hI.trow.ltE
    have hpl := lt_of_block hI.pub
    have hXlt : W.heap.size < W1.heap.size := by rw [hW1]; simp
    have hbx : W1.heap[W.heap.size]? = some (.cells #[.slice (some ⟨B, off, none⟩) xs.length c, .int .i64 (q : Int), .int .i64 (m : Int), .slice (some ⟨RB, ro, none⟩) xs.length rc, .slice (some ⟨NB, 0, none⟩) q nc, .slice (some ⟨JB, 0, none⟩) q jc, .slice (some ⟨FB, 0, none⟩) m fc] 55 (0, 0)) := by rw [hW1]; exact perm_new rfl _
    have ctu := perm_cell (i := 0) hI1.tub
    have ctm := perm_cell (i := 0) hI1.tmb
    have cs1 := perm_cell (i := 1) hI1.shb
    simp only [List.getElem?_toArray, List.getElem?_cons_succ, List.getElem?_cons_zero] at ctu ctm cs1
    have hne : ((tu.length : Int) == (xs.length : Int)) = false := by
      simp only [beq_eq_false_iff_ne]
      omega
    unfold shopPs
    go_enter Try.func40, Try.ntmps40
    go_upto_region 1 with (fail)
    rw [← hW1]
    clear hW1
    go_wp2_with fail
    go_loopw [32] (fun i wr => ∃ k : Nat, k ≤ q ∧ i = .int .i64 (k : Int) ∧ ∃ ak T' tc' tz', Hid (goJ (fun j (a : BS) => cond (s.1.getD j 0 == (m : Int)) (some a) (cond (okB fCI fCL m q rt xs s j) (searchP fM fCI fCL m q rt xs r (turnT m rt xs s j) (tu ++ [(j : Int)]) a) none)) (q - k) k ak = some best') ∧
      BI a b XB xo xc B off c RB ro rc xs.length q m rt xs T' tc' tz' tu ak wr ∧ (T' = T ∨ W1.heap.size ≤ T') ∧ Chg (fun k => k = b + 1 ∨ k = b + 2 ∨ k = b + 4 ∨ k = T) W1 wr) (fun i _ => q - (intOf i).toNat)
    case atStart => exact ⟨0, Nat.zero_le _, rfl, best, T, tc, tz, hr, hI1, .inl rfl, Chg.refl _ _⟩
    case round =>
      obtain ⟨k, hk, rfl, ak, T1, tc1, tz1, HG, hI2, hT1, hC2⟩ := hrel
      by_cases hlt : k < q
      · have hg := HG.out
        rw [show q - k = (q - k - 1) + 1 by omega] at hg
        obtain ⟨a1, hf1, hg1⟩ := goJ_step hg
        rw [show q - k - 1 = q - (k + 1) by omega] at hg1
        have HG1 := HG
        have hold : ∀ {z : Nat}, z < W1.heap.size → z ≠ b + 1 → z ≠ b + 2 → z ≠ b + 4 → z ≠ T → wr.heap[z]? = W1.heap[z]? := fun h0 h1 h2 h3 h4 => hC2.block _ h0 (by rintro (e | e | e | e) <;> omega)
        have hNl := hN1.ltE
        have hJl := hJ1.ltE
        have hFl := hF1.ltE
        have hN2 : RowL wr NB zn s.1 := hN1.samE (hold (z := NB) (by omega) (by omega) (by omega) (by omega) (by omega))
        have hJ2 : RowL wr JB zj s.2.1 := hJ1.samE (hold (z := JB) (by omega) (by omega) (by omega) (by omega) (by omega))
        have hF2 : RowL wr FB zf s.2.2 := hF1.samE (hold (z := FB) (by omega) (by omega) (by omega) (by omega) (by omega))
        have hbx2 := (hold (z := W.heap.size) hXlt (by omega) (by omega) (by omega) (by omega)).trans hbx
        obtain ⟨kv, hkv⟩ : ∃ v : Int, v = s.1.getD k 0 := ⟨_, rfl⟩
        have cN : wr.cell? ⟨NB, k, none⟩ = some (.int .i64 kv) := by rw [hkv]; exact hN2.cell (by omega)
        have ct4 := perm_cell (i := 4) hbx2
        have cs2 := perm_cell (i := 2) hI2.shb
        simp only [List.getElem?_toArray, List.getElem?_cons_succ, List.getElem?_cons_zero] at ct4 cs2
        rw [← hkv] at hf1
        cases hkm : (kv == (m : Int)) with
        | true =>
          rw [hkm] at hf1
          obtain rfl : ak = a1 := Option.some.inj hf1
          have HG2 : Hid (goJ (fun j (a : BS) => cond (s.1.getD j 0 == (m : Int)) (some a) (cond (okB fCI fCL m q rt xs s j) (searchP fM fCI fCL m q rt xs r (turnT m rt xs s j) (tu ++ [(j : Int)]) a) none)) (q - (k + 1)) (k + 1) ak = some best') := hg1
          clear hkv hg hg1 hf1 HG HG1
          go_wp2_with fail
          go_region
          all_goals go_wp2_with fail
          all_goals go_roundw
          case rel => exact ⟨k + 1, hlt, by simp, ak, T1, tc1, tz1, HG2, hI2.below (fun z hz => rfl), hT1, hC2.drew⟩
          case measure => simp [intOf]; omega
        | false =>
          rw [hkm, cond_false] at hf1
          obtain ⟨hok, hsr⟩ := cond_some hf1
          have HG2 : Hid (goJ (fun j (a : BS) => cond (s.1.getD j 0 == (m : Int)) (some a) (cond (okB fCI fCL m q rt xs s j) (searchP fM fCI fCL m q rt xs r (turnT m rt xs s j) (tu ++ [(j : Int)]) a) none)) (q - (k + 1)) (k + 1) a1 = some best') := hg1
          have HSR : Hid (searchP fM fCI fCL m q rt xs r (turnT m rt xs s k) (tu ++ [(k : Int)]) ak = some a1) := hsr
          have HKV : Hid ((s.1.getD k 0 == (m : Int)) = false) := by rw [← hkv]; exact hkm
          unfold okB at hok
          simp only [Bool.and_eq_true, decide_eq_true_eq] at hok
          obtain ⟨hokT, hk1, hk2, hk3⟩ := hok
          have HOK : Hid (okT m q rt xs s (k : Int) = true) := hokT
          have hcN : ∀ V, Ext wr V → Calls Try.prog 42 #[.slice (some ⟨NB, 0, none⟩) q nc] V fun e V' => Below V.heap.size V V' ∧ ∃ O oc oz, e = .returned (.slice (some ⟨O, 0, none⟩) q oc) ∧ V.heap.size ≤ O ∧ RowL V' O oz s.1 ∧ q ≤ oc ∧ oc ≤ oz := fun V hV => by
            have h := hCI V NB zn nc s.1 hk1 (fun e => by rw [e] at l1; simp at l1; omega) (by omega) (hN2.samE (hV.block _ hN2.ltE id))
            rw [l1] at h
            exact h
          have hcJ : ∀ V, Ext wr V → Calls Try.prog 41 #[.slice (some ⟨JB, 0, none⟩) q jc] V fun e V' => Below V.heap.size V V' ∧ ∃ O oc oz, e = .returned (.slice (some ⟨O, 0, none⟩) q oc) ∧ V.heap.size ≤ O ∧ RowL V' O oz s.2.1 ∧ q ≤ oc ∧ oc ≤ oz := fun V hV => by
            have h := hCL V JB zj jc s.2.1 hk2 (fun e => by rw [e] at l2; simp at l2; omega) (by omega) (hJ2.samE (hV.block _ hJ2.ltE id))
            rw [l2] at h
            exact h
          have hcF : ∀ V, Ext wr V → Calls Try.prog 41 #[.slice (some ⟨FB, 0, none⟩) m fc] V fun e V' => Below V.heap.size V V' ∧ ∃ O oc oz, e = .returned (.slice (some ⟨O, 0, none⟩) m oc) ∧ V.heap.size ≤ O ∧ RowL V' O oz s.2.2 ∧ m ≤ oc ∧ oc ≤ oz := fun V hV => by
            have h := hCL V FB zf fc s.2.2 hk3 (fun e => by rw [e] at l3; simp at l3; omega) (by omega) (hF2.samE (hV.block _ hF2.ltE id))
            rw [l3] at h
            exact h
          have hS : ∀ V, Ext wr V → V.cell? ⟨b, 0, none⟩ = some (.slice (some ⟨B, off, none⟩) xs.length c) ∧ V.cell? ⟨b, 1, none⟩ = some (.int .i64 (q : Int)) ∧ V.cell? ⟨b, 2, none⟩ = some (.int .i64 (m : Int)) ∧ V.cell? ⟨a, 0, none⟩ = some (.slice (some ⟨RB, ro, none⟩) xs.length rc) ∧
              V.cell? ⟨W.heap.size, 4, none⟩ = some (.slice (some ⟨NB, 0, none⟩) q nc) ∧ V.cell? ⟨W.heap.size, 5, none⟩ = some (.slice (some ⟨JB, 0, none⟩) q jc) ∧ V.cell? ⟨W.heap.size, 6, none⟩ = some (.slice (some ⟨FB, 0, none⟩) m fc) := fun V hV => by
            have e1 := (hV.block _ (lt_of_block hI2.shb) id).trans hI2.shb
            have e2 := (hV.block _ (lt_of_block hI2.rtb) id).trans hI2.rtb
            have e3 := (hV.block _ (lt_of_block hbx2) id).trans hbx2
            exact ⟨perm_cell e1, perm_cell e1, perm_cell e1, perm_cell e2, perm_cell e3, perm_cell e3, perm_cell e3⟩
          clear hkv hg hg1 hf1 HG HG1 hsr hokT
          go_wp2_with fail
          go_region
          all_goals go_wp2_with fail
          go_cut [11] (fun p wx => CutR B off c RB ro rc xs.length q m s wr p wx)
          case first =>
            have hE00 : Ext wr wr := Chg.refl _ _
            have hE0 : Ext wr wr.drew := (Chg.refl _ _).drew
            obtain ⟨c01, c02, c03, c04, c05, c06, c07⟩ := hS _ hE0
            go_region_held3 (fun V => V.cell? ⟨b, 0, none⟩ = some (.slice (some ⟨B, off, none⟩) xs.length c) ∧ V.cell? ⟨b, 1, none⟩ = some (.int .i64 (q : Int)) ∧ V.cell? ⟨b, 2, none⟩ = some (.int .i64 (m : Int)) ∧ V.cell? ⟨a, 0, none⟩ = some (.slice (some ⟨RB, ro, none⟩) xs.length rc) ∧
                V.cell? ⟨W.heap.size, 4, none⟩ = some (.slice (some ⟨NB, 0, none⟩) q nc) ∧ V.cell? ⟨W.heap.size, 5, none⟩ = some (.slice (some ⟨JB, 0, none⟩) q jc) ∧ V.cell? ⟨W.heap.size, 6, none⟩ = some (.slice (some ⟨FB, 0, none⟩) m fc))
              ((first | with_reducible exact hS _ (Ext.set7 hE3 hE2.size _ _ _ _ _ _ _) | with_reducible exact hS _ (Ext.set7 hE3 hE1.size _ _ _ _ _ _ _) | with_reducible exact hS _ (Ext.set7 hE3 (Nat.le_refl _) _ _ _ _ _ _ _) | with_reducible exact hS _ (hE3.alloc _) | with_reducible exact hS _ hE3 | with_reducible exact hS _ (hE2.alloc _) | with_reducible exact hS _ hE2 | with_reducible exact hS _ (hE1.alloc _) | with_reducible exact hS _ hE1 | with_reducible exact hS _ (hE00.alloc _).drew.drew | with_reducible exact hS _ (hE0.drew.alloc _) | with_reducible exact hS _ hE0 | with_reducible exact hS _ hE0.drew | go_keep))
              (first
              | (go_at_call 42; refine (hcN _ (by first | with_reducible exact hE0 | with_reducible exact hE0.drew)).mono ?_; rintro e V1 ⟨hv1, O1, oc1, oz1, rfl, ho1, hR1, ho2, ho3⟩; have hE1 : Ext wr V1 := Ext.of (n := 0) (by first | with_reducible exact hE0 | with_reducible exact hE0.drew) hv1)
              | (go_at_call 42; refine (hcN _ (by first | with_reducible exact (hE00.alloc _).drew.drew | with_reducible exact (hE00.alloc _).drew | with_reducible exact hE0.drew.alloc _)).mono ?_; rintro e V1 ⟨hv1, O1, oc1, oz1, rfl, ho1, hR1, ho2, ho3⟩; have hE1 : Ext wr V1 := Ext.of (n := 0) (by first | with_reducible exact (hE00.alloc _).drew.drew | with_reducible exact (hE00.alloc _).drew | with_reducible exact hE0.drew.alloc _) hv1; have hu1 := (hv1.block wr.heap.size (by simp)).trans (perm_drew (perm_drew (perm_new rfl _))))
              | (go_at_call_of 41 (Value.slice (some ⟨JB, 0, none⟩) q jc); refine (hcJ _ (by with_reducible exact hE1)).mono ?_; rintro e V2 ⟨hv2, O2, oc2, oz2, rfl, hp1, hR2, hp2, hp3⟩; have hE2 : Ext wr V2 := Ext.of (n := 0) hE1 hv2; try have hu2 := (hv2.block _ (lt_of_block hu1)).trans hu1)
              | (go_at_call_of 41 (Value.slice (some ⟨JB, 0, none⟩) q jc); refine (hcJ _ (by with_reducible exact hE1.alloc _)).mono ?_; rintro e V2 ⟨hv2, O2, oc2, oz2, rfl, hp1, hR2, hp2, hp3⟩; have hE2 : Ext wr V2 := Ext.of (n := 0) (hE1.alloc _) hv2; have hu2 := (hv2.block _ (by simp)).trans (perm_new rfl _))
              | (go_at_call_of 41 (Value.slice (some ⟨FB, 0, none⟩) m fc); refine (hcF _ (by with_reducible exact hE2)).mono ?_; rintro e V3 ⟨hv3, O3, oc3, oz3, rfl, hs1, hR3, hs2, hs3⟩; have hE3 : Ext wr V3 := Ext.of (n := 0) hE2 hv3; try (have hu3 := (hv3.block _ (lt_of_block hu2)).trans hu2; have d0 := perm_cell (i := 0) hu3; have f0 := perm_free (i := 0) hu3; have d1 := perm_cell (i := 1) hu3; have f1 := perm_free (i := 1) hu3; have d2 := perm_cell (i := 2) hu3; have f2 := perm_free (i := 2) hu3; have d3 := perm_cell (i := 3) hu3; have f3 := perm_free (i := 3) hu3; have d4 := perm_cell (i := 4) hu3; have f4 := perm_free (i := 4) hu3; have d5 := perm_cell (i := 5) hu3; have f5 := perm_free (i := 5) hu3; have d6 := perm_cell (i := 6) hu3; have f6 := perm_free (i := 6) hu3; simp only [List.getElem?_toArray, List.getElem?_cons_succ, List.getElem?_cons_zero] at d0 d1 d2 d3 d4 d5 d6))
              | (go_at_call_of 41 (Value.slice (some ⟨FB, 0, none⟩) m fc); refine (hcF _ (by with_reducible exact hE2.alloc _)).mono ?_; rintro e V3 ⟨hv3, O3, oc3, oz3, rfl, hs1, hR3, hs2, hs3⟩; have hE3 : Ext wr V3 := Ext.of (n := 0) (hE2.alloc _) hv3; have hu3 := (hv3.block _ (by simp)).trans (perm_new rfl _); have d0 := perm_cell (i := 0) hu3; have f0 := perm_free (i := 0) hu3; have d1 := perm_cell (i := 1) hu3; have f1 := perm_free (i := 1) hu3; have d2 := perm_cell (i := 2) hu3; have f2 := perm_free (i := 2) hu3; have d3 := perm_cell (i := 3) hu3; have f3 := perm_free (i := 3) hu3; have d4 := perm_cell (i := 4) hu3; have f4 := perm_free (i := 4) hu3; have d5 := perm_cell (i := 5) hu3; have f5 := perm_free (i := 5) hu3; have d6 := perm_cell (i := 6) hu3; have f6 := perm_free (i := 6) hu3; simp only [List.getElem?_toArray, List.getElem?_cons_succ, List.getElem?_cons_zero] at d0 d1 d2 d3 d4 d5 d6))
            all_goals go_wp2_with fail
            all_goals go_meet
            · have s1 := hR1.ltE
              have s2 := hR2.ltE
              have s3 := hR3.ltE
              have z0 : wr.heap.size ≤ O1 := ho1
              have z1 := hE1.size
              have z2 := hE2.size
              have z3 := hE3.size
              have y2 := hv2.size
              have y3 := hv3.size
              have r1 := (hR1.bel hv2).bel hv3
              have r2 := hR2.bel hv3
              exact ⟨_, O1, oc1, oz1, O2, oc2, oz2, O3, oc3, oz3, rfl, hE3.alloc _, perm_new rfl _, ⟨by omega, by omega, by omega, by omega⟩, ⟨by omega, by omega, by omega, by omega, by omega, by omega⟩, r1.alloc _, r2.alloc _, hR3.alloc _, ho2, hp2, hs2⟩
            · have s1 := hR1.ltE
              have s2 := hR2.ltE
              have s3 := hR3.ltE
              have z0 : wr.heap.size ≤ O1 := ho1
              have z1 := hE1.size
              have z2 := hE2.size
              have z3 := hE3.size
              have y2 := hv2.size
              have y3 := hv3.size
              have x3 : V2.heap.size + 1 ≤ O3 := by simpa using hs1
              have x4 : V2.heap.size + 1 ≤ V3.heap.size := by simpa using y3
              have r1 := ((hR1.bel hv2).alloc _).bel hv3
              have r2 := (hR2.alloc _).bel hv3
              exact ⟨_, O1, oc1, oz1, O2, oc2, oz2, O3, oc3, oz3, rfl, Ext.set7 hE3 hE2.size _ _ _ _ _ _ _, shop_box7 hu3 _ _ _ _ _ _ _, ⟨by omega, by omega, by omega, by omega⟩, ⟨by omega, by omega, by omega, by omega, by omega, by omega⟩, r1.set7 (by omega) _ _ _ _ _ _ _, r2.set7 (by omega) _ _ _ _ _ _ _, hR3.set7 (by omega) _ _ _ _ _ _ _, ho2, hp2, hs2⟩
            · have s1 := hR1.ltE
              have s2 := hR2.ltE
              have s3 := hR3.ltE
              have z0 : wr.heap.size ≤ O1 := ho1
              have z1 := hE1.size
              have z2 := hE2.size
              have z3 := hE3.size
              have y3 := hv3.size
              have x2 : V1.heap.size + 1 ≤ O2 := by simpa using hp1
              have x4 : V1.heap.size + 1 ≤ V2.heap.size := by simpa using hv2.size
              have r1 := ((hR1.alloc _).bel hv2).bel hv3
              have r2 := hR2.bel hv3
              exact ⟨_, O1, oc1, oz1, O2, oc2, oz2, O3, oc3, oz3, rfl, Ext.set7 hE3 hE1.size _ _ _ _ _ _ _, shop_box7 hu3 _ _ _ _ _ _ _, ⟨by omega, by omega, by omega, by omega⟩, ⟨by omega, by omega, by omega, by omega, by omega, by omega⟩, r1.set7 (by omega) _ _ _ _ _ _ _, r2.set7 (by omega) _ _ _ _ _ _ _, hR3.set7 (by omega) _ _ _ _ _ _ _, ho2, hp2, hs2⟩
            · have s1 := hR1.ltE
              have s2 := hR2.ltE
              have s3 := hR3.ltE
              have z0 : wr.heap.size + 1 ≤ O1 := by simpa using ho1
              have z1 := hE1.size
              have z2 := hE2.size
              have z3 := hE3.size
              have y2 := hv2.size
              have y3 := hv3.size
              have r1 := (hR1.bel hv2).bel hv3
              have r2 := hR2.bel hv3
              exact ⟨_, O1, oc1, oz1, O2, oc2, oz2, O3, oc3, oz3, rfl, Ext.set7 hE3 (Nat.le_refl _) _ _ _ _ _ _ _, shop_box7 hu3 _ _ _ _ _ _ _, ⟨by omega, by omega, by omega, by omega⟩, ⟨by omega, by omega, by omega, by omega, by omega, by omega⟩, r1.set7 (by omega) _ _ _ _ _ _ _, r2.set7 (by omega) _ _ _ _ _ _ _, hR3.set7 (by omega) _ _ _ _ _ _ _, ho2, hp2, hs2⟩
          case rest =>
            obtain ⟨U, O1, oc1, oz1, O2, oc2, oz2, O3, oc3, oz3, rfl, hEc, hub, ⟨u1, u2, u3, u4⟩, ⟨d1, d2, d3, d4, d5, d6⟩, hR1, hR2, hR3, oc1h, oc2h, oc3h⟩ := hcut
            clear hcN hcJ hcF
            have hlw := hEc.size
            have hIc := hI2.below fun z hz => hEc.block z hz id
            have lt2 := hI2.lt
            have hpl2 := lt_of_block hI2.pub
            have hTl2 := hI2.trow.ltE
            have htp2 := hI2.tpl
            have e0 := perm_cell (i := 0) hub
            have e1 := perm_cell (i := 1) hub
            have e2 := perm_cell (i := 2) hub
            have e3 := perm_cell (i := 3) hub
            have e4 := perm_cell (i := 4) hub
            have e5 := perm_cell (i := 5) hub
            have e6 := perm_cell (i := 6) hub
            simp only [List.getElem?_toArray, List.getElem?_cons_succ, List.getElem?_cons_zero] at e0 e1 e2 e3 e4 e5 e6
            have hcall := turn_any (s := s) (j := k) (c := c) (rc := rc) (nc := oc1) (jc := oc2) (fc := oc3) hm hq hqm hrl wc HOK.out HKV.out l1 l2 l3 hR1 hR2 hR3 d1 d2 d3 (B := B) (off := off) (RB := RB) (roff := ro) ⟨by omega, by omega, by omega, by omega⟩ ⟨by omega, by omega, by omega, by omega⟩ hIc.xb hIc.rb
            obtain ⟨tl1, tl2, tl3⟩ : (turnT m rt xs s k).1.length = q ∧ (turnT m rt xs s k).2.1.length = q ∧ (turnT m rt xs s k).2.2.length = m := by
              unfold turnT
              simp only [List.length_set]
              exact ⟨l1, l2, l3⟩
            go_wp2_with (first
              | (go_at_call 38; refine hcall.mono ?_; rintro e W5 ⟨he, hC5, hN5, hJ5, hF5⟩; subst he
                 have hs5 := hC5.size
                 have hI5 := hI2.below (W' := W5) fun z hz => (hC5.block z (by omega) (by rintro (e | e | e) <;> omega)).trans (hEc.block z hz id)
                 have hu5 := (hC5.block U (lt_of_block hub) (by rintro (e | e | e) <;> omega)).trans hub
                 have ctu5 := perm_cell (i := 0) hI5.tub
                 have hUl := lt_of_block hu5
                 have hl1 := hN5.ltE
                 have hl2 := hJ5.ltE
                 have hl3 := hF5.ltE
                 obtain ⟨T2, tc2, tz2, W7, happ, hrow7, hcap7, htz7, hT2, hC7⟩ := app_one (W := W5.alloc (.cells #[.int .i64 (k : Int)] 2)) (X := W5.heap.size) (xc := 1) (v := (k : Int)) (hI5.trow.alloc _) hI5.tcap.1 hI5.tcap.2 (by omega) (perm_cell (i := 0) (perm_new rfl _))
                 have hs6 : W5.heap.size + 1 ≤ W7.heap.size := by simpa using hC7.size
                 have hT2' : T2 = T1 ∨ W5.heap.size + 1 ≤ T2 := by simpa using hT2
                 have hI7 := (hI5.below (W' := W5.alloc (.cells #[.int .i64 (k : Int)] 2)) fun z hz => ((Chg.refl (fun _ => False) W5).alloc _).block z hz id).turns hC7 hrow7 ⟨by rw [List.length_append, List.length_singleton]; exact hcap7, htz7⟩ hT2
                 have ht7 := (hC7.block (b + 4) (by simp; omega) (by omega)).trans (perm_alloc hI5.tub _)
                 have hf7 : W7.frozen? ⟨b + 4, 0, none⟩ = false := perm_free ht7
                 have ct7 := perm_cell (i := 0) ht7
                 have hu7 := perm_set ((hC7.block U (by simp; omega) (by omega)).trans (perm_alloc hu5 _)) ⟨b + 4, 0, none⟩ (by show U ≠ b + 4; omega) (.slice (some ⟨T2, 0, none⟩) (tu.length + 1) tc2)
                 have hN7 := ((hN5.alloc (.cells #[.int .i64 (k : Int)] 2)).samE (hC7.block O1 (by simp; omega) (by omega))).other (a := ⟨b + 4, 0, none⟩) (by show O1 ≠ b + 4; omega) (.slice (some ⟨T2, 0, none⟩) (tu.length + 1) tc2)
                 have hJ7 := ((hJ5.alloc (.cells #[.int .i64 (k : Int)] 2)).samE (hC7.block O2 (by simp; omega) (by omega))).other (a := ⟨b + 4, 0, none⟩) (by show O2 ≠ b + 4; omega) (.slice (some ⟨T2, 0, none⟩) (tu.length + 1) tc2)
                 have hF7 := ((hF5.alloc (.cells #[.int .i64 (k : Int)] 2)).samE (hC7.block O3 (by simp; omega) (by omega))).other (a := ⟨b + 4, 0, none⟩) (by show O3 ≠ b + 4; omega) (.slice (some ⟨T2, 0, none⟩) (tu.length + 1) tc2)
                 simp only [List.length_append, List.length_singleton] at hI7
                 have hput := ih (turnT m rt xs s k) (tu ++ [(k : Int)]) ak a1 T2 tc2 tz2 O1 oc1 oz1 O2 oc2 oz2 O3 oc3 oz3 _ (by rw [List.length_append, List.length_singleton]; omega) tl1 tl2 tl3 oc1h oc2h oc3h hN7 hJ7 hF7 ⟨by omega, by omega, by omega⟩ ⟨by omega, by omega, by omega⟩ hI7 HSR.out
                 have cp7 := perm_cell (i := 0) hI7.pub
                 have g0 := perm_cell (i := 0) hu7
                 have g1 := perm_cell (i := 1) hu7
                 have g2 := perm_cell (i := 2) hu7
                 have g3 := perm_cell (i := 3) hu7
                 have g4 := perm_cell (i := 4) hu7
                 have g5 := perm_cell (i := 5) hu7
                 have g6 := perm_cell (i := 6) hu7
                 simp only [List.getElem?_toArray, List.getElem?_cons_succ, List.getElem?_cons_zero] at ctu5 ct7 cp7 g0 g1 g2 g3 g4 g5 g6
                 unfold shopPs at cp7 hput)
              | (at_builtin; refine Lib.wpList_append_run _ rfl _ _ _ _ rfl _ _ rfl rfl _ _ happ ?_)
              | (go_at_call 40; refine hput.mono ?_; rintro e W8 ⟨rfl, T3, tc3, tz3, hI8, hT3, hC8⟩
                 have ctu8 := perm_cell (i := 0) hI8.tub
                 have ftu8 := perm_free (i := 0) hI8.tub
                 simp only [List.getElem?_toArray, List.getElem?_cons_zero, List.length_append, List.length_singleton] at ctu8 ftu8
                 have hcap8 := hI8.tcap.1
                 rw [List.length_append, List.length_singleton] at hcap8
                 have hcap9 : tu.length ≤ tc3 := by omega
                 have hw8 : ((tu.length + 1 : Nat) : Int) - 1 = (tu.length : Int) := by omega))
            have hs7 := hC7.size
            have hs8 := hC8.size
            simp only [World.size_setCell, World.size_alloc] at hs7 hs8
            have hs1 := hC2.size
            have hT3' : T3 = T2 ∨ W7.heap.size ≤ T3 := by simpa using hT3
            refine ⟨⟨k + 1, hlt, by simp, a1, T3, tc3, tz3, HG2, hI8.cut, by omega, ?_⟩, by simp [intOf]; omega⟩
            refine Chg.set (S := fun k => k = b + 1 ∨ k = b + 2 ∨ k = b + 4 ∨ k = T) (a := ⟨b + 4, 0, none⟩) ⟨hC8.os.trans (hC7.os.trans (hC5.os.trans (hEc.os.trans hC2.os))), hC8.tape.trans (hC7.tape.trans (hC5.tape.trans (hEc.tape.trans hC2.tape))), hC8.output.trans (hC7.output.trans (hC5.output.trans (hEc.output.trans hC2.output))), by omega, fun z hz hn => ?_⟩ (.inr (.inr (.inl rfl))) _
            have hn1 : z ≠ b + 1 ∧ z ≠ b + 2 ∧ z ≠ b + 4 ∧ z ≠ T := ⟨fun e => hn (.inl e), fun e => hn (.inr (.inl e)), fun e => hn (.inr (.inr (.inl e))), fun e => hn (.inr (.inr (.inr e)))⟩
            exact (hC8.block z (by simp; omega) (by rintro (e | e | e | e) <;> omega)).trans ((Below.heap_setCell _ _ _ _ (by show z ≠ b + 4; omega)).trans ((hC7.block z (by simp; omega) (by omega)).trans ((((Chg.refl (fun _ => False) W5).alloc _).block z (by omega) id).trans ((hC5.block z (by omega) (by rintro (e | e | e) <;> omega)).trans ((hEc.block z (by omega) id).trans (hC2.block z hz hn))))))
      · obtain rfl : k = q := by omega
        have hg := HG.out
        rw [Nat.sub_self] at hg
        obtain rfl : ak = best' := Option.some.inj hg
        go_wp2_with fail
        go_end0
        exact ⟨rfl, T1, tc1, tz1, hI2, by omega, (hC1.weak _).trans hC2 fun z _ h => h⟩

end Go.Proofs.Ytgcmklniacjcfaa
