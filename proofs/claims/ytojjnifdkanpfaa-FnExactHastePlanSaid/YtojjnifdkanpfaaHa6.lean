/-
  spec.HastePlan: the walk of its loops. No condition.
-/
import Derived.Test.YtojjnifdkanpfaaHa5
namespace Go.Proofs.Ytojjnifdkanpfaa.Ha
open Go Go.RowKit Go.Proofs.Ytojjnifdkanpfaa Go.Proofs.Ytojjnifdkanpfaa.Fw
open Go.Proofs.Ytojjnifdkanpfaa.Arr hiding Tk goJ goJ_step
set_option maxRecDepth 100000
set_option linter.unusedVariables false
set_option linter.unusedSimpArgs false

/-- A list of the call's own, or none. -/
def OwnV (W : World) (B : Nat) (l : List Int) (v : Value) : Prop := (l = [] ∧ v = .slice none 0 0) ∨ ∃ D dc dz, v = .slice (some ⟨D, 0, none⟩) l.length dc ∧ RowL W D dz l ∧ B ≤ D ∧ l.length ≤ dc ∧ dc ≤ dz

/-- What lies in memory between two trials. -/
structure SI (w : World) (S0 sz : Nat) (n : Nat) (sh best : List Int) (bv : Value) (W : World) : Prop where
  ch : Ext w W
  lo : w.heap.size ≤ S0
  row : RowL W S0 sz sh
  len : sh.length = n ∧ n ≤ sz
  bst : ∃ D dc dz, bv = .slice (some ⟨D, 0, none⟩) best.length dc ∧ RowL W D dz best ∧ w.heap.size ≤ D ∧ D ≠ S0 ∧ best.length ≤ dc ∧ dc ≤ dz

theorem SI.ext {w W W' : World} {S0 sz n : Nat} {sh best : List Int} {bv : Value} (h : SI w S0 sz n sh best bv W) (hb : Ext W W') : SI w S0 sz n sh best bv W' := by
  obtain ⟨h1, h2, h3, h4, D, dc, dz, h5, h6, h7⟩ := h
  exact ⟨h1.trans hb fun _ _ h => h, h2, h3.aSamE (hb.block _ h3.aLtE id), h4, D, dc, dz, h5, h6.aSamE (hb.block _ h6.aLtE id), h7⟩

theorem SI.set {w W : World} {S0 sz n : Nat} {sh best : List Int} {bv : Value} (h : SI w S0 sz n sh best bv W) {i : Nat} (hi : i < n) (v : Int) : SI w S0 sz n (sh.set i v) best bv (W.setCell ⟨S0, i, none⟩ (.int .i64 v)) := by
  obtain ⟨h1, h2, h3, h4, D, dc, dz, h5, h6, h7, h8, h9⟩ := h
  exact ⟨h1.new (a := ⟨S0, i, none⟩) h2 _, h2, h3.set (by rw [h4.1]; exact hi) v, ⟨by simpa using h4.1, h4.2⟩, D, dc, dz, h5, h6.other (a := ⟨S0, i, none⟩) h8 _, h7, h8, h9⟩

def EarlyC2 (p : Nat → Prop) (fY : List Tk → Option (List Int × Unit)) : Prop := ∀ (W : World) (SB c : Nat) (ts : List Tk) (v : List Int), fY ts = some (v, ()) → v.length = ts.length → ts ≠ [] → TR p W SB ts → ts.length ≤ c → (∀ k, p k → k < W.heap.size) →
  Calls Try.prog 18 #[.slice (some ⟨SB, 0, none⟩) ts.length c] W fun e W' => Below W.heap.size W W' ∧ ∃ O oc oz, e = .returned (.slice (some ⟨O, 0, none⟩) ts.length oc) ∧ RowL W' O oz v ∧ ts.length ≤ oc
def LastC2 (p : Nat → Prop) (fZ : List Tk → List Int → Option (Int × Unit)) : Prop := ∀ (W : World) (SB c O oc oz : Nat) (ts : List Tk) (s : List Int) (v : Int), fZ ts s = some (v, ()) → s.length = ts.length → TR p W SB ts → ts.length ≤ c → RowL W O oz s → ts.length ≤ oc → (∀ k, p k → k < W.heap.size) →
  Calls Try.prog 17 #[.slice (some ⟨SB, 0, none⟩) ts.length c, .slice (some ⟨O, 0, none⟩) ts.length oc] W fun e W' => Below W.heap.size W W' ∧ e = .returned (.int .i64 v)
def MinC (fN : Int → Int → Option (Int × Unit)) : Prop := ∀ (W : World) (a b v : Int), fN a b = some (v, ()) → Calls Try.prog 19 #[.int .i64 a, .int .i64 b] W fun e W' => Below W.heap.size W W' ∧ e = .returned (.int .i64 v)
def InC (fI : Int → Int → Int → Option (Bool × Unit)) : Prop := ∀ (W : World) (a b c : Int) (v : Bool), fI a b c = some (v, ()) → Calls Try.prog 16 #[.int .i64 a, .int .i64 b, .int .i64 c] W fun e W' => Below W.heap.size W W' ∧ e = .returned (.bool v)

set_option maxHeartbeats 16000000 in
theorem hg_any {p : Nat → Prop} {fI : Int → Int → Int → Option (Bool × Unit)} {fN : Int → Int → Option (Int × Unit)} {fY : List Tk → Option (List Int × Unit)} {fZ : List Tk → List Int → Option (Int × Unit)} (hI : InC fI) (hN : MinC fN) (hY : EarlyC2 p fY) (hZ : LastC2 p fZ)
    {LA lo lc MA mo mc CA co cc n : Nat} {list : List Tk} {most costs : List Int} {fin : Int} (hn5 : 1 ≤ n ∧ n ≤ 5) (hll : list.length = n) (w : World) (hp : ∀ k, p k → k < w.heap.size) (hLA : LA < w.heap.size) (hMA : MA < w.heap.size) (hCA : CA < w.heap.size)
    (hlist : RC (fun _ => p) w.heap (.sl tkS) list [.slice (some ⟨LA, lo, none⟩) list.length lc]) (hla : ∀ i, i < n → w.cell? ⟨LA, lo + i * 4, none⟩ = some (.int .i64 (list.getD i tkD).1)) (hma : ∀ i, i < n → w.cell? ⟨MA, mo + i, none⟩ = some (.int .i64 (most.getD i 0))) (hca : ∀ i, i < n → w.cell? ⟨CA, co + i, none⟩ = some (.int .i64 (costs.getD i 0)))
    {y : List Int × Int × Bool × Unit} (hF : (Option.bind (chkT fI most costs n 0) fun ok => cond ok
      (Option.bind (outT fN fY fZ fin list most costs (4 ^ n) (List.replicate n 0) ([], -1)) fun b => cond (decide (b.2 < 0)) noH (some (b.1, b.2, true, ()))) noH) = some y)
    (hA : ∀ W, Below w.heap.size w W → Calls Try.prog 15 #[.slice (some ⟨LA, lo, none⟩) n lc] W fun e W' => Below W.heap.size W W' ∧ e = .returned (.bool true)) (hW : ∀ W, Below w.heap.size w W → Calls Try.prog 16 #[.int .i64 fin, .int .i64 0, .int .i64 100000] W fun e W' => Below W.heap.size W W' ∧ e = .returned (.bool true)) :
    Calls Try.prog 5 #[.slice (some ⟨LA, lo, none⟩) n lc, .slice (some ⟨MA, mo, none⟩) n mc, .slice (some ⟨CA, co, none⟩) n cc, .int .i64 fin] w fun e W' => Below w.heap.size w W' ∧ ∃ v, e = .returned (.tuple #[v, .int .i64 y.2.1, .bool y.2.2.1]) ∧ OwnV W' w.heap.size y.1 v := by
  have hn : decide ((n : Int) > 5) = false := decide_eq_false (by omega)
  have hne : ((n : Int) != (n : Int)) = false := by simp
  have hmk : ∀ W : World, (Instr.makeSlice 23 (.int .i64 (n : Int)) (.int .i64 (n : Int))).run Try.prog W = .ok (.slice (some ⟨W.heap.size, 0, none⟩) n n) (W.alloc (.cells (Array.replicate n (.int .i64 0)) 2)) := fun W => perm_make Try.underlying23 perm_info_int (by omega) rfl n n (by omega) (by omega) W
  have hce : Hid (∀ V, Ext w V → ∀ i, i < n → V.cell? ⟨LA, lo + i * 4, none⟩ = some (.int .i64 (list.getD i tkD).1) ∧ V.cell? ⟨MA, mo + i, none⟩ = some (.int .i64 (most.getD i 0)) ∧ V.cell? ⟨CA, co + i, none⟩ = some (.int .i64 (costs.getD i 0))) := fun V hV i hi => ⟨(cell_same (p := ⟨LA, lo + i * 4, none⟩) (hV.block LA hLA id)).trans (hla i hi), (cell_same (p := ⟨MA, mo + i, none⟩) (hV.block MA hMA id)).trans (hma i hi), (cell_same (p := ⟨CA, co + i, none⟩) (hV.block CA hCA id)).trans (hca i hi)⟩
  obtain ⟨ok, hok, hF⟩ := Option.bind_eq_some_iff.1 hF
  have HOK : Hid (chkT fI most costs n 0 = some ok) := hok
  have HF : Hid ((cond ok (Option.bind (outT fN fY fZ fin list most costs (4 ^ n) (List.replicate n 0) ([], -1)) fun b => cond (decide (b.2 < 0)) noH (some (b.1, b.2, true, ()))) noH) = some y) := hF
  have HL : Hid (list.length = n) := hll
  clear hok hF hla hma hca hll
  have hw0 : Below w.heap.size w w := Below.refl _ _
  go_enter Try.func5, Try.ntmps5
  go_upto_region 5 with (first | (go_at_call 15; with_reducible refine (hA _ hw0).mono ?_; rintro e W1 ⟨hb1, rfl⟩; have hw1 := hw0.trans (hb1.mono hw0.size)) | (go_at_call 16; with_reducible refine (hW _ hw1).mono ?_; rintro e W2 ⟨hb2, rfl⟩; have hw2 := hw1.trans (hb2.mono hw1.size)))
  have hE2 : Ext w W2 := (Chg.refl _ _).trans (S' := fun _ => False) ⟨hw2.os, hw2.tape, hw2.output, hw2.size, fun k hk _ => hw2.block k hk⟩ fun _ _ h => h
  clear hb1 hb2 hw1 hw2 hA hW
  go_loopw [49] (fun i wr => ∃ k : Nat, k ≤ n ∧ i = .int .i64 (k : Int) ∧ Hid (chkT fI most costs (n - k) k = some ok) ∧ Ext w wr) (fun i _ => n - (intOf i).toNat)
  case atStart => exact ⟨0, Nat.zero_le _, rfl, HOK, hE2⟩
  case round =>
    obtain ⟨k, hkn, rfl, HG, hEk⟩ := hrel
    by_cases hlt : k < n
    · have hg := HG.out
      rw [show n - k = (n - (k + 1)) + 1 by omega] at hg
      obtain ⟨⟨b1, _⟩, hg1, hg2⟩ := Option.bind_eq_some_iff.1 hg
      obtain ⟨c1, c2, c3⟩ := hce.out _ hEk k hlt
      obtain ⟨m, hm⟩ : ∃ v : Int, v = most.getD k 0 := ⟨_, rfl⟩
      obtain ⟨c, hc⟩ : ∃ v : Int, v = costs.getD k 0 := ⟨_, rfl⟩
      rw [← hm] at c2 hg1
      rw [← hc] at c3 hg2
      have hcall1 := fun V => hI V m 0 3 b1 hg1
      have hbase : Below wr.heap.size wr wr := Below.refl _ _
      cases b1 with
      | false =>
        have HE : Hid (some false = some ok) := hg2
        clear hg hg1 hg2 hm hc HG
        go_wp2_with (go_at_call 16; with_reducible refine (hcall1 _).mono ?_; rintro e V1 ⟨hv1, rfl⟩)
        go_ret3
        obtain rfl : false = ok := Option.some.inj HE.out
        obtain rfl : ([], 0, false, ()) = y := Option.some.inj HF.out
        exact ⟨(Ext.of (n := 0) hEk hv1).below (fun _ _ h => h) (Nat.le_refl _), _, rfl, .inl ⟨rfl, rfl⟩⟩
      | true =>
        simp only [cond_true] at hg2
        obtain ⟨⟨b2, _⟩, hg3, hg4⟩ := Option.bind_eq_some_iff.1 hg2
        have hcall2 := fun V => hI V c 0 1000 b2 hg3
        have c4 : ∀ V, Below wr.heap.size wr V → V.cell? ⟨CA, co + k, none⟩ = some (.int .i64 c) := fun V hV => by rw [hc]; exact (hce.out V (Ext.of (n := 0) hEk hV) k hlt).2.2
        cases b2 with
        | false =>
          have HE : Hid (some false = some ok) := hg4
          clear hg hg1 hg2 hg3 hg4 hm hc HG
          go_wp2_with (first | (go_at_call 16; with_reducible refine (hcall1 _).mono ?_; rintro e V1 ⟨hv1, rfl⟩; have d4 := c4 _ hv1) | (go_at_call 16; with_reducible refine (hcall2 _).mono ?_; rintro e V2 ⟨hv2, rfl⟩))
          go_ret3
          obtain rfl : false = ok := Option.some.inj HE.out
          obtain rfl : ([], 0, false, ()) = y := Option.some.inj HF.out
          exact ⟨(Ext.of (n := 0) (Ext.of (n := 0) hEk hv1) hv2).below (fun _ _ h => h) (Nat.le_refl _), _, rfl, .inl ⟨rfl, rfl⟩⟩
        | true =>
          have HE : Hid (chkT fI most costs (n - (k + 1)) (k + 1) = some ok) := hg4
          clear hg hg1 hg2 hg3 hg4 hm hc HG
          go_wp2_with (first | (go_at_call 16; with_reducible refine (hcall1 _).mono ?_; rintro e V1 ⟨hv1, rfl⟩; have d4 := c4 _ hv1) | (go_at_call 16; with_reducible refine (hcall2 _).mono ?_; rintro e V2 ⟨hv2, rfl⟩))
          exact ⟨⟨k + 1, hlt, by simp, HE, Ext.of (n := 0) (Ext.of (n := 0) hEk hv1) hv2⟩, by simp [intOf]; omega⟩
    · obtain rfl : n = k := by omega
      have hg := HG.out
      rw [Nat.sub_self] at hg
      obtain rfl : true = ok := Option.some.inj hg
      obtain ⟨⟨bf, lf⟩, hout, hF2⟩ := Option.bind_eq_some_iff.1 HF.out
      have HO : Hid (outT fN fY fZ fin list most costs (4 ^ n) (List.replicate n 0) ([], -1) = some (bf, lf)) := hout
      have HF2 : Hid ((cond (decide (lf < 0)) noH (some (bf, lf, true, ()))) = some y) := hF2
      clear hg HG HF HOK hout hF2
      go_upto_region 14 with (fail)
      obtain ⟨S0, hS0⟩ : ∃ s, s = wr.heap.size := ⟨_, rfl⟩
      have hSI : SI w S0 n n (List.replicate n 0) [] (.slice (some ⟨wr.heap.size + 1, 0, none⟩) 0 0) ((wr.alloc (.cells (Array.replicate n (.int .i64 0)) 2)).alloc (.cells #[] 2)) := by
        have hs := hEk.size
        refine ⟨(hEk.alloc _).alloc _, by omega, ?_, ⟨by simp, Nat.le_refl _⟩, wr.heap.size + 1, 0, 0, rfl, ⟨#[], 2, perm_new (by simp) _, ⟨Nat.le_refl _, rfl⟩, fun i x hi => by simp at hi⟩, by omega, by omega, Nat.le_refl _, Nat.le_refl _⟩
        rw [hS0]
        exact (row_new rfl).alloc _
      obtain ⟨V0, hV0⟩ : ∃ V, V = ((wr.alloc (.cells (Array.replicate n (.int .i64 0)) 2)).alloc (.cells #[] 2)) := ⟨_, rfl⟩
      rw [← hV0] at hSI ⊢
      rw [← hS0] at hSI ⊢
      have hlo := hSI.lo
      clear hV0 hS0 hEk
      go_loopg [14, 15, 16] (4 ^ n) (fun g bv lv mv W => ∃ sh best least, lv = .int .i64 least ∧ SI w S0 n n sh best bv W ∧ ((mv = .bool true ∧ Hid (outT fN fY fZ fin list most costs g sh (best, least) = some (bf, lf))) ∨ (mv = .bool false ∧ Hid ((best, least) = (bf, lf)))))
      case atStart => exact ⟨_, _, _, rfl, hSI, .inl ⟨rfl, HO⟩⟩
      case round =>
        clear hSI HO
        obtain ⟨sh, best, least, rfl, hS, ⟨rfl, HG⟩ | ⟨rfl, HG⟩⟩ := hrel
        · -- a trial
          cases gk with
          | zero => cases HG.out
          | succ f =>
            obtain ⟨b', ht, hg2⟩ := Option.bind_eq_some_iff.1 HG.out
            obtain ⟨q, hq, hg3⟩ := Option.bind_eq_some_iff.1 hg2
            obtain ⟨hok, ht⟩ := cond_some ht
            obtain ⟨⟨st, _⟩, hf1, ht⟩ := Option.bind_eq_some_iff.1 ht
            obtain ⟨hlen, ht⟩ := cond_some ht
            have hlen := of_decide_eq_true hlen
            obtain ⟨⟨ev, _⟩, hf2, ht⟩ := Option.bind_eq_some_iff.1 ht
            rw [HL.out] at hf1 hlen hf2 hq ht
            have HOK : Hid (okT list sh costs = true) := hok
            have HB' : Hid ((cond (decide (ev ≤ fin) && (decide (least < 0) || decide (costT sh costs n < least))) (sh, costT sh costs n) (best, least)) = b') := Option.some.inj ht
            have HQ : Hid (incT fN list most n sh = some q) := hq
            have HR : Hid ((cond q.2 (outT fN fY fZ fin list most costs f q.1 b') (some b')) = some (bf, lf)) := hg3
            have hfY : Hid (fY (nowT list sh n) = some (st, ()) ∧ fZ (nowT list sh n) st = some (ev, ()) ∧ st.length = n) := ⟨hf1, hf2, hlen⟩
            clear hok ht hq hg3 hg2 HG hf1 hf2 hlen
            have hbw := hS.ch.below (B := w.heap.size) (fun _ _ h => h) (Nat.le_refl _)
            have hA' : RC (fun _ => p) (wr.alloc (.cells #[] 40)).heap (.sl tkS) list [.slice (some ⟨LA, lo, none⟩) list.length lc] := shop_mono hp (hbw.alloc hbw.size _) hlist
            obtain ⟨T, tc, WT, ha1, ha2, ha3, ha4, ha5⟩ := app_tasks (E := wr.heap.size) (W := wr.alloc (.cells #[] 40)) (c0 := lc) ⟨40, perm_new rfl _⟩ (fun h => by have := HL.out; rw [h] at this; simp at this; omega) (by have := HL.out; omega) hA' (fun b hb => by have := hp b hb; have := hbw.size; simp; omega)
            rw [HL.out] at ha1 ha3
            have HE1 : Hid (Ext wr WT) := ((Chg.refl (fun _ => False) wr).alloc (.cells #[] 40)).trans ha5 fun _ _ h => h
            have HT : Hid (T = wr.heap.size + 1) := by
              show _ = _
              rw [ha4]
              simp
            have hTR0 : TR p WT T (nowT list sh 0) := ha2
            clear hA' ha4 ha5 ha2
            go_wp2_with (at_builtin; refine Lib.wpList_append_run _ rfl _ _ _ _ rfl _ _ rfl rfl _ _ ha1 ?_)
            clear ha1
            obtain ⟨V1, rfl⟩ : ∃ V, V = wr := ⟨_, rfl⟩
            go_loopw [18, 76] (fun c i W1 => ∃ k : Nat, k ≤ n ∧ i = .int .i64 (k : Int) ∧ c = .int .i64 (costT sh costs k) ∧ TR p W1 T (nowT list sh k) ∧ Hid (Ext V1 W1)) (fun _ i _ => n - (intOf i).toNat)
            case atStart => exact ⟨0, Nat.zero_le _, rfl, rfl, hTR0, HE1⟩
            case round =>
              obtain ⟨k, hkn, rfl, rfl, hTR, HE⟩ := hrel
              have hS1 := hS.ext HE.out
              by_cases hlt : k < n
              · obtain ⟨o1, o2, o3, o4, o5, o6⟩ := okT_get HOK.out (i := k) (by rw [HL.out]; exact hlt)
                obtain ⟨o7, o8⟩ := costT_bound HOK.out k (by rw [HL.out]; exact hkn)
                have hget : (nowT list sh k)[k]? = some (list.getD k tkD) := by
                  rw [nowT_get list sh k k (Nat.le_refl _), List.getD_eq_getElem?_getD, List.getElem?_eq_getElem (by rw [HL.out]; exact hlt)]
                  rfl
                obtain ⟨c1, c2⟩ := hTR.time hget
                have c3 := hS1.row.cell (i := k) (by rw [hS1.len.1]; exact hlt)
                have c4 := (hce.out _ hS1.ch k hlt).2.2
                obtain ⟨t, ht⟩ : ∃ v : Int, v = (list.getD k tkD).1 := ⟨_, rfl⟩
                obtain ⟨s, hs⟩ : ∃ v : Int, v = sh.getD k 0 := ⟨_, rfl⟩
                obtain ⟨c, hc⟩ : ∃ v : Int, v = costs.getD k 0 := ⟨_, rfl⟩
                obtain ⟨u, hu⟩ : ∃ v : Int, v = costT sh costs k := ⟨_, rfl⟩
                have hnp : ¬ p T := fun h => by have := hp T h; have := HT.out; have := hS.ch.size; omega
                have hTR2 : TR p (wr.drew.setCell ⟨T, k * 4, none⟩ (.int .i64 (t - s))) T (nowT list sh (k + 1)) := by
                  have h := (hTR.same (W' := wr.drew) rfl fun _ _ => rfl).set hnp hget (t - s)
                  rw [nowT, ← ht, ← hs]
                  exact h
                have HE2 : Hid (Ext V1 (wr.drew.setCell ⟨T, k * 4, none⟩ (.int .i64 (t - s)))) := Ext.new (Chg.drew HE.out) (a := ⟨T, k * 4, none⟩) (by show V1.heap.size ≤ T; have := HT.out; omega) _
                have HSC : Hid (s = sh.getD k 0 ∧ c = costs.getD k 0) := ⟨hs, hc⟩
                have HU : Hid (costT sh costs (k + 1) = u + s * c) := by
                  show _ = _
                  rw [costT, hu, hs, hc]
                rw [← ht] at o1 o2 c1
                rw [← hs] at o3 o4 c3
                rw [← hc] at o5 o6 c4
                rw [← hu] at o7 o8
                rw [← hu]
                have b1 : 0 ≤ s * c := Int.mul_nonneg o3 o5
                have b2 : s * c ≤ 100000 * c := Int.mul_le_mul_of_nonneg_right o4 o5
                have b3 : (k : Int) ≤ 5 := by omega
                clear ht hs hc hu hget hTR hnp
                go_upto_region 20 with (fail)
                go_cut [] (fun wx => TR p wx T (nowT list sh (k + 1)) ∧ Hid (Ext V1 wx))
                case first =>
                  go_region
                  all_goals go_wp2_with fail
                  all_goals go_meet
                  all_goals exact ⟨hTR2, HE2⟩
                case rest =>
                  clear hTR2 HE2 c1 c2 c3 c4 hS1
                  obtain ⟨hTR3, HE3⟩ := hcut
                  obtain ⟨V3, rfl⟩ : ∃ V, V = wc := ⟨_, rfl⟩
                  have hS3 := hS.ext HE3.out
                  have c3 : V3.cell? ⟨S0, k, none⟩ = some (.int .i64 s) := by rw [HSC.out.1]; exact hS3.row.cell (i := k) (by rw [hS3.len.1]; exact hlt)
                  have c4 : V3.cell? ⟨CA, co + k, none⟩ = some (.int .i64 c) := by rw [HSC.out.2]; exact (hce.out _ hS3.ch k hlt).2.2
                  go_upto_region 21 with (fail)
                  go_region
                  all_goals go_wp2_with fail
                  all_goals exact ⟨⟨k + 1, hlt, by simp, by rw [HU.out], hTR3.same rfl (fun _ _ => rfl), Chg.drew HE3.out⟩, by simp [intOf]; omega⟩
              · obtain rfl : n = k := by omega
                have hnl : (nowT list sh n).length = n := by rw [nowT_length, HL.out]
                have hpl : ∀ V, Below wr.heap.size wr V → ∀ k, p k → k < V.heap.size := fun V hV k hk => by
                  have := hp k hk
                  have := hS1.ch.size
                  have := hV.size
                  omega
                have hcy := hY wr T tc (nowT list sh n) st hfY.out.1 (by rw [hnl]; exact hfY.out.2.2) (fun h => by rw [h] at hnl; simp at hnl; omega) hTR (by rw [hnl]; exact ha3) (hpl wr (Below.refl _ _))
                have hcz := fun V (hV : Below wr.heap.size wr V) O oc oz hO hoc => hZ V T tc O oc oz (nowT list sh n) st ev hfY.out.2.1 (by rw [hnl]; exact hfY.out.2.2) (hTR.same (hV.block T hTR.lt) (fun b hb => hV.block b (hpl wr (Below.refl _ _) b hb))) (by rw [hnl]; exact ha3) hO hoc (hpl V hV)
                rw [hnl] at hcy hcz
                obtain ⟨u, hu⟩ : ∃ v : Int, v = costT sh costs n := ⟨_, rfl⟩
                obtain ⟨r, hr⟩ : ∃ r, r = (decide (ev ≤ fin) && (decide (least < 0) || decide (u < least))) := ⟨_, rfl⟩
                have HB2 : Hid ((cond r (sh, u) (best, least)) = b') := by
                  show _ = _
                  rw [hr, hu]
                  exact HB'.out
                have HRR : Hid (r = (decide (ev ≤ fin) && (decide (least < 0) || decide (u < least)))) := hr
                have HEx := HE
                rw [← hu]
                clear hr hu HB' hTR hS1 hnl
                go_upto_region 23 with (fail)
                go_cut [117] (fun v wx => v = .bool r ∧ Hid (Ext V1 wx))
                case first =>
                  cases h1 : decide (ev ≤ fin) with
                  | false =>
                    go_wp2_with (first | (go_at_call 18; with_reducible refine hcy.mono ?_; rintro e V3 ⟨hv3, O, oc, oz, rfl, hO, hoc⟩) | (go_at_call 17; with_reducible refine (hcz _ hv3 _ _ _ hO hoc).mono ?_; rintro e V4 ⟨hv4, rfl⟩))
                    go_meet
                    exact ⟨by rw [HRR.out, h1]; rfl, Ext.of (n := 0) (Ext.of (n := 0) HEx.out hv3) hv4⟩
                  | true =>
                    cases h2 : decide (least < 0) with
                    | true =>
                      go_wp2_with (first | (go_at_call 18; with_reducible refine hcy.mono ?_; rintro e V3 ⟨hv3, O, oc, oz, rfl, hO, hoc⟩) | (go_at_call 17; with_reducible refine (hcz _ hv3 _ _ _ hO hoc).mono ?_; rintro e V4 ⟨hv4, rfl⟩))
                      go_meet
                      exact ⟨by rw [HRR.out, h1, h2]; rfl, Ext.of (n := 0) (Ext.of (n := 0) HEx.out hv3) hv4⟩
                    | false =>
                      cases h3 : decide (u < least)
                      all_goals
                        go_wp2_with (first | (go_at_call 18; with_reducible refine hcy.mono ?_; rintro e V3 ⟨hv3, O, oc, oz, rfl, hO, hoc⟩) | (go_at_call 17; with_reducible refine (hcz _ hv3 _ _ _ hO hoc).mono ?_; rintro e V4 ⟨hv4, rfl⟩))
                        go_meet
                        exact ⟨by rw [HRR.out, h1, h2, h3]; rfl, Ext.of (n := 0) (Ext.of (n := 0) HEx.out hv3) hv4⟩
                case rest =>
                  obtain ⟨rfl, hE3⟩ := hcut
                  obtain ⟨V3, rfl⟩ : ∃ V, V = wc := ⟨_, rfl⟩
                  clear hcy hcz hpl HE HEx
                  have hS3 := hS.ext hE3.out
                  go_upto_if 117 with (fail)
                  go_cut [14, 15] (fun bv lv wx => lv = .int .i64 b'.2 ∧ SI w S0 n n sh b'.1 bv wx)
                  case first =>
                    cases r with
                    | false =>
                      have HB3 : Hid ((best, least) = b') := HB2.out
                      go_wp2_with fail
                      go_meet
                      rw [← HB3.out]
                      exact ⟨rfl, hS3⟩
                    | true =>
                      have HB3 : Hid ((sh, u) = b') := HB2.out
                      have hrow := hS3.row.alloc (.cells #[] 2)
                      obtain ⟨T', tc', tz', W', ha1, ha2, ha3', ha4, ha5, ha6⟩ := app_row (W := V3.alloc (.cells #[] 2)) (E := V3.heap.size) (tc := n) ⟨#[], 2, perm_new rfl _, ⟨Nat.le_refl _, rfl⟩, fun i x hi => by simp at hi⟩ hrow (by rw [hS3.len.1]; exact Nat.le_refl _) (by rw [hS3.len.1]; omega)
                      have HS4 : Hid (SI w S0 n n sh sh (.slice (some ⟨T', 0, none⟩) n tc') W') := by
                        have hx : Ext V3 W' := ((Chg.refl (fun _ => False) V3).alloc (.cells #[] 2)).trans ha6 fun _ _ h => h
                        have h4 := hS3.ext hx
                        have hS0 := hS3.row.aLtE
                        have hT' : V3.heap.size ≤ T' := by
                          rcases ha5 with h | h
                          · omega
                          · simp at h; omega
                        have hws := hS3.ch.size
                        exact ⟨h4.ch, h4.lo, h4.row, h4.len, T', tc', tz', by rw [hS3.len.1], ha2, by omega, by omega, ha3', ha4⟩
                      rw [hS3.len.1] at ha1
                      clear ha2 ha3' ha4 ha5 ha6 hrow
                      go_wp2_with (at_builtin; refine Lib.wpList_append_run _ rfl _ _ _ _ rfl _ _ rfl rfl _ _ ha1 ?_)
                      go_meet
                      rw [← HB3.out]
                      exact ⟨rfl, HS4.out⟩
                  case rest =>
                    obtain ⟨rfl, hS4⟩ := hcut
                    obtain ⟨V4, rfl⟩ : ∃ V, V = wc := ⟨_, rfl⟩
                    clear hS3 hS HB2 HRR hE3 HE1 hTR0 hbw hfY
                    go_wp2_with fail
                    go_loopw [16, 20] (fun mv iv W => ∃ (z : Int) (sh2 : List Int), iv = .int .i64 z ∧ -1 ≤ z ∧ z < n ∧ SI w S0 n n sh2 b'.1 u14 W ∧ ((mv = .bool false ∧ ∃ d : Nat, z = (d : Int) - 1 ∧ Hid (incT fN list most d sh2 = some q) ∧ Hid (∀ j, j < d → sh2.getD j 0 = sh.getD j 0)) ∨ (mv = .bool true ∧ Hid ((sh2, true) = q)))) (fun _ iv _ => (intOf iv + 1).toNat)
                    case atStart => exact ⟨(n : Int) - 1, sh, rfl, by omega, by omega, hS4, .inl ⟨rfl, n, rfl, HQ, fun _ _ => rfl⟩⟩
                    case round =>
                      obtain ⟨z, sh2, rfl, hz1, hz2, hS5, ⟨rfl, d, rfl, HD, HJ⟩ | ⟨rfl, HD⟩⟩ := hrel
                      · cases d with
                        | zero =>
                          have HQ2 : Hid ((sh2, false) = q) := Option.some.inj HD.out
                          have HR2 : Hid (b' = (bf, lf)) := by
                            have h := HR.out
                            rw [← HQ2.out] at h
                            exact Option.some.inj h
                          go_wp2_with fail
                          go_roundg f
                          case measure => omega
                          case rel => exact ⟨sh2, b'.1, b'.2, rfl, hS5, .inr ⟨rfl, HR2⟩⟩
                        | succ d =>
                          have hz : ((d + 1 : Nat) : Int) - 1 = (d : Int) := by omega
                          rw [hz] at hz1 hz2 ⊢
                          have hdn : d < n := by omega
                          obtain ⟨o1, o2, o3, o4, o5, o6⟩ := okT_get HOK.out (i := d) (by rw [HL.out]; exact hdn)
                          have hvv := HJ.out d (by omega)
                          obtain ⟨v, hv⟩ : ∃ v : Int, v = sh2.getD d 0 := ⟨_, rfl⟩
                          rw [← hvv, ← hv] at o3 o4
                          obtain ⟨⟨m, _⟩, hm, hD⟩ := Option.bind_eq_some_iff.1 HD.out
                          rw [← hv] at hD
                          obtain ⟨mv, hmv⟩ : ∃ v : Int, v = most.getD d 0 := ⟨_, rfl⟩
                          obtain ⟨tv, htv⟩ : ∃ v : Int, v = (list.getD d tkD).1 := ⟨_, rfl⟩
                          rw [← hmv, ← htv] at hm
                          have HFN : Hid (fN mv tv = some (m, ())) := hm
                          have c1 := hS5.row.cell (i := d) (by rw [hS5.len.1]; exact hdn)
                          have c2 := hS5.row.free d
                          rw [← hv] at c1
                          have hS6 := hS5.set (i := d) hdn (v + 1)
                          obtain ⟨c, hc⟩ : ∃ c, c = decide (v + 1 ≤ m) := ⟨_, rfl⟩
                          have HCC : Hid (decide (v + 1 ≤ m) = c) := hc.symm
                          rw [← hc] at hD
                          have HD2 : Hid ((cond c (some (sh2.set d (v + 1), true)) (incT fN list most d (sh2.set d 0))) = some q) := hD
                          have HV : Hid (mv = most.getD d 0 ∧ tv = (list.getD d tkD).1) := ⟨hmv, htv⟩
                          clear hm hD HD hmv htv hvv hc o1 o2 o5 o6
                          have HVV : Hid (v = sh2.getD d 0) := hv
                          clear hv
                          go_upto_region 31 with (fail)
                          obtain ⟨V6, hV6⟩ : ∃ V, V = wr.setCell ⟨S0, d, none⟩ (.int .i64 (v + 1)) := ⟨_, rfl⟩
                          rw [← hV6] at hS6 ⊢
                          clear hV6 c1 c2 hS5
                          have hcs : ∀ V, Ext V6 V → V.cell? ⟨S0, d, none⟩ = some (.int .i64 (v + 1)) ∧ V.cell? ⟨MA, mo + d, none⟩ = some (.int .i64 mv) ∧ V.cell? ⟨LA, lo + d * 4, none⟩ = some (.int .i64 tv) := fun V hV => by
                            have h6 := hS6.ext hV
                            have hc := hce.out _ h6.ch d hdn
                            have hs := h6.row.cell (i := d) (by rw [h6.len.1]; exact hdn)
                            rw [getD_set_self7 (by have := h6.len.1; simp at this; omega)] at hs
                            exact ⟨hs, by rw [HV.out.1]; exact hc.2.1, by rw [HV.out.2]; exact hc.1⟩
                          have hcc := HCC.out
                          go_cut [16] (fun u wx => u = .bool c ∧ Ext V6 wx)
                          case first =>
                            refine mix_region [0, 1, 2, 3, 4, 5, 6, 7, 8, 9, 10, 11, 12, 13, 14, 15] (r := [_, _, _, _, _, _, _, _, _, _, _, _, _, _, _, _]) (C := fun V => Ext V6 V) (by kernel_rfl) (by kernel_rfl) (by kernel_rfl) rfl rfl ((Chg.refl _ _).drew) ?_
                            refine mix_val (v := .slice (some ⟨S0, 0, none⟩) n n) rfl rfl rfl (fun V => ?_) ?_
                            · go_simp
                            simp only [Act.put, List.setIfInBounds_toArray, List.set_cons_zero, List.set_cons_succ]
                            refine mix_val (v := .int .i64 (d : Int)) rfl rfl rfl (fun V => ?_) ?_
                            · go_simp
                            simp only [Act.put, List.setIfInBounds_toArray, List.set_cons_zero, List.set_cons_succ]
                            refine mix_val (v := .pointer (some ⟨S0, d, none⟩)) rfl rfl rfl (fun V => ?_) ?_
                            · go_simp
                            simp only [Act.put, List.setIfInBounds_toArray, List.set_cons_zero, List.set_cons_succ]
                            refine mix_load (v := .int .i64 (v + 1)) rfl rfl rfl rfl (fun V hV => ?_) ?_
                            · have h := hcs V hV
                              go_simp
                            simp only [Act.put, List.setIfInBounds_toArray, List.set_cons_zero, List.set_cons_succ]
                            refine mix_val (v := .slice (some ⟨MA, mo, none⟩) n mc) rfl rfl rfl (fun V => ?_) ?_
                            · go_simp
                            simp only [Act.put, List.setIfInBounds_toArray, List.set_cons_zero, List.set_cons_succ]
                            refine mix_val (v := .int .i64 (d : Int)) rfl rfl rfl (fun V => ?_) ?_
                            · go_simp
                            simp only [Act.put, List.setIfInBounds_toArray, List.set_cons_zero, List.set_cons_succ]
                            refine mix_val (v := .pointer (some ⟨MA, mo + d, none⟩)) rfl rfl rfl (fun V => ?_) ?_
                            · go_simp
                            simp only [Act.put, List.setIfInBounds_toArray, List.set_cons_zero, List.set_cons_succ]
                            refine mix_load (v := .int .i64 mv) rfl rfl rfl rfl (fun V hV => ?_) ?_
                            · have h := hcs V hV
                              go_simp
                            simp only [Act.put, List.setIfInBounds_toArray, List.set_cons_zero, List.set_cons_succ]
                            refine mix_val (v := .slice (some ⟨LA, lo, none⟩) n lc) rfl rfl rfl (fun V => ?_) ?_
                            · go_simp
                            simp only [Act.put, List.setIfInBounds_toArray, List.set_cons_zero, List.set_cons_succ]
                            refine mix_val (v := .int .i64 (d : Int)) rfl rfl rfl (fun V => ?_) ?_
                            · go_simp
                            simp only [Act.put, List.setIfInBounds_toArray, List.set_cons_zero, List.set_cons_succ]
                            refine mix_val (v := .pointer (some ⟨LA, lo + d * 4, none⟩)) rfl rfl rfl (fun V => ?_) ?_
                            · go_simp
                            simp only [Act.put, List.setIfInBounds_toArray, List.set_cons_zero, List.set_cons_succ]
                            refine mix_val (v := .pointer (some ⟨LA, lo + d * 4, none⟩)) rfl rfl rfl (fun V => ?_) ?_
                            · go_simp
                            simp only [Act.put, List.setIfInBounds_toArray, List.set_cons_zero, List.set_cons_succ]
                            refine mix_load (v := .int .i64 tv) rfl rfl rfl rfl (fun V hV => ?_) ?_
                            · have h := hcs V hV
                              go_simp
                            simp only [Act.put, List.setIfInBounds_toArray, List.set_cons_zero, List.set_cons_succ]
                            refine mix_call rfl rfl (fun V hV K hK => ?_)
                            have hc1 := hN V mv tv m HFN.out
                            go_simp
                            go_at_call 19
                            refine hc1.mono ?_
                            rintro ed V1 ⟨hv1, rfl⟩
                            dsimp only
                            refine hK _ _ (fun x => Ext V6 x) (Ext.of (n := 0) hV hv1) (fun x h => h) ?_
                            clear hK K hc1 hv1 V1 hV V
                            refine mix_val (v := .bool c) rfl rfl rfl (fun V => ?_) ?_
                            · go_simp
                            simp only [Act.put, List.setIfInBounds_toArray, List.set_cons_zero, List.set_cons_succ]
                            refine mix_val (v := .bool c) rfl rfl rfl (fun V => ?_) ?_
                            · go_simp
                            simp only [Act.put, List.setIfInBounds_toArray, List.set_cons_zero, List.set_cons_succ]
                            refine mix_nil fun V hV => ?_
                            go_wp2_with fail
                            go_meet
                            exact ⟨rfl, hV⟩
                          case rest =>
                            obtain ⟨rfl, hE7⟩ := hcut
                            obtain ⟨V7, rfl⟩ : ∃ V, V = wc := ⟨_, rfl⟩
                            have hS7 := hS6.ext hE7
                            clear hcs hS6
                            cases c with
                            | true =>
                              have HQ2 : Hid ((sh2.set d (v + 1), true) = q) := Option.some.inj HD2.out
                              go_wp2_with fail
                              exact ⟨⟨(d : Int) - 1, _, rfl, by omega, by omega, hS7, .inr ⟨rfl, HQ2⟩⟩, by simp [intOf]⟩
                            | false =>
                              have c1 := hS7.row.cell (i := d) (by rw [hS7.len.1]; exact hdn)
                              have c2 := hS7.row.free d
                              have hS8 := hS7.set (i := d) hdn 0
                              rw [List.set_set] at hS8
                              have HJ2 : Hid (∀ j, j < d → (sh2.set d 0).getD j 0 = sh.getD j 0) := fun j hj => by
                                rw [← HJ.out j (by omega), List.getD_eq_getElem?_getD, List.getD_eq_getElem?_getD, List.getElem?_set_ne (by omega)]
                              go_wp2_with fail
                              exact ⟨⟨(d : Int) - 1, _, rfl, by omega, by omega, hS8, .inl ⟨rfl, d, rfl, HD2.out, HJ2⟩⟩, by simp [intOf]⟩
                      · have HR2 : Hid (outT fN fY fZ fin list most costs f sh2 b' = some (bf, lf)) := by
                          have h := HR.out
                          rw [← HD.out] at h
                          exact h
                        go_wp2_with fail
                        all_goals
                          go_roundg f
                          case measure => omega
                          case rel => exact ⟨sh2, b'.1, b'.2, rfl, hS5, .inl ⟨rfl, HR2⟩⟩
        · have h := HG.out
          simp only [Prod.mk.injEq] at h
          obtain ⟨rfl, rfl⟩ := h
          cases h1 : decide (least < 0) with
          | true =>
            have HY : Hid (([], 0, false, ()) = y) := by
              have h := HF2.out
              rw [h1] at h
              exact Option.some.inj h
            go_wp2_with fail
            go_ret3
            rw [← HY.out]
            exact ⟨hS.ch.below (fun _ _ h => h) (Nat.le_refl _), _, rfl, .inl ⟨rfl, rfl⟩⟩
          | false =>
            have HY : Hid ((best, least, true, ()) = y) := by
              have h := HF2.out
              rw [h1] at h
              exact Option.some.inj h
            obtain ⟨D, dc, dz, rfl, hD1, hD2, hD3, hD4⟩ := hS.bst
            go_wp2_with fail
            go_ret3
            rw [← HY.out]
            exact ⟨hS.ch.below (fun _ _ h => h) (Nat.le_refl _), _, rfl, .inr ⟨D, dc, dz, rfl, hD1, hD2, hD4⟩⟩

end Go.Proofs.Ytojjnifdkanpfaa.Ha
