/-
  impl.HastePlan: the closure, by recursion. No condition.
-/
import Derived.Test.YtojjnifdkanpfaaTk
import Derived.Test.YtojjnifdkanpfaaMix
import Derived.Test.YtojjnifdkanpfaaHaF
namespace Go.Proofs.Ytojjnifdkanpfaa.Ha
open Go Go.RowKit Go.Proofs.Ytojjnifdkanpfaa Go.Proofs.Ytojjnifdkanpfaa.Fw
open Go.Proofs.Ytojjnifdkanpfaa.Arr hiding Tk goJ goJ_step
set_option maxRecDepth 100000
set_option linter.unusedVariables false
set_option linter.unusedSimpArgs false

/-- The captured variables' cells. -/
def haPs (a b e : Nat) : List Value := [.pointer (some ⟨a + 4, 0, none⟩), .pointer (some ⟨e, 0, none⟩), .pointer (some ⟨a + 3, 0, none⟩), .pointer (some ⟨b, 0, none⟩), .pointer (some ⟨b + 1, 0, none⟩), .pointer (some ⟨e + 2, 0, none⟩), .pointer (some ⟨a + 1, 0, none⟩), .pointer (some ⟨a, 0, none⟩), .pointer (some ⟨e + 3, 0, none⟩), .pointer (some ⟨a + 2, 0, none⟩)]

/-- The best list so far, as it lies. -/
def BestH (W : World) (e : Nat) : Option (List Int) → Value → Prop
  | none, v => v = .slice none 0 0
  | some l, v => ∃ D dc dz, v = .slice (some ⟨D, 0, none⟩) l.length dc ∧ RowL W D dz l ∧ e + 4 ≤ D ∧ l.length ≤ dc ∧ dc ≤ dz

theorem BestH.same {W W' : World} {e : Nat} {o : Option (List Int)} {v : Value} (h : BestH W e o v) (hb : ∀ k, e + 4 ≤ k → k < W.heap.size → W'.heap[k]? = W.heap[k]?) : BestH W' e o v := by
  cases o with
  | none => exact h
  | some l =>
    obtain ⟨D, dc, dz, h0, h1, h2, h3⟩ := h
    exact ⟨D, dc, dz, h0, h1.aSamE (hb D h2 h1.aLtE), h2, h3⟩

theorem best_eqn {W : World} {b : Nat} {o : Option (List Int)} {v : Value} (h : BestH W b o v) (w : World) (n' c' : Nat) : (binOp .eql 23 v (.slice none n' c')).run Try.prog w = .ok (.bool o.isNone) w := by
  cases o with
  | none =>
    have h : v = .slice none 0 0 := h
    rw [h]
    exact Lib.run_eql_slice_nil w _ _ none 0 0 n' c' Try.underlying23
  | some l =>
    obtain ⟨D, dc, dz, rfl, _⟩ := h
    exact Lib.run_eql_slice_nil w _ _ (some ⟨D, 0, none⟩) l.length dc n' c' Try.underlying23

/-- What lies in memory while one looks for the cuts. -/
structure HI (p : Nat → Prop) (a b e LA lo lc MA mo mc CA co cc SB sc cz n : Nat) (list : List Tk) (most costs : List Int) (fin : Int) (S : HT) (W : World) : Prop where
  lt : (∀ k, p k → k < a) ∧ LA < a ∧ MA < a ∧ CA < a ∧ a + 5 ≤ b ∧ b + 2 ≤ SB ∧ SB < e
  lb : W.heap[a]? = some (.cells #[.slice (some ⟨LA, lo, none⟩) n lc] 27 (0, 0))
  mb : W.heap[a + 1]? = some (.cells #[.slice (some ⟨MA, mo, none⟩) n mc] 23 (0, 0))
  kb : W.heap[a + 2]? = some (.cells #[.slice (some ⟨CA, co, none⟩) n cc] 23 (0, 0))
  fb : W.heap[a + 3]? = some (.cells #[.int .i64 fin] 2 (0, 0))
  nb : W.heap[a + 4]? = some (.cells #[.int .i64 (n : Int)] 3 (0, 0))
  bb : ∃ v, W.heap[b]? = some (.cells #[v] 23 (0, 0)) ∧ BestH W e S.2.2.1 v
  ls : W.heap[b + 1]? = some (.cells #[.int .i64 S.2.2.2] 2 (0, 0))
  sb : W.heap[e]? = some (.cells #[.slice (some ⟨SB, 0, none⟩) n sc] 27 (0, 0))
  cb : W.heap[e + 2]? = some (.cells #[.slice (some ⟨e + 1, 0, none⟩) n n] 23 (0, 0))
  pb : W.heap[e + 3]? = some (.cells #[.func (.func 25) #[] (haPs a b e).toArray] 47 (0, 0))
  srow : TR p W SB S.1
  crow : RowL W (e + 1) cz S.2.1
  sl : S.1.length = n ∧ n ≤ sc ∧ S.2.1.length = n ∧ n ≤ cz
  la : ∀ i, i < n → W.cell? ⟨LA, lo + i * 4, none⟩ = some (.int .i64 (list.getD i tkD).1)
  ma : ∀ i, i < n → W.cell? ⟨MA, mo + i, none⟩ = some (.int .i64 (most.getD i 0))
  ca : ∀ i, i < n → W.cell? ⟨CA, co + i, none⟩ = some (.int .i64 (costs.getD i 0))

section
variable {p : Nat → Prop} {a b e LA lo lc MA mo mc CA co cc SB sc cz n : Nat} {list : List Tk} {most costs : List Int} {fin : Int} {S : HT} {W W' : World}

theorem HI.below (h : HI p a b e LA lo lc MA mo mc CA co cc SB sc cz n list most costs fin S W) (hb : ∀ k, k < W.heap.size → W'.heap[k]? = W.heap[k]?) : HI p a b e LA lo lc MA mo mc CA co cc SB sc cz n list most costs fin S W' := by
  obtain ⟨lt, h1, h2, h3, h4, h5, ⟨v, h6, h7⟩, h8, h9, h10, h11, h12, h13, h14, h15, h16, h17⟩ := h
  have hp := lt_of_block h11
  exact ⟨lt, (hb _ (by omega)).trans h1, (hb _ (by omega)).trans h2, (hb _ (by omega)).trans h3, (hb _ (by omega)).trans h4, (hb _ (by omega)).trans h5, ⟨v, (hb _ (by omega)).trans h6, h7.same fun k _ hk => hb k hk⟩, (hb _ (by omega)).trans h8, (hb _ (by omega)).trans h9, (hb _ (by omega)).trans h10, (hb _ (by omega)).trans h11,
    h12.same (hb _ (by omega)) (fun k hk => hb k (by have := lt.1 k hk; omega)), h13.aSamE (hb _ (by omega)), h14, fun i hi => (cell_same (p := ⟨LA, lo + i * 4, none⟩) (hb LA (by omega))).trans (h15 i hi), fun i hi => (cell_same (p := ⟨MA, mo + i, none⟩) (hb MA (by omega))).trans (h16 i hi), fun i hi => (cell_same (p := ⟨CA, co + i, none⟩) (hb CA (by omega))).trans (h17 i hi)⟩

/-- A cut is put down. -/
theorem HI.setC (h : HI p a b e LA lo lc MA mo mc CA co cc SB sc cz n list most costs fin S W) {i : Nat} (hi : i < n) (v : Int) : HI p a b e LA lo lc MA mo mc CA co cc SB sc cz n list most costs fin (S.1, S.2.1.set i v, S.2.2) (W.setCell ⟨e + 1, i, none⟩ (.int .i64 v)) := by
  obtain ⟨lt, h1, h2, h3, h4, h5, ⟨u, h6, h7⟩, h8, h9, h10, h11, h12, h13, h14, h15, h16, h17⟩ := h
  have hb : ∀ k, k ≠ e + 1 → (W.setCell ⟨e + 1, i, none⟩ (.int .i64 v)).heap[k]? = W.heap[k]? := fun k hk => Below.heap_setCell _ _ _ _ hk
  exact ⟨lt, (hb _ (by omega)).trans h1, (hb _ (by omega)).trans h2, (hb _ (by omega)).trans h3, (hb _ (by omega)).trans h4, (hb _ (by omega)).trans h5, ⟨u, (hb _ (by omega)).trans h6, h7.same fun k hk _ => hb k (by omega)⟩, (hb _ (by omega)).trans h8, (hb _ (by omega)).trans h9, (hb _ (by omega)).trans h10, (hb _ (by omega)).trans h11,
    h12.same (hb _ (by omega)) (fun k hk => hb k (by have := lt.1 k hk; omega)), h13.set (by rw [h14.2.2.1]; exact hi) v, ⟨h14.1, h14.2.1, by simpa using h14.2.2.1, h14.2.2.2⟩, fun i hi => (cell_same (p := ⟨LA, lo + i * 4, none⟩) (hb LA (by omega))).trans (h15 i hi), fun i hi => (cell_same (p := ⟨MA, mo + i, none⟩) (hb MA (by omega))).trans (h16 i hi), fun i hi => (cell_same (p := ⟨CA, co + i, none⟩) (hb CA (by omega))).trans (h17 i hi)⟩

/-- A time is put down. -/
theorem HI.setT (h : HI p a b e LA lo lc MA mo mc CA co cc SB sc cz n list most costs fin S W) {i : Nat} (hi : i < n) (v : Int) : HI p a b e LA lo lc MA mo mc CA co cc SB sc cz n list most costs fin (S.1.set i (v, (S.1.getD i tkD).2), S.2.1, S.2.2) (W.setCell ⟨SB, i * 4, none⟩ (.int .i64 v)) := by
  obtain ⟨lt, h1, h2, h3, h4, h5, ⟨u, h6, h7⟩, h8, h9, h10, h11, h12, h13, h14, h15, h16, h17⟩ := h
  have hb : ∀ k, k ≠ SB → (W.setCell ⟨SB, i * 4, none⟩ (.int .i64 v)).heap[k]? = W.heap[k]? := fun k hk => Below.heap_setCell _ _ _ _ hk
  have hget : S.1[i]? = some (S.1.getD i tkD) := by
    rw [List.getD_eq_getElem?_getD, List.getElem?_eq_getElem (by rw [h14.1]; exact hi)]
    rfl
  exact ⟨lt, (hb _ (by omega)).trans h1, (hb _ (by omega)).trans h2, (hb _ (by omega)).trans h3, (hb _ (by omega)).trans h4, (hb _ (by omega)).trans h5, ⟨u, (hb _ (by omega)).trans h6, h7.same fun k hk _ => hb k (by omega)⟩, (hb _ (by omega)).trans h8, (hb _ (by omega)).trans h9, (hb _ (by omega)).trans h10, (hb _ (by omega)).trans h11,
    h12.set (fun hp => by have := lt.1 _ hp; omega) hget v, h13.other (a := ⟨SB, i * 4, none⟩) (show e + 1 ≠ SB by omega) _, ⟨by simpa using h14.1, h14.2⟩, fun i hi => (cell_same (p := ⟨LA, lo + i * 4, none⟩) (hb LA (by omega))).trans (h15 i hi), fun i hi => (cell_same (p := ⟨MA, mo + i, none⟩) (hb MA (by omega))).trans (h16 i hi), fun i hi => (cell_same (p := ⟨CA, co + i, none⟩) (hb CA (by omega))).trans (h17 i hi)⟩

/-- The best is put down. -/
theorem HI.setB (h : HI p a b e LA lo lc MA mo mc CA co cc SB sc cz n list most costs fin S W) {O oc oz : Nat} {l : List Int} {v : Int} (hO : RowL W O oz l) (hO1 : e + 4 ≤ O) (hoc : l.length ≤ oc ∧ oc ≤ oz) :
    HI p a b e LA lo lc MA mo mc CA co cc SB sc cz n list most costs fin (S.1, S.2.1, (some l, v)) ((W.setCell ⟨b, 0, none⟩ (.slice (some ⟨O, 0, none⟩) l.length oc)).setCell ⟨b + 1, 0, none⟩ (.int .i64 v)) := by
  obtain ⟨lt, h1, h2, h3, h4, h5, ⟨u, h6, h7⟩, h8, h9, h10, h11, h12, h13, h14, h15, h16, h17⟩ := h
  have hb : ∀ k, k ≠ b → k ≠ b + 1 → ((W.setCell ⟨b, 0, none⟩ (.slice (some ⟨O, 0, none⟩) l.length oc)).setCell ⟨b + 1, 0, none⟩ (.int .i64 v)).heap[k]? = W.heap[k]? := fun k hk hk2 => (Below.heap_setCell _ _ _ _ hk2).trans (Below.heap_setCell _ _ _ _ hk)
  have k1 := perm_row (i := 0) h6 (.slice (some ⟨O, 0, none⟩) l.length oc)
  have k2 := perm_row (i := 0) (perm_set (b := b + 1) h8 ⟨b, 0, none⟩ (by show b + 1 ≠ b; omega) (.slice (some ⟨O, 0, none⟩) l.length oc)) (.int .i64 v)
  exact ⟨lt, (hb _ (by omega) (by omega)).trans h1, (hb _ (by omega) (by omega)).trans h2, (hb _ (by omega) (by omega)).trans h3, (hb _ (by omega) (by omega)).trans h4, (hb _ (by omega) (by omega)).trans h5, ⟨.slice (some ⟨O, 0, none⟩) l.length oc, perm_set (by simpa using k1) ⟨b + 1, 0, none⟩ (by show b ≠ b + 1; omega) _, O, oc, oz, rfl, hO.aSamE (hb O (by omega) (by omega)), hO1, hoc⟩, by simpa using k2, (hb _ (by omega) (by omega)).trans h9, (hb _ (by omega) (by omega)).trans h10, (hb _ (by omega) (by omega)).trans h11,
    h12.same (hb _ (by omega) (by omega)) (fun k hk => hb k (by have := lt.1 k hk; omega) (by have := lt.1 k hk; omega)), h13.aSamE (hb _ (by omega) (by omega)), h14, fun i hi => (cell_same (p := ⟨LA, lo + i * 4, none⟩) (hb LA (by omega) (by omega))).trans (h15 i hi), fun i hi => (cell_same (p := ⟨MA, mo + i, none⟩) (hb MA (by omega) (by omega))).trans (h16 i hi), fun i hi => (cell_same (p := ⟨CA, co + i, none⟩) (hb CA (by omega) (by omega))).trans (h17 i hi)⟩
end

/-- A contract of earlyStarts. -/
def EarlyC (p : Nat → Prop) (fE : List Tk → Option (List Int × Unit)) : Prop := ∀ (W : World) (SB c : Nat) (ts : List Tk) (v : List Int), fE ts = some (v, ()) → v.length = ts.length → ts ≠ [] → TR p W SB ts → ts.length ≤ c → (∀ k, p k → k < W.heap.size) →
  Calls Try.prog 27 #[.slice (some ⟨SB, 0, none⟩) ts.length c] W fun e W' => Below W.heap.size W W' ∧ ∃ O oc oz, e = .returned (.slice (some ⟨O, 0, none⟩) ts.length oc) ∧ RowL W' O oz v ∧ ts.length ≤ oc
/-- A contract of lastEnd. -/
def LastC (p : Nat → Prop) (fL : List Tk → List Int → Option (Int × Unit)) : Prop := ∀ (W : World) (SB c O oc oz : Nat) (ts : List Tk) (s : List Int) (v : Int), fL ts s = some (v, ()) → s.length = ts.length → TR p W SB ts → ts.length ≤ c → RowL W O oz s → ts.length ≤ oc → (∀ k, p k → k < W.heap.size) →
  Calls Try.prog 26 #[.slice (some ⟨SB, 0, none⟩) ts.length c, .slice (some ⟨O, 0, none⟩) ts.length oc] W fun e W' => Below W.heap.size W W' ∧ e = .returned (.int .i64 v)
/-- A contract of slices.Clone. -/
def CloneC (fC : List Int → Option (List Int × Unit)) : Prop := ∀ (W : World) (b z c : Nat) (l : List Int), fC l = some (l, ()) → l ≠ [] → l.length ≤ c → RowL W b z l →
  Calls Try.prog 28 #[.slice (some ⟨b, 0, none⟩) l.length c] W fun e W' => Below W.heap.size W W' ∧ ∃ O oc oz, e = .returned (.slice (some ⟨O, 0, none⟩) l.length oc) ∧ W.heap.size ≤ O ∧ RowL W' O oz l ∧ l.length ≤ oc ∧ oc ≤ oz


set_option maxHeartbeats 16000000 in
theorem put_leaf {p : Nat → Prop} {fE : List Tk → Option (List Int × Unit)} {fL : List Tk → List Int → Option (Int × Unit)} {fC : List Int → Option (List Int × Unit)} (hE : EarlyC p fE) (hL : LastC p fL) (hC : CloneC fC)
    {a b e LA lo lc MA mo mc CA co cc SB sc cz n : Nat} {list : List Tk} {most costs : List Int} {fin : Int} (hn1 : 1 ≤ n) {S : HT} {a' : HS} {cost : Int} {W : World} (hI : HI p a b e LA lo lc MA mo mc CA co cc SB sc cz n list most costs fin S W) (hr : leafH fE fL fC fin cost S.1 S.2.1 S.2.2 = some a') :
    Calls Try.prog 25 (.int .i64 (n : Int) :: .int .i64 cost :: haPs a b e).toArray W fun ed W' => ed = .returned (.tuple #[]) ∧ HI p a b e LA lo lc MA mo mc CA co cc SB sc cz n list most costs fin (S.1, S.2.1, a') W' ∧ Chg (fun k => k = b ∨ k = b + 1 ∨ k = SB ∨ k = e + 1) W W' := by
  obtain ⟨⟨st, _⟩, hf1, hr⟩ := Option.bind_eq_some_iff.1 hr
  obtain ⟨hlen, hr⟩ := cond_some hr
  have hlen := of_decide_eq_true hlen
  obtain ⟨⟨ev, _⟩, hf2, hr⟩ := Option.bind_eq_some_iff.1 hr
  obtain ⟨sh, cu, bo, le⟩ := S
  simp only at hf1 hf2 hlen hr
  obtain ⟨bv, hbv, hbest⟩ := hI.bb
  have hsl := hI.sl
  simp only at hsl
  have hpl := lt_of_block hI.pb
  have hlt := hI.lt
  have hne : sh ≠ [] := fun h => by rw [h] at hsl; simp at hsl; omega
  have cn := perm_cell (i := 0) hI.nb
  simp only [List.getElem?_toArray, List.getElem?_cons_zero] at cn
  have hX : ∀ V, Ext W V → HI p a b e LA lo lc MA mo mc CA co cc SB sc cz n list most costs fin (sh, cu, bo, le) V := fun V hV => hI.below fun z hz => hV.block z hz id
  have hPc : ∀ V, Ext W V → V.cell? ⟨e, 0, none⟩ = some (.slice (some ⟨SB, 0, none⟩) n sc) ∧ V.cell? ⟨a + 3, 0, none⟩ = some (.int .i64 fin) ∧ V.cell? ⟨b, 0, none⟩ = some bv ∧ V.cell? ⟨b + 1, 0, none⟩ = some (.int .i64 le) := fun V hV => by
    have h := hX V hV
    exact ⟨perm_cell h.sb, perm_cell h.fb, perm_cell ((hV.block _ (lt_of_block hbv) id).trans hbv), perm_cell h.ls⟩
  have hpo : ∀ V, Ext W V → ∀ k, p k → k < V.heap.size := fun V hV k hk => by
    have := hlt.1 k hk
    have := hV.size
    omega
  have hce : ∀ V, Ext W V → Calls Try.prog 27 #[.slice (some ⟨SB, 0, none⟩) n sc] V fun ed W' => Below V.heap.size V W' ∧ ∃ O oc oz, ed = .returned (.slice (some ⟨O, 0, none⟩) n oc) ∧ RowL W' O oz st ∧ n ≤ oc := fun V hV => by
    have h := hE V SB sc sh st hf1 hlen hne (hX V hV).srow (by rw [hsl.1]; exact hsl.2.1) (hpo V hV)
    rw [hsl.1] at h
    exact h
  have hcl : ∀ V, Ext W V → ∀ O oc oz, RowL V O oz st → n ≤ oc → Calls Try.prog 26 #[.slice (some ⟨SB, 0, none⟩) n sc, .slice (some ⟨O, 0, none⟩) n oc] V fun ed W' => Below V.heap.size V W' ∧ ed = .returned (.int .i64 ev) := fun V hV O oc oz hO hoc => by
    have h := hL V SB sc O oc oz sh st ev hf2 hlen (hX V hV).srow (by rw [hsl.1]; exact hsl.2.1) hO (by rw [hsl.1]; exact hoc) (hpo V hV)
    rw [hsl.1] at h
    exact h
  have hE0 : Ext W W.drew := (Chg.refl _ _).drew
  have qe := best_eqn hbest
  simp only at qe
  obtain ⟨c01, c02, c03, c04⟩ := hPc _ hE0
  obtain ⟨vA, vn, vc, rfl⟩ : ∃ A n c, bv = .slice A n c := by
    cases bo with
    | none => exact ⟨_, _, _, hbest⟩
    | some l => obtain ⟨D, dc, dz, e, _⟩ := hbest; exact ⟨_, _, _, e⟩
  unfold haPs
  obtain ⟨r, hrr⟩ : ∃ r, r = (decide (ev ≤ fin) && (bo.isNone || decide (cost < le))) := ⟨_, rfl⟩
  rw [← hrr] at hr
  have HRR : Hid (r = (decide (ev ≤ fin) && (bo.isNone || decide (cost < le)))) := hrr
  have HR : Hid ((cond r (cond (decide (fC cu = some (cu, ()))) (some (some cu, cost)) none) (some (bo, le))) = some a') := hr
  clear hr hf1 hf2 hrr
  go_enter Try.func25, Try.ntmps25
  go_upto_region 1 with (fail)
  go_cut [32] (fun v wx => v = .bool r ∧ Ext W wx)
  case first =>
    refine mix_region [0, 1, 4, 2, 3, 5, 6, 7, 8, 9, 10, 11, 12, 13, 14] (r := [_, _, _, _, _, _, _, _, _, _, _, _, _, _, _]) (C := fun V => Ext W V) (by kernel_rfl) (by kernel_rfl) (by kernel_rfl) rfl rfl hE0 ?_
    refine mix_load (v := .slice (some ⟨SB, 0, none⟩) n sc) rfl rfl rfl rfl (fun V hV => ?_) ?_
    · have h := hPc V hV
      go_simp
    simp only [Act.put, List.setIfInBounds_toArray, List.set_cons_zero, List.set_cons_succ]
    refine mix_load (v := .slice (some ⟨SB, 0, none⟩) n sc) rfl rfl rfl rfl (fun V hV => ?_) ?_
    · have h := hPc V hV
      go_simp
    simp only [Act.put, List.setIfInBounds_toArray, List.set_cons_zero, List.set_cons_succ]
    refine mix_load (v := .int .i64 fin) rfl rfl rfl rfl (fun V hV => ?_) ?_
    · have h := hPc V hV
      go_simp
    simp only [Act.put, List.setIfInBounds_toArray, List.set_cons_zero, List.set_cons_succ]
    refine mix_call rfl rfl (fun V hV K hK => ?_)
    have hc1 := hce V hV
    go_simp
    go_at_call 27
    refine hc1.mono ?_
    rintro ed V1 ⟨hv1, O, oc, oz, rfl, hO, hoc⟩
    dsimp only
    refine hK _ _ (fun x => Ext W x ∧ RowL x O oz st) ⟨Ext.of (n := 0) hV hv1, hO⟩ (fun x h => h.1) ?_
    clear hK K hc1 hO hv1 V1 hV V
    refine mix_call rfl rfl (fun V hV K hK => ?_)
    have hc1 := hcl V hV.1 O oc oz hV.2 hoc
    go_simp
    go_at_call 26
    refine hc1.mono ?_
    rintro ed V1 ⟨hv1, rfl⟩
    dsimp only
    refine hK _ _ (fun x => Ext W x ∧ RowL x O oz st) ⟨Ext.of (n := 0) hV.1 hv1, hV.2.aBel hv1⟩ (fun x h => h) ?_
    clear hK K hc1 hv1 V1 hV V
    obtain ⟨c1, hc1⟩ : ∃ c, c = decide (ev ≤ fin) := ⟨_, rfl⟩
    have HC1 : Hid (c1 = decide (ev ≤ fin)) := hc1
    refine mix_val (v := .bool c1) rfl rfl rfl (fun V => ?_) ?_
    · go_simp
    simp only [Act.put, List.setIfInBounds_toArray, List.set_cons_zero, List.set_cons_succ]
    clear hc1
    refine mix_val (v := .bool c1) rfl rfl rfl (fun V => ?_) ?_
    · go_simp
    simp only [Act.put, List.setIfInBounds_toArray, List.set_cons_zero, List.set_cons_succ]
    cases c1 with
    | false =>
      refine mix_skip rfl ?_
      simp only [Act.put, List.setIfInBounds_toArray, List.set_cons_zero, List.set_cons_succ]
      refine mix_skip rfl ?_
      simp only [Act.put, List.setIfInBounds_toArray, List.set_cons_zero, List.set_cons_succ]
      refine mix_skip rfl ?_
      simp only [Act.put, List.setIfInBounds_toArray, List.set_cons_zero, List.set_cons_succ]
      refine mix_skip rfl ?_
      simp only [Act.put, List.setIfInBounds_toArray, List.set_cons_zero, List.set_cons_succ]
      refine mix_skip rfl ?_
      simp only [Act.put, List.setIfInBounds_toArray, List.set_cons_zero, List.set_cons_succ]
      refine mix_skip rfl ?_
      simp only [Act.put, List.setIfInBounds_toArray, List.set_cons_zero, List.set_cons_succ]
      refine mix_skip rfl ?_
      simp only [Act.put, List.setIfInBounds_toArray, List.set_cons_zero, List.set_cons_succ]
      refine mix_val (v := .bool false) rfl rfl rfl (fun V => ?_) ?_
      · go_simp
      simp only [Act.put, List.setIfInBounds_toArray, List.set_cons_zero, List.set_cons_succ]
      refine mix_nil fun V hV => ?_
      go_wp2_with fail
      go_meet
      exact ⟨by rw [HRR.out, ← HC1.out]; rfl, hV.1⟩
    | true =>
      refine mix_load (v := .slice vA vn vc) rfl rfl rfl rfl (fun V hV => ?_) ?_
      · have h := hPc V hV.1
        go_simp
      simp only [Act.put, List.setIfInBounds_toArray, List.set_cons_zero, List.set_cons_succ]
      obtain ⟨c2, hc2⟩ : ∃ c, c = bo.isNone := ⟨_, rfl⟩
      have HC2 : Hid (c2 = bo.isNone) := hc2
      rw [← hc2] at qe
      clear hc2
      refine mix_val (v := .bool c2) rfl rfl rfl (fun V => ?_) ?_
      · go_simp
      simp only [Act.put, List.setIfInBounds_toArray, List.set_cons_zero, List.set_cons_succ]
      refine mix_val (v := .bool c2) rfl rfl rfl (fun V => ?_) ?_
      · go_simp
      simp only [Act.put, List.setIfInBounds_toArray, List.set_cons_zero, List.set_cons_succ]
      cases c2 with
      | true =>
        refine mix_skip rfl ?_
        simp only [Act.put, List.setIfInBounds_toArray, List.set_cons_zero, List.set_cons_succ]
        refine mix_skip rfl ?_
        simp only [Act.put, List.setIfInBounds_toArray, List.set_cons_zero, List.set_cons_succ]
        refine mix_skip rfl ?_
        simp only [Act.put, List.setIfInBounds_toArray, List.set_cons_zero, List.set_cons_succ]
        refine mix_val (v := .bool true) rfl rfl rfl (fun V => ?_) ?_
        · go_simp
        simp only [Act.put, List.setIfInBounds_toArray, List.set_cons_zero, List.set_cons_succ]
        refine mix_val (v := .bool true) rfl rfl rfl (fun V => ?_) ?_
        · go_simp
        simp only [Act.put, List.setIfInBounds_toArray, List.set_cons_zero, List.set_cons_succ]
        refine mix_nil fun V hV => ?_
        go_wp2_with fail
        go_meet
        exact ⟨by rw [HRR.out, ← HC1.out, ← HC2.out]; rfl, hV.1⟩
      | false =>
        refine mix_val (v := .int .i64 cost) rfl rfl rfl (fun V => ?_) ?_
        · go_simp
        simp only [Act.put, List.setIfInBounds_toArray, List.set_cons_zero, List.set_cons_succ]
        refine mix_load (v := .int .i64 le) rfl rfl rfl rfl (fun V hV => ?_) ?_
        · have h := hPc V hV.1
          go_simp
        simp only [Act.put, List.setIfInBounds_toArray, List.set_cons_zero, List.set_cons_succ]
        refine mix_val (v := .bool (decide (cost < le))) rfl rfl rfl (fun V => ?_) ?_
        · go_simp
        simp only [Act.put, List.setIfInBounds_toArray, List.set_cons_zero, List.set_cons_succ]
        refine mix_val (v := .bool (decide (cost < le))) rfl rfl rfl (fun V => ?_) ?_
        · go_simp
        simp only [Act.put, List.setIfInBounds_toArray, List.set_cons_zero, List.set_cons_succ]
        refine mix_val (v := .bool (decide (cost < le))) rfl rfl rfl (fun V => ?_) ?_
        · go_simp
        simp only [Act.put, List.setIfInBounds_toArray, List.set_cons_zero, List.set_cons_succ]
        refine mix_nil fun V hV => ?_
        go_wp2_with fail
        go_meet
        exact ⟨by rw [HRR.out, ← HC1.out, ← HC2.out]; rfl, hV.1⟩
  case rest =>
    obtain ⟨rfl, hEx⟩ := hcut
    obtain ⟨V3, rfl⟩ : ∃ V, V = wc := ⟨_, rfl⟩
    clear hPc hce hcl hpo c01 c02 c03 c04 qe hE0 HRR
    cases r with
    | false =>
      have HE : Hid ((bo, le) = a') := Option.some.inj HR.out
      clear HR
      go_wp2_with fail
      refine bodyPost_ret (results_none rfl _ _ _) rfl ?_
      rw [← HE.out]
      exact ⟨rfl, hX _ hEx, hEx.weak _⟩
    | true =>
      have hr := HR.out
      simp only [cond_true] at hr
      obtain ⟨hcl1, hr⟩ := cond_some hr
      have HE : Hid ((some cu, cost) = a') := Option.some.inj hr
      have HCL : Hid (decide (fC cu = some (cu, ())) = true) := hcl1
      clear hr HR hcl1
      have hI3 := hX _ hEx
      have cc3 := perm_cell (i := 0) hI3.cb
      obtain ⟨bv3, hbv3, hbest3⟩ := hI3.bb
      have hcln := hC V3 (e + 1) cz n cu (of_decide_eq_true HCL.out) (fun h => by rw [h] at hsl; simp at hsl; omega) (by rw [hsl.2.2.1]; exact Nat.le_refl _) hI3.crow
      rw [hsl.2.2.1] at hcln
      simp only [List.getElem?_toArray, List.getElem?_cons_zero] at cc3
      go_wp2_with (go_at_call 28; refine hcln.mono ?_; rintro ed V4 ⟨hv4, O, oc, oz, rfl, hO1, hO, hoc1, hoc2⟩; have hE4 : Ext W V4 := Ext.of (n := 0) hEx hv4; have hI4 := hX _ hE4; obtain ⟨bv4, hbv4, hbest4⟩ := hI4.bb; have cb4 := perm_cell (i := 0) hbv4; have fb4 := perm_free (i := 0) hbv4; have cl4 := fun v => perm_cell (i := 0) (perm_set hI4.ls ⟨b, 0, none⟩ (by show b + 1 ≠ b; omega) v); have fl4 := fun v => perm_free (i := 0) (perm_set hI4.ls ⟨b, 0, none⟩ (by show b + 1 ≠ b; omega) v); simp only [List.getElem?_toArray, List.getElem?_cons_zero] at cb4 cl4)
      refine bodyPost_ret (results_none rfl _ _ _) rfl ?_
      have hs4 := hEx.size
      have hB := hI4.setB (v := cost) hO (by omega) (by rw [hsl.2.2.1]; exact ⟨hoc1, hoc2⟩)
      rw [hsl.2.2.1] at hB
      rw [← HE.out]
      exact ⟨rfl, hB, ((hE4.weak (fun k => k = b ∨ k = b + 1 ∨ k = SB ∨ k = e + 1)).set (a := ⟨b, 0, none⟩) (.inl rfl) _).set (a := ⟨b + 1, 0, none⟩) (.inr (.inl rfl)) _⟩

end Go.Proofs.Ytojjnifdkanpfaa.Ha
