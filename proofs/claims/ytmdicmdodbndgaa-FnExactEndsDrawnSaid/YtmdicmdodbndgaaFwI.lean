/-
  Steps of the evaluator are steps of the model, sixth part: each operation but calls and append. No condition.
-/
import Derived.Test.YtmdicmdodbndgaaFwH
namespace Go.Proofs.Ytmdicmdodbndgaa.Fw
open Go Go.RowKit

section
variable {P : Program} {tt : Nat → TD} {T : Nat → List EntX} {q : Bool} {c : Cx} {E : Env} {st : St} {m : Nat → Option Nat} {a : Act} {w : World} {ρ : Type} {K : St → Option ρ} {r : ρ} {o : Oper}

/-- An operation that yields one value in every world that is as this one below. -/
def DoneQ (P : Program) (c : Cx) (E : Env) (K : St → Option ρ) (r : ρ) (o : Oper) (a : Act) (w : World) : Prop :=
  ∃ u, (∀ w', (memOp o = true → Below w.heap.size w w') → (execOp a.eval o).run P w' = .ok (.value u) w') ∧ Post c E K r (a.put o.dst u) w

/-- What is shown of each operation. -/
def Done (P : Program) (c : Cx) (E : Env) (K : St → Option ρ) (r : ρ) (o : Oper) (a : Act) (w : World) : Prop :=
  DoneQ P c E K r o a w ∨ o.wp P a w (Post c E K r) (fun _ _ _ => False)

/-- The same, where bits may be drawn: whatever they are, the plain value is one. -/
def DoneR (P : Program) (c : Cx) (E : Env) (K : St → Option ρ) (r : ρ) (o : Oper) (a : Act) (w : World) : Prop :=
  ∀ w1, Below w.heap.size w w1 → ∃ v w', (execOp a.eval o).run P w1 = .ok (.value v) w' ∧ Below w.heap.size w w' ∧ Post c E K r (a.put o.dst v) w

theorem DoneQ.dr (h : DoneQ P c E K r o a w) : DoneR P c E K r o a w := by
  obtain ⟨u, h1, h2⟩ := h
  exact fun w1 hb => ⟨u, w1, h1 w1 (fun _ => hb), hb, h2⟩

/-- The value of an operation that only computes. -/
theorem done_v (hS : SimM c E st m a w) {u : Value} {v : AV} (hr : ∀ w', (memOp o = true → Below w.heap.size w w') → (execOp a.eval o).run P w' = .ok (.value u) w') (hv : RVs c E st m w v u) (h : E.wr o.dst v st K = some r) :
    DoneQ P c E K r o a w := ⟨u, hr, wr_post hS _ hv h⟩

theorem Done.wp (h : Done P c E K r o a w) : o.wp P a w (Post c E K r) (fun _ _ _ => False) := by
  rcases h with ⟨u, h1, h2⟩ | h
  · exact op_value (h1 w (fun _ => Below.refl _ _)) h2
  · exact h

theorem s_move {x : Operand} (hS : SimM c E st m a w) (hop : o.op = .move x) (h : aop tt T E q o st K = some r) : DoneQ P c E K r o a w := by
  simp only [aop, hop] at h
  exact done_v hS (fun w' hb => by unfold execOp; simp [hop]) (hS.ev x) h

theorem s_assign {x : Operand} (hS : SimM c E st m a w) (hop : o.op = .assign x) (h : aop tt T E q o st K = some r) : DoneQ P c E K r o a w := by
  simp only [aop, hop] at h
  exact done_v hS (fun w' hb => by unfold execOp; simp [hop]) (hS.ev x) h

theorem s_pick {x y z : Operand} (hS : SimM c E st m a w) (hop : o.op = .pick x y z) (h : aop tt T E q o st K = some r) : DoneQ P c E K r o a w := by
  simp only [aop, hop] at h
  split at h
  · rename_i t ht
    have hx := hS.ev x
    rw [ht] at hx
    have hx' := g_bool hx
    cases t with
    | true => exact done_v hS (fun w' hb => by unfold execOp; simp [hop, hx', asBool]) (hS.ev y) h
    | false => exact done_v hS (fun w' hb => by unfold execOp; simp [hop, hx', asBool]) (hS.ev z) h
  · cases h

theorem below_drew_ (w : World) : Below w.heap.size w w.drew := ⟨rfl, rfl, rfl, Nat.le_refl _, fun _ _ => rfl⟩

theorem s_binOp {op : BinOp} {t u : TypeId} {x y : Operand} (hP : ∀ t, TDok P t (tt t)) (hS : SimM c E st m a w) (hB : ∀ w1, Below w.heap.size w w1 → SimM c E st m a w1) (hop : o.op = .binOp op t x y u) (h : aop tt T E q o st K = some r) :
    DoneQ P c E K r o a w ∨ (q = false ∧ Done P c E K r o a w ∧ DoneR P c E K r o a w) := by
  simp only [aop, hop] at h
  unfold fltOp at h
  split at h
  · rename_i k fa hxv
    have hx := hS.ev x
    rw [hxv] at hx
    obtain ⟨bx, hvx, hbx⟩ := g_flt hx
    split at h
    · rename_i k' fb hyv
      have hy := hS.ev y
      rw [hyv] at hy
      obtain ⟨by', hvy, hby⟩ := g_flt hy
      obtain ⟨hk, h'⟩ := cond_some h
      have hk := of_decide_eq_true hk
      subst hk
      have hgd : ∀ w', (eqGuard op t x y (.float k bx) (.float k by')).run P w' = .ok () w' := fun w' => by
        unfold eqGuard
        cases op <;> rfl
      cases hA : isFArith op with
      | true =>
        rw [hA] at h'
        simp only [cond_true] at h'
        obtain ⟨hq, h'⟩ := cond_none h'
        have hrun : ∀ w : World, ∃ (z : Nat) (w1 : World), (binOp op t (.float k bx) (.float k by')).run P w = .ok (.float k z) w1 ∧ toF k z = farith op k fa fb ∧ Below w.heap.size w w1 := by
          intro w
          have e : (binOp op t (.float k bx) (.float k by')) = Op.floatArith op k bx by' := by
            unfold binOp
            cases op <;> simp [isFArith] at hA ⊢
          rw [e]
          have hf : farith op k fa fb = (match fbits op k bx by' with | some r => toF k r | none => none) := by
            unfold farith
            cases fa with
            | none => rw [fbits_nan (.inl hbx.symm)]
            | some x' =>
              obtain rfl := fl_some hbx.symm
              cases fb with
              | none => rw [fbits_nan (.inr hby.symm)]
              | some y' =>
                obtain rfl := fl_some hby.symm
                rfl
          cases hfb : fbits op k bx by' with
          | some z =>
            rw [hfb] at hf
            refine ⟨z, w, ?_, hf.symm, Below.refl _ _⟩
            unfold Op.floatArith
            unfold fbits at hfb
            cases op <;> simp [isFArith] at hA <;> simp [hfb]
          | none =>
            rw [hfb] at hf
            refine ⟨_, w.drew, ?_, (nan_choice k bx by' (w.tape w.drawn (.nanBits k bx by'))).trans hf.symm, below_drew_ w⟩
            unfold Op.floatArith
            unfold fbits at hfb
            cases op <;> simp [isFArith] at hA <;> simp [hfb, Question.forced, run_choose_drew]
        have hex : ∀ {w0 w1 : World} {z : Nat}, (binOp op t (.float k bx) (.float k by')).run P w0 = .ok (.float k z) w1 → (execOp a.eval o).run P w0 = .ok (.value (.float k z)) w1 := fun r1 => by
          unfold execOp
          simp [hop, hvx, hvy, hgd, r1]
        refine .inr ⟨hq, .inr ?_, fun w1 hb => ?_⟩
        · obtain ⟨z, w1, r1, r2, r3⟩ := hrun w
          have hS1 := hB w1 r3
          unfold Oper.wp
          rw [hex r1]
          exact wr_post hS1 o.dst (.g (.flt k) (farith op k fa fb) _ (show RC (c.ok m (E.ob st) w1.heap) w1.heap (.flt k) (farith op k fa fb) [.float k z] from ⟨z, rfl, r2.symm⟩) rfl) h'
        · obtain ⟨z, w2, r1, r2, r3⟩ := hrun w1
          exact ⟨_, w2, hex r1, hb.trans (r3.mono hb.size), wr_post hS o.dst (.g (.flt k) (farith op k fa fb) _ (show RC (c.ok m (E.ob st) w.heap) w.heap (.flt k) (farith op k fa fb) [.float k z] from ⟨z, rfl, r2.symm⟩) rfl) h'⟩
      | false =>
        rw [hA] at h'
        simp only [cond_false] at h'
        obtain ⟨hC, h'⟩ := cond_some h'
        refine .inl (done_v hS (u := .bool (fcmp op k fa fb)) (fun w' hb => ?_) mk_bool h')
        have hfo := forder_eq hbx hby
        unfold execOp
        simp only [hop, hvx, hvy]
        have e : (binOp op t (.float k bx) (.float k by')).run P w' = .ok (.bool (fcmp op k fa fb)) w' := by
          unfold binOp fcmp
          cases op <;> simp [isFCmp] at hC <;> simp [Op.floatCmp, hfo]
        simp [hgd, e]
    · cases h
  refine .inl ?_
  unfold nilEq at h
  split at h
  · rename_i hyv
    have hy := hS.ev y
    rw [hyv] at hy
    split at h
    · rename_i el hel
      obtain ⟨e, i, hu, _⟩ := (hP t).elem el.1 el.2 hel
      split at h
      · rename_i hxv
        have hx := hS.ev x
        rw [hxv] at hx
        have hvx : a.eval x = .slice none 0 0 := by
          generalize a.eval x = u at hx
          cases hx
          rfl
        have hvy : a.eval y = .slice none 0 0 := by
          generalize a.eval y = u at hy
          cases hy
          rfl
        split at h
        · exact done_v hS (fun w' hb => by unfold execOp; simp [hop, hvx, hvy, eqGuard, binOp, run_equal_slice_nil _ _ _ _ _ _ hu]) mk_bool h
        · exact done_v hS (fun w' hb => by unfold execOp; simp [hop, hvx, hvy, eqGuard, binOp, run_equal_slice_nil _ _ _ _ _ _ hu]) mk_bool h
        · cases h
      · rename_i k0 hxv
        have hx := hS.ev x
        rw [hxv] at hx
        have hvy : a.eval y = .slice none 0 0 := by
          generalize a.eval y = u at hy
          cases hy
          rfl
        split at h
        · rename_i s0 xs0 ho
          have key : xs0 ≠ [] → ∃ b off cp, a.eval x = .slice (some ⟨b, off, none⟩) xs0.length cp := fun hn => by
            cases hx with
            | full _ _ hsl _ =>
              have h2 := hsl _ _ ho
              unfold SlV at h2
              split at h2
              · exact absurd (List.eq_nil_of_length_eq_zero h2.2) hn
              · obtain ⟨o1, c1, h3, _⟩ := h2
                exact ⟨_, o1, c1, h3⟩
          split at h
          · obtain ⟨hn, h'⟩ := cond_none h
            obtain ⟨b, off, cp, hv⟩ := key (fun e => by rw [e] at hn; cases hn)
            exact done_v hS (fun w' hb => by unfold execOp; simp [hop, hv, hvy, eqGuard, binOp, run_equal_slice_nil _ _ _ _ _ _ hu]) mk_bool h'
          · obtain ⟨hn, h'⟩ := cond_none h
            obtain ⟨b, off, cp, hv⟩ := key (fun e => by rw [e] at hn; cases hn)
            exact done_v hS (fun w' hb => by unfold execOp; simp [hop, hv, hvy, eqGuard, binOp, run_equal_slice_nil _ _ _ _ _ _ hu]) mk_bool h'
          · cases h
        · cases h
      · rename_i s xs hxv
        have hx := hS.ev x
        rw [hxv] at hx
        obtain ⟨hc, ha⟩ := hx.g_cells
        have ha : aggV (a.eval x) = false := ha
        rw [cells_one ha] at hc
        simp only [RC, List.cons.injEq, and_true] at hc
        obtain ⟨A, cp, hv, _, hne⟩ := hc
        have key : xs ≠ [] → ∃ b off, a.eval x = .slice (some ⟨b, off, none⟩) xs.length cp := fun hn => by
          obtain ⟨b, off, rfl, _⟩ := hne hn
          exact ⟨b, off, hv⟩
        cases hy' : a.eval y with
        | _ => first
          | (rw [hy'] at hy; cases hy; done)
          | (rw [hy'] at hy; cases hy
             split at h
             · obtain ⟨hn, h'⟩ := cond_none h
               obtain ⟨b, off, hv⟩ := key (fun e => by rw [e] at hn; cases hn)
               exact done_v hS (fun w' hb => by unfold execOp; simp [hop, hv, hy', eqGuard, binOp, run_equal_slice_nil _ _ _ _ _ _ hu]) mk_bool h'
             · obtain ⟨hn, h'⟩ := cond_none h
               obtain ⟨b, off, hv⟩ := key (fun e => by rw [e] at hn; cases hn)
               exact done_v hS (fun w' hb => by unfold execOp; simp [hop, hv, hy', eqGuard, binOp, run_equal_slice_nil _ _ _ _ _ _ hu]) mk_bool h'
             · cases h)
      · cases h
    · cases h
  · obtain ⟨hg, z, zv, h1, h2, h3⟩ := bop_sound (P := P) (t := t) (hP t).eqs (hS.ev x) (hS.ev y) h
    exact done_v hS (fun w' hb => by unfold execOp; simp [hop, hg, h1 w']) h2 h3

theorem s_unOp {op : UnOp} {t : TypeId} {x : Operand} (hS : SimM c E st m a w) (hop : o.op = .unOp op t x) (h : aop tt T E q o st K = some r) : DoneQ P c E K r o a w := by
  simp only [aop, hop] at h
  split at h
  · rename_i v hv
    obtain ⟨z, h1, h2⟩ := uop_sound (P := P) (hS.ev x) hv
    exact done_v hS (fun w' hb => by unfold execOp; simp [hop, h1 w']) h2 h
  · cases h

theorem s_convert {src dst : TypeId} {x : Operand} (hP : ∀ t, TDok P t (tt t)) (hS : SimM c E st m a w) (hB : ∀ w1, Below w.heap.size w w1 → SimM c E st m a w1) (hop : o.op = .convert src dst x) (h : aop tt T E q o st K = some r) :
    DoneQ P c E K r o a w ∨ (q = false ∧ Done P c E K r o a w ∧ DoneR P c E K r o a w) := by
  simp only [aop, hop] at h
  split at h
  · rename_i s0 s hs hd
    have hsk := (hP src).kany (by rw [hs]; rfl)
    have hkf : ∀ k, s = .flt k → P.underlying dst = some (.float k) := fun k hk => (hP dst).kflt k (by rw [hd, hk])
    have old : conv s (E.ev st x) (fun v => E.wr o.dst v st K) = some r → DoneQ P c E K r o a w := fun h => by
      obtain ⟨z, V, h1, h2, h3⟩ := conv_sound (P := P) (src := src) (dst := dst) hsk (fun k hk => (hP dst).kint k (by rw [hd, hk])) hkf (hS.ev x) h
      exact done_v hS (fun w' hb => by unfold execOp; simp [hop, h1 w']) h2 h3
    unfold fltConv at h
    split at h
    · rename_i k
      split at h
      · rename_i k' fa hxv
        have hx := hS.ev x
        rw [hxv] at hx
        obtain ⟨b, hvx, hb⟩ := g_flt hx
        obtain ⟨d, hd'⟩ := Option.isSome_iff_exists.mp hsk
        have hrun : ∀ w', (convert src dst (.float k' b)).run P w' = (Conv.floatToFloat k' b k).run P w' := fun w' => by
          cases d <;> simp [convert, run_underlying hd', run_underlying (hkf _ rfl)]
        by_cases hk : k' = k
        · subst hk
          rw [decide_eq_true rfl] at h
          refine .inl (done_v hS (u := .float k' b) (v := .g (.flt k') fa) (fun w' hb' => ?_) (by rw [← hvx]; exact hx) h)
          unfold execOp
          simp [hop, hvx, hrun, Conv.floatToFloat]
        · rw [decide_eq_false hk] at h
          simp only [cond_false] at h
          cases fa with
          | some x' =>
            obtain rfl := fl_some hb.symm
            refine .inl ?_
            have h' : conv (.flt k) (.g (.flt k') (some b)) (fun v => E.wr o.dst v st K) = some r := by
              unfold conv
              simp only [decide_eq_false hk, cond_false]
              unfold fconvA
              cases q with
              | true =>
                simp only [cond_true] at h
                cases hf : fconv k' b k with
                | none => rw [hf] at h; cases h
                | some z =>
                  rw [hf] at h
                  show (match fconv k' b k with | some r => E.wr o.dst (.g (.flt k) (toF k r)) st K | none => none) = some r
                  rw [hf]
                  exact h
              | false =>
                simp only [cond_false, fconvB] at h
                cases hf : fconv k' b k with
                | none => rw [hf] at h; cases h
                | some z =>
                  rw [hf] at h
                  show (match fconv k' b k with | some r => E.wr o.dst (.g (.flt k) (toF k r)) st K | none => none) = some r
                  rw [hf]
                  exact h
            rw [← hxv] at h'
            exact old h'
          | none =>
            have hq : q = false := by
              cases q with
              | true => cases h
              | false => rfl
            subst hq
            have h' : E.wr o.dst (.g (.flt k) none) st K = some r := h
            obtain ⟨s', t', e⟩ := fl_none hb.symm
            have e : k'.decode b = .nan s' t' := e
            have hr1 : ∀ w : World, (execOp a.eval o).run P w = .ok (.value (.float k ((Question.nanConv k b).cut (w.tape w.drawn (.nanConv k b))))) w.drew := fun w => by
              have hr1 : (Conv.floatToFloat k' b k).run P w = .ok (.float k ((Question.nanConv k b).cut (w.tape w.drawn (.nanConv k b)))) w.drew := by
                unfold Conv.floatToFloat
                rw [if_neg hk, e]
                simp [Question.forced, run_choose_drew]
              unfold execOp
              simp [hop, hvx, hrun, hr1]
            refine .inr ⟨rfl, .inr ?_, fun w1 hb1 => ?_⟩
            · unfold Oper.wp
              rw [hr1]
              exact wr_post (hB _ (below_drew_ w)) o.dst (.g (.flt k) none _ (show RC (c.ok m (E.ob st) w.drew.heap) w.drew.heap (.flt k) none [.float k ((Question.nanConv k b).cut (w.tape w.drawn (.nanConv k b)))] from ⟨_, rfl, (nan_choiceC k b _).symm⟩) rfl) h'
            · exact ⟨_, _, hr1 w1, hb1.trans ((below_drew_ w1).mono hb1.size), wr_post hS o.dst (.g (.flt k) none _ (show RC (c.ok m (E.ob st) w.heap) w.heap (.flt k) none [.float k ((Question.nanConv k b).cut (w1.tape w1.drawn (.nanConv k b)))] from ⟨_, rfl, (nan_choiceC k b _).symm⟩) rfl) h'⟩
      · exact .inl (old h)
    · exact .inl (old h)
  · cases h

theorem s_extract {x : Operand} {i : Nat} (hS : SimM c E st m a w) (hop : o.op = .extract x i) (h : aop tt T E q o st K = some r) : DoneQ P c E K r o a w := by
  simp only [aop, hop] at h
  split at h
  · rename_i l hl
    split at h
    · rename_i v hv
      have hx := hS.ev x
      rw [hl] at hx
      generalize hu : a.eval x = u at hx
      cases hx with
      | tup _ vs hs hvv =>
        have hi : i < vs.size := by
          rw [hs]
          rcases Nat.lt_or_ge i l.length with h' | h'
          · exact h'
          · rw [List.getElem?_eq_none h'] at hv; cases hv
        exact done_v hS (u := vs[i]) (fun w' hb => by unfold execOp; simp [hop, hu, Instr.extract, hi]) (hvv i v _ hv (by simp [hi])) h
    · cases h
  · cases h

theorem s_nilCheck {x : Operand} (hS : SimM c E st m a w) (hop : o.op = .nilCheck x) (h : aop tt T E q o st K = some r) : DoneQ P c E K r o a w := by
  simp only [aop, hop] at h
  have hx := hS.ev x
  generalize hu : a.eval x = u at hx
  split at h
  · rename_i hh off he
    split at h
    · rename_i cells ho
      rw [he] at hx
      have hx0 := hx
      cases hx with
      | ptr _ _ _ hp _ =>
        obtain ⟨b, hm, rfl⟩ := hp _ ho
        exact done_v hS (fun w' hb => by unfold execOp; simp [hop, hu]) hx0 h
    · cases h
  · rename_i s v he
    rw [he] at hx
    have hx0 := hx
    cases hx with
    | rp _ _ b off l hb hl hr hc => exact done_v hS (fun w' hb => by unfold execOp; simp [hop, hu]) hx0 h
  · rename_i hh i he
    split at h
    · rename_i s xs ho
      rw [he] at hx
      have hx0 := hx
      cases hx with
      | el _ _ _ hp _ =>
        obtain ⟨_, b, hm, rfl⟩ := hp _ _ ho
        exact done_v hS (fun w' hb => by unfold execOp; simp [hop, hu]) hx0 h
    · cases h
  · rename_i f l he
    rw [he] at hx
    have hx0 := hx
    cases hx with
    | fn _ _ vs hs hv ho => exact done_v hS (fun w' hb => by unfold execOp; simp [hop, hu]) hx0 h
  · cases h

theorem intA_sound {av : AV} {u : Value} {n : Int} (hv : RVs c E st m w av u) (h : intA av = some n) : ∃ k, u = .int k n := by
  unfold intA at h
  split at h
  · cases h
    exact ⟨_, g_int hv⟩
  · cases h

theorem inB_spec {n : Int} {len : Nat} (h : inB n len = true) : 0 ≤ n ∧ n < (len : Int) := by
  simpa [inB] using h

theorem idx_spec {α : Type} {xs : List α} {n : Int} {x : α} (h : idx xs n = some x) : 0 ≤ n ∧ xs[n.toNat]? = some x := by
  unfold idx at h
  by_cases h0 : 0 ≤ n
  · simp [h0] at h
    exact ⟨h0, h⟩
  · simp [h0] at h

theorem lt_of_getl {α : Type} {xs : List α} {i : Nat} {x : α} (h : xs[i]? = some x) : i < xs.length := by
  rcases Nat.lt_or_ge i xs.length with h' | h'
  · exact h'
  · rw [List.getElem?_eq_none h'] at h; cases h

theorem bind_some {α β : Type} {x : Option α} {f : α → Option β} {y : β} (h : Option.bind x f = some y) : ∃ z, x = some z ∧ f z = some y := by
  cases x with
  | none => cases h
  | some z => exact ⟨z, rfl, h⟩

theorem s_indexAddr {t : TypeId} {x i : Operand} (hP : ∀ t, TDok P t (tt t)) (hS : SimM c E st m a w) (hop : o.op = .indexAddr t x i) (h : aop tt T E q o st K = some r) :
    DoneQ P c E K r o a w := by
  simp only [aop, hop] at h
  split at h
  · rename_i s0 by0 n he hi
    obtain ⟨e, inf, hu, hinf, hsz, _, _, _⟩ := (hP t).elem _ _ he
    obtain ⟨k, hik⟩ := intA_sound (hS.ev i) hi
    have hx := hS.ev x
    generalize hux : a.eval x = u at hx
    split at h
    · rename_i s xs hxs
      rw [hxs] at hx
      obtain ⟨hss, h'⟩ := cond_some h
      replace h := h'
      clear h'
      obtain ⟨v, hv, h'⟩ := bind_some h
      replace h := h'
      clear h'
      have hss : s.size = s0.size := Nat.eq_of_beq_eq_true hss
      obtain ⟨h0, hget⟩ := idx_spec hv
      obtain ⟨hc, hag⟩ := hx.g_cells
      rw [cells_one (by simpa [Sh.isAgg] using hag)] at hc
      simp only [RC, List.cons.injEq, and_true] at hc
      obtain ⟨A, cp, rfl, hcp, hrow⟩ := hc
      have hlt := lt_of_getl hget
      obtain ⟨b, off, rfl, hok, hall⟩ := hrow (fun hn => by rw [hn] at hlt; simp at hlt)
      obtain ⟨l, hl, hr, hcv⟩ := hall _ _ hget
      refine done_v hS (u := .pointer (some ⟨b, off + n.toNat * s.size, none⟩)) ?_ (.rp s v b _ l hok hl hr hcv) h
      intro w' _
      have := run_index (P := P) hu hinf b off xs.length cp k n h0 (by omega) w'
      rw [hsz, ← hss] at this
      unfold execOp
      simp [hop, hux, hik, this]
    · rename_i hh hxs
      split at h
      · rename_i s xs ho
        rw [hxs] at hx
        obtain ⟨hss, h'⟩ := cond_some h
        replace h := h'
        clear h'
        obtain ⟨hin, h'⟩ := cond_some h
        replace h := h'
        clear h'
        have hss : s.size = s0.size := Nat.eq_of_beq_eq_true hss
        obtain ⟨h0, h1⟩ := inB_spec hin
        cases hx with
        | full _ _ hsl _ =>
          have h2 := hsl _ _ ho
          unfold SlV at h2
          cases hm : m hh with
          | none => rw [hm] at h2; omega
          | some b =>
            rw [hm] at h2
            obtain ⟨off, cp, rfl, h3, h4, _⟩ := h2
            have h4 := h4 (by omega)
            refine done_v hS (u := .pointer (some ⟨b, n.toNat * s.size, none⟩)) ?_ (.el hh _ _ (fun s' xs' ho' => ?_) rfl) h
            · intro w' _
              have := run_index (P := P) hu hinf b off xs.length cp k n h0 h1 w'
              rw [hsz, ← hss, h4] at this
              simp only [Nat.zero_mul, Nat.zero_add] at this
              unfold execOp
              simp [hop, hux, hik, h4, this]
            · rw [ho] at ho'
              cases ho'
              exact ⟨by omega, b, hm, rfl⟩
      · cases h
    · rename_i hh off0 len hxs
      split at h
      · rename_i s xs ho
        rw [hxs] at hx
        obtain ⟨hss, h'⟩ := cond_some h
        replace h := h'
        clear h'
        obtain ⟨hin, h'⟩ := cond_some h
        replace h := h'
        clear h'
        have hss : s.size = s0.size := Nat.eq_of_beq_eq_true hss
        obtain ⟨h0, h1⟩ := inB_spec hin
        cases hx with
        | slc _ _ _ _ hsl _ =>
          obtain ⟨h2, h5⟩ := hsl _ _ ho
          unfold SlV at h2
          cases hm : m hh with
          | none => rw [hm] at h2; omega
          | some b =>
            rw [hm] at h2
            obtain ⟨off, cp, rfl, h3, h4, _⟩ := h2
            have h4 := h4 (by omega)
            refine done_v hS (u := .pointer (some ⟨b, (off0 + n.toNat) * s.size, none⟩)) ?_ (.el hh _ _ (fun s' xs' ho' => ?_) rfl) h
            · intro w' _
              have := run_index (P := P) hu hinf b off len cp k n h0 h1 w'
              rw [hsz, ← hss, h4, ← Nat.add_mul] at this
              unfold execOp
              simp [hop, hux, hik, h4, this]
            · rw [ho] at ho'
              cases ho'
              exact ⟨by omega, b, hm, rfl⟩
      · cases h
    · cases h
  · cases h

theorem Sh.size_le : ∀ {s : Sh}, s.isAgg = false → s.size = 1 ∨ s.size = 0 := by
  intro s
  induction s with
  | pair a b _ _ => intro h; cases h
  | nw s ih => intro h; exact ih h
  | _ => intro _; simp [Sh.size]

theorem projF_spec {ok : Bool → Nat → Prop} {H : Array Obj} : ∀ (n i : Nat) (s : Sh) (x : s.den) (acc : Nat) (cs : List Value) {p : Nat} {s' : Sh} {x' : s'.den},
    projF n i s x acc = some (p, ⟨s', x'⟩) → RC ok H s x cs → ∃ pre mid post, cs = pre ++ mid ++ post ∧ acc + pre.length = p ∧ RC ok H s' x' mid := by
  intro n
  induction n with
  | zero => intro i s x acc cs p s' x' h; simp [projF] at h
  | succ n ih =>
    intro i s x acc cs p s' x' h hc
    cases n with
    | zero =>
      simp only [projF] at h
      obtain ⟨_, h'⟩ := cond_some h
      replace h := h'
      clear h'
      cases h
      exact ⟨[], cs, [], by simp, by simp, hc⟩
    | succ n =>
      cases s with
      | pair s1 s2 =>
        simp only [RC] at hc
        obtain ⟨c1, c2, rfl, h1, h2⟩ := hc
        cases i with
        | zero =>
          simp only [projF] at h
          cases h
          exact ⟨[], c1, c2, by simp, by simp, h1⟩
        | succ i =>
          simp only [projF] at h
          obtain ⟨pre, mid, post, rfl, h4, h5⟩ := ih i s2 x.2 _ c2 h h2
          exact ⟨c1 ++ pre, mid, post, by simp, by rw [List.length_append, h1.len]; omega, h5⟩
      | _ => simp [projF] at h

theorem s_fieldAddr {t : TypeId} {x : Operand} {f : Nat} (hP : ∀ t, TDok P t (tt t)) (hS : SimM c E st m a w) (hop : o.op = .fieldAddr t x f) (h : aop tt T E q o st K = some r) :
    DoneQ P c E K r o a w := by
  simp only [aop, hop] at h
  have hx := hS.ev x
  generalize hux : a.eval x = u at hx
  split at h
  · rename_i off n ag hh b hf he
    split at h
    · rename_i cells ho
      rw [he] at hx
      cases hx with
      | ptr _ _ _ hp _ =>
        obtain ⟨bb, hm, rfl⟩ := hp _ ho
        refine done_v hS (fun w' hb => by unfold execOp; simp [hop, hux, run_field_addr (hP t) hf]) (.ptr hh _ _ (fun cells' ho' => ⟨bb, hm, rfl⟩) rfl) h
    · cases h
  · rename_i off n ag s v hf he
    split at h
    · rename_i p s' v' hp
      obtain ⟨hq, h'⟩ := cond_some h
      replace h := h'
      clear h'
      have hq : p = off := Nat.eq_of_beq_eq_true hq
      subst hq
      rw [he] at hx
      cases hx with
      | rp _ _ b o0 l hb hl hr hc =>
        obtain ⟨pre, mid, post, rfl, h4, h5⟩ := projF_spec _ _ _ _ _ _ hp hc
        refine done_v hS (fun w' hb => by unfold execOp; simp [hop, hux, run_field_addr (hP t) hf]; rfl) (.rp s' v' b _ mid hb h5.len (fun j v hj => ?_) h5) h
        have := hr (pre.length + j) v (by
          rw [List.append_assoc, List.getElem?_append_right (by omega), show pre.length + j - pre.length = j by omega, List.getElem?_append_left (lt_of_getl hj)]
          exact hj)
        rw [← h4, Nat.zero_add, Nat.add_assoc]
        exact this
    · cases h
  · cases h

theorem s_field {t : TypeId} {x : Operand} {f : Nat} (hP : ∀ t, TDok P t (tt t)) (hS : SimM c E st m a w) (hop : o.op = .field t x f) (h : aop tt T E q o st K = some r) :
    DoneQ P c E K r o a w := by
  simp only [aop, hop] at h
  have hx := hS.ev x
  generalize hux : a.eval x = u at hx
  split at h
  · rename_i off n ag s v hf he
    split at h
    · rename_i p s' v' hp
      obtain ⟨hq, h'⟩ := cond_some h
      replace h := h'
      clear h'
      obtain ⟨h1, h2, h3, h6⟩ := of_decide_eq_true hq
      subst h1 h2 h3
      rw [he] at hx
      obtain ⟨hc, ha⟩ := hx.g_cells
      rw [h6] at ha
      obtain ⟨vs, rfl⟩ := agg_cells ha
      obtain ⟨pre, mid, post, h3, h4, h5⟩ := projF_spec _ _ _ _ _ _ hp hc
      simp only [Value.cells] at h3
      rw [Nat.zero_add] at h4
      have hlen := h5.len
      cases hag : s'.isAgg with
      | false =>
        rw [hag] at hf
        have h1 : s'.size = 1 ∨ s'.size = 0 := Sh.size_le hag
        have hne : s'.size ≠ 0 := by
          obtain ⟨_, _, _, _, _, _, _, hne⟩ := (hP t).fields f _ _ _ hf
          exact hne
        match mid, hlen with
        | [z], _ =>
          have hz : vs[p]? = some z := by
            rw [← Array.getElem?_toList, h3, ← h4]
            simp
          refine done_v hS (u := z) (fun w' hb => by unfold execOp; simp [hop, hux, run_field_one (hP t) hf vs z hz]) (.g s' v' z ?_ ?_) h
          · rw [cells_one (oneV_agg (h5.one z (by simp)))]
            exact h5
          · rw [hag, oneV_agg (h5.one z (by simp))]
        | [], hl => exact absurd hl.symm hne
        | _ :: _ :: _, hl => simp at hl; omega
      | true =>
        rw [hag] at hf
        have hm : (vs.extract p (p + s'.size)).toList = mid := by
          rw [Array.toList_extract, h3, ← h4, ← hlen]
          simp [List.extract_eq_take_drop]
        refine done_v hS (u := .agg (vs.extract p (p + s'.size))) (fun w' hb => by unfold execOp; simp [hop, hux, run_field_agg (hP t) hf vs]) (.g s' v' _ ?_ ?_) h
        · simp only [Value.cells]
          rw [hm]
          exact h5
        · rw [hag]; rfl
    · cases h
  · rename_i off n ag l hf he
    split at h
    · rename_i v hv
      rw [he] at hx
      cases hx with
      | agg _ vs hs hvv ho =>
        cases ag with
        | false =>
          simp only [cut, cond_false] at hv
          have hi : off < vs.size := by rw [hs]; exact lt_of_getl hv
          refine done_v hS (u := vs[off]) (fun w' hb => by unfold execOp; simp [hop, hux, run_field_one (hP t) hf vs vs[off] (by simp [hi])]) (hvv off v _ hv (by simp [hi])) h
        | true =>
          simp only [cut, cond_true] at hv
          obtain ⟨hb, hv⟩ := cond_some hv
          have hb := of_decide_eq_true hb
          cases hv
          refine done_v hS (u := .agg (vs.extract off (off + n))) (fun w' hb => by unfold execOp; simp [hop, hux, run_field_agg (hP t) hf vs]) (.agg _ _ (by simp; omega) (fun i av u h1 h2 => ?_) (fun u hu => ?_)) h
          · rw [List.getElem?_take] at h1
            split at h1
            · rename_i hi
              rw [List.getElem?_drop] at h1
              rw [Array.getElem?_extract] at h2
              split at h2
              · exact hvv _ _ _ h1 h2
              · cases h2
            · cases h1
          · refine ho u ?_
            rw [Array.toList_extract, List.extract_eq_take_drop] at hu
            exact List.mem_of_mem_drop (List.mem_of_mem_take hu)
    · cases h
  · cases h

end

end Go.Proofs.Ytmdicmdodbndgaa.Fw
