/-
  Steps of the evaluator are steps of the model, second part: operations on numbers. No condition.
-/
import Derived.Test.YtmdicmdodbndgaaFwD
import Derived.WalkLawsBesides
namespace Go.Proofs.Ytmdicmdodbndgaa.Fw
open Go Go.RowKit

/-- Two worlds that differ in their draws alone. -/
structure SameW (w w' : World) : Prop where
  heap : w'.heap = w.heap
  os : w'.os = w.os
  tape : w'.tape = w.tape
  output : w'.output = w.output

theorem SameW.refl (w : World) : SameW w w := ⟨rfl, rfl, rfl, rfl⟩
theorem SameW.trans {a b c : World} (h : SameW a b) (k : SameW b c) : SameW a c := ⟨k.heap.trans h.heap, k.os.trans h.os, k.tape.trans h.tape, k.output.trans h.output⟩

theorem SimM.same {c : Cx} {E : Env} {st : St} {m : Nat → Option Nat} {a : Act} {w w' : World} (hS : SimM c E st m a w) (h : SameW w w') : SimM c E st m a w' := by
  obtain ⟨h1, h2, h0, h3, h4, h5, h6, h7, h8, h9, h10, h11, h12⟩ := hS
  refine ⟨h1, h2, h0, ⟨h.os.trans h3.os, h.tape.trans h3.tape, h.output.trans h3.output, ?_, fun k hk hm => ?_, fun k hk => ?_⟩, ?_, ?_, ?_, h7, h8, h9, h10, h11, ?_⟩
  · rw [h.heap]; exact h3.size
  · rw [h.heap]; exact h3.block k hk hm
  · rw [h.heap]; exact h3.bsz k hk
  all_goals rw [h.heap]; assumption

theorem op_value {P : Program} {o : Oper} {a : Act} {w w' : World} {u : Value} {next : Act → World → Prop} {Q : Exit → Act → World → Prop}
    (hr : (execOp a.eval o).run P w = .ok (.value u) w') (h : next (a.put o.dst u) w') : o.wp P a w next Q := by
  unfold Oper.wp
  rw [hr]
  exact h

theorem op_skip {P : Program} {o : Oper} {a : Act} {w w' : World} {next : Act → World → Prop} {Q : Exit → Act → World → Prop}
    (hr : (execOp a.eval o).run P w = .ok .skip w') (h : next (a.put o.dst undef) w') : o.wp P a w next Q := by
  unfold Oper.wp
  rw [hr]
  exact h

theorem choose_run (P : Program) (w : World) (q : Question) : ∃ n w', (choose q).run P w = .ok n w' ∧ SameW w w' ∧ (q.forced = false → n = q.cut (w.tape w.drawn q)) := by
  unfold choose
  simp only [Sem.run]
  cases hq : q.forced with
  | true => exact ⟨0, w, by simp, SameW.refl w, by simp⟩
  | false => exact ⟨_, { w with drawn := w.drawn + 1 }, by simp only [Bool.false_eq_true, if_false], ⟨rfl, rfl, rfl, rfl⟩, fun _ => rfl⟩

section
variable {P : Program} {ok : Bool → Nat → Prop} {m : Nat → Option Nat} {O : Nat → Option AO} {H : Array Obj}

theorem cond_none {ρ : Type} {b : Bool} {x : Option ρ} {r : ρ} (h : cond b none x = some r) : b = false ∧ x = some r := by
  cases b
  · exact ⟨rfl, h⟩
  · cases h

theorem cond_some {ρ : Type} {b : Bool} {x : Option ρ} {r : ρ} (h : cond b x none = some r) : b = true ∧ x = some r := by
  cases b with
  | false => cases h
  | true => exact ⟨rfl, h⟩

theorem castSh_some {s s' : Sh} {x : s'.den} {y : s.den} (h : castSh s s' x = some y) : ∃ e : s' = s, y = e ▸ x := by
  unfold castSh at h
  split at h
  · rename_i e
    exact ⟨e, (Option.some.inj h).symm⟩
  · cases h

/-- A value read as one of a wider shape. -/
theorem castW_some {hw : ∀ b, ok true b → ok false b} : ∀ {s s' : Sh} {x : s'.den} {y : s.den}, castW s s' x = some y → s'.isAgg = s.isAgg ∧ ∀ {cs : List Value}, RC ok H s' x cs → RC ok H s y cs := by
  intro s s' x y h
  have key : ∀ {s s' : Sh} {x : s'.den} {y : s.den}, castSh s s' x = some y → s'.isAgg = s.isAgg ∧ ∀ {cs : List Value}, RC ok H s' x cs → RC ok H s y cs := by
    intro s s' x y h
    obtain ⟨e, rfl⟩ := castSh_some h
    subst e
    exact ⟨rfl, fun h => h⟩
  unfold castW at h
  split at h
  · rename_i t x
    by_cases hd : Sh.nw t = s
    · rw [decide_eq_true hd, cond_true] at h
      exact key h
    · rw [decide_eq_false hd, cond_false] at h
      obtain ⟨h1, h2⟩ := key h
      exact ⟨h1, fun hc => h2 (RC.weak hw hc)⟩
  · rename_i t x
    by_cases hd : Sh.sl (.nw t) = s
    · rw [decide_eq_true hd, cond_true] at h
      exact key h
    · rw [decide_eq_false hd, cond_false] at h
      obtain ⟨h1, h2⟩ := key h
      refine ⟨h1, fun {cs} hc => h2 ?_⟩
      simp only [RC] at hc ⊢
      obtain ⟨A, c, g1, g2, g3⟩ := hc
      refine ⟨A, c, g1, g2, fun hne => ?_⟩
      obtain ⟨b, off, g4, g5, g6⟩ := g3 hne
      refine ⟨b, off, g4, g5, fun i x hx => ?_⟩
      obtain ⟨l, g7, g8, g9⟩ := g6 i x hx
      exact ⟨l, g7, g8, RC.weak hw (by simp only [RC]; exact g9)⟩
  · exact key h

/-- A row of elements read as one of a wider shape. -/
theorem castW_row {s s' : Sh} {xs : List s'.den} {ys : List s.den} (hw : ∀ b, ok true b → ok false b) (h : castW (.sl s) (.sl s') xs = some ys) :
    ys.length = xs.length ∧ s.size = s'.size ∧ ∀ (i : Nat) (y : s.den), ys[i]? = some y → ∃ x, xs[i]? = some x ∧ ∀ {l : List Value}, RC ok H s' x l → RC ok H s y l := by
  have key : ∀ {s s' : Sh} {xs : List s'.den} {ys : List s.den}, castSh (.sl s) (.sl s') xs = some ys → ys.length = xs.length ∧ s.size = s'.size ∧ ∀ (i : Nat) (y : s.den), ys[i]? = some y → ∃ x, xs[i]? = some x ∧ ∀ {l : List Value}, RC ok H s' x l → RC ok H s y l := by
    intro s s' xs ys h
    obtain ⟨e, rfl⟩ := castSh_some h
    cases e
    exact ⟨rfl, rfl, fun i y hy => ⟨y, hy, fun h => h⟩⟩
  cases s' with
  | nw t =>
    have h : cond (decide (Sh.sl (.nw t) = .sl s)) (castSh (.sl s) (.sl (.nw t)) xs) (castSh (.sl s) (.sl t) xs) = some ys := h
    by_cases hd : Sh.sl (.nw t) = .sl s
    · rw [decide_eq_true hd, cond_true] at h
      exact key h
    · rw [decide_eq_false hd, cond_false] at h
      obtain ⟨e, rfl⟩ := castSh_some h
      cases e
      exact ⟨rfl, rfl, fun i y hy => ⟨y, hy, fun h => RC.weak hw h⟩⟩
  | _ => exact key h

theorem RV.g_cells {s : Sh} {x : s.den} {v : Value} (h : RV ok m O H (.g s x) v) : RC ok H s x v.cells.toList ∧ aggV v = s.isAgg := by
  cases h with
  | g _ _ _ hc ha => exact ⟨hc, ha⟩

theorem fl_some {k : FloatKind} {b x : Nat} (h : toF k b = some x) : b = x := by
  unfold toF at h
  cases hn : (k.decode b).isNaN with
  | true => rw [hn] at h; cases h
  | false => rw [hn] at h; cases h; rfl

theorem fl_none {k : FloatKind} {b : Nat} (h : toF k b = none) : ∃ s t, k.format.read b = .nan s t := by
  unfold toF at h
  cases hn : (k.decode b).isNaN with
  | false => rw [hn] at h; cases h
  | true =>
    unfold FloatKind.decode Ieee.Datum.isNaN at hn
    split at hn
    · rename_i s t e
      exact ⟨s, t, e⟩
    · cases hn

theorem toF_nan {k : FloatKind} {b : Nat} {s : Bool} {t : Nat} (h : k.format.read b = .nan s t) : toF k b = none := by
  unfold toF FloatKind.decode
  rw [h]
  rfl

theorem sum_nan_r (d : Ieee.Datum) (s : Bool) (t : Nat) : d.sum (.nan s t) = none := by cases d <;> rfl
theorem product_nan_r (d : Ieee.Datum) (s : Bool) (t : Nat) : d.product (.nan s t) = none := by cases d <;> rfl
theorem quotient_nan_r (n : Nat) (d : Ieee.Datum) (s : Bool) (t : Nat) : d.quotient n (.nan s t) = none := by cases d <;> rfl
theorem order_nan_r (d : Ieee.Datum) (s : Bool) (t : Nat) : d.order (.nan s t) = none := by cases d <;> rfl

theorem fbits_nan {op : BinOp} {k : FloatKind} {x y : Nat} (h : toF k x = none ∨ toF k y = none) : fbits op k x y = none := by
  unfold fbits Ieee.Format.add Ieee.Format.sub Ieee.Format.mul Ieee.Format.div
  rcases h with h | h
  · obtain ⟨s, t, e⟩ := fl_none h
    cases op <;> simp only [e] <;> rfl
  · obtain ⟨s, t, e⟩ := fl_none h
    cases op <;> simp only [e, Ieee.Datum.opposite, sum_nan_r, product_nan_r, quotient_nan_r] <;> rfl

theorem forder_eq {k : FloatKind} {x y : Nat} {a b : Option Nat} (ha : a = toF k x) (hb : b = toF k y) : k.format.order x y = forder k a b := by
  subst ha hb
  unfold forder Ieee.Format.order
  cases h1 : toF k x with
  | none =>
    obtain ⟨s, t, e⟩ := fl_none h1
    simp only [e]
    rfl
  | some x' =>
    obtain rfl := fl_some h1
    cases h2 : toF k y with
    | none =>
      obtain ⟨s, t, e⟩ := fl_none h2
      simp only [e, order_nan_r]
    | some y' =>
      obtain rfl := fl_some h2
      rfl

theorem nan_choice (k : FloatKind) (x y t : Nat) : toF k ((Question.nanBits k x y).cut t) = none := by
  cases k with
  | f32 =>
    have hr : (t / 2) % (2 ^ 23 - 1) < 2 ^ 23 - 1 := Nat.mod_lt _ (by decide)
    have ht : t % 2 < 2 := Nat.mod_lt _ (by decide)
    refine toF_nan (s := ((Question.nanBits .f32 x y).cut t) / 2 ^ 31 % 2 == 1) (t := 1 + (t / 2) % (2 ^ 23 - 1)) ?_
    show Ieee.Format.read Ieee.single _ = _
    have e : (Question.nanBits .f32 x y).cut t = (t % 2) * 2 ^ 31 + (2139095040 + 1 + (t / 2) % (2 ^ 23 - 1)) := by
      show (t % 2) * 2 ^ 31 + 0x7f800000 + 1 + (t / 2) % (2 ^ 23 - 1) = _
      omega
    have hm : ((Question.nanBits .f32 x y).cut t) % 2 ^ 31 = 2139095040 + 1 + (t / 2) % (2 ^ 23 - 1) := by
      rw [e]
      omega
    unfold Ieee.Format.read
    rw [show Ieee.single.signWeight = 2 ^ 31 from rfl, show Ieee.single.binade = 8388608 from rfl, show Ieee.single.infRung = 2139095040 from rfl]
    rw [hm, if_neg (by omega), if_neg (by omega), if_neg (by omega)]
    exact congrArg _ (by omega)
  | f64 =>
    have hr : (t / 2) % (2 ^ 52 - 1) < 2 ^ 52 - 1 := Nat.mod_lt _ (by decide)
    have ht : t % 2 < 2 := Nat.mod_lt _ (by decide)
    refine toF_nan (s := ((Question.nanBits .f64 x y).cut t) / 2 ^ 63 % 2 == 1) (t := 1 + (t / 2) % (2 ^ 52 - 1)) ?_
    show Ieee.Format.read Ieee.double _ = _
    have e : (Question.nanBits .f64 x y).cut t = (t % 2) * 2 ^ 63 + (9218868437227405312 + 1 + (t / 2) % (2 ^ 52 - 1)) := by
      show (t % 2) * 2 ^ 63 + 0x7ff0000000000000 + 1 + (t / 2) % (2 ^ 52 - 1) = _
      omega
    have hm : ((Question.nanBits .f64 x y).cut t) % 2 ^ 63 = 9218868437227405312 + 1 + (t / 2) % (2 ^ 52 - 1) := by
      rw [e]
      omega
    unfold Ieee.Format.read
    rw [show Ieee.double.signWeight = 2 ^ 63 from rfl, show Ieee.double.binade = 4503599627370496 from rfl, show Ieee.double.infRung = 9218868437227405312 from rfl]
    rw [hm, if_neg (by omega), if_neg (by omega), if_neg (by omega)]
    exact congrArg _ (by omega)

theorem nan_choiceC (k : FloatKind) (x t : Nat) : toF k ((Question.nanConv k x).cut t) = none := by
  have := nan_choice k 0 0 t
  cases k <;> exact this

/-- '==' and '!=' of a type tell whether the plain values are one. -/
def EqsOk (P : Program) (t : TypeId) (s : Sh) : Prop :=
  ∀ ok H (a b : s.den) (x y : Value), RC ok H s a x.cells.toList → aggV x = s.isAgg → RC ok H s b y.cells.toList → aggV y = s.isAgg →
    (∀ op p q w, (eqGuard op t p q x y).run P w = .ok () w) ∧ (∀ w, (binOp .eql t x y).run P w = .ok (.bool (s.beq a b)) w) ∧ ∀ w, (binOp .neq t x y).run P w = .ok (.bool (!(s.beq a b))) w

theorem int_bop {op : BinOp} {t : TypeId} {k k' : IntKind} {x y : Int} {ρ : Type} {K : AV → Option ρ} {r : ρ} {eqs : Option Sh}
    (h : bop eqs op (.g (.int k) x) (.g (.int k') y) K = some r) :
    ∃ z zv, (∀ w, (binOp op t (.int k x) (.int k' y)).run P w = .ok z w) ∧ RV ok m O H zv z ∧ K zv = some r := by
  unfold bop at h
  by_cases hs : op = .shl ∨ op = .shr
  · rcases hs with rfl | rfl
    · simp only at h
      by_cases hy : y < 0
      · simp [hy] at h
      · simp only [hy, decide_false, cond_false] at h
        exact ⟨_, _, fun w => by simp [binOp, Op.shift, hy]; rfl, mk_int, h⟩
    · simp only at h
      by_cases hy : y < 0
      · simp [hy] at h
      · simp only [hy, decide_false, cond_false] at h
        exact ⟨_, _, fun w => by simp [binOp, Op.shift, hy]; rfl, mk_int, h⟩
  · by_cases hk : k = k'
    · subst hk
      cases op <;> first
        | (exfalso; exact hs (.inl rfl))
        | (exfalso; exact hs (.inr rfl))
        | (simp only [decide_true, cond_true] at h
           first
            | (refine ⟨_, _, fun w => ?_, mk_int, h⟩; simp [binOp, Op.intArith]; done)
            | (refine ⟨_, _, fun w => ?_, mk_bool, h⟩; simp [binOp, Op.intCmp]; done)
            | (refine ⟨_, _, fun w => ?_, mk_int, h⟩; simp only [binOp, ne_eq, not_true, if_false]; rfl)
            | (by_cases hy : y = 0
               · simp [hy] at h
               · have hb : (y == 0) = false := by simp [hy]
                 rw [hb] at h
                 refine ⟨_, _, fun w => ?_, mk_int, h⟩; simp [binOp, Op.intDiv, hy]))
    · exfalso
      cases op <;> first
        | exact hs (.inl rfl)
        | exact hs (.inr rfl)
        | simp [hk] at h

theorem bop_sound {op : BinOp} {t : TypeId} {X Y : AV} {x y : Value} {ρ : Type} {K : AV → Option ρ} {r : ρ} {eqs : Option Sh} (hB : ∀ s, eqs = some s → EqsOk P t s)
    (hx : RV ok m O H X x) (hy : RV ok m O H Y y) (h : bop eqs op X Y K = some r) :
    (∀ p q w, (eqGuard op t p q x y).run P w = .ok () w) ∧ ∃ z zv, (∀ w, (binOp op t x y).run P w = .ok z w) ∧ RV ok m O H zv z ∧ K zv = some r := by
  have h0 := h
  unfold bop at h
  split at h
  · obtain rfl := g_int hx
    obtain rfl := g_int hy
    exact ⟨fun p q w => by rw [eqGuard_at_int]; rfl, int_bop h0⟩
  · rename_i s a s' b _
    split at h
    · rename_i q
      obtain ⟨hq, h'⟩ := cond_some h
      clear h
      have hq := of_decide_eq_true hq
      subst hq
      split at h'
      · rename_i b' hb
        obtain ⟨e, rfl⟩ := castSh_some hb
        cases e
        obtain ⟨hc1, ha1⟩ := hx.g_cells
        obtain ⟨hc2, ha2⟩ := hy.g_cells
        obtain ⟨q1, q2, q3⟩ := hB s rfl ok H a b x y hc1 ha1 hc2 ha2
        refine ⟨fun p q w => q1 op p q w, ?_⟩
        split at h'
        · exact ⟨_, _, q2, mk_bool, h'⟩
        · exact ⟨_, _, q3, mk_bool, h'⟩
        · cases h'
      · cases h'
    · cases h
  · cases h

theorem uop_sound {op : UnOp} {X V : AV} {x : Value} (hx : RV ok m O H X x) (h : uop op X = some V) : ∃ z, (∀ w, (Op.unary op x).run P w = .ok z w) ∧ RV ok m O H V z := by
  unfold uop at h
  split at h
  · obtain rfl := g_int hx
    split at h
    · cases h
      exact ⟨_, fun w => by simp [Op.unary, Op.intArith], mk_int⟩
    · cases h
  · obtain rfl := g_bool hx
    split at h
    · cases h
      exact ⟨_, fun w => by simp [Op.unary], mk_bool⟩
    · cases h
  · cases h

theorem conv_sound {src dst : TypeId} {s : Sh} {X : AV} {x : Value} {ρ : Type} {K : AV → Option ρ} {r : ρ} (hs : (P.underlying src).isSome = true)
    (hI : ∀ k, s = .int k → P.underlying dst = some (.int k)) (hF : ∀ k, s = .flt k → P.underlying dst = some (.float k))
    (hx : RV ok m O H X x) (h : conv s X K = some r) : ∃ z V, (∀ w, (convert src dst x).run P w = .ok z w) ∧ RV ok m O H V z ∧ K V = some r := by
  unfold conv at h
  split at h
  · obtain rfl := g_int hx
    obtain ⟨d, hd'⟩ := Option.isSome_iff_exists.mp hs
    exact ⟨_, _, fun w => by simp [convert, run_underlying hd', run_underlying (hI _ rfl), Conv.intToInt], mk_int, h⟩
  · obtain rfl := g_int hx
    obtain ⟨d, hd'⟩ := Option.isSome_iff_exists.mp hs
    refine ⟨_, _, fun w => ?_, mk_flt, h⟩
    cases d <;> simp [convert, run_underlying hd', run_underlying (hF _ rfl), Conv.intToFloat]
  · rename_i k k' a
    obtain ⟨d, hd'⟩ := Option.isSome_iff_exists.mp hs
    obtain ⟨b, rfl, hb⟩ := g_flt hx
    by_cases hk : k' = k
    · subst hk
      rw [decide_eq_true rfl] at h
      refine ⟨.float k' b, .g (.flt k') a, fun w => ?_, .g (.flt k') a _ (show RC ok H (.flt k') a [.float k' b] from ⟨b, rfl, hb⟩) rfl, h⟩
      cases d <;> simp [convert, run_underlying hd', run_underlying (hF _ rfl), Conv.floatToFloat]
    · rw [decide_eq_false hk] at h
      simp only [cond_false] at h
      split at h
      · rename_i r hr
        unfold fconvA at hr
        split at hr
        · rename_i x
          obtain rfl := fl_some hb.symm
          unfold fconv at hr
          refine ⟨.float k r, _, fun w => ?_, mk_flt, h⟩
          have hrun : (Conv.floatToFloat k' b k).run P w = .ok (.float k r) w := by
            unfold Conv.floatToFloat
            rw [if_neg hk]
            split at hr
            · cases hr
            · rename_i g e
              rw [e]
              cases hr
              rfl
            · rename_i g m e' e
              rw [e]
              cases hi : (k.decode (k.encode (.number g m e'))).isInfinity with
              | true => rw [hi] at hr; cases hr
              | false =>
                rw [hi] at hr
                cases hr
                simp only [hi]
                rfl
          cases d <;> simp [convert, run_underlying hd', run_underlying (hF _ rfl), hrun]
        · cases hr
      · cases h
  · cases h

end

end Go.Proofs.Ytmdicmdodbndgaa.Fw
