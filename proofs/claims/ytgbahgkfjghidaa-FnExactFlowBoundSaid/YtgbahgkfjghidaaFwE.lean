/-
  Steps of the evaluator are steps of the model, second part: operations on numbers. No condition.
-/
import Derived.Test.YtgbahgkfjghidaaFwD
import Derived.WalkLawsBesides
namespace Go.Proofs.Ytgbahgkfjghidaa.Fw
open Go Go.RowKit

/-- Two worlds that differ in their draws alone. -/
structure SameW (w w' : World) : Prop where
  heap : w'.heap = w.heap
  os : w'.os = w.os
  tape : w'.tape = w.tape
  output : w'.output = w.output

theorem SameW.refl (w : World) : SameW w w := ⟨rfl, rfl, rfl, rfl⟩
theorem SameW.trans {a b c : World} (h : SameW a b) (k : SameW b c) : SameW a c := ⟨k.heap.trans h.heap, k.os.trans h.os, k.tape.trans h.tape, k.output.trans h.output⟩

theorem SimM.same {c : Cx} {E : Env} {st : St} {m : Nat → Option Nat} {a : Act} {w w' : World} (hS : SimM c E st m a w) (h : SameW w w') : SimM c E st m a w' := by
  obtain ⟨h1, h2, h0, h3, h4, h5, h6, h7, h8⟩ := hS
  refine ⟨h1, h2, h0, ⟨h.os.trans h3.os, h.tape.trans h3.tape, h.output.trans h3.output, ?_, fun k hk hm => ?_⟩, ?_, ?_, ?_, h7, h8⟩
  · rw [h.heap]; exact h3.size
  · rw [h.heap]; exact h3.block k hk hm
  all_goals rw [h.heap]; assumption

theorem op_value {P : Program} {o : Oper} {a : Act} {w w' : World} {u : Value} {next : Act → World → Prop} {Q : Exit → Act → World → Prop}
    (hr : (execOp a.eval o).run P w = .ok (.value u) w') (h : next (a.put o.dst u) w') : o.wp P a w next Q := by
  unfold Oper.wp
  rw [hr]
  exact h

theorem op_skip {P : Program} {o : Oper} {a : Act} {w w' : World} {next : Act → World → Prop} {Q : Exit → Act → World → Prop}
    (hr : (execOp a.eval o).run P w = .ok .skip w') (h : next (a.put o.dst undef) w') : o.wp P a w next Q := by
  unfold Oper.wp
  rw [hr]
  exact h

theorem choose_run (P : Program) (w : World) (q : Question) : ∃ n w', (choose q).run P w = .ok n w' ∧ SameW w w' ∧ (q.forced = false → n = q.cut (w.tape w.drawn q)) := by
  unfold choose
  simp only [Sem.run]
  cases hq : q.forced with
  | true => exact ⟨0, w, by simp, SameW.refl w, by simp⟩
  | false => exact ⟨_, { w with drawn := w.drawn + 1 }, by simp only [Bool.false_eq_true, if_false], ⟨rfl, rfl, rfl, rfl⟩, fun _ => rfl⟩

section
variable {P : Program} {ok : Nat → Prop} {m : Nat → Option Nat} {O : Nat → Option AO} {H : Array Obj}

theorem int_bop {op : BinOp} {t : TypeId} {k k' : IntKind} {x y : Int} {ρ : Type} {K : AV → Option ρ} {r : ρ} {isB : Bool}
    (h : bop isB op (.g (.int k) x) (.g (.int k') y) K = some r) :
    ∃ z zv, (∀ w, (binOp op t (.int k x) (.int k' y)).run P w = .ok z w) ∧ RV ok m O H zv z ∧ K zv = some r := by
  unfold bop at h
  by_cases hs : op = .shl ∨ op = .shr
  · rcases hs with rfl | rfl
    · simp only at h
      by_cases hy : y < 0
      · simp [hy] at h
      · simp only [hy, decide_false, cond_false] at h
        exact ⟨_, _, fun w => by simp [binOp, Op.shift, hy]; rfl, mk_int, h⟩
    · simp only at h
      by_cases hy : y < 0
      · simp [hy] at h
      · simp only [hy, decide_false, cond_false] at h
        exact ⟨_, _, fun w => by simp [binOp, Op.shift, hy]; rfl, mk_int, h⟩
  · by_cases hk : k = k'
    · subst hk
      cases op <;> first
        | (exfalso; exact hs (.inl rfl))
        | (exfalso; exact hs (.inr rfl))
        | (simp only [decide_true, cond_true] at h
           first
            | (refine ⟨_, _, fun w => ?_, mk_int, h⟩; simp [binOp, Op.intArith]; done)
            | (refine ⟨_, _, fun w => ?_, mk_bool, h⟩; simp [binOp, Op.intCmp]; done)
            | (refine ⟨_, _, fun w => ?_, mk_int, h⟩; simp only [binOp, ne_eq, not_true, if_false]; rfl)
            | (by_cases hy : y = 0
               · simp [hy] at h
               · have hb : (y == 0) = false := by simp [hy]
                 rw [hb] at h
                 refine ⟨_, _, fun w => ?_, mk_int, h⟩; simp [binOp, Op.intDiv, hy]))
    · exfalso
      cases op <;> first
        | exact hs (.inl rfl)
        | exact hs (.inr rfl)
        | simp [hk] at h

theorem bop_sound {op : BinOp} {t : TypeId} {X Y : AV} {x y : Value} {ρ : Type} {K : AV → Option ρ} {r : ρ} {isB : Bool} (hB : isB = true → P.underlying t = some .bool)
    (hx : RV ok m O H X x) (hy : RV ok m O H Y y) (h : bop isB op X Y K = some r) :
    (∀ p q w, (eqGuard op t p q x y).run P w = .ok () w) ∧ ∃ z zv, (∀ w, (binOp op t x y).run P w = .ok z w) ∧ RV ok m O H zv z ∧ K zv = some r := by
  have h0 := h
  unfold bop at h
  split at h
  · obtain rfl := g_int hx
    obtain rfl := g_int hy
    exact ⟨fun p q w => by rw [eqGuard_at_int]; rfl, int_bop h0⟩
  · obtain rfl := g_bool hx
    obtain rfl := g_bool hy
    refine ⟨fun p q w => by rw [eqGuard_at_bool]; rfl, ?_⟩
    cases isB with
    | false => simp at h
    | true =>
      simp only [cond_true] at h
      split at h
      · exact ⟨_, _, fun w => run_eql_bool _ _ _ _ (hB rfl), mk_bool, h⟩
      · exact ⟨_, _, fun w => run_neq_bool _ _ _ _ (hB rfl), mk_bool, h⟩
      · cases h
  · cases h

theorem uop_sound {op : UnOp} {X V : AV} {x : Value} (hx : RV ok m O H X x) (h : uop op X = some V) : ∃ z, (∀ w, (Op.unary op x).run P w = .ok z w) ∧ RV ok m O H V z := by
  unfold uop at h
  split at h
  · obtain rfl := g_int hx
    split at h
    · cases h
      exact ⟨_, fun w => by simp [Op.unary, Op.intArith], mk_int⟩
    · cases h
  · obtain rfl := g_bool hx
    split at h
    · cases h
      exact ⟨_, fun w => by simp [Op.unary], mk_bool⟩
    · cases h
  · cases h

theorem conv_sound {src dst : TypeId} {s : Sh} {X : AV} {x : Value} {ρ : Type} {K : AV → Option ρ} {r : ρ} (hs : (P.underlying src).isSome = true)
    (hI : ∀ k, s = .int k → P.underlying dst = some (.int k)) (hF : ∀ k, s = .flt k → P.underlying dst = some (.float k))
    (hx : RV ok m O H X x) (h : conv s X K = some r) : ∃ z V, (∀ w, (convert src dst x).run P w = .ok z w) ∧ RV ok m O H V z ∧ K V = some r := by
  unfold conv at h
  split at h
  · obtain rfl := g_int hx
    obtain ⟨d, hd'⟩ := Option.isSome_iff_exists.mp hs
    exact ⟨_, _, fun w => by simp [convert, run_underlying hd', run_underlying (hI _ rfl), Conv.intToInt], mk_int, h⟩
  · obtain rfl := g_int hx
    obtain ⟨d, hd'⟩ := Option.isSome_iff_exists.mp hs
    refine ⟨_, _, fun w => ?_, mk_flt, h⟩
    cases d <;> simp [convert, run_underlying hd', run_underlying (hF _ rfl), Conv.intToFloat]
  · cases h

end

end Go.Proofs.Ytgbahgkfjghidaa.Fw
