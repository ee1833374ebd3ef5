/-
  Steps of the evaluator are steps of the model, eleventh part: regions, code, functions. No condition.
-/
import Derived.Test.YtgbahgkfjghidaaFwM
namespace Go.Proofs.Ytgbahgkfjghidaa.Fw
open Go Go.RowKit

/-- What a function's call does: it is entered, or answered at once. -/
def CallOk (P : Program) (f : FuncId) (vals : Array Value) (w : World) (R : Value → World → Prop) : Prop :=
  match (callFunc f vals).run P w with
  | .ok (.enter g args) w1 => w1 = w ∧ Calls P g args w1 fun e w' => ∃ v, e = .returned v ∧ R v w'
  | .ok (.value v) w1 => w1 = w ∧ R v w1
  | _ => False

/-- A function does what its entry says. -/
def SoundC (P : Program) (f : FuncId) (e : Ent) : Prop :=
  ∀ (p : Nat → Prop) (w : World) (vals : List Value) (x : dens e.ins) (y : dens (e.outs.map RK.sh)), (∀ b, p b → b < w.heap.size) → ArgR p w.heap e.ins x vals → e.F x = some y →
    CallOk P f vals.toArray w fun v w' => ∃ vs bs, valOf vs v ∧ Below w.heap.size w w' ∧ Dist bs ∧
      ResR (okRes p w.heap.size w'.heap.size bs) w.heap.size w'.heap e.outs y vs bs

section
variable {P : Program} {tt : Nat → TD} {T : Nat → List Ent} {q : Bool} {c : Cx} {E : Env} {st : St} {m : Nat → Option Nat} {a : Act} {w : World} {ρ : Type} {K : St → Option ρ} {r : ρ} {o : Oper}

theorem ArgR.mono {ok ok' : Nat → Prop} {H : Array Obj} (hok : ∀ b, ok b → ok' b) : ∀ {ins : List Sh} {x : dens ins} {vs : List Value}, ArgR ok H ins x vs → ArgR ok' H ins x vs := by
  intro ins
  induction ins with
  | nil => intro x vs h; cases vs <;> simp_all [ArgR]
  | cons s ins ih =>
    intro x vs h
    cases vs with
    | nil => simp [ArgR] at h
    | cons v vs => exact ⟨⟨RC.mono (fun b hb => ⟨hok b hb, fun _ => rfl⟩) h.1.1, h.1.2⟩, ih h.2⟩

theorem noHandle {v : AV} {n : Nat} (h : AV.handle n v = false) (d : Nat) : ¬ Mn d v := fun hm => by
  rw [handle_mn n hm] at h
  cases h

theorem ResR.noref {ok ok' : Nat → Prop} {B : Nat} {H : Array Obj} : ∀ {outs : List RK} {y : dens (outs.map RK.sh)} {vs : List Value} {bs : List (Option Nat)}, outs.any RK.ref = false →
    ResR ok B H outs y vs bs → ResR ok' B H outs y vs bs := by
  intro outs
  induction outs with
  | nil => intro y vs bs _ h; cases vs <;> cases bs <;> simp_all [ResR]
  | cons k outs ih =>
    intro y vs bs hr h
    simp only [List.any_cons, Bool.or_eq_false_iff] at hr
    cases k with
    | val s =>
      cases vs with
      | nil => simp [ResR] at h
      | cons v vs => exact ⟨⟨RC.noref hr.1 h.1.1, h.1.2⟩, ih hr.2 h.2⟩
    | own s =>
      cases vs with
      | nil => cases bs <;> simp [ResR] at h
      | cons v vs =>
        cases bs with
        | nil => simp [ResR] at h
        | cons b bs =>
          refine ⟨?_, ih hr.2 h.2⟩
          have h1 := h.1
          cases b with
          | none => exact h1
          | some b =>
            obtain ⟨k1, ⟨cs, e, k2, k3, k4⟩, k5⟩ := h1
            refine ⟨k1, ⟨cs, e, k2, k3, fun i x hx => ?_⟩, k5⟩
            obtain ⟨l, l1, l2, l3⟩ := k4 i x hx
            exact ⟨l, l1, l2, RC.noref hr.1 l3⟩

theorem doCall_sound (hS : SimM c E st m a w) {f : FuncId} {args : List AV} {vals : List Value} (hl : args.length = vals.length)
    (hv : ∀ (i : Nat) (av : AV) (v : Value), args[i]? = some av → vals[i]? = some v → RVs c E st m w av v) :
    ∀ {es : List Ent}, (∀ e ∈ es, SoundC P f e) → doCall E q o.dst args st K es = some r →
      CallOk P f vals.toArray w fun v w' => Post c E K r (a.put o.dst v) w' := by
  intro es
  induction es with
  | nil => intro _ h; cases h
  | cons e es ih =>
    intro hT h
    simp only [doCall] at h
    split at h
    · exact ih (fun e he => hT e (List.mem_cons_of_mem _ he)) h
    · rename_i x hx
      cases hh0 : args.any (AV.handle 6) && e.outs.any RK.ref || q && !e.outs.all RK.det with
      | true => rw [hh0] at h; cases h
      | false =>
        rw [hh0] at h
        have hh := (Bool.or_eq_false_iff.1 hh0).1
        simp only [cond_false] at h
        obtain ⟨y, hy, h'⟩ := bind_some h
        obtain ⟨hf, h''⟩ := cond_some h'
        clear h h'
        -- where the arguments lie
        have key : ∃ p : Nat → Prop, (∀ b, p b → b < w.heap.size) ∧ ArgR p w.heap e.ins x vals ∧
            ∀ {w' : World} {z : dens (e.outs.map RK.sh)} {vs : List Value} {bs : List (Option Nat)}, ResR (okRes p w.heap.size w'.heap.size bs) w.heap.size w'.heap e.outs z vs bs →
              ResR (okRes (c.ok m (E.ob st) w.heap) w.heap.size w'.heap.size bs) w.heap.size w'.heap e.outs z vs bs := by
          cases han : args.any (AV.handle 6) with
          | true =>
            rw [han] at hh hx
            refine ⟨fun b => b < w.heap.size, fun b hb => hb, ?_, fun {w' z vs bs} hr => ResR.noref (by simpa using hh) hr⟩
            exact argsA_sound (mt := c.mt) (fun b hb => hb.1) (fun h o ho => ho) hS.objs (fun h o b ho hb => by
              obtain ⟨_, cs, e, hh⟩ := (hS.objs h o ho).block hb
              exact lt_of_some hh) hx hl hv
          | false =>
            rw [han] at hx
            exact ⟨c.ok m (E.ob st) w.heap, fun b hb => hb.1, argsA_sound (mt := c.mt) (fun b hb => hb) (fun h o ho => by cases ho) hS.objs (fun h o b ho => by cases ho) hx hl hv, fun hr => hr⟩
        obtain ⟨p, hp, hA, hres⟩ := key
        have hc := hT e List.mem_cons_self p w vals x y hp hA hy
        have fin : ∀ v w', (∃ vs bs, valOf vs v ∧ Below w.heap.size w w' ∧ Dist bs ∧ ResR (okRes p w.heap.size w'.heap.size bs) w.heap.size w'.heap e.outs y vs bs) → Post c E K r (a.put o.dst v) w' := by
          rintro v w' ⟨vs, bs, hv1, hb, hd, hR⟩
          obtain ⟨n1, n2, n3⟩ := resA_spec (base := o.dst.getD 0 + 10000) (hres hR)
          obtain ⟨g1, g2, g3⟩ := hS.grow hb hf hd n1 (fun b hb' => by
            obtain ⟨h1, h2⟩ := hb'
            refine ⟨?_, h2⟩
            rcases h1 with ⟨h1, h3⟩ | h1
            · exact .inl ⟨h1, h3⟩
            · exact .inr h1)
          refine wr_post g1 o.dst ?_ h''
          have hvs := n3 (O' := E.ob { st with objs := (resA (o.dst.getD 0 + 10000) e.outs y).2 ++ st.objs }) (m' := updL m (resA (o.dst.getD 0 + 10000) e.outs y).2 bs) g3 (fun h o ho => ⟨by simp [Env.ob, look_append, ho], rfl⟩)
          exact valOf_RV hv1 n2 hvs
        unfold CallOk at hc ⊢
        split
        · rename_i g args' w1 hr
          rw [hr] at hc
          exact ⟨hc.1, hc.2.mono fun en w' ⟨v, h1, h2⟩ => ⟨v, h1, fin v w' h2⟩⟩
        · rename_i v w1 hr
          rw [hr] at hc
          exact ⟨hc.1, fin v w1 hc.2⟩
        · rename_i h1 h2
          revert hc
          split
          · rename_i hr; exact absurd hr (h1 _ _ _)
          · rename_i hr; exact absurd hr (h2 _ _)
          · exact id
end

end Go.Proofs.Ytgbahgkfjghidaa.Fw
