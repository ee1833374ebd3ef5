/-
  Regions that draw their order and hold stores: one walk of the text's order serves every order. No condition.
-/
import Derived.Test.YtmdicmdodbndgaaFwB
import Derived.Tactics
namespace Go.Proofs.Ytmdicmdodbndgaa.Fw
open Go Go.RowKit

section
variable {P : Program} {ops : Array Oper} {Wd Gr Dr : Oper → Bool}

/-- j waits for k, by whatever chain. -/
inductive Dep (ops : Array Oper) (k : Nat) : Nat → Prop
  | one {j : Nat} {oj : Oper} {e : Edge} (h : ops[j]? = some oj) (he : e ∈ oj.after) (hb : Region.binds .any e = true) (hk : e.on = k) : Dep ops k j
  | more {j : Nat} {oj : Oper} {e : Edge} (h : ops[j]? = some oj) (he : e ∈ oj.after) (hb : Region.binds .any e = true) (hd : Dep ops k e.on) : Dep ops k j

theorem depsOf_spec {k j : Nat} (h : (depsOf ops k).getD j false = true) : Dep ops k j := by
  have key : ∀ (l : List Nat) (acc : Array Bool), (∀ j, acc.getD j false = true → Dep ops k j) → ∀ j, (l.foldl (depStep ops k) acc).getD j false = true → Dep ops k j := by
    intro l
    induction l with
    | nil => intro acc hacc j hj; exact hacc j hj
    | cons i l ih =>
      intro acc hacc j hj
      refine ih (depStep ops k acc i) (fun j hj => ?_) j hj
      unfold depStep at hj
      split at hj
      · rename_i oi hoi
        by_cases hij : i = j
        · subst hij
          by_cases hlt : i < acc.size
          · rw [Array.getD_eq_getD_getElem?, Array.getElem?_setIfInBounds_self_of_lt hlt] at hj
            simp only [Option.getD_some] at hj
            obtain ⟨e, he, hb⟩ := Array.any_eq_true'.1 hj
            simp only [Bool.and_eq_true, Bool.or_eq_true, beq_iff_eq] at hb
            rcases hb.2 with h1 | h1
            · exact .one hoi he hb.1 h1
            · exact .more hoi he hb.1 (hacc _ h1)
          · rw [Array.getD_eq_getD_getElem?, Array.getElem?_eq_none (by simp; omega)] at hj
            simp at hj
        · rw [Array.getD_eq_getD_getElem?, Array.getElem?_setIfInBounds_ne hij, ← Array.getD_eq_getD_getElem?] at hj
          exact hacc j hj
      · exact hacc j hj
  exact key _ _ (fun j hj => by
    rw [Array.getD_eq_getD_getElem?, Array.getElem?_replicate] at hj
    split at hj <;> simp at hj) j h

/-- Whoever has come up has all behind it that it waits for. -/
def Closed (ops : Array Oper) (listed : Array Bool) : Prop :=
  ∀ (j : Nat) oj, ops[j]? = some oj → listed.getD j false = true → ∀ e ∈ oj.after, Region.binds .any e = true → listed.getD e.on false = true

theorem Closed.set {listed : Array Bool} (h : Closed ops listed) {i : Nat} (hi : i ∈ Region.ready .any ops listed) : Closed ops (listed.setIfInBounds i true) := by
  obtain ⟨_, oi, hoi, hall⟩ := mem_ready.1 hi
  intro j oj hj hl e he hb
  by_cases hij : i = j
  · subst hij
    have : oj = oi := Option.some.inj (hj.symm.trans hoi)
    subst this
    exact getD_set_true (hall e he hb)
  · rw [getD_set_ne false hij] at hl
    exact getD_set_true (h j oj hj hl e he hb)

theorem dep_listed {listed : Array Bool} (h : Closed ops listed) {k j : Nat} (hd : Dep ops k j) (hj : listed.getD j false = true ∨ j ∈ Region.ready .any ops listed) : listed.getD k false = true := by
  have step : ∀ {j : Nat} {oj : Oper} {e : Edge}, ops[j]? = some oj → e ∈ oj.after → Region.binds .any e = true → (listed.getD j false = true ∨ j ∈ Region.ready .any ops listed) → listed.getD e.on false = true := by
    intro j oj e ho he hb hj
    rcases hj with hj | hj
    · exact h j oj ho hj e he hb
    · obtain ⟨_, oi, hoi, hall⟩ := mem_ready.1 hj
      have : oj = oi := Option.some.inj (ho.symm.trans hoi)
      subst this
      exact hall e he hb
  induction hd with
  | one ho he hb hk => subst hk; exact step ho he hb hj
  | more ho he hb _ ih => exact ih (.inl (step ho he hb hj))


/-- The outcomes of an operation in one world: what it yields, the deferred calls then, the world then. -/
def OutW (P : Program) (o : Oper) (a : Act) (w : World) (R : Act → World → Prop) : Prop := o.wp P a w R (fun _ _ _ => False)

theorem OutW.mono {o : Oper} {a : Act} {w : World} {R R' : Act → World → Prop} (h : OutW P o a w R) (hr : ∀ a w, R a w → R' a w) : OutW P o a w R' := Oper.wp_mono hr h

/-- An outcome is a put, with other deferred calls perhaps. -/
theorem OutW.put {o : Oper} {a b : Act} {w : World} {R R' : Act → World → Prop} (he : execOp b.eval o = execOp a.eval o)
    (hr : ∀ (u : Value) (ds : List Deferred → List Deferred) w', R { (a.put o.dst u) with defers := ds a.defers } w' → R' { (b.put o.dst u) with defers := ds b.defers } w') (h : OutW P o a w R) : OutW P o b w R' := by
  have h1 : ∀ (c : Act) (u : Value), (c.put o.dst u : Act) = { (c.put o.dst u) with defers := id c.defers } := fun c u => by
    unfold Act.put
    cases o.dst <;> rfl
  unfold OutW Oper.wp at h ⊢
  rw [he]
  generalize (execOp a.eval o).run P w = res at h
  cases res with
  | halt x w' => cases x <;> simp only [Oper.upon] at h
  | ok n w' =>
    cases n <;> simp only [Oper.upon] at h ⊢
    case value v => rw [h1]; rw [h1] at h; exact hr v id w' h
    case skip => rw [h1]; rw [h1] at h; exact hr undef id w' h
    case defer d =>
      have h2 : ∀ (c : Act), ({ c with defers := d :: c.defers } : Act).put o.dst undef = { (c.put o.dst undef) with defers := (fun l => d :: l) c.defers } := fun c => by
        unfold Act.put
        cases o.dst <;> rfl
      rw [h2]
      rw [h2] at h
      exact hr undef (fun l => d :: l) w' h
    case enter f args =>
      refine h.mono fun e w'' he => ?_
      cases e with
      | returned v => dsimp only at he ⊢; rw [h1]; rw [h1] at he; exact hr v id w'' he
      | panicked ch => exact he.elim
      | outgrown => exact he
    case row rw0 args => exact h.mono fun v w'' he => by rw [h1]; rw [h1] at he; exact hr v id w'' he

/-- There is an outcome. -/
theorem OutW.some {o : Oper} {a : Act} {w : World} {R : Act → World → Prop} (h : OutW P o a w R) : ∃ (u : Value) (ds : List Deferred → List Deferred) (w' : World), R { (a.put o.dst u) with defers := ds a.defers } w' := by
  have h1 : ∀ (c : Act) (u : Value), (c.put o.dst u : Act) = { (c.put o.dst u) with defers := id c.defers } := fun c u => by
    unfold Act.put
    cases o.dst <;> rfl
  unfold OutW Oper.wp at h
  generalize (execOp a.eval o).run P w = res at h
  cases res with
  | halt x w' => cases x <;> simp only [Oper.upon] at h
  | ok n w' =>
    cases n <;> simp only [Oper.upon] at h
    case value v => rw [h1] at h; exact ⟨v, id, w', h⟩
    case skip => rw [h1] at h; exact ⟨undef, id, w', h⟩
    case defer d =>
      have h2 : ∀ (c : Act), ({ c with defers := d :: c.defers } : Act).put o.dst undef = { (c.put o.dst undef) with defers := (fun l => d :: l) c.defers } := fun c => by
        unfold Act.put
        cases o.dst <;> rfl
      rw [h2] at h
      exact ⟨undef, (fun l => d :: l), w', h⟩
    case enter f args =>
      obtain ⟨e, w'', fr, he, _⟩ := h []
      cases e with
      | returned v => dsimp only at he; rw [h1] at he; exact ⟨v, id, w'', he⟩
      | panicked ch => exact he.elim
      | outgrown => obtain ⟨_, _, hh⟩ := he; exact hh.elim
    case row rw0 args =>
      obtain ⟨v, w'', he, _⟩ := h (Frame.enter P 0 #[] .normal) []
      rw [h1] at he
      exact ⟨v, id, w'', he⟩

/-- What comes of an operation, in every world of a class. -/
def stepM (P : Program) (Wd Gr Dr : Oper → Bool) (ops : Array Oper) (o : Oper) (K : Act → (World → Prop) → Prop) (a : Act) (C : World → Prop) : Prop :=
  (Region.wanted o (yielded ops a.tmps) = true ∧ Wd o = true ∧ ∀ w, C w → OutW P o a w fun a' w' => ∃ C' : World → Prop, C' w' ∧ (Gr o = true → ∀ x, C' x → C x) ∧ K a' C') ∨
  (Region.wanted o (yielded ops a.tmps) = true ∧ Wd o = false ∧ ∃ v, (∀ w, (memOp o = false ∨ loadOp o = true ∧ C w) → (execOp a.eval o).run P w = .ok (.value v) w) ∧ (∀ w, C w → o.quietAt P a C w v) ∧ K (a.put o.dst v) C) ∨
  (Region.wanted o (yielded ops a.tmps) = false ∧ K (a.put o.dst undef) C) ∨
  (Region.wanted o (yielded ops a.tmps) = true ∧ Wd o = false ∧ Dr o = true ∧ ∀ w, C w → ∃ v w', (execOp a.eval o).run P w = .ok (.value v) w' ∧ C w' ∧ K (a.put o.dst v) C)

theorem stepM.mono {o : Oper} {K K' : Act → (World → Prop) → Prop} {a : Act} {C : World → Prop} (hne : ∃ w, C w) (hk : ∀ a' C', (∃ w, C' w) → K a' C' → K' a' C') (h : stepM P Wd Gr Dr ops o K a C) : stepM P Wd Gr Dr ops o K' a C := by
  rcases h with ⟨h1, h2, h3⟩ | ⟨h1, h2, v, h3, h4, h5⟩ | ⟨h1, h2⟩ | ⟨h1, h2, h3, h4⟩
  · exact .inl ⟨h1, h2, fun w hw => (h3 w hw).mono fun a' w' ⟨C', g1, gi, g2⟩ => ⟨C', g1, gi, hk a' C' ⟨w', g1⟩ g2⟩⟩
  · exact .inr (.inl ⟨h1, h2, v, h3, h4, hk _ _ hne h5⟩)
  · exact .inr (.inr (.inl ⟨h1, hk _ _ hne h2⟩))
  · exact .inr (.inr (.inr ⟨h1, h2, h3, fun w hw => by
      obtain ⟨v, w', r1, r2, r3⟩ := h4 w hw
      exact ⟨v, w', r1, r2, hk _ _ hne r3⟩⟩))

theorem stepM.some {o : Oper} {K : Act → (World → Prop) → Prop} {a : Act} {C : World → Prop} (hne : ∃ w, C w) (h : stepM P Wd Gr Dr ops o K a C) : ∃ a' C', (∃ w, C' w) ∧ K a' C' := by
  rcases h with ⟨h1, h2, h3⟩ | ⟨h1, h2, v, h3, h4, h5⟩ | ⟨h1, h2⟩ | ⟨h1, h2, h3, h4⟩
  · obtain ⟨w, hw⟩ := hne
    obtain ⟨u, ds, w', C', g1, _, g2⟩ := (h3 w hw).some
    exact ⟨_, C', ⟨w', g1⟩, g2⟩
  · exact ⟨_, _, hne, h5⟩
  · exact ⟨_, _, hne, h2⟩
  · obtain ⟨w, hw⟩ := hne
    obtain ⟨v, w', _, _, r3⟩ := h4 w hw
    exact ⟨_, _, ⟨w, hw⟩, r3⟩

/-- The walk of the text's order. -/
def wpMix (P : Program) (Wd Gr Dr : Oper → Bool) (ops : Array Oper) (Q : Exit → Act → World → Prop) : List Oper → Act → (World → Prop) → Prop
  | [], a, C => ∀ w, C w → Q .normal a w
  | o :: rest, a, C => stepM P Wd Gr Dr ops o (wpMix P Wd Gr Dr ops Q rest) a C

def mOp (P : Program) (Wd Gr Dr : Oper → Bool) (ops : Array Oper) (i : Nat) (K : Act → (World → Prop) → Prop) (a : Act) (C : World → Prop) : Prop :=
  match ops[i]? with
  | none => K a C
  | some o => stepM P Wd Gr Dr ops o K a C

def wpAnyM (P : Program) (Wd Gr Dr : Oper → Bool) (ops : Array Oper) (Q : Exit → Act → World → Prop) : Nat → Array Bool → Act → (World → Prop) → Prop
  | 0, listed, a, C => Region.ready .any ops listed = [] ∧ ∀ w, C w → Q .normal a w
  | f + 1, listed, a, C => (Region.ready .any ops listed = [] → ∀ w, C w → Q .normal a w) ∧
    ∀ i ∈ Region.ready .any ops listed, mOp P Wd Gr Dr ops i (wpAnyM P Wd Gr Dr ops Q f (listed.setIfInBounds i true)) a C

theorem wpAny_of_M {Q : Exit → Act → World → Prop} : ∀ (f : Nat) (listed : Array Bool) (a : Act) (C : World → Prop) (w : World), C w → wpAnyM P Wd Gr Dr ops Q f listed a C → wpAny P .any ops Q f listed a w
  | 0, _, _, _, w, hw, h => ⟨h.1, h.2 w hw⟩
  | f + 1, listed, a, C, w, hw, h => by
    refine ⟨fun h0 => h.1 h0 w hw, fun i hi => ?_⟩
    have h1 := h.2 i hi
    unfold mOp at h1
    unfold wpOp
    split
    · rename_i ho
      rw [ho] at h1
      exact wpAny_of_M f _ _ _ _ hw h1
    · rename_i o ho
      rw [ho] at h1
      rcases h1 with ⟨g1, g2, g3⟩ | ⟨g1, g2, v, g3, g4, g5⟩ | ⟨g1, g2⟩ | ⟨g1, g2, g3, g4⟩
      · rw [if_pos g1]
        refine .inl ?_
        have := (g3 w hw).mono (R' := fun a' w' => wpAny P .any ops Q f (listed.setIfInBounds i true) a' w') fun a' w' ⟨C', k1, _, k2⟩ => wpAny_of_M f _ _ _ _ k1 k2
        unfold OutW Oper.wp at this
        unfold Oper.wp
        generalize (execOp a.eval o).run P w = res at this
        cases res with
        | halt x w' => cases x <;> simp only [Oper.upon] at this
        | ok n w' =>
          cases n <;> simp only [Oper.upon] at this ⊢
          case value v => exact this
          case skip => exact this
          case defer d => exact this
          case enter f args =>
            refine this.mono fun e w'' he => ?_
            cases e with
            | returned v => exact he
            | panicked ch => exact he.elim
            | outgrown => obtain ⟨_, _, hh⟩ := he; exact hh.elim
          case row rw0 args => exact this
      · rw [if_pos g1]
        exact .inl (Oper.wp_of_quiet (C := C) (K := fun a' => wpAnyM P Wd Gr Dr ops Q f (listed.setIfInBounds i true) a' C) hw (fun a' w' hw' h' => wpAny_of_M f _ _ _ _ hw' h') ⟨v, g4, g5⟩)
      · rw [if_neg (by simp [g1])]
        exact wpAny_of_M f _ _ _ _ hw g2
      · rw [if_pos g1]
        refine .inl ?_
        obtain ⟨v, w', r1, r2, r3⟩ := g4 w hw
        unfold Oper.wp
        rw [r1]
        exact wpAny_of_M f _ _ _ _ r2 r3

theorem Act.put_with (a : Act) (d : Option Tmp) (v : Value) (ds : List Deferred) : ({ a with defers := ds } : Act).put d v = { (a.put d v) with defers := ds } := by
  unfold Act.put
  cases d <;> rfl

theorem defers_put (a : Act) (d : Option Tmp) (v : Value) : (a.put d v).defers = a.defers := by
  unfold Act.put
  cases d <;> rfl

theorem loadOp_mem {o : Oper} (h : loadOp o = true) : memOp o = true := by
  unfold loadOp at h
  unfold memOp
  split at h
  · rename_i e
    rw [e]
  · cases h

/-- Two operations that may change places. -/
theorem stepM_swap {oi oj : Oper} {K : Act → (World → Prop) → Prop} {a : Act} {C : World → Prop} (hap : oi.apart ops oj = true) (hco : compat Wd Gr Dr oi oj = true) (hsi : ∀ cs b, oi.op ≠ .select cs b) (hsj : ∀ cs b, oj.op ≠ .select cs b)
    (hne : ∃ w, C w) (h : stepM P Wd Gr Dr ops oi (stepM P Wd Gr Dr ops oj K) a C) : stepM P Wd Gr Dr ops oj (stepM P Wd Gr Dr ops oi K) a C := by
  obtain ⟨g1, g2, g3⟩ := Oper.apart_spec hap
  have ej : ∀ (b : Act) v, execOp (b.put oi.dst v).eval oj = execOp b.eval oj := fun b v => execOp_put oj hsj b oi.dst v g1
  have ei : ∀ (b : Act) u, execOp (b.put oj.dst u).eval oi = execOp b.eval oi := fun b u => execOp_put oi hsi b oj.dst u g3
  have wj : ∀ (b : Act) v, Region.wanted oj (yielded ops (b.put oi.dst v).tmps) = Region.wanted oj (yielded ops b.tmps) := fun b v => wanted_put oj b oi.dst v g1
  have wi : ∀ (b : Act) u, Region.wanted oi (yielded ops (b.put oj.dst u).tmps) = Region.wanted oi (yielded ops b.tmps) := fun b u => wanted_put oi b oj.dst u g3
  have qj : ∀ {C : World → Prop} {w : World} {v v' : Value}, oj.quietAt P (a.put oi.dst v) C w v' ↔ oj.quietAt P a C w v' := by intro C w v v'; unfold Oper.quietAt; rw [ej]
  have qi : ∀ {C : World → Prop} {w : World} {u v' : Value}, oi.quietAt P (a.put oj.dst u) C w v' ↔ oi.quietAt P a C w v' := by intro C w u v'; unfold Oper.quietAt; rw [ei]
  have hcm : ∀ (v u : Value) (ds : List Deferred), ({ ((a.put oi.dst v).put oj.dst u) with defers := ds } : Act) = ({ (a.put oj.dst u) with defers := ds } : Act).put oi.dst v := fun v u ds =>
    (congrArg (fun b : Act => ({ b with defers := ds } : Act)) (Act.put_comm a v u g2)).trans (Act.put_with (a.put oj.dst u) oi.dst v ds).symm
  have hcm' : ∀ (v u : Value) (ds : List Deferred), ({ ((a.put oj.dst u).put oi.dst v) with defers := ds } : Act) = ({ (a.put oi.dst v) with defers := ds } : Act).put oj.dst u := fun v u ds =>
    (congrArg (fun b : Act => ({ b with defers := ds } : Act)) (Act.put_comm a v u g2).symm).trans (Act.put_with (a.put oi.dst v) oj.dst u ds).symm
  unfold compat at hco
  simp only [Bool.or_eq_true, Bool.and_eq_true, Bool.not_eq_true'] at hco
  rcases h with ⟨a1, a2, a3⟩ | ⟨a1, a2, v, a3, a4, a5⟩ | ⟨a1, a2⟩ | ⟨a1, a2, ad, a4⟩
  · -- oi is wide: oj is pure
    have hpj : (Wd oj = false ∧ memOp oj = false) ∧ Dr oj = false := by
      rcases hco with (⟨⟨c1, _⟩, _⟩ | ⟨_, c2⟩) | ⟨⟨⟨c1, _⟩, _⟩, _⟩
      · rw [a2] at c1; cases c1
      · exact c2
      · rw [a2] at c1; cases c1
    obtain ⟨hpj, hdj⟩ := hpj
    obtain ⟨w0, hw0⟩ := hne
    obtain ⟨u0, ds0, w1, C1, k1, _, k2⟩ := (a3 w0 hw0).some
    have eq1 : ∀ (u : Value) (ds : List Deferred), execOp ({ (a.put oi.dst u) with defers := ds } : Act).eval oj = execOp a.eval oj := fun u ds => (show _ = execOp (a.put oi.dst u).eval oj from rfl).trans (ej a u)
    have wq1 : ∀ (u : Value) (ds : List Deferred), Region.wanted oj (yielded ops ({ (a.put oi.dst u) with defers := ds } : Act).tmps) = Region.wanted oj (yielded ops a.tmps) := fun u ds => wj a u
    have wi' : ∀ (u : Value), Region.wanted oi (yielded ops (a.put oj.dst u).tmps) = true := fun u => by rw [wi]; exact a1
    rcases k2 with ⟨_, b2, _⟩ | ⟨b1, b2, x, b3, b4, b5⟩ | ⟨b1, b2⟩ | ⟨_, _, b3, _⟩
    · rw [hpj.1] at b2; cases b2
    · rw [wq1] at b1
      rw [eq1] at b3
      have b3 := fun w => b3 w (.inl hpj.2)
      refine .inr (.inl ⟨b1, hpj.1, x, fun w _ => b3 w, fun w hw => ?_, .inl ⟨wi' x, a2, fun w hw => ?_⟩⟩)
      · unfold Oper.quietAt
        rw [b3 w]
        exact ⟨rfl, rfl⟩
      · refine (a3 w hw).put (ei a x) fun u ds w' ⟨C', q1, qi, q2⟩ => ⟨C', q1, qi, ?_⟩
        rcases q2 with ⟨_, r2, _⟩ | ⟨r1, r2, y, r3, r4, r5⟩ | ⟨r1, r2⟩ | ⟨_, _, r3, _⟩
        · rw [hpj.1] at r2; cases r2
        · rw [eq1] at r3
          have := (r3 w (.inl hpj.2)).symm.trans (b3 w)
          have hy : y = x := by
            injection this with this _
            injection this
          subst hy
          rw [defers_put, hcm']
          exact r5
        · rw [wq1, b1] at r1; cases r1
        · rw [hdj] at r3; cases r3
    · rw [wq1] at b1
      refine .inr (.inr (.inl ⟨b1, .inl ⟨wi' undef, a2, fun w hw => ?_⟩⟩))
      refine (a3 w hw).put (ei a undef) fun u ds w' ⟨C', q1, qi, q2⟩ => ⟨C', q1, qi, ?_⟩
      rcases q2 with ⟨_, r2, _⟩ | ⟨r1, r2, y, r3, r4, r5⟩ | ⟨r1, r2⟩ | ⟨_, _, r3, _⟩
      · rw [hpj.1] at r2; cases r2
      · rw [wq1, b1] at r1; cases r1
      · rw [defers_put, hcm']
        exact r2
      · rw [hdj] at r3; cases r3
    · rw [hdj] at b3; cases b3
  · -- oi is quiet
    rcases a5 with ⟨b1, b2, b3⟩ | ⟨b1, b2, u, b3, b4, b5⟩ | ⟨b1, b2⟩ | ⟨b1, b2, b3, b4⟩
    · have hpi : memOp oi = false ∨ (loadOp oi = true ∧ Gr oj = true) := by
        rcases hco with (⟨⟨_, c1⟩, _⟩ | ⟨c1, _⟩) | ⟨⟨_, c1⟩, _⟩
        · rw [b2] at c1; cases c1
        · rw [a2] at c1; cases c1
        · exact c1
      rw [wj] at b1
      refine .inl ⟨b1, b2, fun w hw => ?_⟩
      refine (b3 w hw).put (ej a v).symm fun u ds w' ⟨C', q1, qi, q2⟩ => ⟨C', q1, qi, .inr (.inl ⟨?_, a2, v, fun w'' hm => ?_, fun w'' hw'' => ?_, ?_⟩)⟩
      · exact (wi a u).trans a1
      · have := a3 w'' (hm.imp id fun h => ⟨h.1, by
          rcases hpi with hp | hp
          · rw [loadOp_mem h.1] at hp; cases hp
          · exact qi hp.2 w'' h.2⟩)
        rw [← ei a u] at this
        exact this
      · have := a3 w'' (hpi.imp id fun h => ⟨h.1, qi h.2 w'' hw''⟩)
        rw [← ei a u] at this
        unfold Oper.quietAt
        rw [show (execOp ({ (a.put oj.dst u) with defers := ds a.defers } : Act).eval oi).run P w'' = .ok (.value v) w'' from this]
        exact ⟨rfl, rfl⟩
      · rw [← hcm, ← defers_put a oi.dst v]
        exact q2
    · rw [wj] at b1
      rw [ej] at b3
      refine .inr (.inl ⟨b1, b2, u, b3, fun w hw => qj.1 (b4 w hw), .inr (.inl ⟨(wi a u).trans a1, a2, v, fun w hm => by rw [ei]; exact a3 w hm, fun w hw => qi.2 (a4 w hw), ?_⟩)⟩)
      rw [← Act.put_comm a v u g2]
      exact b5
    · rw [wj] at b1
      refine .inr (.inr (.inl ⟨b1, .inr (.inl ⟨(wi a undef).trans a1, a2, v, fun w hm => by rw [ei]; exact a3 w hm, fun w hw => qi.2 (a4 w hw), ?_⟩)⟩))
      rw [← Act.put_comm a v undef g2]
      exact b2
    · rw [wj] at b1
      refine .inr (.inr (.inr ⟨b1, b2, b3, fun w hw => ?_⟩))
      obtain ⟨u, w', r1, r2, r3⟩ := b4 w hw
      rw [ej] at r1
      refine ⟨u, w', r1, r2, .inr (.inl ⟨(wi a u).trans a1, a2, v, fun w hm => by rw [ei]; exact a3 w hm, fun w hw => qi.2 (a4 w hw), ?_⟩)⟩
      rw [← Act.put_comm a v u g2]
      exact r3
  · rcases a2 with ⟨b1, b2, b3⟩ | ⟨b1, b2, u, b3, b4, b5⟩ | ⟨b1, b2⟩ | ⟨b1, b2, b3, b4⟩
    · rw [wj] at b1
      refine .inl ⟨b1, b2, fun w hw => ?_⟩
      refine (b3 w hw).put (ej a undef).symm fun u ds w' ⟨C', q1, qi, q2⟩ => ⟨C', q1, qi, .inr (.inr (.inl ⟨(wi a u).trans a1, ?_⟩))⟩
      rw [← hcm, ← defers_put a oi.dst undef]
      exact q2
    · rw [wj] at b1
      rw [ej] at b3
      refine .inr (.inl ⟨b1, b2, u, b3, fun w hw => qj.1 (b4 w hw), .inr (.inr (.inl ⟨(wi a u).trans a1, ?_⟩))⟩)
      rw [← Act.put_comm a undef u g2]
      exact b5
    · rw [wj] at b1
      refine .inr (.inr (.inl ⟨b1, .inr (.inr (.inl ⟨(wi a undef).trans a1, ?_⟩))⟩))
      rw [← Act.put_comm a undef undef g2]
      exact b2
    · rw [wj] at b1
      refine .inr (.inr (.inr ⟨b1, b2, b3, fun w hw => ?_⟩))
      obtain ⟨u, w', r1, r2, r3⟩ := b4 w hw
      rw [ej] at r1
      refine ⟨u, w', r1, r2, .inr (.inr (.inl ⟨(wi a u).trans a1, ?_⟩))⟩
      rw [← Act.put_comm a undef u g2]
      exact r3
  · -- oi draws
    have hcj : Wd oj = false ∧ (memOp oj = false ∨ loadOp oj = true) := by
      rcases hco with (⟨⟨_, c1⟩, c2⟩ | ⟨c1, _⟩) | ⟨⟨⟨_, c1⟩, _⟩, _⟩
      · rcases c2 with (c2 | c2) | c2
        · rw [ad] at c2; cases c2
        · exact ⟨c1, .inl c2⟩
        · exact ⟨c1, .inr c2⟩
      · rw [a2] at c1; cases c1
      · rw [ad] at c1; cases c1
    have val : ∀ {x y : Value} {w1 w2 w3 : World} {e : Sem Next}, e.run P w1 = .ok (.value x) w2 → e.run P w1 = .ok (.value y) w3 → x = y := fun h1 h2 => by
      have := h1.symm.trans h2
      injection this with this _
      injection this
    have inner : ∀ {v : Value}, stepM P Wd Gr Dr ops oj K (a.put oi.dst v) C → (Region.wanted oj (yielded ops a.tmps) = false ∧ K ((a.put oi.dst v).put oj.dst undef) C) ∨
        (Region.wanted oj (yielded ops a.tmps) = true ∧ ∀ w, C w → ∃ u w', (execOp a.eval oj).run P w = .ok (.value u) w' ∧ C w' ∧ K ((a.put oi.dst v).put oj.dst u) C) := by
      intro v h
      rcases h with ⟨_, b2, _⟩ | ⟨b1, b2, x, b3, b4, b5⟩ | ⟨b1, b2⟩ | ⟨b1, b2, b3, b4⟩
      · rw [hcj.1] at b2; cases b2
      · rw [wj] at b1
        rw [ej] at b3
        exact .inr ⟨b1, fun w hw => ⟨x, w, b3 w (hcj.2.imp id fun h => ⟨h, hw⟩), hw, b5⟩⟩
      · rw [wj] at b1
        exact .inl ⟨b1, b2⟩
      · rw [wj] at b1
        refine .inr ⟨b1, fun w hw => ?_⟩
        obtain ⟨u, w', r1, r2, r3⟩ := b4 w hw
        rw [ej] at r1
        exact ⟨u, w', r1, r2, r3⟩
    have back : ∀ (u : Value), (∀ w, C w → ∃ v w', (execOp a.eval oi).run P w = .ok (.value v) w' ∧ C w' ∧ K ((a.put oi.dst v).put oj.dst u) C) → stepM P Wd Gr Dr ops oi K (a.put oj.dst u) C := fun u h => by
      refine .inr (.inr (.inr ⟨(wi a u).trans a1, a2, ad, fun w hw => ?_⟩))
      obtain ⟨v, w', r1, r2, r3⟩ := h w hw
      rw [ei]
      refine ⟨v, w', r1, r2, ?_⟩
      rw [← Act.put_comm a v u g2]
      exact r3
    have same : ∀ {u : Value} {w1 w2 : World}, C w1 → (execOp a.eval oj).run P w1 = .ok (.value u) w2 → Region.wanted oj (yielded ops a.tmps) = true → stepM P Wd Gr Dr ops oi K (a.put oj.dst u) C := fun {u w1 w2} hc hr hw1 => by
      refine back u fun w hw => ?_
      obtain ⟨v, w', r1, r2, r3⟩ := a4 w hw
      rcases inner r3 with ⟨k1, _⟩ | ⟨_, k2⟩
      · rw [hw1] at k1; cases k1
      · obtain ⟨u', w'', q1, _, q3⟩ := k2 w1 hc
        rw [val q1 hr] at q3
        exact ⟨v, w', r1, r2, q3⟩
    obtain ⟨w0, hw0⟩ := hne
    obtain ⟨v0, w1, k1, k2, k3⟩ := a4 w0 hw0
    rcases k3 with ⟨_, b2, _⟩ | ⟨b1, b2, x, b3, b4, b5⟩ | ⟨b1, b2⟩ | ⟨b1, b2, b3, b4⟩
    · rw [hcj.1] at b2; cases b2
    · rw [wj] at b1
      rw [ej] at b3
      exact .inr (.inl ⟨b1, b2, x, b3, fun w hw => qj.1 (b4 w hw), same hw0 (b3 w0 (hcj.2.imp id fun h => ⟨h, hw0⟩)) b1⟩)
    · rw [wj] at b1
      refine .inr (.inr (.inl ⟨b1, back undef fun w hw => ?_⟩))
      obtain ⟨v, w', r1, r2, r3⟩ := a4 w hw
      rcases inner r3 with ⟨_, k2⟩ | ⟨k1, _⟩
      · exact ⟨v, w', r1, r2, k2⟩
      · rw [b1] at k1; cases k1
    · rw [wj] at b1
      refine .inr (.inr (.inr ⟨b1, b2, b3, fun w hw => ?_⟩))
      obtain ⟨u, w', r1, r2, _⟩ := b4 w hw
      rw [ej] at r1
      exact ⟨u, w', r1, r2, same hw r1 b1⟩

/-- An operation that may come up now may be taken first. -/
theorem wpAnyM_first {Q : Exit → Act → World → Prop} {i : Nat} {oi : Oper} (hi : ops[i]? = some oi) (hsel : ∀ (j : Nat) (o : Oper) cs b, ops[j]? = some o → o.op ≠ .select cs b) :
    ∀ (f : Nat) (listed : Array Bool) (a : Act) (C : World → Prop), Closed ops listed →
      (∀ (j : Nat) oj, ops[j]? = some oj → j ≠ i → listed.getD j true = false → ¬ Dep ops i j → oi.apart ops oj = true ∧ compat Wd Gr Dr oi oj = true) →
      i ∈ Region.ready .any ops listed → (∃ w, C w) → stepM P Wd Gr Dr ops oi (wpAnyM P Wd Gr Dr ops Q f (listed.setIfInBounds i true)) a C → wpAnyM P Wd Gr Dr ops Q (f + 1) listed a C := by
  intro f
  induction f with
  | zero =>
    intro listed a C hcl _ hr hne H
    refine ⟨fun h => (by rw [h] at hr; cases hr), fun j hj => ?_⟩
    by_cases hji : j = i
    · subst hji
      unfold mOp
      simp only [hi]
      exact H
    · have := ready_mono hj hji
      obtain ⟨a', C', _, k2⟩ := H.some hne
      rw [k2.1] at this
      cases this
  | succ f ih =>
    intro listed a C hcl hfree hr hne H
    refine ⟨fun h => (by rw [h] at hr; cases hr), fun j hj => ?_⟩
    by_cases hji : j = i
    · subst hji
      unfold mOp
      simp only [hi]
      exact H
    · obtain ⟨hjun, oj, hoj, hall⟩ := mem_ready.1 hj
      have hnot : ¬ Dep ops i j := fun hd => by
        have h1 := dep_listed hcl hd (.inr hj)
        have h0 := (mem_ready.1 hr).1
        rcases Nat.lt_or_ge i listed.size with h' | h'
        · simp [h'] at h0 h1; rw [h0] at h1; cases h1
        · simp [Array.getElem?_eq_none h'] at h1
      obtain ⟨hap, hco⟩ := hfree j oj hoj hji hjun hnot
      have h1 : stepM P Wd Gr Dr ops oi (stepM P Wd Gr Dr ops oj (wpAnyM P Wd Gr Dr ops Q f ((listed.setIfInBounds i true).setIfInBounds j true))) a C := H.mono hne fun a' C' _ hk => by
        have := hk.2 j (ready_mono hj hji)
        unfold mOp at this
        simp only [hoj] at this
        exact this
      have h2 := stepM_swap hap hco (fun cs b => hsel i oi cs b hi) (fun cs b => hsel j oj cs b hoj) hne h1
      unfold mOp
      simp only [hoj]
      refine h2.mono hne fun a' C' hne' hk => ih (listed.setIfInBounds j true) a' C' (hcl.set hj) (fun k ok hk hki hun hno => hfree k ok hk hki ?_ hno) (ready_mono hr (Ne.symm hji)) hne' ?_
      · by_cases hjk : j = k
        · subst hjk; exact hjun
        · rw [getD_set_ne true hjk] at hun; exact hun
      · rw [Array.setIfInBounds_comm _ _ hji]
        exact hk

theorem mixFree_spec {listed : Array Bool} {k : Nat} (h : mixFree Wd Gr Dr ops listed k = true) : ∀ (j : Nat) oj ok, ops[k]? = some ok → ops[j]? = some oj → j ≠ k → listed.getD j true = false → ¬ Dep ops k j → ok.apart ops oj = true ∧ compat Wd Gr Dr ok oj = true := by
  intro j oj ok hk hj hne hun hd
  unfold mixFree at h
  simp only [hk] at h
  have hlt : j < ops.size := (Array.getElem?_eq_some_iff.1 hj).1
  have := List.all_eq_true.1 h j (List.mem_range.2 hlt)
  simp only [hj, Bool.or_eq_true, Bool.and_eq_true, beq_iff_eq] at this
  rcases this with ((h1 | h1) | h1) | h1
  · rw [hun] at h1; cases h1
  · exact absurd h1 hne
  · exact absurd (depsOf_spec h1) hd
  · exact h1

theorem wpAnyM_lex {Q : Exit → Act → World → Prop} (hs : Region.noSelect ops = true) : ∀ (l : List Oper) (k : Nat) (listed : Array Bool) (a : Act) (C : World → Prop), (∀ j, l[j]? = ops[k + j]?) →
    Closed ops listed → mixFrom Wd Gr Dr ops l.length k listed = true → (∃ w, C w) → wpMix P Wd Gr Dr ops Q l a C → wpAnyM P Wd Gr Dr ops Q l.length listed a C
  | [], _, _, _, _, _, _, hB, _, h => ⟨by simpa [mixFrom] using hB, h⟩
  | o :: l, k, listed, a, C, hl, hcl, hB, hne, h => by
    have h0 : ops[k]? = some o := by simpa using (hl 0).symm
    simp only [List.length_cons, mixFrom, Bool.and_eq_true] at hB
    obtain ⟨⟨hr, hf⟩, hB'⟩ := hB
    have hr' : k ∈ Region.ready .any ops listed := by simpa using hr
    exact wpAnyM_first h0 (Region.noSelect_spec hs) l.length listed a C hcl (fun j oj hj hji hun hd => mixFree_spec hf j oj o h0 hj hji hun hd) hr' hne
      (stepM.mono hne (fun a' C' hne' hk => wpAnyM_lex hs l (k + 1) _ _ _ (fun j => by have := hl (j + 1); simpa [Nat.add_assoc, Nat.add_comm 1 j] using this) (hcl.set hr') hB' hne' hk) h)

theorem wp_region_mix {id : Nat} {Q : Exit → Act → World → Prop} {a : Act} {w : World} {C : World → Prop} (hm : P.follows .mixedOrders = true) (hB : mixB Wd Gr Dr ops = true) (hC : C { w with drawn := w.drawn + 1 })
    (h : wpMix P Wd Gr Dr ops Q ops.toList a C) : (Code.region id ops true).wp P Q a w := by
  simp only [mixB, Bool.and_eq_true] at hB
  refine wp_region_any hm (wpAny_of_M (Wd := Wd) (Gr := Gr) (Dr := Dr) _ _ _ C _ hC ?_)
  have := wpAnyM_lex hB.1 ops.toList 0 (Array.replicate ops.size false) a C (by simp) (fun j oj _ hl => by
    rw [Array.getD_eq_getD_getElem?, Array.getElem?_replicate] at hl
    split at hl <;> simp at hl) (by simpa using hB.2) ⟨_, hC⟩ h
  simpa using this

end

end Go.Proofs.Ytmdicmdodbndgaa.Fw
