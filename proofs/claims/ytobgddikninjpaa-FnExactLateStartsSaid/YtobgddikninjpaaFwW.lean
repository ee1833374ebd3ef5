/-
  Regions that draw their order and hold stores: one walk of the text's order serves every order. No condition.
-/
import Derived.Test.YtobgddikninjpaaFwB
import Derived.Tactics
namespace Go.Proofs.Ytobgddikninjpaa.Fw
open Go Go.RowKit

section
variable {P : Program} {ops : Array Oper}

/-- j waits for k, by whatever chain. -/
inductive Dep (ops : Array Oper) (k : Nat) : Nat → Prop
  | one {j : Nat} {oj : Oper} {e : Edge} (h : ops[j]? = some oj) (he : e ∈ oj.after) (hb : Region.binds .any e = true) (hk : e.on = k) : Dep ops k j
  | more {j : Nat} {oj : Oper} {e : Edge} (h : ops[j]? = some oj) (he : e ∈ oj.after) (hb : Region.binds .any e = true) (hd : Dep ops k e.on) : Dep ops k j

theorem depsOf_spec {k j : Nat} (h : (depsOf ops k).getD j false = true) : Dep ops k j := by
  have key : ∀ (l : List Nat) (acc : Array Bool), (∀ j, acc.getD j false = true → Dep ops k j) → ∀ j, (l.foldl (depStep ops k) acc).getD j false = true → Dep ops k j := by
    intro l
    induction l with
    | nil => intro acc hacc j hj; exact hacc j hj
    | cons i l ih =>
      intro acc hacc j hj
      refine ih (depStep ops k acc i) (fun j hj => ?_) j hj
      unfold depStep at hj
      split at hj
      · rename_i oi hoi
        by_cases hij : i = j
        · subst hij
          by_cases hlt : i < acc.size
          · rw [Array.getD_eq_getD_getElem?, Array.getElem?_setIfInBounds_self_of_lt hlt] at hj
            simp only [Option.getD_some] at hj
            obtain ⟨e, he, hb⟩ := Array.any_eq_true'.1 hj
            simp only [Bool.and_eq_true, Bool.or_eq_true, beq_iff_eq] at hb
            rcases hb.2 with h1 | h1
            · exact .one hoi he hb.1 h1
            · exact .more hoi he hb.1 (hacc _ h1)
          · rw [Array.getD_eq_getD_getElem?, Array.getElem?_eq_none (by simp; omega)] at hj
            simp at hj
        · rw [Array.getD_eq_getD_getElem?, Array.getElem?_setIfInBounds_ne hij, ← Array.getD_eq_getD_getElem?] at hj
          exact hacc j hj
      · exact hacc j hj
  exact key _ _ (fun j hj => by
    rw [Array.getD_eq_getD_getElem?, Array.getElem?_replicate] at hj
    split at hj <;> simp at hj) j h

/-- Whoever has come up has all behind it that it waits for. -/
def Closed (ops : Array Oper) (listed : Array Bool) : Prop :=
  ∀ (j : Nat) oj, ops[j]? = some oj → listed.getD j false = true → ∀ e ∈ oj.after, Region.binds .any e = true → listed.getD e.on false = true

theorem Closed.set {listed : Array Bool} (h : Closed ops listed) {i : Nat} (hi : i ∈ Region.ready .any ops listed) : Closed ops (listed.setIfInBounds i true) := by
  obtain ⟨_, oi, hoi, hall⟩ := mem_ready.1 hi
  intro j oj hj hl e he hb
  by_cases hij : i = j
  · subst hij
    have : oj = oi := Option.some.inj (hj.symm.trans hoi)
    subst this
    exact getD_set_true (hall e he hb)
  · rw [getD_set_ne false hij] at hl
    exact getD_set_true (h j oj hj hl e he hb)

theorem dep_listed {listed : Array Bool} (h : Closed ops listed) {k j : Nat} (hd : Dep ops k j) (hj : listed.getD j false = true ∨ j ∈ Region.ready .any ops listed) : listed.getD k false = true := by
  have step : ∀ {j : Nat} {oj : Oper} {e : Edge}, ops[j]? = some oj → e ∈ oj.after → Region.binds .any e = true → (listed.getD j false = true ∨ j ∈ Region.ready .any ops listed) → listed.getD e.on false = true := by
    intro j oj e ho he hb hj
    rcases hj with hj | hj
    · exact h j oj ho hj e he hb
    · obtain ⟨_, oi, hoi, hall⟩ := mem_ready.1 hj
      have : oj = oi := Option.some.inj (ho.symm.trans hoi)
      subst this
      exact hall e he hb
  induction hd with
  | one ho he hb hk => subst hk; exact step ho he hb hj
  | more ho he hb _ ih => exact ih (.inl (step ho he hb hj))

/-- What comes of an operation, in every world of a class. -/
def OutM (P : Program) (ops : Array Oper) (o : Oper) (a : Act) (C : World → Prop) (v : Value) (C' : World → Prop) : Prop :=
  (Region.wanted o (yielded ops a.tmps) = true ∧ storeOp o = true ∧ v = undef ∧ ∀ w, C w → ∃ w', (execOp a.eval o).run P w = .ok .skip w' ∧ C' w') ∨
  (Region.wanted o (yielded ops a.tmps) = true ∧ storeOp o = false ∧ C' = C ∧ ∀ w, C w → o.quietAt P a C w v) ∨
  (Region.wanted o (yielded ops a.tmps) = false ∧ v = undef ∧ C' = C)

/-- The walk of the text's order. -/
def wpMix (P : Program) (ops : Array Oper) (Q : Exit → Act → World → Prop) : List Oper → Act → (World → Prop) → Prop
  | [], a, C => ∀ w, C w → Q .normal a w
  | o :: rest, a, C => ∃ v C', OutM P ops o a C v C' ∧ wpMix P ops Q rest (a.put o.dst v) C'

def mOp (P : Program) (ops : Array Oper) (i : Nat) (K : Act → (World → Prop) → Prop) (a : Act) (C : World → Prop) : Prop :=
  match ops[i]? with
  | none => K a C
  | some o => ∃ v C', OutM P ops o a C v C' ∧ K (a.put o.dst v) C'

def wpAnyM (P : Program) (ops : Array Oper) (Q : Exit → Act → World → Prop) : Nat → Array Bool → Act → (World → Prop) → Prop
  | 0, listed, a, C => Region.ready .any ops listed = [] ∧ ∀ w, C w → Q .normal a w
  | f + 1, listed, a, C => (Region.ready .any ops listed = [] → ∀ w, C w → Q .normal a w) ∧
    ∀ i ∈ Region.ready .any ops listed, mOp P ops i (wpAnyM P ops Q f (listed.setIfInBounds i true)) a C

theorem wpAny_of_M {Q : Exit → Act → World → Prop} : ∀ (f : Nat) (listed : Array Bool) (a : Act) (C : World → Prop) (w : World), C w → wpAnyM P ops Q f listed a C → wpAny P .any ops Q f listed a w
  | 0, _, _, _, w, hw, h => ⟨h.1, h.2 w hw⟩
  | f + 1, listed, a, C, w, hw, h => by
    refine ⟨fun h0 => h.1 h0 w hw, fun i hi => ?_⟩
    have h1 := h.2 i hi
    unfold mOp at h1
    unfold wpOp
    split
    · rename_i ho
      rw [ho] at h1
      exact wpAny_of_M f _ _ _ _ hw h1
    · rename_i o ho
      rw [ho] at h1
      obtain ⟨v, C', h2, h3⟩ := h1
      rcases h2 with ⟨g1, g2, rfl, g4⟩ | ⟨g1, g2, rfl, g4⟩ | ⟨g1, rfl, rfl⟩
      · rw [if_pos g1]
        obtain ⟨w', g5, g6⟩ := g4 w hw
        refine .inl ?_
        unfold Oper.wp
        rw [g5]
        exact wpAny_of_M f _ _ _ _ g6 h3
      · rw [if_pos g1]
        exact .inl (Oper.wp_of_quiet (C := C') (K := fun a' => wpAnyM P ops Q f (listed.setIfInBounds i true) a' C') hw (fun a' w' hw' h' => wpAny_of_M f _ _ _ _ hw' h') ⟨v, g4, h3⟩)
      · rw [if_neg (by simp [g1])]
        exact wpAny_of_M f _ _ _ _ hw h3

/-- An operation that neither reads nor changes memory. -/
theorem pure_run {o : Oper} (hp : pureOp o = true) {ev : Operand → Value} {w w1 w' : World} {n : Next} (h : (execOp ev o).run P w = .ok n w1) : w1 = w ∧ (execOp ev o).run P w' = .ok n w' := by
  unfold pureOp at hp
  unfold execOp at h ⊢
  split at hp
  · rename_i x hop
    simp only [hop] at h ⊢
    simp at h
    obtain ⟨rfl, rfl⟩ := h
    simp
  · rename_i x hop
    simp only [hop] at h ⊢
    simp at h
    obtain ⟨rfl, rfl⟩ := h
    simp
  · rename_i x y z hop
    simp only [hop] at h ⊢
    cases hx : ev x with
    | bool b =>
      cases b <;> simp [hx, asBool] at h ⊢ <;> (obtain ⟨rfl, rfl⟩ := h; simp)
    | _ => simp [hx, asBool] at h
  · cases hp

theorem pure_quiet {o : Oper} (hp : pureOp o = true) {a : Act} {C C' : World → Prop} {w w' : World} {v : Value} (h : o.quietAt P a C w v) : o.quietAt P a C' w' v := by
  unfold Oper.quietAt at h ⊢
  cases hr : (execOp a.eval o).run P w with
  | ok n w1 =>
    obtain ⟨rfl, h2⟩ := pure_run (w' := w') hp hr
    rw [hr] at h
    rw [h2]
    cases n with
    | value u => exact ⟨rfl, h.2⟩
    | skip => exact ⟨rfl, h.2⟩
    | enter f args =>
      exfalso
      unfold pureOp at hp
      unfold execOp at hr
      split at hp
      · rename_i x hop; simp [hop] at hr
      · rename_i x hop; simp [hop] at hr
      · rename_i x y z hop
        simp only [hop] at hr
        cases hx : a.eval x with
        | bool b => cases b <;> simp [hx, asBool] at hr
        | _ => simp [hx, asBool] at hr
      · cases hp
    | _ => exact h.elim
  | halt x w1 => rw [hr] at h; exact h.elim

theorem pure_store {o : Oper} (hp : pureOp o = true) : storeOp o = false := by
  unfold pureOp at hp
  unfold storeOp
  split at hp <;> simp_all

/-- Two operations that may change places. -/
theorem outM_swap {oi oj : Oper} {a : Act} {C Ci Cij : World → Prop} {v u : Value} (hap : oi.apart ops oj = true) (hco : compat oi oj = true) (hsi : ∀ cs b, oi.op ≠ .select cs b) (hsj : ∀ cs b, oj.op ≠ .select cs b)
    (hne : ∃ w, C w) (h1 : OutM P ops oi a C v Ci) (h2 : OutM P ops oj (a.put oi.dst v) Ci u Cij) : ∃ Cj, OutM P ops oj a C u Cj ∧ (∃ w, Cj w) ∧ OutM P ops oi (a.put oj.dst u) Cj v Cij := by
  obtain ⟨g1, g2, g3⟩ := Oper.apart_spec hap
  have ej : execOp (a.put oi.dst v).eval oj = execOp a.eval oj := execOp_put oj hsj a oi.dst v g1
  have ei : execOp (a.put oj.dst u).eval oi = execOp a.eval oi := execOp_put oi hsi a oj.dst u g3
  have wj : Region.wanted oj (yielded ops (a.put oi.dst v).tmps) = Region.wanted oj (yielded ops a.tmps) := wanted_put oj a oi.dst v g1
  have wi : Region.wanted oi (yielded ops (a.put oj.dst u).tmps) = Region.wanted oi (yielded ops a.tmps) := wanted_put oi a oj.dst u g3
  have qj : ∀ {C : World → Prop} {w : World} {v' : Value}, oj.quietAt P (a.put oi.dst v) C w v' ↔ oj.quietAt P a C w v' := by intro C w v'; unfold Oper.quietAt; rw [ej]
  have qi : ∀ {C : World → Prop} {w : World} {v' : Value}, oi.quietAt P (a.put oj.dst u) C w v' ↔ oi.quietAt P a C w v' := by intro C w v'; unfold Oper.quietAt; rw [ei]
  -- what is said of oi stays true behind oj
  have keepi : ∀ {C1 C2 : World → Prop}, OutM P ops oi a C1 v C2 → OutM P ops oi (a.put oj.dst u) C1 v C2 := by
    intro C1 C2 h
    unfold OutM at h ⊢
    rw [wi, ei]
    rcases h with ⟨k1, k2, k3, k4⟩ | ⟨k1, k2, k3, k4⟩ | h
    · exact .inl ⟨k1, k2, k3, k4⟩
    · exact .inr (.inl ⟨k1, k2, k3, fun w hw => qi.2 (k4 w hw)⟩)
    · exact .inr (.inr h)
  have keepj : ∀ {C1 C2 : World → Prop}, OutM P ops oj (a.put oi.dst v) C1 u C2 → OutM P ops oj a C1 u C2 := by
    intro C1 C2 h
    unfold OutM at h ⊢
    rw [wj, ej] at h
    rcases h with ⟨k1, k2, k3, k4⟩ | ⟨k1, k2, k3, k4⟩ | h
    · exact .inl ⟨k1, k2, k3, k4⟩
    · exact .inr (.inl ⟨k1, k2, k3, fun w hw => qj.1 (k4 w hw)⟩)
    · exact .inr (.inr h)
  unfold compat at hco
  simp only [Bool.or_eq_true, Bool.and_eq_true, Bool.not_eq_true'] at hco
  have h1' := h1
  have h2' := h2
  rcases h1 with ⟨a1, a2, a3, a4⟩ | ⟨a1, a2, rfl, a4⟩ | ⟨a1, a2, rfl⟩
  · -- oi stores
    have hpj : pureOp oj = true := by
      rcases hco with (⟨c1, _⟩ | ⟨_, c2⟩) | ⟨c1, _⟩
      · rw [a2] at c1; cases c1
      · exact c2
      · rw [pure_store c1] at a2; cases a2
    rcases h2 with ⟨_, b2, _⟩ | ⟨b1, b2, rfl, b4⟩ | ⟨b1, b2, rfl⟩
    · rw [pure_store hpj] at b2; cases b2
    · refine ⟨C, ?_, hne, keepi h1'⟩
      refine .inr (.inl ⟨by rw [← wj]; exact b1, b2, rfl, fun w hw => ?_⟩)
      obtain ⟨w', _, hw'⟩ := a4 w hw
      exact pure_quiet hpj (qj.1 (b4 w' hw'))
    · exact ⟨C, .inr (.inr ⟨by rw [← wj]; exact b1, b2, rfl⟩), hne, keepi h1'⟩
  · -- oi reads
    rcases h2 with ⟨b1, b2, b3, b4⟩ | ⟨b1, b2, rfl, b4⟩ | ⟨b1, b2, rfl⟩
    · have hpi : pureOp oi = true := by
        rcases hco with (⟨_, c1⟩ | ⟨c1, _⟩) | ⟨c1, _⟩
        · rw [b2] at c1; cases c1
        · rw [a2] at c1; cases c1
        · exact c1
      obtain ⟨w0, hw0⟩ := hne
      refine ⟨Cij, keepj h2', ?_, keepi ?_⟩
      · obtain ⟨w', _, hw'⟩ := b4 w0 hw0
        exact ⟨w', hw'⟩
      · exact .inr (.inl ⟨a1, a2, rfl, fun w hw => pure_quiet hpi (a4 w0 hw0)⟩)
    · exact ⟨Cij, keepj h2', hne, keepi h1'⟩
    · exact ⟨Cij, keepj h2', hne, keepi h1'⟩
  · refine ⟨Cij, keepj h2', ?_, keepi (.inr (.inr ⟨a1, a2, rfl⟩))⟩
    rcases h2 with ⟨b1, b2, b3, b4⟩ | ⟨b1, b2, rfl, b4⟩ | ⟨b1, b2, rfl⟩
    · obtain ⟨w0, hw0⟩ := hne
      obtain ⟨w', _, hw'⟩ := b4 w0 hw0
      exact ⟨w', hw'⟩
    · exact hne
    · exact hne

/-- An operation that may come up now may be taken first. -/
theorem wpAnyM_first {Q : Exit → Act → World → Prop} {i : Nat} {oi : Oper} {v : Value} (hi : ops[i]? = some oi) (hsel : ∀ (j : Nat) (o : Oper) cs b, ops[j]? = some o → o.op ≠ .select cs b) :
    ∀ (f : Nat) (listed : Array Bool) (a : Act) (C Ci : World → Prop), Closed ops listed →
      (∀ (j : Nat) oj, ops[j]? = some oj → j ≠ i → listed.getD j true = false → ¬ Dep ops i j → oi.apart ops oj = true ∧ compat oi oj = true) →
      i ∈ Region.ready .any ops listed → (∃ w, C w) → OutM P ops oi a C v Ci → wpAnyM P ops Q f (listed.setIfInBounds i true) (a.put oi.dst v) Ci → wpAnyM P ops Q (f + 1) listed a C := by
  intro f
  induction f with
  | zero =>
    intro listed a C Ci hcl _ hr hne hy H
    refine ⟨fun h => (by rw [h] at hr; cases hr), fun j hj => ?_⟩
    by_cases hji : j = i
    · subst hji
      unfold mOp
      simp only [hi]
      exact ⟨v, Ci, hy, H⟩
    · have := ready_mono hj hji
      rw [H.1] at this
      cases this
  | succ f ih =>
    intro listed a C Ci hcl hfree hr hne hy H
    refine ⟨fun h => (by rw [h] at hr; cases hr), fun j hj => ?_⟩
    by_cases hji : j = i
    · subst hji
      unfold mOp
      simp only [hi]
      exact ⟨v, Ci, hy, H⟩
    · have h1 := H.2 j (ready_mono hj hji)
      obtain ⟨hjun, oj, hoj, hall⟩ := mem_ready.1 hj
      have hnot : ¬ Dep ops i j := fun hd => by
        have h1 := dep_listed hcl hd (.inr hj)
        have h0 := (mem_ready.1 hr).1
        rcases Nat.lt_or_ge i listed.size with h' | h'
        · simp [h'] at h0 h1; rw [h0] at h1; cases h1
        · simp [Array.getElem?_eq_none h'] at h1
      obtain ⟨hap, hco⟩ := hfree j oj hoj hji hjun hnot
      unfold mOp at h1 ⊢
      simp only [hoj] at h1 ⊢
      obtain ⟨u, Cij, h2, h3⟩ := h1
      obtain ⟨Cj, k1, k2, k3⟩ := outM_swap hap hco (fun cs b => hsel i oi cs b hi) (fun cs b => hsel j oj cs b hoj) hne hy h2
      refine ⟨u, Cj, k1, ih (listed.setIfInBounds j true) (a.put oj.dst u) Cj Cij (hcl.set hj) (fun k ok hk hki hun hno => hfree k ok hk hki ?_ hno) (ready_mono hr (Ne.symm hji)) k2 k3 ?_⟩
      · by_cases hjk : j = k
        · subst hjk; exact hjun
        · rw [getD_set_ne true hjk] at hun; exact hun
      · rw [Array.setIfInBounds_comm _ _ hji]
        obtain ⟨_, g2, _⟩ := Oper.apart_spec hap
        rw [← Act.put_comm a v u g2]
        exact h3

theorem mixFree_spec {listed : Array Bool} {k : Nat} (h : mixFree ops listed k = true) : ∀ (j : Nat) oj ok, ops[k]? = some ok → ops[j]? = some oj → j ≠ k → listed.getD j true = false → ¬ Dep ops k j → ok.apart ops oj = true ∧ compat ok oj = true := by
  intro j oj ok hk hj hne hun hd
  unfold mixFree at h
  simp only [hk] at h
  have hlt : j < ops.size := (Array.getElem?_eq_some_iff.1 hj).1
  have := List.all_eq_true.1 h j (List.mem_range.2 hlt)
  simp only [hj, Bool.or_eq_true, Bool.and_eq_true, beq_iff_eq] at this
  rcases this with ((h1 | h1) | h1) | h1
  · rw [hun] at h1; cases h1
  · exact absurd h1 hne
  · exact absurd (depsOf_spec h1) hd
  · exact h1

theorem wpAnyM_lex {Q : Exit → Act → World → Prop} (hs : Region.noSelect ops = true) : ∀ (l : List Oper) (k : Nat) (listed : Array Bool) (a : Act) (C : World → Prop), (∀ j, l[j]? = ops[k + j]?) →
    Closed ops listed → mixFrom ops l.length k listed = true → (∃ w, C w) → wpMix P ops Q l a C → wpAnyM P ops Q l.length listed a C
  | [], _, _, _, _, _, _, hB, _, h => ⟨by simpa [mixFrom] using hB, h⟩
  | o :: l, k, listed, a, C, hl, hcl, hB, hne, h => by
    have h0 : ops[k]? = some o := by simpa using (hl 0).symm
    simp only [List.length_cons, mixFrom, Bool.and_eq_true] at hB
    obtain ⟨⟨hr, hf⟩, hB'⟩ := hB
    have hr' : k ∈ Region.ready .any ops listed := by simpa using hr
    obtain ⟨v, C', h1, h2⟩ := h
    have hne' : ∃ w, C' w := by
      rcases h1 with ⟨_, _, _, b4⟩ | ⟨_, _, rfl, _⟩ | ⟨_, _, rfl⟩
      · obtain ⟨w0, hw0⟩ := hne
        obtain ⟨w', _, hw'⟩ := b4 w0 hw0
        exact ⟨w', hw'⟩
      · exact hne
      · exact hne
    exact wpAnyM_first h0 (Region.noSelect_spec hs) l.length listed a C C' hcl (fun j oj hj hji hun hd => mixFree_spec hf j oj o h0 hj hji hun hd) hr' hne h1
      (wpAnyM_lex hs l (k + 1) _ _ _ (fun j => by have := hl (j + 1); simpa [Nat.add_assoc, Nat.add_comm 1 j] using this) (hcl.set hr') hB' hne' h2)

theorem wp_region_mix {id : Nat} {Q : Exit → Act → World → Prop} {a : Act} {w : World} {C : World → Prop} (hm : P.follows .mixedOrders = true) (hB : mixB ops = true) (hC : C { w with drawn := w.drawn + 1 })
    (h : wpMix P ops Q ops.toList a C) : (Code.region id ops true).wp P Q a w := by
  simp only [mixB, Bool.and_eq_true] at hB
  refine wp_region_any hm (wpAny_of_M _ _ _ C _ hC ?_)
  have := wpAnyM_lex hB.1 ops.toList 0 (Array.replicate ops.size false) a C (by simp) (fun j oj _ hl => by
    rw [Array.getD_eq_getD_getElem?, Array.getElem?_replicate] at hl
    split at hl <;> simp at hl) (by simpa using hB.2) ⟨_, hC⟩ h
  simpa using this

end

end Go.Proofs.Ytobgddikninjpaa.Fw
