/-
  Steps of the evaluator are steps of the model, thirteenth part: loops. No condition.
-/
import Derived.Test.YtkcdhdnmmpapdaaFwO
namespace Go.Proofs.Ytkcdhdnmmpapdaa.Fw
open Go Go.RowKit

/-- A loop, by a number that each round lowers. -/
theorem wp_loop_n {P : Program} {c : Code} {Q : Exit → Act → World → Prop} (J : Nat → Act → World → Prop)
    (round : ∀ n a w, J n a w → c.wp P (Exit.then (fun a' w' => ∃ n', n' < n ∧ J n' a' w') Q) a w) (n : Nat) (a : Act) (w : World) (h₀ : J n a w) : (Code.loop c).wp P Q a w := by
  intro b k cs
  have key : ∀ n a w, J n a w → ∃ e a' w', Q e a' w' ∧ Arrives P (lone (b.at a (.code c :: .inLoop c :: k)) cs w) b k cs e a' w' := by
    intro n
    induction n using Nat.strongRecOn with
    | _ n ih =>
      intro a w hI
      obtain ⟨e, a₁, w₁, hq, harr⟩ := round n a w hI b (.inLoop c :: k) cs
      cases e with
      | normal =>
        obtain ⟨n', hlt, hI₁⟩ := hq
        obtain ⟨e₂, a₂, w₂, hq₂, harr₂⟩ := ih n' hlt a₁ w₁ hI₁
        exact ⟨e₂, a₂, w₂, hq₂, .of_steps (Steps.trans harr (.one step_inLoop)) harr₂⟩
      | exit id => exact ⟨_, a₁, w₁, hq, .pass (x := .inLoop c) rfl (fun _ _ => .inl (by simp)) harr⟩
      | goto l => exact ⟨_, a₁, w₁, hq, .pass (x := .inLoop c) rfl (fun _ _ => .inl (by simp)) harr⟩
      | ret => exact ⟨_, a₁, w₁, hq, .pass (x := .inLoop c) rfl (fun _ _ => .inl (by simp)) harr⟩
      | panic ch => exact ⟨_, a₁, w₁, hq, .pass (x := .inLoop c) rfl (fun _ _ => .inl (by simp)) harr⟩
      | outgrown => exact ⟨_, a₁, w₁, hq, .pass (x := .inLoop c) rfl (fun _ _ => .inl (by simp)) harr⟩
  obtain ⟨e, a', w', hq, harr⟩ := key n a w h₀
  exact ⟨e, a', w', hq, .of_steps (.one step_loop) harr⟩

/-- Of each entry of a template. -/
def TmAll (Pv : Nat → (s : Sh) → s.den → Prop) (Po : Nat → (s : Sh) → List s.den → Prop) : (tm : List (Nat × TK)) → dens (tm.map fun p => p.2.sh) → Prop
  | [], _ => True
  | (t, .v s) :: r, x => Pv t s x.1 ∧ TmAll Pv Po r x.2
  | (t, .own s) :: r, x => Po t s x.1 ∧ TmAll Pv Po r x.2
  | (t, .ownN s) :: r, x => Po t s x.1 ∧ TmAll Pv Po r x.2

/-- Of each entry that is said to be nil. -/
def AskAll (Pn : Nat → (s : Sh) → List s.den → Prop) : (tm : List (Nat × TK)) → dens (tm.map fun p => p.2.sh) → List Bool → Prop
  | [], _, _ => True
  | (_, .v _) :: r, x, bs => AskAll Pn r x.2 bs
  | (_, .own _) :: r, x, bs => AskAll Pn r x.2 bs
  | (t, .ownN s) :: r, x, bs => (bs.headD false = true → Pn t s x.1) ∧ AskAll Pn r x.2 bs.tail

theorem tmAsk_some {ρ : Type} : ∀ {tm : List (Nat × TK)} {x : dens (tm.map fun p => p.2.sh)} {K : List Bool → Option ρ} {r : ρ}, tmAsk tm x K = some r → ∃ bs, AskAll (fun _ _ y => y = []) tm x bs ∧ K bs = some r := by
  intro tm
  induction tm with
  | nil => intro x K r h; exact ⟨[], trivial, h⟩
  | cons p tm ih =>
    intro x K r h
    obtain ⟨t, k⟩ := p
    cases k with
    | v s => exact ih (x := x.2) h
    | own s => exact ih (x := x.2) h
    | ownN s =>
      simp only [tmAsk] at h
      cases he : List.isEmpty x.1 with
      | true =>
        rw [he, cond_true] at h
        obtain ⟨bs, h1, h2⟩ := ih (x := x.2) h
        exact ⟨true :: bs, ⟨fun _ => List.isEmpty_iff.1 he, h1⟩, h2⟩
      | false =>
        rw [he, cond_false] at h
        obtain ⟨bs, h1, h2⟩ := ih (x := x.2) h
        exact ⟨false :: bs, ⟨fun hc => (by cases hc), h1⟩, h2⟩

/-- Each entry that shall be nil where it is empty: is it not nil, it is not empty. -/
def NeOk (E : Env) (st : St) (tm : List (Nat × TK)) : Prop := ∀ t s, (t, TK.ownN s) ∈ tm → ∀ h, E.rd st t = .full h → ∀ (s' : Sh) (xs : List s'.den), look st.objs h = some (.arr s' xs) → xs ≠ []

theorem tmNe_some {ρ : Type} {E : Env} {st : St} {k : Option ρ} {r : ρ} : ∀ {tm : List (Nat × TK)}, tmNe E st k tm = some r → NeOk E st tm ∧ k = some r := by
  intro tm
  induction tm with
  | nil => intro h; exact ⟨fun t s hm => (by cases hm), h⟩
  | cons p tm ih =>
    intro h
    obtain ⟨t, kd⟩ := p
    cases kd with
    | v s0 =>
      obtain ⟨h1, h2⟩ := ih h
      refine ⟨fun t' s hm => ?_, h2⟩
      rcases List.mem_cons.1 hm with he | hm
      · cases he
      · exact h1 t' s hm
    | own s0 =>
      obtain ⟨h1, h2⟩ := ih h
      refine ⟨fun t' s hm => ?_, h2⟩
      rcases List.mem_cons.1 hm with he | hm
      · cases he
      · exact h1 t' s hm
    | ownN s0 =>
      simp only [tmNe] at h
      split at h
      · rename_i h0 hrd
        split at h
        · rename_i s1 xs1 hlk
          obtain ⟨hne, h'⟩ := cond_none h
          obtain ⟨h1, h2⟩ := ih h'
          refine ⟨fun t' s hm => ?_, h2⟩
          rcases List.mem_cons.1 hm with he | hm
          · cases he
            intro h3 hr s' xs hl
            rw [hrd] at hr
            cases hr
            rw [hlk] at hl
            cases hl
            intro hc
            rw [hc] at hne
            cases hne
          · exact h1 t' s hm
        · cases h
      · rename_i hno
        obtain ⟨h1, h2⟩ := ih h
        refine ⟨fun t' s hm => ?_, h2⟩
        rcases List.mem_cons.1 hm with he | hm
        · cases he
          intro h3 hr
          exact absurd hr (hno h3)
        · exact h1 t' s hm

theorem tmIn_slots {Pv : Nat → (s : Sh) → s.den → Prop} {Po : Nat → (s : Sh) → List s.den → Prop} {Pn : Nat → (s : Sh) → List s.den → Prop} {tm : List (Nat × TK)} : ∀ {x : dens (tm.map fun p => p.2.sh)} {bs : List Bool} {acc : St}, TmAll Pv Po tm x → AskAll Pn tm x bs →
    ∀ (t : Nat) (av : AV), (tmIn tm x bs acc).slots[t]? = some av → acc.slots[t]? = some av ∨ (∃ s y, Pv t s y ∧ av = .g s y) ∨ (∃ s y, Po t s y ∧ av = .full (cname t) ∧ cname t ∈ ownNames tm) ∨ (∃ s y, Pn t s y ∧ av = .nil) := by
  induction tm with
  | nil => intro x bs acc _ _ t av h; exact .inl h
  | cons p tm ih =>
    intro x bs acc hA hB t av h
    obtain ⟨t0, k⟩ := p
    have grow : (acc.slots[t]? = some av ∨ (∃ s y, Pv t s y ∧ av = .g s y) ∨ (∃ s y, Po t s y ∧ av = .full (cname t) ∧ cname t ∈ ownNames tm) ∨ (∃ s y, Pn t s y ∧ av = .nil)) →
        acc.slots[t]? = some av ∨ (∃ s y, Pv t s y ∧ av = .g s y) ∨ (∃ s y, Po t s y ∧ av = .full (cname t) ∧ cname t ∈ ownNames ((t0, k) :: tm)) ∨ (∃ s y, Pn t s y ∧ av = .nil) := fun hg => by
      rcases hg with h1 | h1 | ⟨s, y, h1, h2, h3⟩ | h1
      · exact .inl h1
      · exact .inr (.inl h1)
      · refine .inr (.inr (.inl ⟨s, y, h1, h2, ?_⟩))
        cases k with
        | v s => exact h3
        | own s => exact List.mem_cons_of_mem _ h3
        | ownN s => exact List.mem_cons_of_mem _ h3
      · exact .inr (.inr (.inr h1))
    have set : ∀ {u : AV}, ((acc.slots.set t0 u)[t]? = some av ∨ (∃ s y, Pv t s y ∧ av = .g s y) ∨ (∃ s y, Po t s y ∧ av = .full (cname t) ∧ cname t ∈ ownNames tm) ∨ (∃ s y, Pn t s y ∧ av = .nil)) →
        (t0 = t ∧ av = u) ∨ (acc.slots[t]? = some av ∨ (∃ s y, Pv t s y ∧ av = .g s y) ∨ (∃ s y, Po t s y ∧ av = .full (cname t) ∧ cname t ∈ ownNames tm) ∨ (∃ s y, Pn t s y ∧ av = .nil)) := fun hg => by
      rcases hg with h1 | h1
      · simp only [List.getElem?_set] at h1
        split at h1
        · rename_i he
          split at h1
          · cases h1
            exact .inl ⟨he, rfl⟩
          · cases h1
        · exact .inr (.inl h1)
      · exact .inr (.inr h1)
    cases k with
    | v s =>
      simp only [tmIn] at h
      rcases set (ih (acc := { slots := acc.slots.set t0 (.g s x.1), objs := acc.objs }) hA.2 hB t av h) with ⟨rfl, rfl⟩ | hg
      · exact .inr (.inl ⟨s, _, hA.1, rfl⟩)
      · exact grow hg
    | own s =>
      simp only [tmIn] at h
      rcases set (ih (acc := { slots := acc.slots.set t0 (.full (cname t0)), objs := (cname t0, .arr s x.1) :: acc.objs }) hA.2 hB t av h) with ⟨rfl, rfl⟩ | hg
      · exact .inr (.inr (.inl ⟨s, _, hA.1, rfl, List.mem_cons_self⟩))
      · exact grow hg
    | ownN s =>
      simp only [tmIn] at h
      cases hb : bs.headD false with
      | true =>
        rw [hb, cond_true] at h
        rcases set (ih (acc := { slots := acc.slots.set t0 .nil, objs := acc.objs }) hA.2 hB.2 t av h) with ⟨rfl, rfl⟩ | hg
        · exact .inr (.inr (.inr ⟨s, _, hB.1 hb, rfl⟩))
        · exact grow hg
      | false =>
        rw [hb, cond_false] at h
        rcases set (ih (acc := { slots := acc.slots.set t0 (.full (cname t0)), objs := (cname t0, .arr s x.1) :: acc.objs }) hA.2 hB.2 t av h) with ⟨rfl, rfl⟩ | hg
        · exact .inr (.inr (.inl ⟨s, _, hA.1, rfl, List.mem_cons_self⟩))
        · exact grow hg

theorem tmIn_objs {Pv : Nat → (s : Sh) → s.den → Prop} {Po : Nat → (s : Sh) → List s.den → Prop} {tm : List (Nat × TK)} : ∀ {x : dens (tm.map fun p => p.2.sh)} {bs : List Bool} {acc : St}, TmAll Pv Po tm x →
    ∀ (h : Nat) (o : AO), look (tmIn tm x bs acc).objs h = some o → look acc.objs h = some o ∨ ∃ t s y, h = cname t ∧ h ∈ ownNames tm ∧ Po t s y ∧ o = .arr s y := by
  induction tm with
  | nil => intro x bs acc _ h o hh; exact .inl hh
  | cons p tm ih =>
    intro x bs acc hA h o hh
    obtain ⟨t0, k⟩ := p
    have own : ∀ {s : Sh} {bs : List Bool} {x1 : List s.den} {x2 : dens (tm.map fun p => p.2.sh)}, Po t0 s x1 → TmAll Pv Po tm x2 → look (tmIn tm x2 bs { slots := acc.slots.set t0 (.full (cname t0)), objs := (cname t0, .arr s x1) :: acc.objs }).objs h = some o →
        look acc.objs h = some o ∨ ∃ t s y, h = cname t ∧ h ∈ cname t0 :: ownNames tm ∧ Po t s y ∧ o = .arr s y := fun {s bs x1 x2} hP hA hh => by
      rcases ih hA h o hh with h1 | ⟨t, s', y, h1, h2, h3, h4⟩
      · simp only at h1
        by_cases he : cname t0 = h
        · subst he
          rw [look_cons_self] at h1
          cases h1
          exact .inr ⟨t0, s, _, rfl, List.mem_cons_self, hP, rfl⟩
        · rw [look_cons_ne _ _ he] at h1
          exact .inl h1
      · exact .inr ⟨t, s', y, h1, List.mem_cons_of_mem _ h2, h3, h4⟩
    cases k with
    | v s =>
      simp only [tmIn] at hh
      exact ih (acc := { slots := acc.slots.set t0 (.g s x.1), objs := acc.objs }) hA.2 h o hh
    | own s =>
      simp only [tmIn] at hh
      exact own hA.1 hA.2 hh
    | ownN s =>
      simp only [tmIn] at hh
      cases hb : bs.headD false with
      | true =>
        rw [hb, cond_true] at hh
        rcases ih (acc := { slots := acc.slots.set t0 .nil, objs := acc.objs }) hA.2 h o hh with h1 | ⟨t, s', y, h1, h2, h3, h4⟩
        · exact .inl h1
        · exact .inr ⟨t, s', y, h1, List.mem_cons_of_mem _ h2, h3, h4⟩
      | false =>
        rw [hb, cond_false] at hh
        exact own hA.1 hA.2 hh

theorem tmIn_len {tm : List (Nat × TK)} : ∀ {x : dens (tm.map fun p => p.2.sh)} {bs : List Bool} {acc : St}, (tmIn tm x bs acc).slots.length = acc.slots.length := by
  induction tm with
  | nil => intro x bs acc; rfl
  | cons p tm ih =>
    intro x bs acc
    obtain ⟨t0, k⟩ := p
    cases k with
    | v s => simp only [tmIn]; rw [ih]; simp
    | own s => simp only [tmIn]; rw [ih]; simp
    | ownN s =>
      simp only [tmIn]
      cases bs.headD false with
      | true => rw [cond_true, ih]; simp
      | false => rw [cond_false, ih]; simp

theorem mergeSlots_get : ∀ {l1 l2 : List AV} {t : Nat} {av : AV}, (mergeSlots l1 l2)[t]? = some av → l1[t]? = some av ∨ l2[t]? = some av := by
  intro l1
  induction l1 with
  | nil => intro l2 t av h; exact .inr h
  | cons v r ih =>
    intro l2 t av h
    cases l2 with
    | nil => exact .inl h
    | cons u l =>
      cases t with
      | zero =>
        simp only [mergeSlots, List.getElem?_cons_zero, Option.some.injEq] at h
        split at h
        · exact .inr (by simp [h])
        · exact .inl (by simp [h])
      | succ t =>
        simp only [mergeSlots, List.getElem?_cons_succ] at h ⊢
        exact ih h

theorem mergeSlots_l : ∀ {l1 l2 : List AV} {t : Nat} {av : AV}, l1[t]? = some av → av ≠ .top → (mergeSlots l1 l2)[t]? = some av := by
  intro l1
  induction l1 with
  | nil => intro l2 t av h; simp at h
  | cons v r ih =>
    intro l2 t av h hne
    cases l2 with
    | nil => exact h
    | cons u l =>
      cases t with
      | zero =>
        simp only [List.getElem?_cons_zero, Option.some.injEq] at h
        subst h
        simp only [mergeSlots, List.getElem?_cons_zero, Option.some.injEq]
        try (split <;> simp_all)
      | succ t =>
        simp only [mergeSlots, List.getElem?_cons_succ] at h ⊢
        exact ih h hne

theorem mergeSlots_r : ∀ {l1 l2 : List AV} {t : Nat} {av : AV}, l2[t]? = some av → (∀ u, l1[t]? = some u → u = .top) → (mergeSlots l1 l2)[t]? = some av := by
  intro l1
  induction l1 with
  | nil => intro l2 t av h _; exact h
  | cons v r ih =>
    intro l2 t av h hn
    cases l2 with
    | nil => simp at h
    | cons u l =>
      cases t with
      | zero =>
        simp only [List.getElem?_cons_zero, Option.some.injEq] at h
        subst h
        have := hn v rfl
        subst this
        simp [mergeSlots]
      | succ t =>
        simp only [mergeSlots, List.getElem?_cons_succ] at h ⊢
        exact ih h fun u hu => hn u (by simpa using hu)

theorem mergeSlots_len : ∀ {l1 l2 : List AV}, l1.length = l2.length → (mergeSlots l1 l2).length = l1.length := by
  intro l1
  induction l1 with
  | nil => intro l2 h; simp [mergeSlots] at h ⊢; exact List.eq_nil_of_length_eq_zero h.symm
  | cons v r ih =>
    intro l2 h
    cases l2 with
    | nil => rfl
    | cons u l => simp only [mergeSlots, List.length_cons]; rw [ih (by simpa using h)]

theorem keepSlots_len (ds hs : List Nat) : ∀ (l : List AV) (i : Nat), (keepSlots ds hs i l).length = l.length := by
  intro l
  induction l with
  | nil => intro i; rfl
  | cons v r ih => intro i; simp [keepSlots, ih]

theorem keepSlots_get (ds hs : List Nat) : ∀ (l : List AV) (i t : Nat) {av : AV}, (keepSlots ds hs i l)[t]? = some av → av = .top ∨ (l[t]? = some av ∧ hs.any (fun h => ment h 6 av) = false) := by
  intro l
  induction l with
  | nil => intro i t av h; simp [keepSlots] at h
  | cons v r ih =>
    intro i t av h
    cases t with
    | zero =>
      simp only [keepSlots, List.getElem?_cons_zero, Option.some.injEq] at h
      cases hc : ds.contains i || hs.any (fun h => ment h 6 v) with
      | true => rw [hc] at h; exact .inl h.symm
      | false =>
        rw [hc] at h
        simp only [cond_false] at h
        subst h
        simp only [Bool.or_eq_false_iff] at hc
        exact .inr ⟨rfl, hc.2⟩
    | succ t =>
      simp only [keepSlots, List.getElem?_cons_succ] at h
      exact ih (i + 1) t h

theorem excl_spec : ∀ {l1 l2 : List AV}, excl l1 l2 = true → ∀ (t : Nat) (u v : AV), l1[t]? = some u → l2[t]? = some v → u = .top ∨ v = .top := by
  intro l1
  induction l1 with
  | nil => intro l2 _ t u v h; simp at h
  | cons x r ih =>
    intro l2 h t u v h1 h2
    cases l2 with
    | nil => simp at h2
    | cons y l =>
      simp only [excl, Bool.and_eq_true, Bool.or_eq_true] at h
      cases t with
      | zero =>
        simp only [List.getElem?_cons_zero, Option.some.injEq] at h1 h2
        subst h1 h2
        rcases h.1 with h3 | h3
        · exact .inl (isTop_eq h3)
        · exact .inr (isTop_eq h3)
      | succ t => exact ih h.2 t u v (by simpa using h1) (by simpa using h2)

theorem nodup_spec : ∀ {l : List Nat}, nodup l = true → l.Nodup := by
  intro l
  induction l with
  | nil => intro _; exact List.nodup_nil
  | cons x l ih =>
    intro h
    simp only [nodup, Bool.and_eq_true, Bool.not_eq_true', List.contains_eq_mem, decide_eq_false_iff_not] at h
    exact List.nodup_cons.2 ⟨h.1, ih h.2⟩

theorem cname_inj {s t : Nat} (h : cname s = cname t) : s = t := by unfold cname at h; omega

section
variable {P : Program} {c : Cx} {E : Env} {st : St} {m : Nat → Option Nat} {a : Act} {w : World}

/-- What a template's own slot holds. -/
def OwnS (E : Env) (st : St) (t : Nat) (s : Sh) (y : List s.den) : Prop :=
  (∃ h, E.rd st t = .full h ∧ look st.objs h = some (.arr s y)) ∨ (E.rd st t = .nil ∧ y = [])

theorem tmOut_all (hS : SimM c E st m a w) : ∀ {tm : List (Nat × TK)} {x : dens (tm.map fun p => p.2.sh)}, tmOut E st tm = some x →
    TmAll (fun t s y => RC (c.ok m (E.ob st) w.heap) w.heap s y (a.tmps.getD t undef).cells.toList ∧ aggV (a.tmps.getD t undef) = s.isAgg) (OwnS E st) tm x := by
  intro tm
  induction tm with
  | nil => intro x _; trivial
  | cons p tm ih =>
    intro x h
    obtain ⟨t, k⟩ := p
    cases k with
    | v s =>
      simp only [tmOut] at h
      split at h
      · rename_i x1 x2 h1 h2
        cases h
        refine ⟨?_, ih h2⟩
        exact gndV_sound (mt := c.mt) (fun i b hb => hb) (fun b hb => Cx.ok_any hb) (fun h o hh => by cases hh) hS.objs (fun i h o b hh => by cases hh) h1 (hS.rd t)
      · cases h
    | own s =>
      simp only [tmOut] at h
      split at h
      · rename_i h0 x1 x2 h1 h2
        cases h
        refine ⟨?_, ih h2⟩
        have hr := baseOf_spec h1 (by intro h off len; split <;> simp_all)
        rcases hr with ⟨k, h3, h4⟩ | ⟨h3, h4⟩
        · split at h3
          · cases h3
          · exact .inl ⟨k, h3, h4⟩
        · split at h3
          · cases h3
          · exact .inr ⟨h3, h4⟩
      · cases h
    | ownN s =>
      simp only [tmOut] at h
      split at h
      · rename_i h0 x1 x2 h1 h2
        cases h
        refine ⟨?_, ih h2⟩
        have hr := baseOf_spec h1 (by intro h off len; split <;> simp_all)
        rcases hr with ⟨k, h3, h4⟩ | ⟨h3, h4⟩
        · split at h3
          · cases h3
          · exact .inl ⟨k, h3, h4⟩
        · split at h3
          · cases h3
          · exact .inr ⟨h3, h4⟩
      · cases h

theorem tmHs_mem {tm : List (Nat × TK)} {t : Nat} {s : Sh} {y : List s.den} {h : Nat} (hm : cname t ∈ ownNames tm) (hr : E.rd st t = .full h) : h ∈ tmHs E st tm := by
  induction tm with
  | nil => simp [ownNames] at hm
  | cons p tm ih =>
    obtain ⟨t0, k⟩ := p
    cases k with
    | v s0 => simp only [ownNames, tmHs] at hm ⊢; exact ih hm
    | own s0 =>
      simp only [ownNames, List.mem_cons] at hm
      simp only [tmHs]
      rcases hm with hm | hm
      · have := cname_inj hm
        subst this
        rw [hr]
        exact List.mem_cons_self
      · split
        · exact List.mem_cons_of_mem _ (ih hm)
        · exact ih hm
    | ownN s0 =>
      simp only [ownNames, List.mem_cons] at hm
      simp only [tmHs]
      rcases hm with hm | hm
      · have := cname_inj hm
        subst this
        rw [hr]
        exact List.mem_cons_self
      · split
        · exact List.mem_cons_of_mem _ (ih hm)
        · exact ih hm

theorem tmHs_inj {tm : List (Nat × TK)} {t t' h : Nat} (hn : (tmHs E st tm).Nodup) (hm : cname t ∈ ownNames tm) (hm' : cname t' ∈ ownNames tm) (hr : E.rd st t = .full h) (hr' : E.rd st t' = .full h) : t = t' := by
  induction tm with
  | nil => simp [ownNames] at hm
  | cons p tm ih =>
    obtain ⟨t0, k⟩ := p
    cases k with
    | v s0 => simp only [ownNames, tmHs] at hm hm' hn; exact ih hn hm hm'
    | own s0 =>
      simp only [ownNames, List.mem_cons] at hm hm'
      simp only [tmHs] at hn
      rcases hm with hm | hm <;> rcases hm' with hm' | hm'
      · rw [cname_inj hm, cname_inj hm']
      · have := cname_inj hm
        subst this
        rw [hr] at hn
        simp only [List.nodup_cons] at hn
        exact absurd (tmHs_mem (s := .un) (y := []) hm' hr') hn.1
      · have := cname_inj hm'
        subst this
        rw [hr'] at hn
        simp only [List.nodup_cons] at hn
        exact absurd (tmHs_mem (s := .un) (y := []) hm hr) hn.1
      · split at hn
        · exact ih (List.nodup_cons.1 hn).2 hm hm'
        · exact ih hn hm hm'
    | ownN s0 =>
      simp only [ownNames, List.mem_cons] at hm hm'
      simp only [tmHs] at hn
      rcases hm with hm | hm <;> rcases hm' with hm' | hm'
      · rw [cname_inj hm, cname_inj hm']
      · have := cname_inj hm
        subst this
        rw [hr] at hn
        simp only [List.nodup_cons] at hn
        exact absurd (tmHs_mem (s := .un) (y := []) hm' hr') hn.1
      · have := cname_inj hm'
        subst this
        rw [hr'] at hn
        simp only [List.nodup_cons] at hn
        exact absurd (tmHs_mem (s := .un) (y := []) hm hr) hn.1
      · split at hn
        · exact ih (List.nodup_cons.1 hn).2 hm hm'
        · exact ih hn hm hm'

theorem tmHs_look {tm : List (Nat × TK)} : ∀ {x : dens (tm.map fun p => p.2.sh)}, tmOut E st tm = some x → ∀ h ∈ tmHs E st tm, ∃ o, look st.objs h = some o := by
  induction tm with
  | nil => intro x _ h hh; simp [tmHs] at hh
  | cons p tm ih =>
    intro x hx h hh
    obtain ⟨t, k⟩ := p
    cases k with
    | v s =>
      simp only [tmOut] at hx
      split at hx
      · rename_i h2
        exact ih h2 h hh
      · cases hx
    | own s =>
      simp only [tmOut] at hx
      split at hx
      · rename_i h1 h2
        simp only [tmHs] at hh
        split at hh
        · rename_i k hk
          rcases List.mem_cons.1 hh with rfl | hh
          · rw [hk] at h1
            rcases baseOf_spec h1 (by intro h off len hc; cases hc) with ⟨k', h3, h4⟩ | ⟨h3, _⟩
            · cases h3; exact ⟨_, h4⟩
            · cases h3
          · exact ih h2 h hh
        · exact ih h2 h hh
      · cases hx
    | ownN s =>
      simp only [tmOut] at hx
      split at hx
      · rename_i h1 h2
        simp only [tmHs] at hh
        split at hh
        · rename_i k hk
          rcases List.mem_cons.1 hh with rfl | hh
          · rw [hk] at h1
            rcases baseOf_spec h1 (by intro h off len hc; cases hc) with ⟨k', h3, h4⟩ | ⟨h3, _⟩
            · cases h3; exact ⟨_, h4⟩
            · cases h3
          · exact ih h2 h hh
        · exact ih h2 h hh
      · cases hx

/-- What is said to be nil is nil. -/
theorem ask_nil {Pv : Nat → (s : Sh) → s.den → Prop} : ∀ {tm : List (Nat × TK)} {x : dens (tm.map fun p => p.2.sh)} {bs : List Bool}, TmAll Pv (OwnS E st) tm x → AskAll (fun _ _ y => y = []) tm x bs → NeOk E st tm → AskAll (fun t _ _ => E.rd st t = .nil) tm x bs := by
  intro tm
  induction tm with
  | nil => intro x bs _ _ _; trivial
  | cons p tm ih =>
    intro x bs hA hB hN
    obtain ⟨t, k⟩ := p
    have hN' : NeOk E st tm := fun t' s hm => hN t' s (List.mem_cons_of_mem _ hm)
    cases k with
    | v s => exact ih hA.2 hB hN'
    | own s => exact ih hA.2 hB hN'
    | ownN s =>
      refine ⟨fun hb => ?_, ih hA.2 hB.2 hN'⟩
      have hy := hB.1 hb
      rcases hA.1 with ⟨h, h1, h2⟩ | ⟨h1, _⟩
      · exact absurd hy (hN t s List.mem_cons_self h h1 s _ h2)
      · exact h1

/-- The state at a loop's head, made of what the slots hold. -/
theorem head_sim (hS : SimM c E st m a w) {tm : List (Nat × TK)} {x : dens (tm.map fun p => p.2.sh)} (hx : tmOut E st tm = some x) (hn : nodup (tmHs E st tm) = true) {E' : Env} {st0 : St}
    (hAr : E'.args = E.args) (hMu : E'.mutb = E.mutb) (h0 : st0.objs = []) (h0' : ∀ (t : Nat) (av : AV), st0.slots[t]? = some av → av = .top) (h0n : st0.slots.length = st.slots.length)
    (H1 : ∀ h o, look E'.objs h = some o → E.ob st h = some o ∧ h ∉ tmHs E st tm)
    (H2 : ∀ (t : Nat) (av : AV), E'.slots[t]? = some av → RVs c E st m w av (a.tmps.getD t undef))
    (hNe : NeOk E st tm) {bs : List Bool} (hB : AskAll (fun _ _ y => y = []) tm x bs) (H3 : ∀ n ∈ ownNames tm, look E'.objs n = none ∧ (∀ (t : Nat) (av : AV), E'.slots[t]? = some av → ¬ Mn n av) ∧ ∀ k cells, look E'.objs k = some (.box cells) → ∀ b ∈ cells, ¬ Mn n b) :
    ∃ m', SimM c E' (tmIn tm x bs st0) m' a w := by
  have hA := tmOut_all hS hx
  have hBn : AskAll (fun t _ _ => E.rd st t = .nil) tm x bs := ask_nil hA hB hNe
  have hnd := nodup_spec hn
  let m' : Nat → Option Nat := fun k => if k ∈ ownNames tm then (match E.rd st (k - 1000000) with | .full h => m h | _ => none) else m k
  have hm1 : ∀ t, cname t ∈ ownNames tm → m' (cname t) = match E.rd st t with | .full h => m h | _ => none := fun t ht => by
    show (if cname t ∈ ownNames tm then _ else _) = _
    rw [if_pos ht, show cname t - 1000000 = t by unfold cname; omega]
  have hm2 : ∀ k, k ∉ ownNames tm → m' k = m k := fun k hk => by
    show (if k ∈ ownNames tm then _ else _) = _
    rw [if_neg hk]
  have hob : ∀ h o, E'.ob (tmIn tm x bs st0) h = some o → (∃ t s y, h = cname t ∧ h ∈ ownNames tm ∧ OwnS E st t s y ∧ o = .arr s y) ∨ (look E'.objs h = some o ∧ h ∉ ownNames tm) := fun h o ho => by
    unfold Env.ob at ho
    split at ho
    · rename_i o' hl
      cases ho
      rcases tmIn_objs hA h _ hl with h1 | h1
      · rw [h0] at h1; cases h1
      · exact .inl h1
    · refine .inr ⟨ho, fun hh => ?_⟩
      rw [(H3 h hh).1] at ho
      cases ho
  have hT : Tr (c.ok m (E.ob st) w.heap) m (E.ob st) w.heap (c.ok m' (E'.ob (tmIn tm x bs st0)) w.heap) m' (E'.ob (tmIn tm x bs st0)) w.heap (· ∈ ownNames tm) := by
    refine ⟨fun i b hb => ⟨⟨hb.1, hb.2.1, fun h o ho he => ?_, hb.2.2.2⟩, fun _ => rfl⟩, fun h o ho hne => ?_⟩
    · rcases hob h o ho with ⟨t, s, y, rfl, h1, h2, _⟩ | ⟨h1, h2⟩
      · rw [hm1 t h1] at he
        rcases h2 with ⟨k, h3, h4⟩ | ⟨h3, _⟩
        · rw [h3] at he
          exact hb.2.2.1 k _ (ob_of_look h4) he
        · rw [h3] at he; cases he
      · rw [hm2 h h2] at he
        exact hb.2.2.1 h o (H1 h o h1).1 he
    · rcases hob h o ho with ⟨t, s, y, rfl, h1, h2, _⟩ | ⟨h1, h2⟩
      · exact absurd h1 hne
      · exact ⟨o, (H1 h o h1).1, AO.like_refl o, hm2 h h2, fun _ _ => rfl⟩
  refine ⟨m', ⟨hS.defers, ?_, ?_, hS.kept, fun t av h => ?_, fun t av h => ?_, fun h o ho => ?_, fun h h' o1 o2 b h1 h2 h3 h4 => ?_, fun h o ho => ?_, fun t av h => ?_, fun h => ?_, ?_, fun b hb => ?_⟩⟩
  · rw [tmIn_len, h0n]; exact hS.size
  · rw [tmIn_len, h0n]; exact hS.num
  · rcases tmIn_slots hA hBn t av h with h1 | ⟨s, y, h1, rfl⟩ | ⟨s, y, h1, rfl, h2⟩ | ⟨s, y, h1, rfl⟩
    rotate_right
    · have := hS.rd t
      rw [h1] at this
      generalize a.tmps.getD t undef = u at this
      cases this
      exact .nil
    · rw [h0' t av h1]; exact .top _
    · exact .g s y _ (RC.mono hT.okc h1.1) h1.2
    · have one : oneV (a.tmps.getD t undef) = true := by
        have := hS.rd t
        rcases h1 with ⟨k, h3, _⟩ | ⟨h3, _⟩
        · rw [h3] at this; cases this with | full _ _ _ ho => exact ho
        · rw [h3] at this
          generalize a.tmps.getD t undef = u at this
          cases this; rfl
      refine .full _ _ (fun s' xs' ho => ?_) one
      rcases hob _ _ ho with ⟨t', s2, y2, he, _, h6, h7⟩ | ⟨_, h6⟩
      · have := cname_inj he
        subst this
        cases h7
        unfold SlV
        rw [hm1 t h2]
        have hr := hS.rd t
        rcases h6 with ⟨k, h8, h9⟩ | ⟨h8, h9⟩
        · rw [h8] at hr ⊢
          cases hr with
          | full _ _ hv _ => exact hv _ _ (ob_of_look h9)
        · rw [h8] at hr ⊢
          generalize a.tmps.getD t undef = u at hr
          cases hr
          exact ⟨rfl, by rw [h9]; rfl⟩
      · exact absurd h2 h6
  · exact (H2 t av h).mono hT fun d hd => (H3 d hd).2.1 t av h
  · rcases hob h o ho with ⟨t, s, y, rfl, h1, h2, rfl⟩ | ⟨h1, h2⟩
    · simp only [RO]
      rw [hm1 t h1]
      rcases h2 with ⟨k, h3, h4⟩ | ⟨h3, h4⟩
      · rw [h3]
        have hro := hS.objs k _ (ob_of_look h4)
        simp only [RO] at hro
        simp only
        cases hk : m k with
        | none => rw [hk] at hro; exact hro
        | some b =>
          rw [hk] at hro
          obtain ⟨q1, cs, e, q2, q3, q4⟩ := hro
          refine ⟨q1, cs, e, q2, q3, fun i z hz => ?_⟩
          obtain ⟨l, l1, l2, l3⟩ := q4 i z hz
          exact ⟨l, l1, l2, RC.mono hT.okc l3⟩
      · rw [h3]; exact h4
    · refine (hS.objs h o (H1 h o h1).1).mono hT (hm2 h h2) (fun _ _ => rfl) (fun cells hc d hd b hb => ?_)
      subst hc
      exact (H3 d hd).2.2 h cells h1 b hb
  · have hmem : ∀ t k, cname t ∈ ownNames tm → E.rd st t = .full k → k ∈ tmHs E st tm := fun t k h5 h6 => tmHs_mem (s := .un) (y := []) h5 h6
    rcases hob h o1 h1 with ⟨t, s, y, rfl, g1, g2, _⟩ | ⟨g1, g2⟩ <;> rcases hob h' o2 h2 with ⟨t', s', y', rfl, g1', g2', _⟩ | ⟨g1', g2'⟩
    · rw [hm1 t g1] at h3
      rw [hm1 t' g1'] at h4
      rcases g2 with ⟨k, q1, q2⟩ | ⟨q1, _⟩
      · rcases g2' with ⟨k', q1', q2'⟩ | ⟨q1', _⟩
        · rw [q1] at h3
          rw [q1'] at h4
          have := hS.inj k k' _ _ b (ob_of_look q2) (ob_of_look q2') h3 h4
          subst this
          rw [tmHs_inj hnd g1 g1' q1 q1']
        · rw [q1'] at h4; cases h4
      · rw [q1] at h3; cases h3
    · exfalso
      rw [hm1 t g1] at h3
      rw [hm2 h' g2'] at h4
      rcases g2 with ⟨k, q1, q2⟩ | ⟨q1, _⟩
      · rw [q1] at h3
        have := hS.inj k h' _ _ b (ob_of_look q2) (H1 h' o2 g1').1 h3 h4
        subst this
        exact (H1 k o2 g1').2 (hmem t k g1 q1)
      · rw [q1] at h3; cases h3
    · exfalso
      rw [hm2 h g2] at h3
      rw [hm1 t' g1'] at h4
      rcases g2' with ⟨k, q1, q2⟩ | ⟨q1, _⟩
      · rw [q1] at h4
        have := hS.inj k h _ _ b (ob_of_look q2) (H1 h o1 g1).1 h4 h3
        subst this
        exact (H1 k o1 g1).2 (hmem t' k g1' q1)
      · rw [q1] at h4; cases h4
    · rw [hm2 h g2] at h3
      rw [hm2 h' g2'] at h4
      exact hS.inj h h' o1 o2 b (H1 h o1 g1).1 (H1 h' o2 g1').1 h3 h4
  · rcases tmIn_objs hA h o ho with h1 | ⟨t, s, y, _, h1, _⟩
    · rw [h0] at h1; cases h1
    · exact (H3 h h1).1
  · rw [hAr] at h
    exact hS.fix t av h
  · rw [hMu] at h
    exact hS.nomu h
  · rw [hAr]
    exact hS.old
  · obtain ⟨g1, g2, g3⟩ := hS.alive b hb
    refine ⟨g1, g2, fun h o ho he => ?_⟩
    rcases hob h o ho with ⟨t, s, y, rfl, h1, h2, _⟩ | ⟨h1, h2⟩
    · rw [hm1 t h1] at he
      rcases h2 with ⟨k, h3, h4⟩ | ⟨h3, _⟩
      · rw [h3] at he
        exact g3 k _ (ob_of_look h4) he
      · rw [h3] at he; cases he
    · rw [hm2 h h2] at he
      exact g3 h o (H1 h o h1).1 he

end

end Go.Proofs.Ytkcdhdnmmpapdaa.Fw
