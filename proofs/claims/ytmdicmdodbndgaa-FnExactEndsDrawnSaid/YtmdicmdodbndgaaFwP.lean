/-
  Steps of the evaluator are steps of the model, thirteenth part: loops. No condition.
-/
import Derived.Test.YtmdicmdodbndgaaFwO
namespace Go.Proofs.Ytmdicmdodbndgaa.Fw
open Go Go.RowKit

/-- A loop, by a number that each round lowers. -/
theorem wp_loop_n {P : Program} {c : Code} {Q : Exit → Act → World → Prop} (J : Nat → Act → World → Prop)
    (round : ∀ n a w, J n a w → c.wp P (Exit.then (fun a' w' => ∃ n', n' < n ∧ J n' a' w') Q) a w) (n : Nat) (a : Act) (w : World) (h₀ : J n a w) : (Code.loop c).wp P Q a w := by
  intro b k cs
  have key : ∀ n a w, J n a w → ∃ e a' w', Q e a' w' ∧ Arrives P (lone (b.at a (.code c :: .inLoop c :: k)) cs w) b k cs e a' w' := by
    intro n
    induction n using Nat.strongRecOn with
    | _ n ih =>
      intro a w hI
      obtain ⟨e, a₁, w₁, hq, harr⟩ := round n a w hI b (.inLoop c :: k) cs
      cases e with
      | normal =>
        obtain ⟨n', hlt, hI₁⟩ := hq
        obtain ⟨e₂, a₂, w₂, hq₂, harr₂⟩ := ih n' hlt a₁ w₁ hI₁
        exact ⟨e₂, a₂, w₂, hq₂, .of_steps (Steps.trans harr (.one step_inLoop)) harr₂⟩
      | exit id => exact ⟨_, a₁, w₁, hq, .pass (x := .inLoop c) rfl (fun _ _ => .inl (by simp)) harr⟩
      | goto l => exact ⟨_, a₁, w₁, hq, .pass (x := .inLoop c) rfl (fun _ _ => .inl (by simp)) harr⟩
      | ret => exact ⟨_, a₁, w₁, hq, .pass (x := .inLoop c) rfl (fun _ _ => .inl (by simp)) harr⟩
      | panic ch => exact ⟨_, a₁, w₁, hq, .pass (x := .inLoop c) rfl (fun _ _ => .inl (by simp)) harr⟩
      | outgrown => exact ⟨_, a₁, w₁, hq, .pass (x := .inLoop c) rfl (fun _ _ => .inl (by simp)) harr⟩
  obtain ⟨e, a', w', hq, harr⟩ := key n a w h₀
  exact ⟨e, a', w', hq, .of_steps (.one step_loop) harr⟩

/-- Of each entry of a template. -/
def TmAll (Pe : (t : Nat) → (k : TK) → k.sh.den → Prop) : (tm : List (Nat × TK)) → dens (tm.map fun p => p.2.sh) → Prop
  | [], _ => True
  | (t, k) :: r, x => Pe t k x.1 ∧ TmAll Pe r x.2

/-- Of each entry that is said to be nil. -/
def AskAll (Pn : Nat → (s : Sh) → List s.den → Prop) : (tm : List (Nat × TK)) → dens (tm.map fun p => p.2.sh) → List Bool → Prop
  | [], _, _ => True
  | (_, .v _) :: r, x, bs => AskAll Pn r x.2 bs
  | (_, .own _) :: r, x, bs => AskAll Pn r x.2 bs
  | (_, .bx) :: r, x, bs => AskAll Pn r x.2 bs
  | (_, .b1) :: r, x, bs => AskAll Pn r x.2 bs
  | (t, .ownN s) :: r, x, bs => (bs.headD false = true → Pn t s x.1) ∧ AskAll Pn r x.2 bs.tail

theorem tmAsk_some {ρ : Type} : ∀ {tm : List (Nat × TK)} {x : dens (tm.map fun p => p.2.sh)} {K : List Bool → Option ρ} {r : ρ}, tmAsk tm x K = some r → ∃ bs, AskAll (fun _ _ y => y = []) tm x bs ∧ K bs = some r := by
  intro tm
  induction tm with
  | nil => intro x K r h; exact ⟨[], trivial, h⟩
  | cons p tm ih =>
    intro x K r h
    obtain ⟨t, k⟩ := p
    cases k with
    | v s => exact ih (x := x.2) h
    | own s => exact ih (x := x.2) h
    | bx => exact ih (x := x.2) h
    | b1 => exact ih (x := x.2) h
    | ownN s =>
      simp only [tmAsk] at h
      cases he : List.isEmpty x.1 with
      | true =>
        rw [he, cond_true] at h
        obtain ⟨bs, h1, h2⟩ := ih (x := x.2) h
        exact ⟨true :: bs, ⟨fun _ => List.isEmpty_iff.1 he, h1⟩, h2⟩
      | false =>
        rw [he, cond_false] at h
        obtain ⟨bs, h1, h2⟩ := ih (x := x.2) h
        exact ⟨false :: bs, ⟨fun hc => (by cases hc), h1⟩, h2⟩

/-- Each entry that shall be nil where it is empty: is it not nil, it is not empty. -/
def NeOk (E : Env) (st : St) (tm : List (Nat × TK)) : Prop := ∀ t s, (t, TK.ownN s) ∈ tm → ∀ h, E.rd st t = .full h → ∀ (s' : Sh) (xs : List s'.den), look st.objs h = some (.arr s' xs) → xs ≠ []

theorem tmNe_some {ρ : Type} {E : Env} {st : St} {k : Option ρ} {r : ρ} : ∀ {tm : List (Nat × TK)}, tmNe E st k tm = some r → NeOk E st tm ∧ k = some r := by
  intro tm
  induction tm with
  | nil => intro h; exact ⟨fun t s hm => (by cases hm), h⟩
  | cons p tm ih =>
    intro h
    obtain ⟨t, kd⟩ := p
    have skip : (∀ s, kd ≠ .ownN s) → tmNe E st k tm = some r → NeOk E st ((t, kd) :: tm) ∧ k = some r := fun hk h => by
      obtain ⟨h1, h2⟩ := ih h
      refine ⟨fun t' s hm => ?_, h2⟩
      rcases List.mem_cons.1 hm with he | hm
      · injection he with he1 he2
        exact absurd he2.symm (hk s)
      · exact h1 t' s hm
    cases kd with
    | v s0 => exact skip (fun s hc => (by cases hc)) h
    | own s0 => exact skip (fun s hc => (by cases hc)) h
    | bx => exact skip (fun s hc => (by cases hc)) h
    | b1 => exact skip (fun s hc => (by cases hc)) h
    | ownN s0 =>
      simp only [tmNe] at h
      split at h
      · rename_i h0 hrd
        split at h
        · rename_i s1 xs1 hlk
          obtain ⟨hne, h'⟩ := cond_none h
          obtain ⟨h1, h2⟩ := ih h'
          refine ⟨fun t' s hm => ?_, h2⟩
          rcases List.mem_cons.1 hm with he | hm
          · cases he
            intro h3 hr s' xs hl
            rw [hrd] at hr
            cases hr
            rw [hlk] at hl
            cases hl
            intro hc
            rw [hc] at hne
            cases hne
          · exact h1 t' s hm
        · cases h
      · rename_i hno
        obtain ⟨h1, h2⟩ := ih h
        refine ⟨fun t' s hm => ?_, h2⟩
        rcases List.mem_cons.1 hm with he | hm
        · cases he
          intro h3 hr
          exact absurd hr (hno h3)
        · exact h1 t' s hm

/-- What a slot holds at a loop's head. -/
def SlotOf (Pn : Nat → (s : Sh) → List s.den → Prop) (t : Nat) : (k : TK) → k.sh.den → AV → Prop
  | .v s, y, av => av = .g s y
  | .own _, _, av => av = .full (cname t)
  | .ownN s, y, av => av = .full (cname t) ∨ (Pn t s y ∧ av = .nil)
  | .bx, _, av => av = .ptr (cname t) 0
  | .b1, _, av => av = .ptr (cname t) 0

/-- An object at a loop's head. -/
def ObjOf (t : Nat) : (k : TK) → k.sh.den → Nat → AO → Prop
  | .v _, _, _, _ => False
  | .own s, y, h, o => h = cname t ∧ o = .arr s y
  | .ownN s, y, h, o => h = cname t ∧ o = .arr s y
  | .bx, y, h, o => (h = cname t ∧ o = .box [.full (bname t), .g (.int .i64) y.2]) ∨ (h = bname t ∧ o = .arr (.int .i64) y.1)
  | .b1, y, h, o => (h = cname t ∧ o = .box [.full (bname t)]) ∨ (h = bname t ∧ o = .arr (.int .i64) y)

theorem tmIn_slots {Pe : (t : Nat) → (k : TK) → k.sh.den → Prop} {Pn : Nat → (s : Sh) → List s.den → Prop} {tm : List (Nat × TK)} : ∀ {x : dens (tm.map fun p => p.2.sh)} {bs : List Bool} {acc : St}, TmAll Pe tm x → AskAll Pn tm x bs →
    ∀ (t : Nat) (av : AV), (tmIn tm x bs acc).slots[t]? = some av → acc.slots[t]? = some av ∨ ∃ k y, (t, k) ∈ tm ∧ Pe t k y ∧ SlotOf Pn t k y av := by
  induction tm with
  | nil => intro x bs acc _ _ t av h; exact .inl h
  | cons p tm ih =>
    intro x bs acc hA hB t av h
    obtain ⟨t0, k⟩ := p
    have grow : (acc.slots[t]? = some av ∨ ∃ k y, (t, k) ∈ tm ∧ Pe t k y ∧ SlotOf Pn t k y av) → acc.slots[t]? = some av ∨ ∃ k' y, (t, k') ∈ (t0, k) :: tm ∧ Pe t k' y ∧ SlotOf Pn t k' y av := fun hg => by
      rcases hg with h1 | ⟨k', y, h1, h2⟩
      · exact .inl h1
      · exact .inr ⟨k', y, List.mem_cons_of_mem _ h1, h2⟩
    have set : ∀ {u : AV}, ((acc.slots.set t0 u)[t]? = some av ∨ ∃ k y, (t, k) ∈ tm ∧ Pe t k y ∧ SlotOf Pn t k y av) → (t0 = t ∧ av = u) ∨ (acc.slots[t]? = some av ∨ ∃ k y, (t, k) ∈ tm ∧ Pe t k y ∧ SlotOf Pn t k y av) := fun hg => by
      rcases hg with h1 | h1
      · simp only [List.getElem?_set] at h1
        split at h1
        · rename_i he
          split at h1
          · cases h1
            exact .inl ⟨he, rfl⟩
          · cases h1
        · exact .inr (.inl h1)
      · exact .inr (.inr h1)
    cases k with
    | v s =>
      simp only [tmIn] at h
      rcases set (ih (acc := { slots := acc.slots.set t0 (.g s x.1), objs := acc.objs }) hA.2 hB t av h) with ⟨rfl, rfl⟩ | hg
      · exact .inr ⟨_, _, List.mem_cons_self, hA.1, rfl⟩
      · exact grow hg
    | own s =>
      simp only [tmIn] at h
      rcases set (ih (acc := { slots := acc.slots.set t0 (.full (cname t0)), objs := (cname t0, .arr s x.1) :: acc.objs }) hA.2 hB t av h) with ⟨rfl, rfl⟩ | hg
      · exact .inr ⟨_, _, List.mem_cons_self, hA.1, rfl⟩
      · exact grow hg
    | bx =>
      simp only [tmIn] at h
      rcases set (ih (acc := { slots := acc.slots.set t0 (.ptr (cname t0) 0), objs := (cname t0, .box [.full (bname t0), .g (.int .i64) x.1.2]) :: (bname t0, .arr (.int .i64) x.1.1) :: acc.objs }) hA.2 hB t av h) with ⟨rfl, rfl⟩ | hg
      · exact .inr ⟨_, _, List.mem_cons_self, hA.1, rfl⟩
      · exact grow hg
    | b1 =>
      simp only [tmIn] at h
      rcases set (ih (acc := { slots := acc.slots.set t0 (.ptr (cname t0) 0), objs := (cname t0, .box [.full (bname t0)]) :: (bname t0, .arr (.int .i64) x.1) :: acc.objs }) hA.2 hB t av h) with ⟨rfl, rfl⟩ | hg
      · exact .inr ⟨_, _, List.mem_cons_self, hA.1, rfl⟩
      · exact grow hg
    | ownN s =>
      simp only [tmIn] at h
      cases hb : bs.headD false with
      | true =>
        rw [hb, cond_true] at h
        rcases set (ih (acc := { slots := acc.slots.set t0 .nil, objs := acc.objs }) hA.2 hB.2 t av h) with ⟨rfl, rfl⟩ | hg
        · exact .inr ⟨_, _, List.mem_cons_self, hA.1, .inr ⟨hB.1 hb, rfl⟩⟩
        · exact grow hg
      | false =>
        rw [hb, cond_false] at h
        rcases set (ih (acc := { slots := acc.slots.set t0 (.full (cname t0)), objs := (cname t0, .arr s x.1) :: acc.objs }) hA.2 hB.2 t av h) with ⟨rfl, rfl⟩ | hg
        · exact .inr ⟨_, _, List.mem_cons_self, hA.1, .inl rfl⟩
        · exact grow hg

theorem tmIn_objs {Pe : (t : Nat) → (k : TK) → k.sh.den → Prop} {tm : List (Nat × TK)} : ∀ {x : dens (tm.map fun p => p.2.sh)} {bs : List Bool} {acc : St}, TmAll Pe tm x →
    ∀ (h : Nat) (o : AO), look (tmIn tm x bs acc).objs h = some o → look acc.objs h = some o ∨ ∃ t k y, (t, k) ∈ tm ∧ Pe t k y ∧ ObjOf t k y h o := by
  induction tm with
  | nil => intro x bs acc _ h o hh; exact .inl hh
  | cons p tm ih =>
    intro x bs acc hA h o hh
    obtain ⟨t0, k⟩ := p
    have grow : ∀ {sl : List AV} {l : List (Nat × AO)} {bs : List Bool}, look (tmIn tm x.2 bs { slots := sl, objs := l }).objs h = some o → (look l h = some o → look acc.objs h = some o ∨ ObjOf t0 k x.1 h o) →
        look acc.objs h = some o ∨ ∃ t k' y, (t, k') ∈ (t0, k) :: tm ∧ Pe t k' y ∧ ObjOf t k' y h o := fun hh hl => by
      rcases ih (acc := { slots := _, objs := _ }) hA.2 h o hh with h1 | ⟨t, k', y, h1, h2⟩
      · rcases hl h1 with h2 | h2
        · exact .inl h2
        · exact .inr ⟨t0, k, x.1, List.mem_cons_self, hA.1, h2⟩
      · exact .inr ⟨t, k', y, List.mem_cons_of_mem _ h1, h2⟩
    have one : ∀ {n : Nat} {q : AO} {l : List (Nat × AO)}, look ((n, q) :: l) h = some o → (h = n ∧ o = q) ∨ look l h = some o := fun {n q l} h1 => by
      by_cases he : n = h
      · subst he
        rw [look_cons_self] at h1
        cases h1
        exact .inl ⟨rfl, rfl⟩
      · rw [look_cons_ne _ _ he] at h1
        exact .inr h1
    cases k with
    | v s =>
      simp only [tmIn] at hh
      exact grow hh .inl
    | own s =>
      simp only [tmIn] at hh
      exact grow hh fun h1 => (one h1).elim .inr .inl
    | bx =>
      simp only [tmIn] at hh
      refine grow hh fun h1 => ?_
      rcases one h1 with h2 | h2
      · exact .inr (.inl h2)
      · rcases one h2 with h3 | h3
        · exact .inr (.inr h3)
        · exact .inl h3
    | b1 =>
      simp only [tmIn] at hh
      refine grow hh fun h1 => ?_
      rcases one h1 with h2 | h2
      · exact .inr (.inl h2)
      · rcases one h2 with h3 | h3
        · exact .inr (.inr h3)
        · exact .inl h3
    | ownN s =>
      simp only [tmIn] at hh
      cases hb : bs.headD false with
      | true =>
        rw [hb, cond_true] at hh
        exact grow hh .inl
      | false =>
        rw [hb, cond_false] at hh
        exact grow hh fun h1 => (one h1).elim .inr .inl

theorem tmIn_len {tm : List (Nat × TK)} : ∀ {x : dens (tm.map fun p => p.2.sh)} {bs : List Bool} {acc : St}, (tmIn tm x bs acc).slots.length = acc.slots.length := by
  induction tm with
  | nil => intro x bs acc; rfl
  | cons p tm ih =>
    intro x bs acc
    obtain ⟨t0, k⟩ := p
    cases k with
    | v s => simp only [tmIn]; rw [ih]; simp
    | own s => simp only [tmIn]; rw [ih]; simp
    | bx => simp only [tmIn]; rw [ih]; simp
    | b1 => simp only [tmIn]; rw [ih]; simp
    | ownN s =>
      simp only [tmIn]
      cases bs.headD false with
      | true => rw [cond_true, ih]; simp
      | false => rw [cond_false, ih]; simp

theorem mergeSlots_get : ∀ {l1 l2 : List AV} {t : Nat} {av : AV}, (mergeSlots l1 l2)[t]? = some av → l1[t]? = some av ∨ l2[t]? = some av := by
  intro l1
  induction l1 with
  | nil => intro l2 t av h; exact .inr h
  | cons v r ih =>
    intro l2 t av h
    cases l2 with
    | nil => exact .inl h
    | cons u l =>
      cases t with
      | zero =>
        simp only [mergeSlots, List.getElem?_cons_zero, Option.some.injEq] at h
        split at h
        · exact .inr (by simp [h])
        · exact .inl (by simp [h])
      | succ t =>
        simp only [mergeSlots, List.getElem?_cons_succ] at h ⊢
        exact ih h

theorem mergeSlots_l : ∀ {l1 l2 : List AV} {t : Nat} {av : AV}, l1[t]? = some av → av ≠ .top → (mergeSlots l1 l2)[t]? = some av := by
  intro l1
  induction l1 with
  | nil => intro l2 t av h; simp at h
  | cons v r ih =>
    intro l2 t av h hne
    cases l2 with
    | nil => exact h
    | cons u l =>
      cases t with
      | zero =>
        simp only [List.getElem?_cons_zero, Option.some.injEq] at h
        subst h
        simp only [mergeSlots, List.getElem?_cons_zero, Option.some.injEq]
        try (split <;> simp_all)
      | succ t =>
        simp only [mergeSlots, List.getElem?_cons_succ] at h ⊢
        exact ih h hne

theorem mergeSlots_r : ∀ {l1 l2 : List AV} {t : Nat} {av : AV}, l2[t]? = some av → (∀ u, l1[t]? = some u → u = .top) → (mergeSlots l1 l2)[t]? = some av := by
  intro l1
  induction l1 with
  | nil => intro l2 t av h _; exact h
  | cons v r ih =>
    intro l2 t av h hn
    cases l2 with
    | nil => simp at h
    | cons u l =>
      cases t with
      | zero =>
        simp only [List.getElem?_cons_zero, Option.some.injEq] at h
        subst h
        have := hn v rfl
        subst this
        simp [mergeSlots]
      | succ t =>
        simp only [mergeSlots, List.getElem?_cons_succ] at h ⊢
        exact ih h fun u hu => hn u (by simpa using hu)

theorem mergeSlots_len : ∀ {l1 l2 : List AV}, l1.length = l2.length → (mergeSlots l1 l2).length = l1.length := by
  intro l1
  induction l1 with
  | nil => intro l2 h; simp [mergeSlots] at h ⊢; exact List.eq_nil_of_length_eq_zero h.symm
  | cons v r ih =>
    intro l2 h
    cases l2 with
    | nil => rfl
    | cons u l => simp only [mergeSlots, List.length_cons]; rw [ih (by simpa using h)]

theorem keepSlots_len (ds hs : List Nat) : ∀ (l : List AV) (i : Nat), (keepSlots ds hs i l).length = l.length := by
  intro l
  induction l with
  | nil => intro i; rfl
  | cons v r ih => intro i; simp [keepSlots, ih]

theorem keepSlots_get (ds hs : List Nat) : ∀ (l : List AV) (i t : Nat) {av : AV}, (keepSlots ds hs i l)[t]? = some av → av = .top ∨ (l[t]? = some av ∧ hs.any (fun h => ment h 6 av) = false) := by
  intro l
  induction l with
  | nil => intro i t av h; simp [keepSlots] at h
  | cons v r ih =>
    intro i t av h
    cases t with
    | zero =>
      simp only [keepSlots, List.getElem?_cons_zero, Option.some.injEq] at h
      cases hc : ds.contains i || hs.any (fun h => ment h 6 v) with
      | true => rw [hc] at h; exact .inl h.symm
      | false =>
        rw [hc] at h
        simp only [cond_false] at h
        subst h
        simp only [Bool.or_eq_false_iff] at hc
        exact .inr ⟨rfl, hc.2⟩
    | succ t =>
      simp only [keepSlots, List.getElem?_cons_succ] at h
      exact ih (i + 1) t h

theorem excl_spec : ∀ {l1 l2 : List AV}, excl l1 l2 = true → ∀ (t : Nat) (u v : AV), l1[t]? = some u → l2[t]? = some v → u = .top ∨ v = .top := by
  intro l1
  induction l1 with
  | nil => intro l2 _ t u v h; simp at h
  | cons x r ih =>
    intro l2 h t u v h1 h2
    cases l2 with
    | nil => simp at h2
    | cons y l =>
      simp only [excl, Bool.and_eq_true, Bool.or_eq_true] at h
      cases t with
      | zero =>
        simp only [List.getElem?_cons_zero, Option.some.injEq] at h1 h2
        subst h1 h2
        rcases h.1 with h3 | h3
        · exact .inl (isTop_eq h3)
        · exact .inr (isTop_eq h3)
      | succ t => exact ih h.2 t u v (by simpa using h1) (by simpa using h2)

theorem nodup_spec : ∀ {l : List Nat}, nodup l = true → l.Nodup := by
  intro l
  induction l with
  | nil => intro _; exact List.nodup_nil
  | cons x l ih =>
    intro h
    simp only [nodup, Bool.and_eq_true, Bool.not_eq_true', List.contains_eq_mem, decide_eq_false_iff_not] at h
    exact List.nodup_cons.2 ⟨h.1, ih h.2⟩

theorem cname_inj {s t : Nat} (h : cname s = cname t) : s = t := by unfold cname at h; omega
theorem bname_inj {s t : Nat} (h : bname s = bname t) : s = t := by unfold bname at h; omega

/-- The names of an entry. -/
def kNames (t : Nat) : TK → List Nat
  | .v _ => []
  | .bx => [cname t, bname t]
  | .b1 => [cname t, bname t]
  | _ => [cname t]

theorem ownNames_cons (t : Nat) (k : TK) (tm : List (Nat × TK)) : ownNames ((t, k) :: tm) = kNames t k ++ ownNames tm := by
  cases k <;> rfl

theorem own_mem {t n : Nat} {k : TK} {tm : List (Nat × TK)} (h : (t, k) ∈ tm) (hn : n ∈ kNames t k) : n ∈ ownNames tm := by
  induction tm with
  | nil => cases h
  | cons p tm ih =>
    obtain ⟨t0, k0⟩ := p
    rw [ownNames_cons]
    rcases List.mem_cons.1 h with he | h
    · cases he
      exact List.mem_append_left _ hn
    · exact List.mem_append_right _ (ih h)

section
variable {P : Program} {c : Cx} {E : Env} {st : St} {m : Nat → Option Nat} {a : Act} {w : World}

theorem box1A_spec {S : Nat → Option AO} {av : AV} {h : Nat} {k : Option Nat} {xs : List Int} (hb : box1A S av = some (h, k, xs)) :
    av = .ptr h 0 ∧ ((k = none ∧ xs = [] ∧ S h = some (.box [.nil])) ∨ ∃ k0, k = some k0 ∧ S h = some (.box [.full k0]) ∧ S k0 = some (.arr (.int .i64) xs)) := by
  unfold box1A at hb
  split at hb
  · rename_i h0
    split at hb
    · rename_i v hs
      split at hb
      · cases hb
        exact ⟨rfl, .inl ⟨rfl, rfl, hs⟩⟩
      · rename_i k0
        split at hb
        · rename_i s1 ys hk
          split at hb
          · rename_i ys' hc
            cases hb
            obtain ⟨e1, rfl⟩ := castSh_some hc
            cases e1
            exact ⟨rfl, .inr ⟨k0, rfl, hs, hk⟩⟩
          · cases hb
        · cases hb
      · cases hb
    · cases hb
  · cases hb

theorem box1A_mem (hS : SimM c E st m a w) {av : AV} {u : Value} {h : Nat} {k : Option Nat} {xs : List Int} (hv : RVs c E st m w av u) (hb : box1A (look st.objs) av = some (h, k, xs)) :
    ∃ bb cs e v, m h = some bb ∧ u = .pointer (some ⟨bb, 0, none⟩) ∧ c.mt bb ∧ w.heap[bb]? = some (.cells cs e (0, 0)) ∧ cs = #[v] ∧ MutR (fun _ _ => False) w.heap (.int .i64) xs v (k.bind m) := by
  obtain ⟨rfl, hk⟩ := box1A_spec hb
  have box : ∀ {v0 : AV}, look st.objs h = some (.box [v0]) → ∃ bb cs e v, m h = some bb ∧ u = .pointer (some ⟨bb, 0, none⟩) ∧ c.mt bb ∧ w.heap[bb]? = some (.cells cs e (0, 0)) ∧ cs = #[v] ∧ RVs c E st m w v0 v := fun {v0} hl => by
    obtain ⟨bb, cs, e, g1, g2, g3, g4, g5, g6⟩ := hS.objs h _ (ob_of_look hl)
    have g4 : cs.size = 1 := g4
    obtain ⟨b', hb', hu⟩ := (show ∃ b', m h = some b' ∧ u = .pointer (some ⟨b', 0, none⟩) from by
      cases hv with
      | ptr _ _ _ hv _ => exact hv _ (ob_of_look hl))
    rw [g1] at hb'
    cases hb'
    have h0 : cs[0]? = some cs[0] := Array.getElem?_eq_getElem (by omega)
    have r0 := g6 0 v0 cs[0] rfl h0
    refine ⟨bb, cs, e, cs[0], g1, hu, g2, g3, ?_, r0⟩
    apply Array.ext
    · simp [g4]
    · intro i hi1 hi2
      have : i = 0 := by omega
      subst this
      rfl
  rcases hk with ⟨rfl, rfl, hl⟩ | ⟨k0, rfl, hl, hk0⟩
  · obtain ⟨bb, cs, e, v, g1, g2, g3, g4, g5, g6⟩ := box hl
    refine ⟨bb, cs, e, v, g1, g2, g3, g4, g5, ?_⟩
    have : v = .slice none 0 0 := by
      generalize v = u1 at g6
      cases g6
      rfl
    exact ⟨this, rfl⟩
  · obtain ⟨bb, cs, e, v, g1, g2, g3, g4, g5, g6⟩ := box hl
    exact ⟨bb, cs, e, v, g1, g2, g3, g4, g5, (MutR_of hS hk0 g6).noref rfl⟩

/-- What a template's own slot holds. -/
def OwnS (E : Env) (st : St) (t : Nat) (s : Sh) (y : List s.den) : Prop :=
  (∃ h, E.rd st t = .full h ∧ look st.objs h = some (.arr s y)) ∨ (E.rd st t = .nil ∧ y = [])

/-- What holds of a template's entry. -/
def EntOk (c : Cx) (E : Env) (st : St) (m : Nat → Option Nat) (a : Act) (w : World) (t : Nat) : (k : TK) → k.sh.den → Prop
  | .v s, y => RC (c.ok m (E.ob st) w.heap) w.heap s y (a.tmps.getD t undef).cells.toList ∧ aggV (a.tmps.getD t undef) = s.isAgg
  | .own s, y => OwnS E st t s y
  | .ownN s, y => OwnS E st t s y
  | .bx, y => ∃ h k, boxA (look st.objs) (E.rd st t) = some (h, k, y.1, y.2)
  | .b1, y => ∃ h k, box1A (look st.objs) (E.rd st t) = some (h, k, y)

theorem tmOut_all (hS : SimM c E st m a w) : ∀ {tm : List (Nat × TK)} {x : dens (tm.map fun p => p.2.sh)}, tmOut E st tm = some x → TmAll (EntOk c E st m a w) tm x := by
  intro tm
  induction tm with
  | nil => intro x _; trivial
  | cons p tm ih =>
    intro x h
    obtain ⟨t, k⟩ := p
    have own : ∀ {s : Sh} {h0 : Option Nat} {x1 : List s.den}, baseOf (look st.objs) s (match E.rd st t with | .slc _ _ _ => .top | v => v) = some (h0, x1) → OwnS E st t s x1 := fun {s h0 x1} h1 => by
      have hr := baseOf_spec h1 (by intro h off len; split <;> simp_all)
      rcases hr with ⟨k, h3, h4⟩ | ⟨h3, h4⟩
      · split at h3
        · cases h3
        · exact .inl ⟨k, h3, h4⟩
      · split at h3
        · cases h3
        · exact .inr ⟨h3, h4⟩
    cases k with
    | v s =>
      simp only [tmOut] at h
      split at h
      · rename_i x1 x2 h1 h2
        cases h
        refine ⟨?_, ih h2⟩
        exact gndV_sound (mt := c.mt) (fun i b hb => hb) (fun b hb => Cx.ok_any hb) (fun h o hh => by cases hh) hS.objs (fun i h o b hh => by cases hh) h1 (hS.rd t)
      · cases h
    | own s =>
      simp only [tmOut] at h
      split at h
      · rename_i h0 x1 x2 h1 h2
        cases h
        exact ⟨own h1, ih h2⟩
      · cases h
    | ownN s =>
      simp only [tmOut] at h
      split at h
      · rename_i h0 x1 x2 h1 h2
        cases h
        exact ⟨own h1, ih h2⟩
      · cases h
    | bx =>
      simp only [tmOut] at h
      split at h
      · rename_i h0 k0 x1 x2 h1 h2
        cases h
        exact ⟨⟨_, _, h1⟩, ih h2⟩
      · cases h
    | b1 =>
      simp only [tmOut] at h
      split at h
      · rename_i h0 k0 x1 h1 h2
        cases h
        exact ⟨⟨_, _, h1⟩, ih h2⟩
      · cases h

/-- The object that bears a loop's own name outside. -/
def srcN (E : Env) (st : St) (n : Nat) : Option Nat :=
  if n < 1500000 then (match E.rd st (n - 1000000) with | .full h => some h | .ptr h _ => some h | _ => none)
  else (match boxA (look st.objs) (E.rd st (n - 1500000)) with | some (_, k, _, _) => k | none => match box1A (look st.objs) (E.rd st (n - 1500000)) with | some (_, k, _) => k | none => none)

theorem src_c {t : Nat} (ht : t < 500000) : srcN E st (cname t) = match E.rd st t with | .full h => some h | .ptr h _ => some h | _ => none := by
  unfold srcN cname
  rw [if_pos (by omega), show 1000000 + t - 1000000 = t by omega]

theorem src_b_ {t : Nat} : srcN E st (bname t) = match boxA (look st.objs) (E.rd st t) with | some (_, k, _, _) => k | none => match box1A (look st.objs) (E.rd st t) with | some (_, k, _) => k | none => none := by
  unfold srcN bname
  rw [if_neg (by omega), show 1500000 + t - 1500000 = t by omega]

theorem src_b {t h : Nat} {k : Option Nat} {ys : List Int} {c0 : Int} (hb : boxA (look st.objs) (E.rd st t) = some (h, k, ys, c0)) : srcN E st (bname t) = k := by
  rw [src_b_, hb]

theorem src_b1 {t h : Nat} {k : Option Nat} {ys : List Int} (hb : box1A (look st.objs) (E.rd st t) = some (h, k, ys)) : srcN E st (bname t) = k := by
  rw [src_b_]
  have hno : boxA (look st.objs) (E.rd st t) = none := by
    obtain ⟨h1, h2⟩ := box1A_spec hb
    cases hc : boxA (look st.objs) (E.rd st t) with
    | none => rfl
    | some q =>
      exfalso
      obtain ⟨h', k', ys', c'⟩ := q
      obtain ⟨g1, g2⟩ := boxA_spec hc
      rw [h1] at g1
      cases g1
      rcases h2 with ⟨_, _, h2⟩ | ⟨_, _, h2, _⟩ <;> rcases g2 with ⟨_, _, g2⟩ | ⟨_, _, g2, _⟩
      all_goals (rw [h2] at g2; cases g2)
  rw [hno, hb]

/-- What an entry takes from outside. -/
def kHs (E : Env) (st : St) (t : Nat) : TK → List Nat
  | .v _ => []
  | .bx => match boxA (look st.objs) (E.rd st t) with
    | some (h, k, _, _) => h :: k.toList
    | none => []
  | .b1 => match box1A (look st.objs) (E.rd st t) with
    | some (h, k, _) => h :: k.toList
    | none => []
  | _ => match E.rd st t with
    | .full h => [h]
    | _ => []

theorem tmHs_cons (t : Nat) (k : TK) (tm : List (Nat × TK)) : tmHs E st ((t, k) :: tm) = kHs E st t k ++ tmHs E st tm := by
  cases k with
  | v s => rfl
  | own s => simp only [tmHs, kHs]; cases E.rd st t <;> rfl
  | ownN s => simp only [tmHs, kHs]; cases E.rd st t <;> rfl
  | bx =>
    simp only [tmHs, kHs]
    cases boxA (look st.objs) (E.rd st t) with
    | none => rfl
    | some q => rfl
  | b1 =>
    simp only [tmHs, kHs]
    cases box1A (look st.objs) (E.rd st t) with
    | none => rfl
    | some q => rfl

theorem own_src {t : Nat} {s : Sh} {y : List s.den} (ht : t < 500000) (hO : OwnS E st t s y) {n h : Nat} (hn : n = cname t) (hs : srcN E st n = some h) : E.rd st t = .full h ∧ look st.objs h = some (.arr s y) := by
  subst hn
  rw [src_c ht] at hs
  rcases hO with ⟨h1, h2, h3⟩ | ⟨h2, _⟩
  · rw [h2] at hs
    cases hs
    exact ⟨h2, h3⟩
  · rw [h2] at hs
    cases hs

theorem box_rd {t h : Nat} {k : Option Nat} {ys : List Int} {c0 : Int} (hb : boxA (look st.objs) (E.rd st t) = some (h, k, ys, c0)) : E.rd st t = .ptr h 0 := (boxA_spec hb).1

theorem box1_rd {t h : Nat} {k : Option Nat} {ys : List Int} (hb : box1A (look st.objs) (E.rd st t) = some (h, k, ys)) : E.rd st t = .ptr h 0 := (box1A_spec hb).1

theorem src_kHs {t : Nat} {k : TK} {y : k.sh.den} (ht : t < 500000) (hE : EntOk c E st m a w t k y) {n h : Nat} (hn : n ∈ kNames t k) (hs : srcN E st n = some h) : h ∈ kHs E st t k := by
  cases k with
  | v s => cases hn
  | own s =>
    have := (own_src ht hE (List.mem_singleton.1 hn) hs).1
    simp only [kHs, this]
    exact List.mem_singleton.2 rfl
  | ownN s =>
    have := (own_src ht hE (List.mem_singleton.1 hn) hs).1
    simp only [kHs, this]
    exact List.mem_singleton.2 rfl
  | bx =>
    obtain ⟨h0, k0, hb⟩ := hE
    simp only [kHs, hb]
    simp only [kNames, List.mem_cons, List.not_mem_nil, or_false] at hn
    rcases hn with rfl | rfl
    · rw [src_c ht, box_rd hb] at hs
      cases hs
      exact List.mem_cons_self
    · rw [src_b hb] at hs
      subst hs
      exact List.mem_cons_of_mem _ (List.mem_singleton.2 rfl)
  | b1 =>
    obtain ⟨h0, k0, hb⟩ := hE
    simp only [kHs, hb]
    simp only [kNames, List.mem_cons, List.not_mem_nil, or_false] at hn
    rcases hn with rfl | rfl
    · rw [src_c ht, box1_rd hb] at hs
      cases hs
      exact List.mem_cons_self
    · rw [src_b1 hb] at hs
      subst hs
      exact List.mem_cons_of_mem _ (List.mem_singleton.2 rfl)

theorem src_mem : ∀ {tm : List (Nat × TK)} {x : dens (tm.map fun p => p.2.sh)}, (∀ p ∈ tm, p.1 < 500000) → TmAll (EntOk c E st m a w) tm x → ∀ {n h : Nat}, n ∈ ownNames tm → srcN E st n = some h → h ∈ tmHs E st tm := by
  intro tm
  induction tm with
  | nil => intro x _ _ n h hn; cases hn
  | cons p tm ih =>
    intro x hlt hA n h hn hs
    obtain ⟨t, k⟩ := p
    rw [ownNames_cons] at hn
    rw [tmHs_cons]
    rcases List.mem_append.1 hn with hn | hn
    · exact List.mem_append_left _ (src_kHs (hlt _ List.mem_cons_self) hA.1 hn hs)
    · exact List.mem_append_right _ (ih (fun p hp => hlt p (List.mem_cons_of_mem _ hp)) hA.2 hn hs)

theorem src_inj : ∀ {tm : List (Nat × TK)} {x : dens (tm.map fun p => p.2.sh)}, (∀ p ∈ tm, p.1 < 500000) → TmAll (EntOk c E st m a w) tm x → (tmHs E st tm).Nodup → ∀ {n n' h : Nat}, n ∈ ownNames tm → n' ∈ ownNames tm → srcN E st n = some h → srcN E st n' = some h → n = n' := by
  intro tm
  induction tm with
  | nil => intro x _ _ _ n n' h hn; cases hn
  | cons p tm ih =>
    intro x hlt hA hnd n n' h hn hn' hs hs'
    obtain ⟨t, k⟩ := p
    have ht := hlt _ List.mem_cons_self
    have hlt' : ∀ p ∈ tm, p.1 < 500000 := fun p hp => hlt p (List.mem_cons_of_mem _ hp)
    rw [ownNames_cons] at hn hn'
    rw [tmHs_cons] at hnd
    obtain ⟨d1, d2, d3⟩ := List.nodup_append.1 hnd
    rcases List.mem_append.1 hn with hn | hn <;> rcases List.mem_append.1 hn' with hn' | hn'
    · cases k with
      | v s => cases hn
      | own s => rw [List.mem_singleton.1 hn, List.mem_singleton.1 hn']
      | ownN s => rw [List.mem_singleton.1 hn, List.mem_singleton.1 hn']
      | bx =>
        obtain ⟨h0, k0, hb⟩ := hA.1
        simp only [kHs, hb] at d1
        simp only [kNames, List.mem_cons, List.not_mem_nil, or_false] at hn hn'
        have cross : srcN E st (cname t) = some h → srcN E st (bname t) = some h → False := fun g1 g2 => by
          rw [src_c ht, box_rd hb] at g1
          rw [src_b hb] at g2
          cases g1
          subst g2
          simp at d1
        rcases hn with rfl | rfl <;> rcases hn' with rfl | rfl
        · rfl
        · exact (cross hs hs').elim
        · exact (cross hs' hs).elim
        · rfl
      | b1 =>
        obtain ⟨h0, k0, hb⟩ := hA.1
        simp only [kHs, hb] at d1
        simp only [kNames, List.mem_cons, List.not_mem_nil, or_false] at hn hn'
        have cross : srcN E st (cname t) = some h → srcN E st (bname t) = some h → False := fun g1 g2 => by
          rw [src_c ht, box1_rd hb] at g1
          rw [src_b1 hb] at g2
          cases g1
          subst g2
          simp at d1
        rcases hn with rfl | rfl <;> rcases hn' with rfl | rfl
        · rfl
        · exact (cross hs hs').elim
        · exact (cross hs' hs).elim
        · rfl
    · exact absurd rfl (d3 h (src_kHs ht hA.1 hn hs) h (src_mem hlt' hA.2 hn' hs'))
    · exact absurd rfl (d3 h (src_kHs ht hA.1 hn' hs') h (src_mem hlt' hA.2 hn hs))
    · exact ih hlt' hA.2 d2 hn hn' hs hs'

theorem tmHs_look {tm : List (Nat × TK)} : ∀ {x : dens (tm.map fun p => p.2.sh)}, tmOut E st tm = some x → ∀ h ∈ tmHs E st tm, ∃ o, look st.objs h = some o := by
  induction tm with
  | nil => intro x _ h hh; simp [tmHs] at hh
  | cons p tm ih =>
    intro x hx h hh
    obtain ⟨t, k⟩ := p
    rw [tmHs_cons] at hh
    have own : ∀ {s : Sh} {h0 : Option Nat} {x1 : List s.den}, baseOf (look st.objs) s (match E.rd st t with | .slc _ _ _ => .top | v => v) = some (h0, x1) → h ∈ (match E.rd st t with | .full h => [h] | _ => []) → ∃ o, look st.objs h = some o := fun {s h0 x1} h1 hh => by
      split at hh
      · rename_i k hk
        rw [hk] at h1
        rw [List.mem_singleton.1 hh]
        rcases baseOf_spec h1 (by intro h off len hc; cases hc) with ⟨k', h3, h4⟩ | ⟨h3, _⟩
        · cases h3; exact ⟨_, h4⟩
        · cases h3
      · cases hh
    cases k with
    | v s =>
      simp only [tmOut] at hx
      split at hx
      · rename_i h2
        rcases List.mem_append.1 hh with hh | hh
        · cases hh
        · exact ih h2 h hh
      · cases hx
    | own s =>
      simp only [tmOut] at hx
      split at hx
      · rename_i h1 h2
        rcases List.mem_append.1 hh with hh | hh
        · exact own h1 hh
        · exact ih h2 h hh
      · cases hx
    | ownN s =>
      simp only [tmOut] at hx
      split at hx
      · rename_i h1 h2
        rcases List.mem_append.1 hh with hh | hh
        · exact own h1 hh
        · exact ih h2 h hh
      · cases hx
    | bx =>
      simp only [tmOut] at hx
      split at hx
      · rename_i h0 k0 y1 y2 h1 h2
        rcases List.mem_append.1 hh with hh | hh
        · simp only [kHs, h1] at hh
          rcases (boxA_spec h1).2 with ⟨rfl, _, hl⟩ | ⟨k1, rfl, hl, hk⟩
          · rcases List.mem_cons.1 hh with rfl | hh
            · exact ⟨_, hl⟩
            · cases hh
          · rcases List.mem_cons.1 hh with rfl | hh
            · exact ⟨_, hl⟩
            · rw [List.mem_singleton.1 hh]
              exact ⟨_, hk⟩
        · exact ih h2 h hh
      · cases hx
    | b1 =>
      simp only [tmOut] at hx
      split at hx
      · rename_i h0 k0 y1 h1 h2
        rcases List.mem_append.1 hh with hh | hh
        · simp only [kHs, h1] at hh
          rcases (box1A_spec h1).2 with ⟨rfl, _, hl⟩ | ⟨k1, rfl, hl, hk⟩
          · rcases List.mem_cons.1 hh with rfl | hh
            · exact ⟨_, hl⟩
            · cases hh
          · rcases List.mem_cons.1 hh with rfl | hh
            · exact ⟨_, hl⟩
            · rw [List.mem_singleton.1 hh]
              exact ⟨_, hk⟩
        · exact ih h2 h hh
      · cases hx

/-- What is said to be nil is nil. -/
theorem ask_nil : ∀ {tm : List (Nat × TK)} {x : dens (tm.map fun p => p.2.sh)} {bs : List Bool}, TmAll (EntOk c E st m a w) tm x → AskAll (fun _ _ y => y = []) tm x bs → NeOk E st tm → AskAll (fun t _ _ => E.rd st t = .nil) tm x bs := by
  intro tm
  induction tm with
  | nil => intro x bs _ _ _; trivial
  | cons p tm ih =>
    intro x bs hA hB hN
    obtain ⟨t, k⟩ := p
    have hN' : NeOk E st tm := fun t' s hm => hN t' s (List.mem_cons_of_mem _ hm)
    cases k with
    | v s => exact ih hA.2 hB hN'
    | own s => exact ih hA.2 hB hN'
    | bx => exact ih hA.2 hB hN'
    | b1 => exact ih hA.2 hB hN'
    | ownN s =>
      refine ⟨fun hb => ?_, ih hA.2 hB.2 hN'⟩
      have hy := hB.1 hb
      rcases hA.1 with ⟨h, h1, h2⟩ | ⟨h1, _⟩
      · exact absurd hy (hN t s List.mem_cons_self h h1 s _ h2)
      · exact h1

/-- The state at a loop's head, made of what the slots hold. -/
theorem head_sim (hS : SimM c E st m a w) {tm : List (Nat × TK)} {x : dens (tm.map fun p => p.2.sh)} (hx : tmOut E st tm = some x) (hn : nodup (tmHs E st tm) = true) {E' : Env} {st0 : St}
    (hAr : E'.args = E.args) (hMu : E'.mutb = E.mutb) (h0 : st0.objs = []) (h0' : ∀ (t : Nat) (av : AV), st0.slots[t]? = some av → av = .top) (h0n : st0.slots.length = st.slots.length)
    (H1 : ∀ h o, look E'.objs h = some o → E.ob st h = some o ∧ h ∉ tmHs E st tm)
    (H2 : ∀ (t : Nat) (av : AV), E'.slots[t]? = some av → RVs c E st m w av (a.tmps.getD t undef))
    (hlt : ∀ p ∈ tm, p.1 < 500000) (hNe : NeOk E st tm) {bs : List Bool} (hB : AskAll (fun _ _ y => y = []) tm x bs)
    (H3 : ∀ n ∈ ownNames tm, look E'.objs n = none ∧ (∀ (t : Nat) (av : AV), E'.slots[t]? = some av → ¬ Mn n av) ∧ ∀ k cells, look E'.objs k = some (.box cells) → ∀ b ∈ cells, ¬ Mn n b) :
    ∃ m', SimM c E' (tmIn tm x bs st0) m' a w := by
  have hA := tmOut_all hS hx
  have hBn : AskAll (fun t _ _ => E.rd st t = .nil) tm x bs := ask_nil hA hB hNe
  have hnd := nodup_spec hn
  let m' : Nat → Option Nat := fun n => if n ∈ ownNames tm then (srcN E st n).bind m else m n
  have hm1 : ∀ n, n ∈ ownNames tm → m' n = (srcN E st n).bind m := fun n hn => if_pos hn
  have hm2 : ∀ n, n ∉ ownNames tm → m' n = m n := fun n hn => if_neg hn
  have objN : ∀ {t k y h o}, (t, k) ∈ tm → ObjOf t k y h o → h ∈ kNames t k := fun {t k y h o} hm ho => by
    cases k with
    | v s => exact ho.elim
    | own s => exact List.mem_singleton.2 ho.1
    | ownN s => exact List.mem_singleton.2 ho.1
    | bx =>
      rcases ho with ho | ho
      · rw [ho.1]; exact List.mem_cons_self
      · rw [ho.1]; exact List.mem_cons_of_mem _ List.mem_cons_self
    | b1 =>
      rcases ho with ho | ho
      · rw [ho.1]; exact List.mem_cons_self
      · rw [ho.1]; exact List.mem_cons_of_mem _ List.mem_cons_self
  have hob : ∀ h o, E'.ob (tmIn tm x bs st0) h = some o → (∃ t k y, (t, k) ∈ tm ∧ EntOk c E st m a w t k y ∧ ObjOf t k y h o ∧ h ∈ ownNames tm) ∨ (look E'.objs h = some o ∧ h ∉ ownNames tm) := fun h o ho => by
    unfold Env.ob at ho
    split at ho
    · rename_i o' hl
      cases ho
      rcases tmIn_objs hA h _ hl with h1 | ⟨t, k, y, h1, h2, h3⟩
      · rw [h0] at h1; cases h1
      · exact .inl ⟨t, k, y, h1, h2, h3, own_mem h1 (objN h1 h3)⟩
    · refine .inr ⟨ho, fun hh => ?_⟩
      rw [(H3 h hh).1] at ho
      cases ho
  -- an array under one of the names
  have arrC : ∀ {t : Nat} {s : Sh} {xs : List s.den}, t < 500000 → E'.ob (tmIn tm x bs st0) (cname t) = some (.arr s xs) → cname t ∈ ownNames tm → OwnS E st t s xs := fun {t s xs} htl ho hmem => by
    rcases hob _ _ ho with ⟨t', k', y', g1, g2, g3, _⟩ | ⟨_, g⟩
    · cases k' with
      | v s1 => exact g3.elim
      | own s1 =>
        obtain ⟨e1, e2⟩ := g3
        have := cname_inj e1
        subst this
        cases e2
        exact g2
      | ownN s1 =>
        obtain ⟨e1, e2⟩ := g3
        have := cname_inj e1
        subst this
        cases e2
        exact g2
      | bx =>
        rcases g3 with ⟨_, e2⟩ | ⟨e1, _⟩
        · cases e2
        · have := hlt _ g1
          unfold cname bname at e1
          simp only at this
          omega
      | b1 =>
        rcases g3 with ⟨_, e2⟩ | ⟨e1, _⟩
        · cases e2
        · have := hlt _ g1
          unfold cname bname at e1
          simp only at this
          omega
    · exact absurd hmem g
  have arrB : ∀ {t : Nat} {k : TK} {ys : List Int} {s : Sh} {xs : List s.den}, (t, k) ∈ tm → bname t ∈ kNames t k → (∀ h k0 c0 zs, boxA (look st.objs) (E.rd st t) = some (h, k0, zs, c0) → zs = ys) → (∀ h k0 zs, box1A (look st.objs) (E.rd st t) = some (h, k0, zs) → zs = ys) →
      E'.ob (tmIn tm x bs st0) (bname t) = some (.arr s xs) → s = .int .i64 ∧ HEq xs ys := fun {t k ys s xs} hm hnm hbx hbx1 ho => by
    rcases hob _ _ ho with ⟨t', k', y', g1, g2, g3, _⟩ | ⟨_, g⟩
    · have hl := hlt _ g1
      have hl0 := hlt _ hm
      simp only at hl hl0
      cases k' with
      | v s1 => exact g3.elim
      | own s1 =>
        have := g3.1
        unfold cname bname at this
        omega
      | ownN s1 =>
        have := g3.1
        unfold cname bname at this
        omega
      | bx =>
        rcases g3 with ⟨e1, _⟩ | ⟨e1, e2⟩
        · unfold cname bname at e1
          omega
        · have := bname_inj e1
          subst this
          obtain ⟨h', k2, hb2⟩ := g2
          cases e2
          exact ⟨rfl, heq_of_eq (hbx _ _ _ _ hb2)⟩
      | b1 =>
        rcases g3 with ⟨e1, _⟩ | ⟨e1, e2⟩
        · unfold cname bname at e1
          omega
        · have := bname_inj e1
          subst this
          obtain ⟨h', k2, hb2⟩ := g2
          cases e2
          exact ⟨rfl, heq_of_eq (hbx1 _ _ _ hb2)⟩
    · exact absurd (own_mem hm hnm) g
  have noBoth : ∀ {t h h' : Nat} {k k' : Option Nat} {ys ys' : List Int} {c0 : Int}, boxA (look st.objs) (E.rd st t) = some (h, k, ys, c0) → box1A (look st.objs) (E.rd st t) = some (h', k', ys') → False := fun g1 g2 => by
    obtain ⟨r1, r2⟩ := boxA_spec g1
    obtain ⟨q1, q2⟩ := box1A_spec g2
    rw [r1] at q1
    cases q1
    rcases r2 with ⟨_, _, r2⟩ | ⟨_, _, r2, _⟩ <;> rcases q2 with ⟨_, _, q2⟩ | ⟨_, _, q2, _⟩
    all_goals (rw [r2] at q2; cases q2)
  have hT : Tr (c.ok m (E.ob st) w.heap) m (E.ob st) w.heap (c.ok m' (E'.ob (tmIn tm x bs st0)) w.heap) m' (E'.ob (tmIn tm x bs st0)) w.heap (· ∈ ownNames tm) := by
    refine ⟨fun i b hb => ⟨⟨hb.1, hb.2.1, fun h o ho he => ?_, hb.2.2.2⟩, fun _ => rfl⟩, fun h o ho hne => ?_⟩
    · by_cases hmem : h ∈ ownNames tm
      · rw [hm1 h hmem] at he
        cases hs : srcN E st h with
        | none => rw [hs] at he; cases he
        | some h' =>
          rw [hs] at he
          obtain ⟨o', hl⟩ := tmHs_look hx h' (src_mem hlt hA hmem hs)
          exact hb.2.2.1 h' _ (ob_of_look hl) he
      · rw [hm2 h hmem] at he
        rcases hob h o ho with ⟨_, _, _, _, _, _, g⟩ | ⟨g1, _⟩
        · exact absurd g hmem
        · exact hb.2.2.1 h o (H1 h o g1).1 he
    · rcases hob h o ho with ⟨_, _, _, _, _, _, g⟩ | ⟨h1, h2⟩
      · exact absurd g hne
      · exact ⟨o, (H1 h o h1).1, AO.like_refl o, hm2 h h2, fun _ _ => rfl⟩
  have ownOne : ∀ {t s} {y : List s.den}, OwnS E st t s y → oneV (a.tmps.getD t undef) = true := fun {t s y} h1 => by
    have := hS.rd t
    rcases h1 with ⟨k, h3, _⟩ | ⟨h3, _⟩
    · rw [h3] at this; cases this with | full _ _ _ ho => exact ho
    · rw [h3] at this
      generalize a.tmps.getD t undef = u at this
      cases this; rfl
  have ownFull : ∀ {t s} {y : List s.den}, t < 500000 → cname t ∈ ownNames tm → OwnS E st t s y → RV (c.ok m' (E'.ob (tmIn tm x bs st0)) w.heap) m' (E'.ob (tmIn tm x bs st0)) w.heap (.full (cname t)) (a.tmps.getD t undef) := fun {t s y} htl hmem h1 => by
    refine .full _ _ (fun s' xs' ho => ?_) (ownOne h1)
    have h6 := arrC htl ho hmem
    unfold SlV
    rw [hm1 _ hmem, src_c htl]
    have hr := hS.rd t
    rcases h6 with ⟨k, h8, h9⟩ | ⟨h8, h9⟩
    · rw [h8] at hr ⊢
      cases hr with
      | full _ _ hv _ => exact hv _ _ (ob_of_look h9)
    · rw [h8] at hr ⊢
      generalize a.tmps.getD t undef = u at hr
      cases hr
      exact ⟨rfl, by rw [h9]; rfl⟩
  have ownRO : ∀ {t s} {y : List s.den}, t < 500000 → cname t ∈ ownNames tm → OwnS E st t s y → RO (c.ok m' (E'.ob (tmIn tm x bs st0)) w.heap) m' (E'.ob (tmIn tm x bs st0)) w.heap c.mt (cname t) (.arr s y) := fun {t s y} htl hmem h2 => by
    simp only [RO]
    rw [hm1 _ hmem, src_c htl]
    rcases h2 with ⟨k, h3, h4⟩ | ⟨h3, h4⟩
    · rw [h3]
      have hro := hS.objs k _ (ob_of_look h4)
      simp only [RO] at hro
      simp only [Option.bind_some]
      cases hk : m k with
      | none => rw [hk] at hro; exact hro
      | some b =>
        rw [hk] at hro
        obtain ⟨q1, cs, e, q2, q3, q4⟩ := hro
        refine ⟨q1, cs, e, q2, q3, fun i z hz => ?_⟩
        obtain ⟨l, l1, l2, l3⟩ := q4 i z hz
        exact ⟨l, l1, l2, RC.mono hT.okc l3⟩
    · rw [h3]; exact h4
  refine ⟨m', ⟨hS.defers, ?_, ?_, hS.kept, fun t av h => ?_, fun t av h => ?_, fun h o ho => ?_, fun h h' o1 o2 b h1 h2 h3 h4 => ?_, fun h o ho => ?_, fun t av h => ?_, fun h => ?_, ?_, fun b hb => ?_⟩⟩
  · rw [tmIn_len, h0n]; exact hS.size
  · rw [tmIn_len, h0n]; exact hS.num
  · rcases tmIn_slots hA hBn t av h with h1 | ⟨k, y, h1, h2, h3⟩
    · rw [h0' t av h1]; exact .top _
    · have htl := hlt _ h1
      cases k with
      | v s =>
        have h3 : av = .g s y := h3
        subst h3
        exact .g s y _ (RC.mono hT.okc h2.1) h2.2
      | own s =>
        have h3 : av = .full (cname t) := h3
        subst h3
        exact ownFull htl (own_mem h1 (List.mem_singleton.2 rfl)) h2
      | ownN s =>
        rcases h3 with h3 | ⟨h3, h4⟩
        · subst h3
          exact ownFull htl (own_mem h1 (List.mem_singleton.2 rfl)) h2
        · subst h4
          have := hS.rd t
          rw [h3] at this
          generalize a.tmps.getD t undef = u at this
          cases this
          exact .nil
      | bx =>
        have h3 : av = .ptr (cname t) 0 := h3
        subst h3
        obtain ⟨h0, k0, hb⟩ := h2
        have hmem : cname t ∈ ownNames tm := own_mem h1 List.mem_cons_self
        obtain ⟨bb, cs, e, v, g1, g2, _⟩ := boxA_mem hS (hS.rd t) hb
        rw [g2]
        refine .ptr _ _ _ (fun cells ho => ⟨bb, ?_, rfl⟩) rfl
        rw [hm1 _ hmem, src_c htl, box_rd hb]
        exact g1
      | b1 =>
        have h3 : av = .ptr (cname t) 0 := h3
        subst h3
        obtain ⟨h0, k0, hb⟩ := h2
        have hmem : cname t ∈ ownNames tm := own_mem h1 List.mem_cons_self
        obtain ⟨bb, cs, e, v, g1, g2, _⟩ := box1A_mem hS (hS.rd t) hb
        rw [g2]
        refine .ptr _ _ _ (fun cells ho => ⟨bb, ?_, rfl⟩) rfl
        rw [hm1 _ hmem, src_c htl, box1_rd hb]
        exact g1
  · exact (H2 t av h).mono hT fun d hd => (H3 d hd).2.1 t av h
  · rcases hob h o ho with ⟨t, k, y, g1, g2, g3, g4⟩ | ⟨h1, h2⟩
    · have htl := hlt _ g1
      cases k with
      | v s => exact g3.elim
      | own s =>
        obtain ⟨rfl, rfl⟩ := g3
        exact ownRO htl g4 g2
      | ownN s =>
        obtain ⟨rfl, rfl⟩ := g3
        exact ownRO htl g4 g2
      | bx =>
        obtain ⟨h0, k0, hb⟩ := g2
        obtain ⟨bb, cs, e, v, q1, q2, q3, q4, q5, q6, q7⟩ := boxA_mem hS (hS.rd t) hb
        rcases g3 with ⟨rfl, rfl⟩ | ⟨rfl, rfl⟩
        · have hv1 : oneV v = true := by
            cases hk : k0.bind m with
            | none => rw [hk] at q6; rw [q6.1]; rfl
            | some b1 =>
              rw [hk] at q6
              obtain ⟨_, o1, cp, r1, _⟩ := q6
              rw [r1]; rfl
          refine ⟨bb, cs, e, ?_, q3, q4, by rw [q5]; rfl, fun u hu => ?_, fun i av u r1 r2 => ?_⟩
          · rw [hm1 _ g4, src_c htl, box_rd hb]
            exact q1
          · rw [q5] at hu
            simp at hu
            rcases hu with rfl | rfl
            · exact hv1
            · rfl
          · rw [q5] at r2
            match i, r1, r2 with
            | 0, r1, r2 =>
              cases r1
              cases r2
              refine .full _ _ (fun s' xs' hO => ?_) hv1
              obtain ⟨rfl, hxs⟩ := arrB (ys := y.1) g1 (List.mem_cons_of_mem _ List.mem_cons_self) (fun h k0 c0 zs hz => by rw [hb] at hz; cases hz; rfl) (fun h k0 zs hz => (noBoth hb hz).elim) hO
              have hxs := eq_of_heq hxs
              subst hxs
              unfold SlV
              rw [hm1 _ (own_mem g1 (List.mem_cons_of_mem _ List.mem_cons_self)), src_b hb]
              cases hk : k0.bind m with
              | none => rw [hk] at q6; exact ⟨q6.1, by rw [q6.2]; rfl⟩
              | some b1 =>
                rw [hk] at q6
                obtain ⟨_, o1, cp, r1, r2, r3, r4⟩ := q6
                exact ⟨o1, cp, r1, r2, fun hz => by rw [r3 hz]; simp, fun q hq => by simpa [Sh.size] using r4 q hq⟩
            | 1, r1, r2 =>
              cases r1
              cases r2
              exact mk_int
            | i + 2, r1, r2 => simp at r1
        · simp only [RO]
          rw [hm1 _ g4, src_b hb]
          rcases (boxA_spec hb).2 with ⟨rfl, hy, _⟩ | ⟨k1, rfl, _, hk1⟩
          · exact hy
          · have hro := hS.objs k1 _ (ob_of_look hk1)
            simp only [RO] at hro
            simp only [Option.bind_some]
            cases hk : m k1 with
            | none => rw [hk] at hro; exact hro
            | some b =>
              rw [hk] at hro
              obtain ⟨r1, cs1, e1, r2, r3, r4⟩ := hro
              refine ⟨r1, cs1, e1, r2, r3, fun i z hz => ?_⟩
              obtain ⟨l, l1, l2, l3⟩ := r4 i z hz
              exact ⟨l, l1, l2, RC.mono hT.okc l3⟩
      | b1 =>
        obtain ⟨h0, k0, hb⟩ := g2
        obtain ⟨bb, cs, e, v, q1, q2, q3, q4, q5, q6⟩ := box1A_mem hS (hS.rd t) hb
        rcases g3 with ⟨rfl, rfl⟩ | ⟨rfl, rfl⟩
        · have hv1 : oneV v = true := by
            cases hk : k0.bind m with
            | none => rw [hk] at q6; rw [q6.1]; rfl
            | some b1 =>
              rw [hk] at q6
              obtain ⟨_, o1, cp, r1, _⟩ := q6
              rw [r1]; rfl
          refine ⟨bb, cs, e, ?_, q3, q4, by rw [q5]; rfl, fun u hu => ?_, fun i av u r1 r2 => ?_⟩
          · rw [hm1 _ g4, src_c htl, box1_rd hb]
            exact q1
          · rw [q5] at hu
            simp at hu
            rw [hu]
            exact hv1
          · rw [q5] at r2
            match i, r1, r2 with
            | 0, r1, r2 =>
              cases r1
              cases r2
              refine .full _ _ (fun s' xs' hO => ?_) hv1
              obtain ⟨rfl, hxs⟩ := arrB (ys := y) g1 (List.mem_cons_of_mem _ List.mem_cons_self) (fun h k0 c0 zs hz => (noBoth hz hb).elim) (fun h k0 zs hz => by rw [hb] at hz; cases hz; rfl) hO
              have hxs := eq_of_heq hxs
              subst hxs
              unfold SlV
              rw [hm1 _ (own_mem g1 (List.mem_cons_of_mem _ List.mem_cons_self)), src_b1 hb]
              cases hk : k0.bind m with
              | none => rw [hk] at q6; exact ⟨q6.1, by rw [q6.2]; rfl⟩
              | some b1 =>
                rw [hk] at q6
                obtain ⟨_, o1, cp, r1, r2, r3, r4⟩ := q6
                exact ⟨o1, cp, r1, r2, fun hz => by rw [r3 hz]; simp, fun q hq => by simpa [Sh.size] using r4 q hq⟩
            | i + 1, r1, r2 => simp at r1
        · simp only [RO]
          rw [hm1 _ g4, src_b1 hb]
          rcases (box1A_spec hb).2 with ⟨rfl, hy, _⟩ | ⟨k1, rfl, _, hk1⟩
          · exact hy
          · have hro := hS.objs k1 _ (ob_of_look hk1)
            simp only [RO] at hro
            simp only [Option.bind_some]
            cases hk : m k1 with
            | none => rw [hk] at hro; exact hro
            | some b =>
              rw [hk] at hro
              obtain ⟨r1, cs1, e1, r2, r3, r4⟩ := hro
              refine ⟨r1, cs1, e1, r2, r3, fun i z hz => ?_⟩
              obtain ⟨l, l1, l2, l3⟩ := r4 i z hz
              exact ⟨l, l1, l2, RC.mono hT.okc l3⟩
    · refine (hS.objs h o (H1 h o h1).1).mono hT (hm2 h h2) (fun _ _ => rfl) (fun cells hc d hd b hb => ?_)
      subst hc
      exact (H3 d hd).2.2 h cells h1 b hb
  · have look' : ∀ h o, E'.ob (tmIn tm x bs st0) h = some o → ∀ b, m' h = some b → ∃ h0, (h ∈ ownNames tm ∧ srcN E st h = some h0 ∨ h ∉ ownNames tm ∧ h0 = h ∧ h0 ∉ tmHs E st tm) ∧ m h0 = some b ∧ ∃ o, E.ob st h0 = some o := fun h o ho b hb => by
      by_cases hmem : h ∈ ownNames tm
      · rw [hm1 h hmem] at hb
        cases hs : srcN E st h with
        | none => rw [hs] at hb; cases hb
        | some h' =>
          rw [hs] at hb
          obtain ⟨o', hl⟩ := tmHs_look hx h' (src_mem hlt hA hmem hs)
          exact ⟨h', .inl ⟨hmem, rfl⟩, hb, _, ob_of_look hl⟩
      · rw [hm2 h hmem] at hb
        rcases hob h o ho with ⟨_, _, _, _, _, _, g⟩ | ⟨g1, _⟩
        · exact absurd g hmem
        · exact ⟨h, .inr ⟨hmem, rfl, (H1 h o g1).2⟩, hb, _, (H1 h o g1).1⟩
    obtain ⟨q, hq, q1, _, q2⟩ := look' h o1 h1 b h3
    obtain ⟨q', hq', q1', _, q2'⟩ := look' h' o2 h2 b h4
    have := hS.inj q q' _ _ b q2 q2' q1 q1'
    subst this
    rcases hq with ⟨r1, r2⟩ | ⟨r1, r2, r3⟩ <;> rcases hq' with ⟨r1', r2'⟩ | ⟨r1', r2', r3'⟩
    · exact src_inj hlt hA hnd r1 r1' r2 r2'
    · exact absurd (src_mem hlt hA r1 r2) r3'
    · exact absurd (src_mem hlt hA r1' r2') r3
    · rw [← r2, ← r2']
  · rcases tmIn_objs hA h o ho with h1 | ⟨t, k, y, h1, h2, h3⟩
    · rw [h0] at h1; cases h1
    · exact (H3 h (own_mem h1 (objN h1 h3))).1
  · rw [hAr] at h
    exact hS.fix t av h
  · rw [hMu] at h
    exact hS.nomu h
  · rw [hAr]
    exact hS.old
  · obtain ⟨g1, g2, g3⟩ := hS.alive b hb
    refine ⟨g1, g2, fun h o ho he => ?_⟩
    by_cases hmem : h ∈ ownNames tm
    · rw [hm1 h hmem] at he
      cases hs : srcN E st h with
      | none => rw [hs] at he; cases he
      | some h' =>
        rw [hs] at he
        obtain ⟨o', hl⟩ := tmHs_look hx h' (src_mem hlt hA hmem hs)
        exact g3 h' _ (ob_of_look hl) he
    · rw [hm2 h hmem] at he
      rcases hob h o ho with ⟨_, _, _, _, _, _, g⟩ | ⟨q1, _⟩
      · exact absurd g hmem
      · exact g3 h o (H1 h o q1).1 he

end

end Go.Proofs.Ytmdicmdodbndgaa.Fw
