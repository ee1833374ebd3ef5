/-
  Steps of the evaluator are steps of the model, fourth part: how a state stands when objects are made and changed. No condition.
-/
import Derived.Test.YtmdicmdodbndgaaFwF
namespace Go.Proofs.Ytmdicmdodbndgaa.Fw
open Go Go.RowKit

theorem beq_false {k h : Nat} (hne : k ≠ h) : Nat.beq k h = false := by
  cases hb : Nat.beq k h with
  | false => rfl
  | true => exact absurd (Nat.eq_of_beq_eq_true hb) hne

theorem look_cons_self (l : List (Nat × AO)) (h : Nat) (o : AO) : look ((h, o) :: l) h = some o := by simp [look]
theorem look_cons_ne (l : List (Nat × AO)) {h k : Nat} (o : AO) (hne : k ≠ h) : look ((k, o) :: l) h = look l h := by
  simp [look, beq_false hne]
theorem look_del_self (l : List (Nat × AO)) (h : Nat) : look (del l h) h = none := by
  induction l with
  | nil => rfl
  | cons x r ih =>
    obtain ⟨k, o⟩ := x
    simp only [del]
    cases hk : Nat.beq k h with
    | true => simpa using ih
    | false => simp [look, hk, ih]
theorem look_del_ne (l : List (Nat × AO)) {h k : Nat} (hne : h ≠ k) : look (del l h) k = look l k := by
  induction l with
  | nil => rfl
  | cons x r ih =>
    obtain ⟨q, o⟩ := x
    simp only [del]
    cases hq : Nat.beq q h with
    | true =>
      have hqh : q = h := Nat.eq_of_beq_eq_true hq
      subst hqh
      simp only [cond_true]
      rw [ih, look_cons_ne _ _ hne]
    | false =>
      simp only [cond_false, look]
      rw [ih]
theorem look_put_self (l : List (Nat × AO)) (h : Nat) (o : AO) : look (put l h o) h = some o := look_cons_self _ _ _
theorem look_put_ne (l : List (Nat × AO)) {h k : Nat} (o : AO) (hne : h ≠ k) : look (put l h o) k = look l k := by
  unfold put
  rw [look_cons_ne _ _ hne, look_del_ne _ hne]

theorem mentO_spec {d : Nat} {l : List (Nat × AO)} (h : mentO d l = false) :
    look l d = none ∧ ∀ k cells, look l k = some (.box cells) → ∀ a ∈ cells, ¬ Mn d a := by
  induction l with
  | nil => exact ⟨rfl, fun k cells hk => by simp [look] at hk⟩
  | cons x r ih =>
    obtain ⟨q, o⟩ := x
    simp only [mentO, Bool.or_eq_false_iff] at h
    obtain ⟨⟨h1, h2⟩, h3⟩ := h
    obtain ⟨i1, i2⟩ := ih h3
    refine ⟨by simp [look, h1, i1], fun k cells hk a ha => ?_⟩
    simp only [look] at hk
    cases hq : Nat.beq q k with
    | true =>
      rw [hq] at hk
      simp only [cond_true, Option.some.injEq] at hk
      subst hk
      simp only at h2
      exact not_Mn (n := 6) (by
        cases hm : ment d 6 a with
        | false => rfl
        | true => rw [List.any_eq_true.2 ⟨a, ha, hm⟩] at h2; cases h2)
    | false =>
      rw [hq] at hk
      exact i2 k cells hk a ha

section
variable {c : Cx} {E : Env} {st : St} {m : Nat → Option Nat} {a : Act} {w : World}

theorem any_ment {d : Nat} {l : List AV} (h : l.any (ment d 6) = false) (t : Nat) (av : AV) (ht : l[t]? = some av) : ¬ Mn d av :=
  not_Mn (n := 6) (by
    cases hm : ment d 6 av with
    | false => rfl
    | true => rw [List.any_eq_true.2 ⟨av, List.mem_of_getElem? ht, hm⟩] at h; cases h)

theorem fresh_spec {d : Nat} (h : E.fresh st d = true) :
    (∀ (t : Nat) (av : AV), st.slots[t]? = some av → ¬ Mn d av) ∧ (∀ (t : Nat) (av : AV), E.slots[t]? = some av → ¬ Mn d av) ∧ look st.objs d = none ∧ look E.objs d = none ∧
    ∀ k cells, E.ob st k = some (.box cells) → ∀ a ∈ cells, ¬ Mn d a := by
  simp only [Env.fresh, Bool.and_eq_true, Bool.not_eq_true'] at h
  obtain ⟨⟨⟨h1, h2⟩, h3⟩, h4⟩ := h
  obtain ⟨a1, a2⟩ := mentO_spec h3
  obtain ⟨b1, b2⟩ := mentO_spec h4
  refine ⟨any_ment h1, any_ment h2, a1, b1, fun k cells hk a ha => ?_⟩
  unfold Env.ob at hk
  split at hk
  · rename_i o ho
    cases hk
    exact a2 k cells ho a ha
  · exact b2 k cells hk a ha

theorem RO.mono {ok ok' : Bool → Nat → Prop} {m m' : Nat → Option Nat} {O O' : Nat → Option AO} {H H' : Array Obj} {dead mt : Nat → Prop} (T : Tr ok m O H ok' m' O' H' dead) {h : Nat} {o : AO}
    (hr : RO ok m O H mt h o) (hm : m' h = m h) (hb : ∀ b, m h = some b → H'[b]? = H[b]?) (hd : ∀ cells, o = .box cells → ∀ d, dead d → ∀ a ∈ cells, ¬ Mn d a) :
    RO ok' m' O' H' mt h o := by
  cases o with
  | arr s xs =>
    simp only [RO] at hr ⊢
    rw [hm]
    cases hmh : m h with
    | none => rw [hmh] at hr; exact hr
    | some b =>
      rw [hmh] at hr
      obtain ⟨h1, cs, e, h2, h3, h4⟩ := hr
      refine ⟨h1, cs, e, by rw [hb b hmh]; exact h2, h3, fun i x hx => ?_⟩
      obtain ⟨l, hl, hrd, hc⟩ := h4 i x hx
      exact ⟨l, hl, fun j v hv => by unfold cellH; rw [hb b hmh]; exact hrd j v hv, RC.mono T.okc hc⟩
  | box cells =>
    simp only [RO] at hr ⊢
    obtain ⟨b, cs, e, h1, h2, h3, h4, h5, h6⟩ := hr
    exact ⟨b, cs, e, by rw [hm]; exact h1, h2, by rw [hb b h1]; exact h3, h4, h5, fun i a v ha hv =>
      (h6 i a v ha hv).mono T fun d hdd => hd cells rfl d hdd a (List.mem_of_getElem? ha)⟩

theorem SimM.change {st' : St} {m' : Nat → Option Nat} {w' : World} (hS : SimM c E st m a w) (hsl : st'.slots = st.slots) (hk : c.kept w') (dead : Nat → Prop)
    (hT : Tr (c.ok m (E.ob st) w.heap) m (E.ob st) w.heap (c.ok m' (E.ob st') w'.heap) m' (E.ob st') w'.heap dead)
    (hd : ∀ d, dead d → (∀ (t : Nat) (av : AV), st.slots[t]? = some av → ¬ Mn d av) ∧ (∀ (t : Nat) (av : AV), E.slots[t]? = some av → ¬ Mn d av))
    (hro : ∀ h o, E.ob st' h = some o → RO (c.ok m' (E.ob st') w'.heap) m' (E.ob st') w'.heap c.mt h o)
    (inj : ∀ h h' o o' b, E.ob st' h = some o → E.ob st' h' = some o' → m' h = some b → m' h' = some b → h = h')
    (disj : ∀ h o, look st'.objs h = some o → look E.objs h = none)
    (alive : ∀ b, c.D b → c.B ≤ b ∧ b < w'.heap.size ∧ ∀ h o, E.ob st' h = some o → m' h ≠ some b) : SimM c E st' m' a w' where
  defers := hS.defers
  size := by rw [hsl]; exact hS.size
  num := by rw [hsl]; exact hS.num
  kept := hk
  slots := fun t av h => by
    rw [hsl] at h
    exact (hS.slots t av h).mono hT fun d hdd => (hd d hdd).1 t av h
  eslots := fun t av h => (hS.eslots t av h).mono hT fun d hdd => (hd d hdd).2 t av h
  objs := hro
  inj := inj
  disj := disj
  fix := hS.fix
  nomu := hS.nomu
  old := hS.old
  alive := alive

theorem RO.block {ok : Bool → Nat → Prop} {m : Nat → Option Nat} {O : Nat → Option AO} {H : Array Obj} {mt : Nat → Prop} {h : Nat} {o : AO} {b : Nat} (hr : RO ok m O H mt h o) (hm : m h = some b) :
    mt b ∧ ∃ cs e, H[b]? = some (.cells cs e (0, 0)) := by
  cases o with
  | arr s xs =>
    simp only [RO, hm] at hr
    obtain ⟨h1, cs, e, h2, _⟩ := hr
    exact ⟨h1, cs, e, h2⟩
  | box cells =>
    simp only [RO] at hr
    obtain ⟨b', cs, e, h1, h2, h3, _⟩ := hr
    rw [hm] at h1
    cases h1
    exact ⟨h2, cs, e, h3⟩

theorem cellH_congr {H H' : Array Obj} {b : Nat} (h : H'[b]? = H[b]?) (o : Nat) : cellH H' b o = cellH H b o := by unfold cellH; rw [h]
theorem bsz_congr {H H' : Array Obj} {b : Nat} (h : H'[b]? = H[b]?) : bsz H' b = bsz H b := by unfold bsz; rw [h]

theorem ob_cons_self (d : Nat) (o : AO) : E.ob { st with objs := (d, o) :: st.objs } d = some o := by simp [Env.ob, look]
theorem ob_cons_ne {d h : Nat} (o : AO) (hne : d ≠ h) : E.ob { st with objs := (d, o) :: st.objs } h = E.ob st h := by
  simp only [Env.ob]
  rw [look_cons_ne _ _ hne]

/-- Where the objects lie, d turned. -/
def upd (m : Nat → Option Nat) (d : Nat) (b : Option Nat) (h : Nat) : Option Nat := if h = d then b else m h
theorem upd_self (m : Nat → Option Nat) (d : Nat) (b : Option Nat) : upd m d b d = b := by simp [upd]
theorem upd_ne (m : Nat → Option Nat) {d h : Nat} (b : Option Nat) (hne : h ≠ d) : upd m d b h = m h := by simp [upd, hne]

/-- What is asked of a new object's cells. -/
def NewOk (ok : Bool → Nat → Prop) (m : Nat → Option Nat) (O : Nat → Option AO) (H : Array Obj) (cs : Array Value) : AO → Prop
  | .arr s xs => xs.length * s.size ≤ cs.size ∧ ∀ i x, xs[i]? = some x → ∃ l, l.length = s.size ∧ (∀ j v, l[j]? = some v → cs[i * s.size + j]? = some v) ∧ RC ok H s x l
  | .box cells => cs.size = cells.length ∧ (∀ v ∈ cs.toList, oneV v = true) ∧ ∀ (i : Nat) (a : AV) (v : Value), cells[i]? = some a → cs[i]? = some v → RV ok m O H a v

theorem alloc_heap (w : World) (o : Obj) : (w.alloc o).heap = w.heap.push o := rfl

theorem kept_alloc (h : c.kept w) (o : Obj) : c.kept (w.alloc o) :=
  ⟨h.os, h.tape, h.output, by rw [alloc_heap]; simp; exact Nat.le_succ_of_le h.size, fun k hk hm => by
    rw [alloc_heap, Array.getElem?_push, if_neg (by have := h.size; omega)]
    exact h.block k hk hm, fun k hk => by
    rw [← h.bsz k hk]
    refine bsz_congr ?_
    rw [alloc_heap, Array.getElem?_push, if_neg (by have := h.size; omega)]⟩

/-- A new object. -/
theorem SimM.nw (hS : SimM c E st m a w) {d : Nat} (hf : E.fresh st d = true) {o : AO} {cs : Array Value} {e : TypeId}
    (hn : NewOk (c.ok m (E.ob st) w.heap) m (E.ob st) w.heap cs o) (hnd : ∀ cells, o = .box cells → ∀ a ∈ cells, ¬ Mn d a) :
    SimM c E { st with objs := (d, o) :: st.objs } (upd m d (some w.heap.size)) a (w.alloc (.cells cs e)) := by
  obtain ⟨f1, f2, f3, f4, f5⟩ := fresh_spec hf
  have hlt : ∀ h o b, E.ob st h = some o → m h = some b → b < w.heap.size := fun h o b ho hb => by
    obtain ⟨_, cs, e, hh⟩ := (hS.objs h o ho).block hb
    exact lt_of_some hh
  have hH : ∀ b, b < w.heap.size → (w.alloc (.cells cs e)).heap[b]? = w.heap[b]? := fun b hb => by
    rw [alloc_heap, Array.getElem?_push, if_neg (by omega)]
  have hT : Tr (c.ok m (E.ob st) w.heap) m (E.ob st) w.heap (c.ok (upd m d (some w.heap.size)) (E.ob { st with objs := (d, o) :: st.objs }) (w.alloc (.cells cs e)).heap)
      (upd m d (some w.heap.size)) (E.ob { st with objs := (d, o) :: st.objs }) (w.alloc (.cells cs e)).heap (· = d) := by
    refine ⟨fun i b hb => ⟨⟨?_, hb.2.1, fun h o' ho => ?_, hb.2.2.2.1, fun hi => ⟨(hb.2.2.2.2 hi).1, unf_congr (hH b hb.1) (hb.2.2.2.2 hi).2⟩⟩, cellH_congr (hH b hb.1)⟩, fun h o' ho hne => ?_⟩
    · rw [alloc_heap]; simp; exact Nat.lt_succ_of_lt hb.1
    · by_cases hd : h = d
      · subst hd
        rw [upd_self]
        intro hh
        have := hb.1
        simp only [Option.some.injEq] at hh
        omega
      · rw [upd_ne _ _ hd]
        rw [ob_cons_ne _ (Ne.symm hd)] at ho
        exact hb.2.2.1 h o' ho
    · rw [ob_cons_ne _ (Ne.symm hne)] at ho
      refine ⟨o', ho, AO.like_refl o', upd_ne _ _ hne, fun b hb => bsz_congr (hH b (hlt h o' b ho hb))⟩
  refine hS.change rfl (kept_alloc hS.kept _) _ hT (fun d' hd' => by subst hd'; exact ⟨f1, f2⟩) (fun h o' ho => ?_) (fun h h' o1 o2 b h1 h2 h3 h4 => ?_) (fun h o' ho => ?_) (fun b hb => ?_)
  · by_cases hd : h = d
    · subst hd
      rw [ob_cons_self] at ho
      cases ho
      have hg : (w.alloc (.cells cs e)).heap[w.heap.size]? = some (.cells cs e (0, 0)) := by rw [alloc_heap]; simp
      cases o with
      | arr s xs =>
        simp only [RO, upd_self]
        obtain ⟨n1, n2⟩ := hn
        refine ⟨.inl hS.kept.size, cs, e, hg, n1, fun i x hx => ?_⟩
        obtain ⟨l, hl, hr, hc⟩ := n2 i x hx
        exact ⟨l, hl, fun j v hv => by unfold cellH; rw [hg]; exact hr j v hv, RC.mono hT.okc hc⟩
      | box cells =>
        simp only [RO, upd_self]
        obtain ⟨n1, n2, n3⟩ := hn
        refine ⟨w.heap.size, cs, e, rfl, .inl hS.kept.size, hg, n1, n2, fun i a v ha hv => (n3 i a v ha hv).mono hT fun d' hd' => ?_⟩
        subst hd'
        exact hnd cells rfl a (List.mem_of_getElem? ha)
    · rw [ob_cons_ne _ (Ne.symm hd)] at ho
      exact (hS.objs h o' ho).mono hT (upd_ne _ _ hd) (fun b hb => hH b (hlt h o' b ho hb)) (fun cells hc d' hd' a ha => by
        subst hc
        subst hd'
        exact f5 h cells ho a ha)
  · by_cases hd : h = d
    · by_cases hd' : h' = d
      · rw [hd, hd']
      · exfalso
        subst hd
        rw [ob_cons_ne _ (Ne.symm hd')] at h2
        simp only [upd_self, Option.some.injEq] at h3
        rw [upd_ne _ _ hd'] at h4
        have := hlt h' o2 b h2 h4
        omega
    · by_cases hd' : h' = d
      · exfalso
        subst hd'
        rw [ob_cons_ne _ (Ne.symm hd)] at h1
        simp only [upd_self, Option.some.injEq] at h4
        rw [upd_ne _ _ hd] at h3
        have := hlt h o1 b h1 h3
        omega
      · rw [ob_cons_ne _ (Ne.symm hd)] at h1
        rw [ob_cons_ne _ (Ne.symm hd')] at h2
        rw [upd_ne _ _ hd] at h3
        rw [upd_ne _ _ hd'] at h4
        exact hS.inj h h' o1 o2 b h1 h2 h3 h4
  · by_cases hd : h = d
    · subst hd; exact f4
    · simp only at ho
      rw [look_cons_ne _ _ (Ne.symm hd)] at ho
      exact hS.disj h o' ho
  · obtain ⟨g1, g2, g3⟩ := hS.alive b hb
    refine ⟨g1, by rw [alloc_heap]; simp; omega, fun h o' ho => ?_⟩
    by_cases hd : h = d
    · subst hd
      rw [upd_self]
      intro he
      cases he
      omega
    · rw [upd_ne _ _ hd]
      rw [ob_cons_ne _ (Ne.symm hd)] at ho
      exact g3 h o' ho

end

end Go.Proofs.Ytmdicmdodbndgaa.Fw
