/-
  Steps of the evaluator are steps of the model, tenth part: calls of functions. No condition.
-/
import Derived.Test.YtmdicmdodbndgaaFwL
namespace Go.Proofs.Ytmdicmdodbndgaa.Fw
open Go Go.RowKit

/-- The arguments in memory. -/
def ArgR (ok : Bool → Nat → Prop) (H : Array Obj) : (ins : List Sh) → dens ins → List Value → Prop
  | [], _, [] => True
  | s :: r, x, v :: vs => (RC ok H s x.1 v.cells.toList ∧ aggV v = s.isAgg) ∧ ArgR ok H r x.2 vs
  | _, _, _ => False

/-- A row of cells at a block. -/
def RowAt (ok : Bool → Nat → Prop) (H : Array Obj) (s : Sh) (xs : List s.den) (b : Nat) : Prop :=
  ∃ cs e, H[b]? = some (.cells cs e (0, 0)) ∧ xs.length * s.size ≤ cs.size ∧ ∀ i x, xs[i]? = some x → ∃ l, l.length = s.size ∧ Reads H b (i * s.size) l ∧ RC ok H s x l

/-- An array of the callee's own as its result. -/
def OwnR (ok : Bool → Nat → Prop) (B : Nat) (H : Array Obj) (s : Sh) (xs : List s.den) (v : Value) : Option Nat → Prop
  | none => v = .slice none 0 0 ∧ xs = []
  | some b => B ≤ b ∧ RowAt ok H s xs b ∧ ∃ o c, v = .slice (some ⟨b, o, none⟩) xs.length c ∧ xs.length ≤ c ∧ (c ≠ 0 → o = 0) ∧ ∀ n, bsz H b = some n → c * s.size ≤ n

/-- The results in memory. -/
def ResR (ok : Bool → Nat → Prop) (B : Nat) (H : Array Obj) : (outs : List RK) → dens (outs.map RK.sh) → List Value → List (Option Nat) → Prop
  | [], _, [], [] => True
  | .val s :: r, y, v :: vs, bs => (RC ok H s y.1 v.cells.toList ∧ aggV v = s.isAgg) ∧ ResR ok B H r y.2 vs bs
  | .own s :: r, y, v :: vs, b :: bs => OwnR ok B H s y.1 v b ∧ ResR ok B H r y.2 vs bs
  | _, _, _, _ => False

/-- The one value of a result list. -/
def valOf (vs : List Value) (v : Value) : Prop :=
  match vs with
  | [u] => v = u
  | l => v = .tuple l.toArray

/-- No block twice. -/
def Dist : List (Option Nat) → Prop
  | [] => True
  | none :: r => Dist r
  | some b :: r => some b ∉ r ∧ Dist r

/-- Where the results' parts may lie. -/
def okRes (p : Nat → Prop) (B : Nat) (H' : Array Obj) (bs : List (Option Nat)) (i : Bool) (b : Nat) : Prop := ((b < B ∧ p b ∧ i = false) ∨ (B ≤ b ∧ b < H'.size)) ∧ some b ∉ bs ∧ (i = true → Unf H' b)

section
variable {P : Program} {tt : Nat → TD} {T : Nat → List EntX} {q : Bool} {c : Cx} {E : Env} {st : St} {m : Nat → Option Nat} {a : Act} {w : World} {ρ : Type} {K : St → Option ρ} {r : ρ} {o : Oper}

theorem argsA_sound {ok okA : Bool → Nat → Prop} {O O1 : Nat → Option AO} {H : Array Obj} {mt : Nat → Prop} (hok : ∀ i b, ok i b → okA i b) (hw : ∀ b, ok true b → ok false b)
    (hO : ∀ h o, O1 h = some o → O h = some o) (hr : ∀ h o, O h = some o → RO ok m O H mt h o) (hA : ∀ i h o b, O1 h = some o → m h = some b → okA i b) :
    ∀ {ins : List Sh} {l : List AV} {x : dens ins} {vs : List Value}, argsA O1 ins l = some x → l.length = vs.length →
      (∀ (i : Nat) (a : AV) (v : Value), l[i]? = some a → vs[i]? = some v → RV ok m O H a v) → ArgR okA H ins x vs := by
  intro ins
  induction ins with
  | nil =>
    intro l x vs h hl _
    cases l with
    | nil => cases vs with
      | nil => trivial
      | cons v vs => simp at hl
    | cons b l => simp [argsA] at h
  | cons s ins ih =>
    intro l x vs h hl hv
    cases l with
    | nil => simp [argsA] at h
    | cons b l =>
      cases vs with
      | nil => simp at hl
      | cons v vs =>
        simp only [argsA] at h
        split at h
        · rename_i x1 y1 h1 h2
          cases h
          exact ⟨gndV_sound hok hw hO hr hA h1 (hv 0 b v rfl rfl), ih h2 (by simpa using hl) fun i a u ha hu => hv (i + 1) a u (by simpa using ha) (by simpa using hu)⟩
        · cases h

theorem tup_RV {ok : Bool → Nat → Prop} {O : Nat → Option AO} {H : Array Obj} {l : List AV} {vs : List Value} {u : Value} (hu : u = .tuple vs.toArray) (hl : l.length = vs.length)
    (h : ∀ (i : Nat) (av : AV) (v : Value), l[i]? = some av → vs[i]? = some v → RV ok m O H av v) : RV ok m O H (.tup l) u := by
  subst hu
  exact .tup _ _ (by simp [hl]) (fun i av u h3 h4 => h i av u h3 (by simpa using h4))

theorem valOf_RV {ok : Bool → Nat → Prop} {O : Nat → Option AO} {H : Array Obj} {l : List AV} {vs : List Value} {u : Value} (hu : valOf vs u) (hl : l.length = vs.length)
    (h : ∀ (i : Nat) (av : AV) (v : Value), l[i]? = some av → vs[i]? = some v → RV ok m O H av v) : RV ok m O H (tupA l) u := by
  match l, vs, hl, hu, h with
  | [av], [v], _, hu, h =>
    have hu : u = v := hu
    subst hu
    exact h 0 av u rfl rfl
  | [], [], _, hu, h => exact tup_RV (vs := []) hu rfl h
  | a1 :: a2 :: l, v1 :: v2 :: vs, hl, hu, h => exact tup_RV (vs := v1 :: v2 :: vs) hu hl h

/-- Where the objects lie when new ones have come. -/
def updL (m : Nat → Option Nat) : List (Nat × AO) → List (Option Nat) → Nat → Option Nat
  | (h, _) :: r, b :: bs, k => if k = h then b else updL m r bs k
  | _, _, k => m k

/-- New objects in memory. -/
def NewL (ok : Bool → Nat → Prop) (B : Nat) (H : Array Obj) : List (Nat × AO) → List (Option Nat) → Prop
  | [], [] => True
  | (_, .arr s xs) :: r, b :: bs => (match b with | none => xs = [] | some b => B ≤ b ∧ RowAt ok H s xs b) ∧ NewL ok B H r bs
  | _, _ => False

theorem NewL.cases_ {ok : Bool → Nat → Prop} {B : Nat} {H : Array Obj} {l : List (Nat × AO)} {bs : List (Option Nat)} (h : NewL ok B H l bs) (k : Nat) :
    (∃ s xs, look l k = some (.arr s xs) ∧ updL m l bs k ∈ bs ∧ match updL m l bs k with | none => xs = [] | some b => B ≤ b ∧ RowAt ok H s xs b) ∨ (look l k = none ∧ updL m l bs k = m k) := by
  induction l generalizing bs with
  | nil => exact .inr ⟨rfl, by cases bs <;> rfl⟩
  | cons x l ih =>
    obtain ⟨h0, o⟩ := x
    cases bs with
    | nil => cases o <;> simp [NewL] at h
    | cons b bs =>
      cases o with
      | box cells => simp [NewL] at h
      | arr s xs =>
        simp only [NewL] at h
        by_cases hk : k = h0
        · subst hk
          refine .inl ⟨s, xs, look_cons_self _ _ _, by simp [updL], ?_⟩
          simp only [updL, if_true]
          exact h.1
        · rw [look_cons_ne _ _ (Ne.symm hk)]
          simp only [updL, if_neg hk]
          rcases ih h.2 with ⟨s', xs', h1, h2, h3⟩ | h1
          · exact .inl ⟨s', xs', h1, List.mem_cons_of_mem _ h2, h3⟩
          · exact .inr h1

theorem NewL.inj_ {ok : Bool → Nat → Prop} {B : Nat} {H : Array Obj} {l : List (Nat × AO)} {bs : List (Option Nat)} (h : NewL ok B H l bs) (hd : Dist bs) {k k' b : Nat} {o o' : AO}
    (h1 : look l k = some o) (h2 : look l k' = some o') (h3 : updL m l bs k = some b) (h4 : updL m l bs k' = some b) : k = k' := by
  induction l generalizing bs with
  | nil => simp [look] at h1
  | cons x l ih =>
    obtain ⟨h0, o0⟩ := x
    cases bs with
    | nil => cases o0 <;> simp [NewL] at h
    | cons c bs =>
      cases o0 with
      | box cells => simp [NewL] at h
      | arr s xs =>
        simp only [NewL] at h
        have hd' : Dist bs := by cases c <;> simp_all [Dist]
        by_cases hk : k = h0
        · by_cases hk' : k' = h0
          · rw [hk, hk']
          · exfalso
            rw [look_cons_ne _ _ (Ne.symm hk')] at h2
            simp only [updL, if_pos hk] at h3
            simp only [updL, if_neg hk'] at h4
            rcases h.2.cases_ (m := m) k' with ⟨_, _, _, g1, _⟩ | ⟨g1, _⟩
            · rw [h4] at g1
              subst h3
              exact hd.1 g1
            · rw [g1] at h2; cases h2
        · by_cases hk' : k' = h0
          · exfalso
            rw [look_cons_ne _ _ (Ne.symm hk)] at h1
            simp only [updL, if_pos hk'] at h4
            simp only [updL, if_neg hk] at h3
            rcases h.2.cases_ (m := m) k with ⟨_, _, _, g1, _⟩ | ⟨g1, _⟩
            · rw [h3] at g1
              subst h4
              exact hd.1 g1
            · rw [g1] at h1; cases h1
          · rw [look_cons_ne _ _ (Ne.symm hk)] at h1
            rw [look_cons_ne _ _ (Ne.symm hk')] at h2
            simp only [updL, if_neg hk] at h3
            simp only [updL, if_neg hk'] at h4
            exact ih h.2 hd' h1 h2 h3 h4

theorem look_append (l l' : List (Nat × AO)) (k : Nat) : look (l ++ l') k = (look l k).or (look l' k) := by
  induction l with
  | nil => rfl
  | cons x l ih =>
    obtain ⟨h, o⟩ := x
    simp only [List.cons_append, look]
    cases Nat.beq h k <;> simp [ih]

theorem freshAll_spec {l : List (Nat × AO)} (h : E.freshAll st l = true) {k : Nat} {o : AO} (hk : look l k = some o) : E.fresh st k = true := by
  induction l with
  | nil => simp [look] at hk
  | cons x l ih =>
    obtain ⟨h0, o0⟩ := x
    simp only [Env.freshAll, Bool.and_eq_true] at h
    by_cases hh : h0 = k
    · subst hh; exact h.1
    · rw [look_cons_ne _ _ hh] at hk
      exact ih h.2 hk

/-- What becomes of the state behind a call that changes nothing below. -/
theorem SimM.grow (hS : SimM c E st m a w) {w' : World} (hb : Below w.heap.size w w') {l : List (Nat × AO)} (hf : E.freshAll st l = true) {bs : List (Option Nat)} (hd : Dist bs)
    {okN : Bool → Nat → Prop} (hn : NewL okN w.heap.size w'.heap l bs)
    (hokN : ∀ i b, okN i b → ((b < w.heap.size ∧ c.ok m (E.ob st) w.heap i b) ∨ (w.heap.size ≤ b ∧ b < w'.heap.size)) ∧ some b ∉ bs ∧ (i = true → Unf w'.heap b)) :
    SimM c E { st with objs := l ++ st.objs } (updL m l bs) a w' ∧
    Tr (c.ok m (E.ob st) w.heap) m (E.ob st) w.heap (c.ok (updL m l bs) (E.ob { st with objs := l ++ st.objs }) w'.heap) (updL m l bs) (E.ob { st with objs := l ++ st.objs }) w'.heap (fun k => ∃ o, look l k = some o) ∧
    ∀ i b, okN i b → c.ok (updL m l bs) (E.ob { st with objs := l ++ st.objs }) w'.heap i b := by
  have hlt : ∀ h o b, E.ob st h = some o → m h = some b → b < w.heap.size := fun h o b ho hb => by
    obtain ⟨_, cs, e, hh⟩ := (hS.objs h o ho).block hb
    exact lt_of_some hh
  have hob : ∀ k, E.ob { st with objs := l ++ st.objs } k = (look l k).or (E.ob st k) := fun k => by
    simp only [Env.ob, look_append]
    cases look l k with
    | some o => simp
    | none => simp
  have hobN : ∀ k o, look l k = some o → E.ob { st with objs := l ++ st.objs } k = some o := fun k o hk => by rw [hob, hk]; rfl
  have hobO : ∀ k, look l k = none → E.ob { st with objs := l ++ st.objs } k = E.ob st k := fun k hk => by rw [hob, hk]; rfl
  have hmO : ∀ k, look l k = none → updL m l bs k = m k := fun k hk => by
    rcases hn.cases_ (m := m) k with ⟨s, xs, h1, _⟩ | ⟨_, h2⟩
    · rw [hk] at h1; cases h1
    · exact h2
  have hokc : ∀ i b, c.ok m (E.ob st) w.heap i b → c.ok (updL m l bs) (E.ob { st with objs := l ++ st.objs }) w'.heap i b := fun i b hb' => by
    refine ⟨Nat.lt_of_lt_of_le hb'.1 hb.size, hb'.2.1, fun h o ho => ?_, hb'.2.2.2.1, fun hi => ⟨(hb'.2.2.2.2 hi).1, unf_congr (hb.block b hb'.1) (hb'.2.2.2.2 hi).2⟩⟩
    rcases hn.cases_ (m := m) h with ⟨s, xs, h1, h2, h3⟩ | ⟨h1, h2⟩
    · intro he
      rw [he] at h3
      have := hb'.1
      have := h3.1
      omega
    · rw [hobO h h1] at ho
      rw [h2]
      exact hb'.2.2.1 h o ho
  have hT : Tr (c.ok m (E.ob st) w.heap) m (E.ob st) w.heap (c.ok (updL m l bs) (E.ob { st with objs := l ++ st.objs }) w'.heap) (updL m l bs) (E.ob { st with objs := l ++ st.objs }) w'.heap (fun k => ∃ o, look l k = some o) := by
    refine ⟨fun i b hb' => ⟨hokc i b hb', cellH_congr (hb.block b hb'.1)⟩, fun h o ho hne => ?_⟩
    have hnone : look l h = none := by
      cases hh : look l h with
      | none => rfl
      | some o => exact absurd ⟨o, hh⟩ hne
    rw [hobO h hnone] at ho
    exact ⟨o, ho, AO.like_refl o, hmO h hnone, fun b hb' => bsz_congr (hb.block b (hlt h o b ho hb'))⟩
  have hokNc : ∀ i b, okN i b → c.ok (updL m l bs) (E.ob { st with objs := l ++ st.objs }) w'.heap i b := fun i b hb' => by
    obtain ⟨h1, h2, hun⟩ := hokN i b hb'
    rcases h1 with ⟨h3, h4⟩ | ⟨h3, h4⟩
    · exact hokc i b h4
    · refine ⟨h4, fun hlt' => ?_, fun h o ho he => ?_, fun hD => absurd (hS.alive b hD).2.1 (by omega), fun hi => ⟨Nat.le_trans hS.kept.size h3, hun hi⟩⟩
      · have := hS.kept.size
        have hB : c.B = c.w0.heap.size := rfl
        omega
      · rcases hn.cases_ (m := m) h with ⟨s, xs, g1, g2, g3⟩ | ⟨g1, g2⟩
        · rw [he] at g2
          exact h2 g2
        · rw [hobO h g1] at ho
          rw [g2] at he
          have := hlt h o b ho he
          omega
  refine ⟨?_, hT, hokNc⟩
  have hkept : c.kept w' := ⟨hb.os.trans hS.kept.os, hb.tape.trans hS.kept.tape, hb.output.trans hS.kept.output, Nat.le_trans hS.kept.size hb.size, fun k hk hm => by
    rw [hb.block k (Nat.lt_of_lt_of_le hk hS.kept.size)]
    exact hS.kept.block k hk hm, fun k hk => by
    rw [← hS.kept.bsz k hk]
    exact bsz_congr (hb.block k (Nat.lt_of_lt_of_le hk hS.kept.size))⟩
  have hfr : ∀ k o, look l k = some o → E.fresh st k = true := fun k o hk => freshAll_spec hf hk
  refine hS.change rfl hkept _ hT (fun d hd' => ?_) (fun h o ho => ?_) (fun h h' o1 o2 b h1 h2 h3 h4 => ?_) (fun h o ho => ?_) (fun b hb' => ?_)
  · obtain ⟨o, hk⟩ := hd'
    obtain ⟨f1, f2, _⟩ := fresh_spec (hfr d o hk)
    exact ⟨f1, f2⟩
  · rcases hn.cases_ (m := m) h with ⟨s, xs, g1, g2, g3⟩ | ⟨g1, g2⟩
    · rw [hobN h _ g1] at ho
      cases ho
      simp only [RO]
      cases hu : updL m l bs h with
      | none => rw [hu] at g3; exact g3
      | some b =>
        rw [hu] at g3
        obtain ⟨k1, cs, e, k2, k3, k4⟩ := g3
        refine ⟨.inl (Nat.le_trans hS.kept.size k1), cs, e, k2, k3, fun i x hx => ?_⟩
        obtain ⟨l', l1, l2, l3⟩ := k4 i x hx
        exact ⟨l', l1, l2, RC.mono (fun i b hb => ⟨hokNc i b hb, fun _ => rfl⟩) l3⟩
    · rw [hobO h g1] at ho
      refine (hS.objs h o ho).mono hT g2 (fun b hb' => hb.block b (hlt h o b ho hb')) (fun cells hc d hd' b hbm => ?_)
      obtain ⟨o', hk⟩ := hd'
      subst hc
      exact (fresh_spec (hfr d o' hk)).2.2.2.2 h cells ho b hbm
  · rcases hn.cases_ (m := m) h with ⟨s, xs, g1, g2, g3⟩ | ⟨g1, g2⟩
    · rcases hn.cases_ (m := m) h' with ⟨s', xs', g1', g2', g3'⟩ | ⟨g1', g2'⟩
      · exact hn.inj_ hd g1 g1' h3 h4
      · exfalso
        rw [hobO h' g1'] at h2
        rw [g2'] at h4
        rw [h3] at g3
        have := hlt h' o2 b h2 h4
        have := g3.1
        omega
    · rcases hn.cases_ (m := m) h' with ⟨s', xs', g1', g2', g3'⟩ | ⟨g1', g2'⟩
      · exfalso
        rw [hobO h g1] at h1
        rw [g2] at h3
        rw [h4] at g3'
        have := hlt h o1 b h1 h3
        have := g3'.1
        omega
      · rw [hobO h g1] at h1
        rw [hobO h' g1'] at h2
        rw [g2] at h3
        rw [g2'] at h4
        exact hS.inj h h' o1 o2 b h1 h2 h3 h4
  · simp only [look_append] at ho
    cases hh : look l h with
    | some o' => exact (fresh_spec (hfr h o' hh)).2.2.2.1
    | none => rw [hh] at ho; exact hS.disj h o (by simpa using ho)
  · obtain ⟨g1, g2, g3⟩ := hS.alive b hb'
    refine ⟨g1, Nat.lt_of_lt_of_le g2 hb.size, fun h o ho => ?_⟩
    rcases hn.cases_ (m := m) h with ⟨s, xs, h1, h2, h3⟩ | ⟨h1, h2⟩
    · intro he
      rw [he] at h3
      have := h3.1
      omega
    · rw [hobO h h1] at ho
      rw [h2]
      exact g3 h o ho

theorem resA_ge {outs : List RK} : ∀ {base : Nat} {y : dens (outs.map RK.sh)} {h : Nat} {o : AO}, look (resA base outs y).2 h = some o → base ≤ h := by
  induction outs with
  | nil => intro base y h o hh; simp [resA, look] at hh
  | cons k outs ih =>
    intro base y h o hh
    cases k with
    | own s =>
      simp only [resA] at hh
      by_cases hb : base = h
      · omega
      · rw [look_cons_ne _ _ hb] at hh
        have := ih hh
        omega
    | val s =>
      simp only [resA] at hh
      have := ih hh
      omega

theorem resA_spec {ok : Bool → Nat → Prop} {B : Nat} {H : Array Obj} {outs : List RK} : ∀ {base : Nat} {y : dens (outs.map RK.sh)} {vs : List Value} {bs : List (Option Nat)}, ResR ok B H outs y vs bs →
    NewL ok B H (resA base outs y).2 bs ∧ (resA base outs y).1.length = vs.length ∧
    ∀ {ok' : Bool → Nat → Prop} {O' : Nat → Option AO} {m' : Nat → Option Nat}, (∀ i b, ok i b → ok' i b) → (∀ h o, look (resA base outs y).2 h = some o → O' h = some o ∧ m' h = updL m (resA base outs y).2 bs h) →
      ∀ (i : Nat) (av : AV) (v : Value), (resA base outs y).1[i]? = some av → vs[i]? = some v → RV ok' m' O' H av v := by
  induction outs with
  | nil =>
    intro base y vs bs h
    cases vs with
    | cons v vs => cases bs <;> simp [ResR] at h
    | nil => cases bs with
      | cons b bs => simp [ResR] at h
      | nil => exact ⟨trivial, rfl, fun _ _ i av v h1 _ => by simp [resA] at h1⟩
  | cons k outs ih =>
    intro base y vs bs h
    cases k with
    | val s =>
      cases vs with
      | nil => simp [ResR] at h
      | cons v vs =>
        simp only [ResR] at h
        obtain ⟨⟨hc, ha⟩, h2⟩ := h
        obtain ⟨i1, i2, i3⟩ := ih (base := base + 10000) h2
        refine ⟨i1, by simp [resA, i2], fun hok hO i av u h3 h4 => ?_⟩
        cases i with
        | zero =>
          cases h3
          cases h4
          exact .g s _ v (RC.mono (fun i b hb => ⟨hok i b hb, fun _ => rfl⟩) hc) ha
        | succ i => exact i3 hok hO i av u (by simpa [resA] using h3) (by simpa using h4)
    | own s =>
      cases vs with
      | nil => cases bs <;> simp [ResR] at h
      | cons v vs =>
        cases bs with
        | nil => simp [ResR] at h
        | cons b bs =>
          simp only [ResR] at h
          obtain ⟨ho, h2⟩ := h
          obtain ⟨i1, i2, i3⟩ := ih (base := base + 10000) h2
          refine ⟨⟨?_, i1⟩, by simp [resA, i2], fun {ok' O' m'} hok hO i av u h3 h4 => ?_⟩
          · cases b with
            | none => exact ho.2
            | some b => exact ⟨ho.1, ho.2.1⟩
          · cases i with
            | zero =>
              cases h3
              cases h4
              obtain ⟨q1, q2⟩ := hO base _ (look_cons_self _ _ _)
              simp only [resA, updL, if_true] at q2
              refine .full base v (fun s' xs' hO' => ?_) ?_
              · rw [q1] at hO'
                cases hO'
                unfold SlV
                rw [q2]
                cases b with
                | none => exact ⟨ho.1, by rw [ho.2]; rfl⟩
                | some b =>
                  obtain ⟨_, _, o0, c0, hv, h5, h6, h7⟩ := ho
                  exact ⟨o0, c0, hv, h5, fun hne => by rw [h6 hne]; simp, fun n hn => by simpa using h7 n hn⟩
              · cases b with
                | none => rw [ho.1]; rfl
                | some b =>
                  obtain ⟨_, _, o0, c0, hv, _⟩ := ho
                  rw [hv]; rfl
            | succ i =>
              refine i3 hok (fun h o hh => ?_) i av u (by simpa [resA] using h3) (by simpa using h4)
              have hne : base ≠ h := by have := resA_ge hh; omega
              obtain ⟨q1, q2⟩ := hO h o (by simp only [resA]; rw [look_cons_ne _ _ hne]; exact hh)
              refine ⟨q1, ?_⟩
              rw [q2]
              simp only [resA, updL]
              rw [if_neg (Ne.symm hne)]

end

end Go.Proofs.Ytmdicmdodbndgaa.Fw
