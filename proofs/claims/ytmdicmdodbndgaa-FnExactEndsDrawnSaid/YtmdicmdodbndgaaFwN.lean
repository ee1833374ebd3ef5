/-
  Steps of the evaluator are steps of the model, eleventh part: regions, code, functions. No condition.
-/
import Derived.Test.YtmdicmdodbndgaaFwM
namespace Go.Proofs.Ytmdicmdodbndgaa.Fw
open Go Go.RowKit

/-- What a function's call does: it is entered, or answered at once. -/
def CallOk (P : Program) (f : FuncId) (vals : Array Value) (w : World) (R : Value → World → Prop) : Prop :=
  match (callFunc f vals).run P w with
  | .ok (.enter g args) w1 => w1 = w ∧ Calls P g args w1 fun e w' => ∃ v, e = .returned v ∧ R v w'
  | .ok (.value v) w1 => w1 = w ∧ R v w1
  | _ => False

theorem CallOk.mono {P : Program} {f : FuncId} {vals : Array Value} {w : World} {R R' : Value → World → Prop} (h : CallOk P f vals w R) (hr : ∀ v w', R v w' → R' v w') : CallOk P f vals w R' := by
  unfold CallOk at h ⊢
  split
  · rename_i g args' w1 hq
    rw [hq] at h
    exact ⟨h.1, h.2.mono fun en w' ⟨v, h1, h2⟩ => ⟨v, h1, hr v w' h2⟩⟩
  · rename_i v w1 hq
    rw [hq] at h
    exact ⟨h.1, hr v w1 h.2⟩
  · rename_i h1 h2
    revert h
    split
    · rename_i hq; exact absurd hq (h1 _ _ _)
    · rename_i hq; exact absurd hq (h2 _ _)
    · exact id

/-- A function does what its entry says. -/
def SoundC (P : Program) (f : FuncId) (e : Ent) : Prop :=
  ∀ (p : Nat → Prop) (w : World) (vals : List Value) (x : dens e.ins) (y : dens (e.outs.map RK.sh)), (∀ b, p b → b < w.heap.size) → ArgR (fun _ => p) w.heap e.ins x vals → e.F x = some y →
    CallOk P f vals.toArray w fun v w' => ∃ vs bs, valOf vs v ∧ Below w.heap.size w w' ∧ Dist bs ∧
      ResR (okRes p w.heap.size w'.heap bs) w.heap.size w'.heap e.outs y vs bs

/-- All below n is as it was, but for the blocks of a set; and these have their sizes. -/
structure BelowX (n : Nat) (S : Nat → Prop) (w w' : World) : Prop where
  os : w'.os = w.os
  tape : w'.tape = w.tape
  output : w'.output = w.output
  size : w.heap.size ≤ w'.heap.size
  block : ∀ k, k < n → ¬ S k → w'.heap[k]? = w.heap[k]?
  bsz : ∀ k, k < n → bsz w'.heap k = bsz w.heap k

/-- An array that is handed to be changed. -/
def MutR (ok : Bool → Nat → Prop) (H : Array Obj) (s : Sh) (xs : List s.den) (v : Value) : Option Nat → Prop
  | none => v = .slice none 0 0 ∧ xs = []
  | some b => RowAt ok H s xs b ∧ ∃ o c, v = .slice (some ⟨b, o, none⟩) xs.length c ∧ xs.length ≤ c ∧ (c ≠ 0 → o = 0) ∧ ∀ n, bsz H b = some n → c * s.size ≤ n

/-- What a changed array holds in the end. -/
def MutEnd (H : Array Obj) (s : Sh) (ys : List s.den) : Option Nat → Prop
  | none => ys = []
  | some b => RowAt (fun _ _ => False) H s ys b

def SoundM (P : Program) (f : FuncId) (e : EntM) : Prop :=
  ∀ (p : Nat → Prop) (w : World) (v : Value) (ob : Option Nat) (vals : List Value) (xs : List e.io.den) (x : dens e.ins) (z : List e.io.den × dens (e.outs.map RK.sh)),
    (∀ b, p b → b < w.heap.size ∧ ob ≠ some b) → MutR (fun _ _ => False) w.heap e.io xs v ob → ArgR (fun _ => p) w.heap e.ins x vals → e.io.ref = false → e.outs.all RK.det = true → e.F xs x = some z →
    CallOk P f (v :: vals).toArray w fun u w' => ∃ vs, valOf vs u ∧ BelowX w.heap.size (fun b => ob = some b) w w' ∧ ResR (fun _ _ => False) 0 w'.heap e.outs z.2 vs [] ∧ MutEnd w'.heap e.io z.1 ob

def SoundD (P : Program) (f : FuncId) (e : EntD) : Prop :=
  ∀ (X : Nat → Prop) (w : World) (v : Value) (ob : Option Nat) (k z : Int) (xs : List e.io.den),
    (∀ b, X b → b < w.heap.size ∧ ob ≠ some b ∧ Unf w.heap b) → MutR (fun _ => X) w.heap e.io xs v ob → e.F xs k = some z →
    CallOk P f #[v, .int .i64 k] w fun u w' => u = .int .i64 z ∧ BelowX w.heap.size (fun b => X b ∨ ob = some b) w w'

/-- What a function is handed last that uses up an array of numbers. -/
def ThirdR (H : Array Obj) (ob : Option Nat) : List Int ⊕ Int → Value → Prop
  | .inl ys, u => ∃ kb, MutR (fun _ _ => False) H (.int .i64) ys u kb ∧ ∀ b, kb = some b → ob ≠ some b
  | .inr j, u => u = .int .i64 j

/-- What it leaves: the array that it was handed, changed, or one of its own. -/
def AppR (w w' : World) (z : List Int) (r : Value) (ob : Option Nat) : Prop :=
  (∃ b cs cs' e o c, ob = some b ∧ w.heap[b]? = some (.cells cs e (0, 0)) ∧ cs'.size = cs.size ∧ SameW (setB w b (.cells cs' e (0, 0))) w' ∧ (∀ (i : Nat) (x : Int), z[i]? = some x → cs'[i]? = some (.int .i64 x)) ∧
    r = .slice (some ⟨b, o, none⟩) z.length c ∧ z.length ≤ c ∧ (c ≠ 0 → o = 0) ∧ c ≤ cs.size) ∨
  (∃ cs e c, SameW (w.alloc (.cells cs e)) w' ∧ (∀ (i : Nat) (x : Int), z[i]? = some x → cs[i]? = some (.int .i64 x)) ∧ r = .slice (some ⟨w.heap.size, 0, none⟩) z.length c ∧ z.length ≤ c ∧ c ≤ cs.size)

def SoundA (P : Program) (f : FuncId) (e : EntA) : Prop :=
  ∀ (w : World) (v u : Value) (ob : Option Nat) (i : Int) (xs : List Int) (y : List Int ⊕ Int) (z : List Int), MutR (fun _ _ => False) w.heap (.int .i64) xs v ob → ThirdR w.heap ob y u → e.F xs i y = some z →
    CallOk P f #[v, .int .i64 i, u] w fun r w' => AppR w w' z r ob

/-- A function that changes what a pointer names. -/
def SoundB (P : Program) (f : FuncId) (e : EntB) : Prop :=
  ∀ (p : Nat → Prop) (w : World) (bb : Nat) (cs0 : Array Value) (e0 : TypeId) (v : Value) (ob : Option Nat) (vals : List Value) (xs : List Int) (c : Int) (x : dens e.ins) (z : (List Int × Int) × dens (e.outs.map RK.sh)),
    (∀ b, p b → b < w.heap.size ∧ b ≠ bb ∧ ob ≠ some b) → w.heap[bb]? = some (.cells cs0 e0 (0, 0)) → cs0 = #[v, .int .i64 c] → MutR (fun _ _ => False) w.heap (.int .i64) xs v ob → ob ≠ some bb → ArgR (fun _ => p) w.heap e.ins x vals → e.outs.all RK.det = true → e.F xs c x = some z →
    CallOk P f (insN e.pos (.pointer (some ⟨bb, 0, none⟩)) vals).toArray w fun u w' => ∃ vs v' e1 ob', valOf vs u ∧ BelowX w.heap.size (fun b => b = bb ∨ ob = some b) w w' ∧ ResR (fun _ _ => False) 0 w'.heap e.outs z.2 vs [] ∧
      w'.heap[bb]? = some (.cells #[v', .int .i64 z.1.2] e1 (0, 0)) ∧ MutR (fun _ _ => False) w'.heap (.int .i64) z.1.1 v' ob' ∧ (∀ b, ob' = some b → ob = some b ∨ w.heap.size ≤ b) ∧ ob' ≠ some bb

def SoundX (P : Program) (f : FuncId) : EntX → Prop
  | .pl e => SoundC P f e
  | .mu e => SoundM P f e
  | .dp e => SoundD P f e
  | .ap e => SoundA P f e
  | .bm e => SoundB P f e

section
variable {P : Program} {tt : Nat → TD} {T : Nat → List EntX} {q : Bool} {c : Cx} {E : Env} {st : St} {m : Nat → Option Nat} {a : Act} {w : World} {ρ : Type} {K : St → Option ρ} {r : ρ} {o : Oper}

theorem exceptO_some {O : Nat → Option AO} {h k : Nat} {o : AO} (hk : exceptO O h k = some o) : k ≠ h ∧ O k = some o := by
  unfold exceptO at hk
  cases hb : Nat.beq k h with
  | true => rw [hb] at hk; cases hk
  | false =>
    rw [hb] at hk
    exact ⟨fun e => (by rw [e] at hb; simp at hb), hk⟩

/-- An array of the call's own that somebody has changed. -/
theorem SimM.mutate (hS : SimM c E st m a w) {h : Nat} {s : Sh} {xs ys : List s.den} (hl : look st.objs h = some (.arr s xs)) (hlen : ys.length = xs.length) (href : s.ref = false) {w' : World}
    (hb : BelowX w.heap.size (fun b => m h = some b) w w') (hr : match m h with | none => ys = [] | some b => ∃ ok, RowAt ok w'.heap s ys b) :
    SimM c E { st with objs := put st.objs h (.arr s ys) } m a w' := by
  have ho0 := ob_of_look (E := E) hl
  have hT : Tr (c.ok m (E.ob st) w.heap) m (E.ob st) w.heap (c.ok m (E.ob { st with objs := put st.objs h (.arr s ys) }) w'.heap)
      m (E.ob { st with objs := put st.objs h (.arr s ys) }) w'.heap (fun _ => False) := by
    refine ⟨fun i b hb' => ⟨⟨Nat.lt_of_lt_of_le hb'.1 hb.size, hb'.2.1, fun k q hq => ?_, hb'.2.2.2.1, fun hi => ⟨(hb'.2.2.2.2 hi).1, unf_congr (hb.block b hb'.1 (hb'.2.2.1 h _ ho0)) (hb'.2.2.2.2 hi).2⟩⟩, cellH_congr (hb.block b hb'.1 (hb'.2.2.1 h _ ho0))⟩, fun k q hq _ => ?_⟩
    · by_cases hh : h = k
      · subst hh; exact hb'.2.2.1 h _ ho0
      · rw [ob_put_ne _ hh] at hq
        exact hb'.2.2.1 k q hq
    · by_cases hh : h = k
      · subst hh
        rw [ob_put_self] at hq
        cases hq
        refine ⟨_, ho0, ⟨rfl, hlen.symm⟩, rfl, fun b hb' => ?_⟩
        obtain ⟨_, cs, e, hg⟩ := (hS.objs h _ ho0).block hb'
        exact hb.bsz b (lt_of_some hg)
      · rw [ob_put_ne _ hh] at hq
        refine ⟨q, hq, AO.like_refl q, rfl, fun b hb' => ?_⟩
        obtain ⟨_, cs, e, hg⟩ := (hS.objs k _ hq).block hb'
        exact hb.bsz b (lt_of_some hg)
  refine hS.change rfl ?_ _ hT (fun d hd => hd.elim) (fun k q hq => ?_) (fun k k' q q' b' h1 h2 h3 h4 => ?_) (fun k q hq => ?_) (fun b' hb' => ?_)
  · refine ⟨hb.os.trans hS.kept.os, hb.tape.trans hS.kept.tape, hb.output.trans hS.kept.output, Nat.le_trans hS.kept.size hb.size, fun k hk hm => ?_, fun k hk => ?_⟩
    · rw [hb.block k (Nat.lt_of_lt_of_le hk hS.kept.size) (fun he => ?_)]
      · exact hS.kept.block k hk hm
      · obtain ⟨g, _⟩ := (hS.objs h _ ho0).block he
        rcases g with g | g
        · have : c.B = c.w0.heap.size := rfl
          omega
        · exact hm g
    · rw [hb.bsz k (Nat.lt_of_lt_of_le hk hS.kept.size)]
      exact hS.kept.bsz k hk
  · by_cases hh : h = k
    · subst hh
      rw [ob_put_self] at hq
      cases hq
      simp only [RO]
      cases hm : m h with
      | none => rw [hm] at hr; exact hr
      | some b =>
        rw [hm] at hr
        obtain ⟨ok, cs, e, g1, g2, g3⟩ := hr
        refine ⟨((hS.objs h _ ho0).block hm).1, cs, e, g1, g2, fun i x hx => ?_⟩
        obtain ⟨l, l1, l2, l3⟩ := g3 i x hx
        exact ⟨l, l1, l2, RC.noref href l3⟩
    · rw [ob_put_ne _ hh] at hq
      refine (hS.objs k q hq).mono hT rfl (fun b' hb' => ?_) (fun _ _ d hd => hd.elim)
      obtain ⟨_, cs, e, hg⟩ := (hS.objs k _ hq).block hb'
      exact hb.block b' (lt_of_some hg) fun he => hh (hS.inj h k _ q b' ho0 hq he hb')
  · have fix : ∀ k q, E.ob { st with objs := put st.objs h (.arr s ys) } k = some q → ∃ q, E.ob st k = some q := fun k q hq => by
      by_cases hh : h = k
      · subst hh; exact ⟨_, ho0⟩
      · rw [ob_put_ne _ hh] at hq; exact ⟨q, hq⟩
    obtain ⟨q1, hq1⟩ := fix k q h1
    obtain ⟨q2, hq2⟩ := fix k' q' h2
    exact hS.inj k k' q1 q2 b' hq1 hq2 h3 h4
  · by_cases hh : h = k
    · subst hh; exact hS.disj h _ hl
    · simp only at hq
      rw [look_put_ne _ _ hh] at hq
      exact hS.disj k q hq
  · obtain ⟨g1, g2, g3⟩ := hS.alive b' hb'
    refine ⟨g1, Nat.lt_of_lt_of_le g2 hb.size, fun k q hq => ?_⟩
    by_cases hh : h = k
    · subst hh; exact g3 h _ ho0
    · rw [ob_put_ne _ hh] at hq
      exact g3 k q hq

theorem keepO_look {h : Nat} : ∀ {l : List (Nat × AO)} {k : Nat} {o : AO}, look (keepO h l) k = some o → k ≠ h ∧ o.safe = true ∧ look l k = some o := by
  intro l
  induction l with
  | nil => intro k o hk; cases hk
  | cons x l ih =>
    intro k o hk
    obtain ⟨k0, o0⟩ := x
    simp only [keepO] at hk
    cases hc : Nat.beq k0 h || !o0.safe with
    | true =>
      rw [hc, cond_true] at hk
      by_cases hh : k0 = k
      · subst hh
        rw [look_del_self] at hk
        cases hk
      · rw [look_del_ne _ hh] at hk
        rw [look_cons_ne _ _ hh]
        exact ih hk
    | false =>
      rw [hc, cond_false] at hk
      simp only [Bool.or_eq_false_iff, Bool.not_eq_false'] at hc
      by_cases hh : k0 = k
      · subst hh
        rw [look_cons_self] at hk
        cases hk
        exact ⟨fun e => (by rw [e] at hc; simp at hc), hc.2, look_cons_self _ _ _⟩
      · rw [look_cons_ne _ _ hh] at hk
        rw [look_cons_ne _ _ hh]
        exact ih hk

/-- A value of which nothing but its object must be known. -/
theorem RV.safe_ {ok ok' : Bool → Nat → Prop} {O O' : Nat → Option AO} {H H' : Array Obj} (hO : ∀ h o, O' h = some o → O h = some o ∧ ∀ b, m h = some b → bsz H' b = bsz H b) :
    ∀ (n : Nat) {av : AV} {v : Value}, AV.safe n av = true → RV ok m O H av v → RV ok' m O' H' av v := by
  intro n
  induction n with
  | zero => intro av v h; cases h
  | succ n ih =>
    intro av v h hv
    cases hv with
    | top v => cases h
    | g s x v hc ha => exact .g s x v (RC.noref (by simpa [AV.safe] using h) hc) ha
    | full k v hv ho => exact .full k v (fun s xs hk => (hv s xs (hO _ _ hk).1).mono rfl (hO _ _ hk).2) ho
    | slc k off len v hv ho => exact .slc k off len v (fun s xs hk => ⟨(hv s xs (hO _ _ hk).1).1.mono rfl (hO _ _ hk).2, (hv s xs (hO _ _ hk).1).2⟩) ho
    | ptr k off v hv ho => exact .ptr k off v (fun cells hk => hv cells (hO _ _ hk).1) ho
    | el k i v hv ho => exact .el k i v (fun s xs hk => hv s xs (hO _ _ hk).1) ho
    | rp => cases h
    | nil => exact .nil
    | agg l vs hs hv ho =>
      simp only [AV.safe] at h
      exact .agg l vs hs (fun i a u h1 h2 => ih (List.all_eq_true.1 h a (List.mem_of_getElem? h1)) (hv i a u h1 h2)) ho
    | tup l vs hs hv =>
      simp only [AV.safe] at h
      exact .tup l vs hs fun i a u h1 h2 => ih (List.all_eq_true.1 h a (List.mem_of_getElem? h1)) (hv i a u h1 h2)
    | fn f l vs hs hv ho =>
      simp only [AV.safe] at h
      exact .fn f l vs hs (fun i a u h1 h2 => ih (List.all_eq_true.1 h a (List.mem_of_getElem? h1)) (hv i a u h1 h2)) ho

theorem keepV_len : ∀ {l args : List AV}, (keepV l args).length = l.length := by
  intro l
  induction l with
  | nil => intro args; rfl
  | cons v l ih => intro args; simp [keepV, ih]

theorem keepV_get : ∀ {l args : List AV} {t : Nat} {av : AV}, (keepV l args)[t]? = some av →
    (∃ s x, args[t]? = some (.g s x) ∧ av = .g s x) ∨ av = .top ∨ (l[t]? = some av ∧ AV.safe 6 av = true) := by
  intro l
  induction l with
  | nil => intro args t av h; simp [keepV] at h
  | cons v l ih =>
    intro args t av h
    cases t with
    | zero =>
      simp only [keepV, List.getElem?_cons_zero, Option.some.injEq] at h
      split at h
      · exact .inl ⟨_, _, rfl, h.symm⟩
      · cases hs : AV.safe 6 v with
        | true => rw [hs] at h; simp only [cond_true] at h; subst h; exact .inr (.inr ⟨rfl, hs⟩)
        | false => rw [hs] at h; simp only [cond_false] at h; exact .inr (.inl h.symm)
    | succ t =>
      simp only [keepV, List.getElem?_cons_succ] at h
      rcases ih h with ⟨s, x, h1, h2⟩ | h1 | h1
      · refine .inl ⟨s, x, ?_, h2⟩
        cases args with
        | nil => simp at h1
        | cons y args => simpa using h1
      · exact .inr (.inl h1)
      · exact .inr (.inr (by simpa using h1))

/-- An array of the call's own, and all new that it names, that somebody has changed: what is left. -/
theorem SimM.lost (hS : SimM c E st m a w) (hE : noArgs E = true) {h : Nat} {s : Sh} {xs : List s.den} (hl : look st.objs h = some (.arr s xs)) {w' : World}
    (hb : BelowX w.heap.size (fun b => c.ok m (E.ob st) w.heap true b ∨ m h = some b) w w') :
    ∃ D, SimM (c.die D) E { slots := keepV st.slots E.args, objs := keepO h st.objs } m a w' := by
  simp only [noArgs, Bool.and_eq_true, Bool.not_eq_true', List.isEmpty_iff] at hE
  obtain ⟨⟨hE1, hE2⟩, hE3⟩ := hE
  have ho0 := ob_of_look (E := E) hl
  have hob : ∀ k o, E.ob { slots := keepV st.slots E.args, objs := keepO h st.objs } k = some o → k ≠ h ∧ o.safe = true ∧ look st.objs k = some o := fun k o hk => by
    simp only [Env.ob, hE1] at hk
    cases hl2 : look (keepO h st.objs) k with
    | none => rw [hl2] at hk; simp [look] at hk
    | some o2 => rw [hl2] at hk; cases hk; exact keepO_look hl2
  have hmB : ∀ k o b, look st.objs k = some o → m k = some b → c.B ≤ b ∧ b < w.heap.size := fun k o b hk hm => by
    obtain ⟨g1, cs, e, g2⟩ := (hS.objs k o (ob_of_look hk)).block hm
    exact ⟨g1.resolve_right (hS.nomu hE3 b), lt_of_some g2⟩
  have hunch : ∀ k o b, look st.objs k = some o → k ≠ h → m k = some b → w'.heap[b]? = w.heap[b]? := fun k o b hk hne hm => by
    refine hb.block b (hmB k o b hk hm).2 ?_
    rintro (hh | hh)
    · exact hh.2.2.1 k o (ob_of_look hk) hm
    · exact hne (hS.inj k h o _ b (ob_of_look hk) ho0 hm hh)
  have hsafe : ∀ k o, E.ob { slots := keepV st.slots E.args, objs := keepO h st.objs } k = some o → E.ob st k = some o ∧ ∀ b, m k = some b → bsz w'.heap b = bsz w.heap b := fun k o hk => by
    obtain ⟨g1, g2, g3⟩ := hob k o hk
    exact ⟨ob_of_look g3, fun b hm => bsz_congr (hunch k o b g3 g1 hm)⟩
  refine ⟨fun b => c.B ≤ b ∧ b < w.heap.size ∧ ∀ k o, E.ob { slots := keepV st.slots E.args, objs := keepO h st.objs } k = some o → m k ≠ some b, ?_⟩
  have hnotmt : ∀ b, b < c.B → w'.heap[b]? = w.heap[b]? := fun b hlt => by
    have hBs := hS.kept.size
    have hB : c.B = c.w0.heap.size := rfl
    refine hb.block b (by omega) ?_
    rintro (hh | hh)
    · have := (hh.2.2.2.2 rfl).1
      omega
    · have := (hmB h _ b hl hh).1
      omega
  exact {
    defers := hS.defers
    size := by rw [keepV_len]; exact hS.size
    num := by rw [keepV_len]; exact hS.num
    kept := by
      have hB : c.B = c.w0.heap.size := rfl
      refine ⟨hb.os.trans hS.kept.os, hb.tape.trans hS.kept.tape, hb.output.trans hS.kept.output, Nat.le_trans hS.kept.size hb.size, fun k hk hm => ?_, fun k hk => ?_⟩
      · rw [hnotmt k (by rw [hB]; exact hk)]
        exact hS.kept.block k hk hm
      · rw [hb.bsz k (Nat.lt_of_lt_of_le hk hS.kept.size)]
        exact hS.kept.bsz k hk
    slots := fun t av ht => by
      rcases keepV_get ht with ⟨s1, x1, h1, rfl⟩ | rfl | ⟨h1, h2⟩
      · rw [hS.fix t _ h1 rfl]
        obtain ⟨g1, g2, g3⟩ := hS.old.2 t s1 x1 h1
        refine .g _ _ _ (RC.plain_ g3 (fun b hp => ?_) g1) g2
        have hlt := hS.old.1 b hp
        have hB : c.B = c.w0.heap.size := rfl
        have hBs := hS.kept.size
        refine ⟨⟨?_, fun _ => hp, fun k o hk hm => ?_, fun hD => ?_, fun hf => by cases hf⟩, ?_⟩
        · have := hb.size
          omega
        · have := (hmB k o b (hob k o hk).2.2 hm).1
          omega
        · have := hD.1
          have hB2 : (c.die fun b => c.B ≤ b ∧ b < w.heap.size ∧ ∀ k o, E.ob { slots := keepV st.slots E.args, objs := keepO h st.objs } k = some o → m k ≠ some b).B = c.w0.heap.size := rfl
          omega
        · refine cellH_congr ?_
          rw [hnotmt b (by omega)]
          exact hS.kept.block b hlt (hS.nomu hE3 b)
      · exact .top _
      · exact RV.safe_ hsafe 6 h2 (hS.slots t av h1)
    eslots := fun t av ht => by
      have := List.all_eq_true.1 hE2 av (List.mem_of_getElem? ht)
      rw [isTop_eq this]
      exact .top _
    objs := fun k o hk => by
      obtain ⟨g1, g2, g3⟩ := hob k o hk
      have hr := hS.objs k o (ob_of_look g3)
      cases o with
      | arr s1 xs1 =>
        simp only [AO.safe, Bool.not_eq_true'] at g2
        simp only [RO] at hr ⊢
        cases hm : m k with
        | none => rw [hm] at hr; exact hr
        | some b =>
          rw [hm] at hr
          obtain ⟨k1, cs, e, k2, k3, k4⟩ := hr
          have hu := hunch k _ b g3 g1 hm
          refine ⟨k1, cs, e, by rw [hu]; exact k2, k3, fun i x hx => ?_⟩
          obtain ⟨l, l1, l2, l3⟩ := k4 i x hx
          exact ⟨l, l1, fun j v hv => by rw [cellH_congr hu]; exact l2 j v hv, RC.noref g2 l3⟩
      | box cells =>
        simp only [AO.safe] at g2
        simp only [RO] at hr ⊢
        obtain ⟨b, cs, e, k1, k2, k3, k4, k5, k6⟩ := hr
        have hu := hunch k _ b g3 g1 k1
        exact ⟨b, cs, e, k1, k2, by rw [hu]; exact k3, k4, k5, fun i a v h1 h2 => RV.safe_ hsafe 6 (List.all_eq_true.1 g2 a (List.mem_of_getElem? h1)) (k6 i a v h1 h2)⟩
    inj := fun k k' o o' b h1 h2 h3 h4 => hS.inj k k' o o' b (hsafe k o h1).1 (hsafe k' o' h2).1 h3 h4
    disj := fun k o hk => hS.disj k o (keepO_look hk).2.2
    fix := hS.fix
    nomu := hS.nomu
    old := hS.old
    alive := fun b hD => ⟨hD.1, Nat.lt_of_lt_of_le hD.2.1 hb.size, hD.2.2⟩ }

theorem ArgR.mono {ok ok' : Bool → Nat → Prop} {H : Array Obj} (hok : ∀ i b, ok i b → ok' i b) : ∀ {ins : List Sh} {x : dens ins} {vs : List Value}, ArgR ok H ins x vs → ArgR ok' H ins x vs := by
  intro ins
  induction ins with
  | nil => intro x vs h; cases vs <;> simp_all [ArgR]
  | cons s ins ih =>
    intro x vs h
    cases vs with
    | nil => simp [ArgR] at h
    | cons v vs => exact ⟨⟨RC.mono (fun i b hb => ⟨hok i b hb, fun _ => rfl⟩) h.1.1, h.1.2⟩, ih h.2⟩

theorem noHandle {v : AV} {n : Nat} (h : AV.handle n v = false) (d : Nat) : ¬ Mn d v := fun hm => by
  rw [handle_mn n hm] at h
  cases h

theorem ResR.noref {ok ok' : Bool → Nat → Prop} {B : Nat} {H : Array Obj} : ∀ {outs : List RK} {y : dens (outs.map RK.sh)} {vs : List Value} {bs : List (Option Nat)}, outs.any RK.ref = false →
    ResR ok B H outs y vs bs → ResR ok' B H outs y vs bs := by
  intro outs
  induction outs with
  | nil => intro y vs bs _ h; cases vs <;> cases bs <;> simp_all [ResR]
  | cons k outs ih =>
    intro y vs bs hr h
    simp only [List.any_cons, Bool.or_eq_false_iff] at hr
    cases k with
    | val s =>
      cases vs with
      | nil => simp [ResR] at h
      | cons v vs => exact ⟨⟨RC.noref hr.1 h.1.1, h.1.2⟩, ih hr.2 h.2⟩
    | own s =>
      cases vs with
      | nil => cases bs <;> simp [ResR] at h
      | cons v vs =>
        cases bs with
        | nil => simp [ResR] at h
        | cons b bs =>
          refine ⟨?_, ih hr.2 h.2⟩
          have h1 := h.1
          cases b with
          | none => exact h1
          | some b =>
            obtain ⟨k1, ⟨cs, e, k2, k3, k4⟩, k5⟩ := h1
            refine ⟨k1, ⟨cs, e, k2, k3, fun i x hx => ?_⟩, k5⟩
            obtain ⟨l, l1, l2, l3⟩ := k4 i x hx
            exact ⟨l, l1, l2, RC.noref hr.1 l3⟩

theorem RowAt_of {ok : Bool → Nat → Prop} {H : Array Obj} {mt : Nat → Prop} {O : Nat → Option AO} {h b : Nat} {s : Sh} {xs : List s.den} (hm : m h = some b) (hr : RO ok m O H mt h (.arr s xs)) : RowAt ok H s xs b := by
  simp only [RO, hm] at hr
  obtain ⟨_, cs, e, h1, h2, h3⟩ := hr
  exact ⟨cs, e, h1, h2, h3⟩

theorem MutR_of (hS : SimM c E st m a w) {h : Nat} {s : Sh} {xs : List s.den} {v : Value} (hl : look st.objs h = some (.arr s xs)) (hv : RVs c E st m w (.full h) v) : MutR (c.ok m (E.ob st) w.heap) w.heap s xs v (m h) := by
  have ho0 := ob_of_look (E := E) hl
  have hro := hS.objs h _ ho0
  cases hv with
  | full _ _ hsl _ =>
    have h2 := hsl _ _ ho0
    unfold SlV at h2
    cases hm : m h with
    | none =>
      rw [hm] at h2
      simp only [RO, hm] at hro
      exact ⟨h2.1, hro⟩
    | some b =>
      rw [hm] at h2
      obtain ⟨o0, cp, h3, h4, h5, h6⟩ := h2
      exact ⟨RowAt_of hm hro, o0, cp, h3, h4, fun hne => by simpa using h5 hne, fun n hn => by simpa using h6 n hn⟩

theorem MutR.noref {ok ok' : Bool → Nat → Prop} {H : Array Obj} {s : Sh} {xs : List s.den} {v : Value} {ob : Option Nat} (hr : s.ref = false) (h : MutR ok H s xs v ob) : MutR ok' H s xs v ob := by
  cases ob with
  | none => exact h
  | some b =>
    obtain ⟨⟨cs, e, h1, h2, h3⟩, h4⟩ := h
    refine ⟨⟨cs, e, h1, h2, fun i x hx => ?_⟩, h4⟩
    obtain ⟨l, l1, l2, l3⟩ := h3 i x hx
    exact ⟨l, l1, l2, RC.noref hr l3⟩

/-- A new name for a block that an object had, its cells behind the elements changed. -/
theorem SimM.rename (hS : SimM c E st m a w) {h d b : Nat} {s : Sh} {ys zs : List s.den} (hl : look st.objs h = some (.arr s ys)) (hm : m h = some b) (hf : E.fresh { st with objs := del st.objs h } d = true)
    {cs cs' : Array Value} {e : TypeId} (hb : w.heap[b]? = some (.cells cs e (0, 0))) (hs : cs'.size = cs.size) (hn : NewOk (c.ok m (E.ob st) w.heap) m (E.ob st) w.heap cs' (.arr s zs)) :
    SimM c E { st with objs := (d, .arr s zs) :: del st.objs h } (upd m d (some b)) a (setB w b (.cells cs' e (0, 0))) := by
  have ho0 := ob_of_look (E := E) hl
  obtain ⟨f1, f2, f3, f4, f5⟩ := fresh_spec hf
  obtain ⟨hmt, _⟩ := (hS.objs h _ ho0).block hm
  have hg : (setB w b (.cells cs' e (0, 0))).heap[b]? = some (.cells cs' e (0, 0)) := setB_get _ _ _ (lt_of_some hb)
  have hob : ∀ k o, k ≠ d → E.ob { st with objs := (d, .arr s zs) :: del st.objs h } k = some o → E.ob { st with objs := del st.objs h } k = some o ∧ E.ob st k = some o ∧ k ≠ h := fun k o hk ho => by
    rw [show E.ob { st with objs := (d, .arr s zs) :: del st.objs h } k = E.ob { st with objs := del st.objs h } k from ob_cons_ne (st := { st with objs := del st.objs h }) _ (Ne.symm hk)] at ho
    refine ⟨ho, ?_⟩
    by_cases hh : h = k
    · subst hh
      simp only [Env.ob, look_del_self] at ho
      rw [hS.disj h _ hl] at ho
      cases ho
    · simp only [Env.ob, look_del_ne _ hh] at ho
      exact ⟨ho, Ne.symm hh⟩
  have hself : E.ob { st with objs := (d, .arr s zs) :: del st.objs h } d = some (.arr s zs) := ob_cons_self (st := { st with objs := del st.objs h }) d _
  have hT : Tr (c.ok m (E.ob st) w.heap) m (E.ob st) w.heap (c.ok (upd m d (some b)) (E.ob { st with objs := (d, .arr s zs) :: del st.objs h }) (setB w b (.cells cs' e (0, 0))).heap)
      (upd m d (some b)) (E.ob { st with objs := (d, .arr s zs) :: del st.objs h }) (setB w b (.cells cs' e (0, 0))).heap (· = d) := by
    have hnb : ∀ i b', c.ok m (E.ob st) w.heap i b' → b ≠ b' := fun i b' hb' he => by
      subst he
      exact hb'.2.2.1 h _ ho0 hm
    refine ⟨fun i b' hb' => ⟨⟨by rw [setB_size]; exact hb'.1, hb'.2.1, fun k q hq => ?_, hb'.2.2.2.1, fun hi => ⟨(hb'.2.2.2.2 hi).1, unf_congr (setB_heap_ne _ _ (hnb i b' hb')) (hb'.2.2.2.2 hi).2⟩⟩, cellH_congr (setB_heap_ne _ _ (hnb i b' hb'))⟩, fun k q hq hne => ?_⟩
    · by_cases hd : k = d
      · subst hd
        rw [upd_self]
        intro hh
        cases hh
        exact hb'.2.2.1 h _ ho0 hm
      · rw [upd_ne _ _ hd]
        exact hb'.2.2.1 k q (hob k q hd hq).2.1
    · obtain ⟨_, g2, g3⟩ := hob k q hne hq
      refine ⟨q, g2, AO.like_refl q, upd_ne _ _ hne, fun b' hb' => bsz_congr (setB_heap_ne _ _ ?_)⟩
      rintro rfl
      exact g3 (hS.inj k h q _ b g2 ho0 hb' hm)
  refine hS.change rfl (kept_setB hS.kept hmt hb hs) _ hT (fun d' hd' => by subst hd'; exact ⟨f1, f2⟩) (fun k q hq => ?_) (fun k k' q q' b' h1 h2 h3 h4 => ?_) (fun k q hq => ?_) (fun b' hb' => ?_)
  · by_cases hd : k = d
    · subst hd
      rw [hself] at hq
      cases hq
      simp only [RO, upd_self]
      obtain ⟨n1, n2⟩ := hn
      refine ⟨hmt, cs', e, hg, n1, fun i x hx => ?_⟩
      obtain ⟨l, hl', hr, hc⟩ := n2 i x hx
      exact ⟨l, hl', fun j v hv => by unfold cellH; rw [hg]; exact hr j v hv, RC.mono hT.okc hc⟩
    · obtain ⟨g1, g2, g3⟩ := hob k q hd hq
      refine (hS.objs k q g2).mono hT (upd_ne _ _ hd) (fun b' hb' => setB_heap_ne _ _ ?_) (fun cells hc d' hd' x hx => by
        subst hc
        subst hd'
        exact f5 k cells g1 x hx)
      rintro rfl
      exact g3 (hS.inj k h q _ b g2 ho0 hb' hm)
  · by_cases hd : k = d
    · by_cases hd' : k' = d
      · rw [hd, hd']
      · exfalso
        subst hd
        rw [upd_self] at h3
        cases h3
        rw [upd_ne _ _ hd'] at h4
        obtain ⟨_, g2, g3⟩ := hob k' q' hd' h2
        exact g3 (hS.inj k' h q' _ b g2 ho0 h4 hm)
    · by_cases hd' : k' = d
      · exfalso
        subst hd'
        rw [upd_self] at h4
        cases h4
        rw [upd_ne _ _ hd] at h3
        obtain ⟨_, g2, g3⟩ := hob k q hd h1
        exact g3 (hS.inj k h q _ b g2 ho0 h3 hm)
      · rw [upd_ne _ _ hd] at h3
        rw [upd_ne _ _ hd'] at h4
        exact hS.inj k k' q q' b' (hob k q hd h1).2.1 (hob k' q' hd' h2).2.1 h3 h4
  · by_cases hd : k = d
    · subst hd; exact f4
    · simp only at hq
      rw [look_cons_ne _ _ (Ne.symm hd)] at hq
      by_cases hh : h = k
      · subst hh; rw [look_del_self] at hq; cases hq
      · rw [look_del_ne _ hh] at hq
        exact hS.disj k q hq
  · obtain ⟨g1, g2, g3⟩ := hS.alive b' hb'
    refine ⟨g1, by rw [setB_size]; exact g2, fun k q hq => ?_⟩
    by_cases hd : k = d
    · subst hd
      rw [upd_self]
      intro hh
      cases hh
      exact g3 h _ ho0 hm
    · rw [upd_ne _ _ hd]
      exact g3 k q (hob k q hd hq).2.1

/-- What a pointer names, as the evaluator has it. -/
theorem takeN_both {α β : Type} : ∀ {p : Nat} {l : List α} {m : List β} {a : α} {r : List α}, l.length = m.length → takeN p l = some (a, r) → ∃ u s, m = insN p u s ∧ r.length = s.length ∧ l[p]? = some a ∧ m[p]? = some u ∧ ∀ (i : Nat) av v, r[i]? = some av → s[i]? = some v → ∃ j : Nat, l[j]? = some av ∧ m[j]? = some v := by
  intro p
  induction p with
  | zero =>
    intro l m a r hl h
    match l, m, hl, h with
    | x :: l, y :: m, hl, h =>
      cases h
      exact ⟨y, m, rfl, by simpa using hl, rfl, rfl, fun i av v h1 h2 => ⟨i + 1, h1, h2⟩⟩
  | succ p ih =>
    intro l m a r hl h
    match l, m, hl, h with
    | x :: l, y :: m, hl, h =>
      simp only [takeN] at h
      split at h
      · rename_i b r' hb
        cases h
        obtain ⟨u, s, h1, h2, h3, h4, h5⟩ := ih (m := m) (by simpa using hl) hb
        refine ⟨u, y :: s, by rw [h1]; rfl, by simpa using h2, h3, h4, fun i av v g1 g2 => ?_⟩
        cases i with
        | zero => exact ⟨0, g1, g2⟩
        | succ i =>
          obtain ⟨j, j1, j2⟩ := h5 i av v g1 g2
          exact ⟨j + 1, j1, j2⟩
      · cases h

theorem insN_len {α : Type} {v : α} : ∀ {p : Nat} {l : List α}, (insN p v l).length = l.length + 1
  | 0, l => rfl
  | p + 1, [] => rfl
  | p + 1, a :: l => by simp only [insN, List.length_cons, insN_len]

theorem insN_get {α : Type} {v : α} : ∀ {p : Nat} {l : List α}, p ≤ l.length → ∀ t, (insN p v l)[t]? = if t < p then l[t]? else if t = p then some v else l[t - 1]?
  | 0, l, _, t => by
    cases t with
    | zero => rfl
    | succ t => simp [insN]
  | p + 1, [], h, t => by simp at h
  | p + 1, a :: l, h, t => by
    cases t with
    | zero => simp [insN]
    | succ t =>
      simp only [insN, List.getElem?_cons_succ]
      rw [insN_get (by simpa using h)]
      by_cases h1 : t < p
      · rw [if_pos h1, if_pos (show t + 1 < p + 1 by omega)]
      · rw [if_neg h1, if_neg (show ¬ t + 1 < p + 1 by omega)]
        by_cases h2 : t = p
        · rw [if_pos h2, if_pos (show t + 1 = p + 1 by omega)]
        · rw [if_neg h2, if_neg (show ¬ t + 1 = p + 1 by omega), show t + 1 - 1 = (t - 1) + 1 by omega, List.getElem?_cons_succ]

theorem boxA_spec {S : Nat → Option AO} {av : AV} {h : Nat} {k : Option Nat} {xs : List Int} {c0 : Int} (hb : boxA S av = some (h, k, xs, c0)) :
    av = .ptr h 0 ∧ ((k = none ∧ xs = [] ∧ S h = some (.box [.nil, .g (.int .i64) c0])) ∨ ∃ k0, k = some k0 ∧ S h = some (.box [.full k0, .g (.int .i64) c0]) ∧ S k0 = some (.arr (.int .i64) xs)) := by
  unfold boxA at hb
  split at hb
  · rename_i h0
    split at hb
    · rename_i v c1 hs
      split at hb
      · cases hb
        exact ⟨rfl, .inl ⟨rfl, rfl, hs⟩⟩
      · rename_i k0
        split at hb
        · rename_i s1 ys hk
          split at hb
          · rename_i ys' hc
            cases hb
            obtain ⟨e1, rfl⟩ := castSh_some hc
            cases e1
            exact ⟨rfl, .inr ⟨k0, rfl, hs, hk⟩⟩
          · cases hb
        · cases hb
      · cases hb
    · cases hb
  · cases hb

/-- What stands in memory there. -/
theorem boxA_mem (hS : SimM c E st m a w) {av : AV} {u : Value} {h : Nat} {k : Option Nat} {xs : List Int} {c0 : Int} (hv : RVs c E st m w av u) (hb : boxA (look st.objs) av = some (h, k, xs, c0)) :
    ∃ bb cs e v, m h = some bb ∧ u = .pointer (some ⟨bb, 0, none⟩) ∧ c.mt bb ∧ w.heap[bb]? = some (.cells cs e (0, 0)) ∧ cs = #[v, .int .i64 c0] ∧ MutR (fun _ _ => False) w.heap (.int .i64) xs v (k.bind m) ∧ k.bind m ≠ some bb := by
  obtain ⟨rfl, hk⟩ := boxA_spec hb
  have box : ∀ {v0 : AV}, look st.objs h = some (.box [v0, .g (.int .i64) c0]) → ∃ bb cs e v, m h = some bb ∧ u = .pointer (some ⟨bb, 0, none⟩) ∧ c.mt bb ∧ w.heap[bb]? = some (.cells cs e (0, 0)) ∧ cs = #[v, .int .i64 c0] ∧ RVs c E st m w v0 v := fun {v0} hl => by
    obtain ⟨bb, cs, e, g1, g2, g3, g4, g5, g6⟩ := hS.objs h _ (ob_of_look hl)
    have g4 : cs.size = 2 := g4
    obtain ⟨b', hb', hu⟩ := (show ∃ b', m h = some b' ∧ u = .pointer (some ⟨b', 0, none⟩) from by
      cases hv with
      | ptr _ _ _ hv _ => exact hv _ (ob_of_look hl))
    rw [g1] at hb'
    cases hb'
    have h0 : cs[0]? = some cs[0] := Array.getElem?_eq_getElem (by omega)
    have h1 : cs[1]? = some cs[1] := Array.getElem?_eq_getElem (by omega)
    have r0 := g6 0 v0 cs[0] rfl h0
    have r1 := g_int (g6 1 (.g (.int .i64) c0) cs[1] rfl h1)
    refine ⟨bb, cs, e, cs[0], g1, hu, g2, g3, ?_, r0⟩
    apply Array.ext
    · simp [g4]
    · intro i hi1 hi2
      have : i = 0 ∨ i = 1 := by omega
      rcases this with rfl | rfl
      · rfl
      · exact r1
  rcases hk with ⟨rfl, rfl, hl⟩ | ⟨k0, rfl, hl, hk0⟩
  · obtain ⟨bb, cs, e, v, g1, g2, g3, g4, g5, g6⟩ := box hl
    refine ⟨bb, cs, e, v, g1, g2, g3, g4, g5, ?_, by simp⟩
    have : v = .slice none 0 0 := by
      generalize v = u1 at g6
      cases g6
      rfl
    exact ⟨this, rfl⟩
  · obtain ⟨bb, cs, e, v, g1, g2, g3, g4, g5, g6⟩ := box hl
    refine ⟨bb, cs, e, v, g1, g2, g3, g4, g5, (MutR_of hS hk0 g6).noref rfl, fun he => ?_⟩
    have hh := hS.inj k0 h _ _ bb (ob_of_look hk0) (ob_of_look hl) he g1
    subst hh
    rw [hl] at hk0
    cases hk0

/-- Somebody has changed what a pointer names. -/
theorem SimM.boxed (hS : SimM c E st m a w) {av : AV} {u : Value} {h n : Nat} {k : Option Nat} {xs : List Int} {c0 : Int} (hv : RVs c E st m w av u) (hbx : boxA (look st.objs) av = some (h, k, xs, c0))
    (hf : E.fresh { st with objs := delAll st.objs k.toList } n = true) (hne : h ≠ n) {bb : Nat} (hm : m h = some bb) {w' : World} (hb : BelowX w.heap.size (fun b => b = bb ∨ k.bind m = some b) w w')
    {v' : Value} {e1 : TypeId} {z : List Int × Int} {ob' : Option Nat} (hbox : w'.heap[bb]? = some (.cells #[v', .int .i64 z.2] e1 (0, 0))) (hM : MutR (fun _ _ => False) w'.heap (.int .i64) z.1 v' ob')
    (hob : ∀ b, ob' = some b → k.bind m = some b ∨ w.heap.size ≤ b) (hnb : ob' ≠ some bb) :
    SimM c E { st with objs := Fw.boxed st.objs h n k z } (upd m n ob') a w' := by
  obtain ⟨_, hk⟩ := boxA_spec hbx
  obtain ⟨f1, f2, f3, f4, f5⟩ := fresh_spec hf
  have hlh : ∃ v0, look st.objs h = some (.box [v0, .g (.int .i64) c0]) := by
    rcases hk with ⟨_, _, hl⟩ | ⟨k0, _, hl, _⟩
    · exact ⟨_, hl⟩
    · exact ⟨_, hl⟩
  obtain ⟨v0, hlh⟩ := hlh
  have hoh := ob_of_look (E := E) hlh
  have hkb : ∀ b, k.bind m = some b → ∃ k0 o, k = some k0 ∧ m k0 = some b ∧ E.ob st k0 = some o ∧ look st.objs k0 = some o := fun b hb => by
    rcases hk with ⟨rfl, _, _⟩ | ⟨k0, rfl, _, hk0⟩
    · cases hb
    · exact ⟨k0, _, rfl, hb, ob_of_look hk0, hk0⟩
  have hmtb : c.mt bb := ((hS.objs h _ hoh).block hm).1
  have hcase : ∀ q o, E.ob { st with objs := Fw.boxed st.objs h n k z } q = some o → (q = h ∧ o = .box [.full n, .g (.int .i64) z.2]) ∨ (q = n ∧ o = .arr (.int .i64) z.1) ∨ (q ≠ h ∧ q ≠ n ∧ E.ob st q = some o ∧ k ≠ some q) := fun q o ho => by
    have hsplit : ∀ {l : List (Nat × AO)}, E.ob { st with objs := l } q = (match look l q with | some o => some o | none => look E.objs q) := fun {l} => rfl
    rw [hsplit] at ho
    unfold Fw.boxed at ho
    by_cases hqh : q = h
    · subst hqh
      rw [look_put_self] at ho
      cases ho
      exact .inl ⟨rfl, rfl⟩
    · rw [look_put_ne _ _ (Ne.symm hqh)] at ho
      by_cases hqn : q = n
      · subst hqn
        rw [look_cons_self] at ho
        cases ho
        exact .inr (.inl ⟨rfl, rfl⟩)
      · rw [look_cons_ne _ _ (Ne.symm hqn)] at ho
        by_cases hkq : k = some q
        · exfalso
          subst hkq
          rw [show (some q : Option Nat).toList = [q] from rfl, look_delAll_mem (by simp)] at ho
          rcases hk with ⟨hc, _, _⟩ | ⟨k0, hc, _, hk0⟩
          · cases hc
          · cases hc
            rw [hS.disj q _ hk0] at ho
            cases ho
        · rw [look_delAll_ne (by cases k with | none => simp | some k1 => simp; intro he; exact hkq (by rw [he]))] at ho
          exact .inr (.inr ⟨hqh, hqn, ho, hkq⟩)
  have hun : ∀ b, b < w.heap.size → b ≠ bb → k.bind m ≠ some b → w'.heap[b]? = w.heap[b]? := fun b h1 h2 h3 => hb.block b h1 (by rintro (g | g); exact h2 g; exact h3 g)
  have hT : Tr (c.ok m (E.ob st) w.heap) m (E.ob st) w.heap (c.ok (upd m n ob') (E.ob { st with objs := Fw.boxed st.objs h n k z }) w'.heap) (upd m n ob') (E.ob { st with objs := Fw.boxed st.objs h n k z }) w'.heap (· = n) := by
    have hno : ∀ i b, c.ok m (E.ob st) w.heap i b → w'.heap[b]? = w.heap[b]? := fun i b hbk => hun b hbk.1 (fun he => by subst he; exact hbk.2.2.1 h _ hoh hm) (fun he => by
      obtain ⟨k0, o, _, g2, g3, _⟩ := hkb b he
      exact hbk.2.2.1 k0 o g3 g2)
    refine ⟨fun i b hbk => ⟨⟨Nat.lt_of_lt_of_le hbk.1 hb.size, hbk.2.1, fun q o hq => ?_, hbk.2.2.2.1, fun hi => ⟨(hbk.2.2.2.2 hi).1, unf_congr (hno i b hbk) (hbk.2.2.2.2 hi).2⟩⟩, cellH_congr (hno i b hbk)⟩, fun q o hq hqn => ?_⟩
    · rcases hcase q o hq with ⟨rfl, _⟩ | ⟨rfl, _⟩ | ⟨_, g2, g3, _⟩
      · rw [upd_ne _ _ hne]
        exact hbk.2.2.1 q _ hoh
      · rw [upd_self]
        intro he
        rcases hob b he with hob | hge
        · obtain ⟨k0, o0, _, g2, g3, _⟩ := hkb b hob
          exact hbk.2.2.1 k0 o0 g3 g2
        · have := hbk.1
          omega
      · rw [upd_ne _ _ g2]
        exact hbk.2.2.1 q o g3
    · rcases hcase q o hq with ⟨rfl, rfl⟩ | ⟨rfl, _⟩ | ⟨_, g2, g3, _⟩
      · refine ⟨_, hoh, rfl, upd_ne _ _ hqn, fun b hbm => hb.bsz b ?_⟩
        obtain ⟨_, cs, e, hg⟩ := (hS.objs q _ hoh).block hbm
        exact lt_of_some hg
      · exact absurd rfl hqn
      · refine ⟨o, g3, AO.like_refl o, upd_ne _ _ hqn, fun b hbm => hb.bsz b ?_⟩
        obtain ⟨_, cs, e, hg⟩ := (hS.objs q _ g3).block hbm
        exact lt_of_some hg
  have hsl : SlV (upd m n ob') w'.heap n 1 0 z.1.length v' := by
    unfold SlV
    rw [upd_self]
    cases ob' with
    | none => exact ⟨hM.1, by rw [hM.2]; rfl⟩
    | some b =>
      obtain ⟨_, o1, cp, h1, h2, h3, h4⟩ := hM
      exact ⟨o1, cp, h1, h2, fun hz => h3 hz, fun q hq => by simpa [Sh.size] using h4 q hq⟩
  have hv1 : oneV v' = true := by
    cases ob' with
    | none => rw [hM.1]; rfl
    | some b =>
      obtain ⟨_, o1, cp, h1, _⟩ := hM
      rw [h1]
      rfl
  refine hS.change rfl ?_ _ hT (fun d hd => by subst hd; exact ⟨f1, f2⟩) (fun q o hq => ?_) (fun q q' o o' b h1 h2 h3 h4 => ?_) (fun q o hq => ?_) (fun b hD => ?_)
  · refine ⟨hb.os.trans hS.kept.os, hb.tape.trans hS.kept.tape, hb.output.trans hS.kept.output, Nat.le_trans hS.kept.size hb.size, fun q hq hmq => ?_, fun q hq => ?_⟩
    · have hB : c.B = c.w0.heap.size := rfl
      rw [hun q (Nat.lt_of_lt_of_le hq hS.kept.size) (fun he => ?_) (fun he => ?_)]
      · exact hS.kept.block q hq hmq
      · subst he
        rcases hmtb with g | g
        · omega
        · exact hmq g
      · obtain ⟨k0, o0, _, g2, g3, _⟩ := hkb q he
        rcases ((hS.objs k0 o0 g3).block g2).1 with g | g
        · omega
        · exact hmq g
    · rw [hb.bsz q (Nat.lt_of_lt_of_le hq hS.kept.size)]
      exact hS.kept.bsz q hq
  · rcases hcase q o hq with ⟨rfl, rfl⟩ | ⟨rfl, rfl⟩ | ⟨g1, g2, g3, g4⟩
    · refine ⟨bb, _, e1, by rw [upd_ne _ _ hne]; exact hm, hmtb, hbox, rfl, fun v hv => ?_, fun i x v h1 h2 => ?_⟩
      · simp at hv
        rcases hv with rfl | rfl
        · exact hv1
        · rfl
      · match i, h1, h2 with
        | 0, h1, h2 =>
          cases h1
          cases h2
          refine .full n _ (fun s' xs' hO => ?_) hv1
          rcases hcase n _ hO with ⟨g1, _⟩ | ⟨_, g1⟩ | ⟨_, g1, _⟩
          · exact absurd g1.symm hne
          · cases g1
            exact hsl
          · exact absurd rfl g1
        | 1, h1, h2 =>
          cases h1
          cases h2
          exact mk_int
        | i + 2, h1, h2 => simp at h1
    · simp only [RO]
      rw [upd_self]
      cases ob' with
      | none => exact hM.2
      | some b =>
        obtain ⟨⟨cs, e2, h1, h2, h3⟩, _⟩ := hM
        refine ⟨?_, cs, e2, h1, h2, fun i x hx => ?_⟩
        · rcases hob b rfl with hob | hge
          · obtain ⟨k0, o0, _, g2, g3, _⟩ := hkb b hob
            exact ((hS.objs k0 o0 g3).block g2).1
          · have hB : c.B = c.w0.heap.size := rfl
            have := hS.kept.size
            exact .inl (by omega)
        · obtain ⟨l, l1, l2, l3⟩ := h3 i x hx
          exact ⟨l, l1, l2, RC.noref rfl l3⟩
    · refine (hS.objs q o g3).mono hT (upd_ne _ _ g2) (fun b hbm => ?_) (fun cells hc d hd x hx => ?_)
      · obtain ⟨_, cs, e, hg⟩ := (hS.objs q o g3).block hbm
        refine hun b (lt_of_some hg) (fun he => ?_) (fun he => ?_)
        · subst he
          exact g1 (hS.inj q h o _ b g3 hoh hbm hm)
        · obtain ⟨k0, o0, hk0, q2, q3, _⟩ := hkb b he
          exact g4 (by rw [hk0, hS.inj k0 q o0 o b q3 g3 q2 hbm])
      · subst hc
        subst hd
        refine f5 q cells ?_ x hx
        have hsame : E.ob { st with objs := delAll st.objs k.toList } q = some (.box cells) := by
          have : look (delAll st.objs k.toList) q = look st.objs q := look_delAll_ne (by cases k with | none => simp | some k1 => simp; intro he; exact g4 (by rw [he]))
          simp only [Env.ob, this]
          exact g3
        exact hsame
  · have blk : ∀ q o b, E.ob { st with objs := Fw.boxed st.objs h n k z } q = some o → upd m n ob' q = some b → (q = n ∧ ob' = some b) ∨ (q ≠ n ∧ m q = some b ∧ k ≠ some q ∧ ∃ o, E.ob st q = some o) := fun q o b hq hb' => by
      rcases hcase q o hq with ⟨rfl, _⟩ | ⟨rfl, _⟩ | ⟨_, g2, g3, g4⟩
      · rw [upd_ne _ _ hne] at hb'
        refine .inr ⟨hne, hb', fun he => ?_, _, hoh⟩
        rcases hk with ⟨hc, _, _⟩ | ⟨k0, hc, hl1, hk0⟩
        · rw [hc] at he; cases he
        · rw [hc] at he
          cases he
          rw [hl1] at hk0
          cases hk0
      · rw [upd_self] at hb'
        exact .inl ⟨rfl, hb'⟩
      · rw [upd_ne _ _ g2] at hb'
        exact .inr ⟨g2, hb', g4, _, g3⟩
    have cross : ∀ q b, ob' = some b → m q = some b → k ≠ some q → (∃ o, E.ob st q = some o) → False := fun q b g1 g2 g3 ⟨o2, g4⟩ => by
      rcases hob b g1 with hob | hge
      · obtain ⟨k0, o0, hk0, q2, q3, _⟩ := hkb b hob
        exact g3 (by rw [hk0, hS.inj k0 q o0 o2 b q3 g4 q2 g2])
      · obtain ⟨_, cs, e, hg⟩ := (hS.objs q o2 g4).block g2
        have := lt_of_some hg
        omega
    rcases blk q o b h1 h3 with ⟨rfl, g1⟩ | ⟨g1, g2, g3, o2, g4⟩ <;> rcases blk q' o' b h2 h4 with ⟨rfl, g1'⟩ | ⟨g1', g2', g3', o2', g4'⟩
    · rfl
    · exact (cross q' b g1 g2' g3' ⟨_, g4'⟩).elim
    · exact (cross q b g1' g2 g3 ⟨_, g4⟩).elim
    · exact hS.inj q q' o2 o2' b g4 g4' g2 g2'
  · simp only at hq
    unfold Fw.boxed at hq
    by_cases hqh : h = q
    · subst hqh
      exact hS.disj h _ hlh
    · rw [look_put_ne _ _ hqh] at hq
      by_cases hqn : n = q
      · subst hqn; exact f4
      · rw [look_cons_ne _ _ hqn] at hq
        by_cases hkq : q ∈ k.toList
        · rw [look_delAll_mem hkq] at hq; cases hq
        · rw [look_delAll_ne hkq] at hq
          exact hS.disj q o hq
  · obtain ⟨g1, g2, g3⟩ := hS.alive b hD
    refine ⟨g1, Nat.lt_of_lt_of_le g2 hb.size, fun q o hq => ?_⟩
    rcases hcase q o hq with ⟨rfl, _⟩ | ⟨rfl, _⟩ | ⟨_, q2, q3, _⟩
    · rw [upd_ne _ _ hne]
      exact g3 q _ hoh
    · rw [upd_self]
      intro he
      rcases hob b he with hob | hge
      · obtain ⟨k0, o0, _, r2, r3, _⟩ := hkb b hob
        exact g3 k0 o0 r3 r2
      · omega
    · rw [upd_ne _ _ q2]
      exact g3 q o q3

theorem third_sound (hS : SimM c E st m a w) {h : Nat} {s : Sh} {xs : List s.den} (hl : look st.objs h = some (.arr s xs)) {av : AV} {u : Value} (hv : RVs c E st m w av u) {y : List Int ⊕ Int} (hy : thirdA st h av = some y) :
    ThirdR w.heap (m h) y u := by
  unfold thirdA at hy
  split at hy
  · cases hy
    exact g_int hv
  · rename_i k
    obtain ⟨hk, hy⟩ := cond_none hy
    have hk : k ≠ h := fun e => by rw [e] at hk; simp at hk
    split at hy
    · rename_i s1 ys hk1
      split at hy
      · rename_i ys' hc
        cases hy
        obtain ⟨e1, rfl⟩ := castSh_some hc
        cases e1
        refine ⟨m k, (MutR_of hS hk1 hv).noref rfl, fun b hb he => hk ?_⟩
        exact hS.inj k h _ _ b (ob_of_look hk1) (ob_of_look hl) hb he
      · cases hy
    · cases hy
  · cases hy

theorem resA_det {outs : List RK} {base : Nat} {y : dens (outs.map RK.sh)} (h : outs.all RK.det = true) : (resA base outs y).2 = [] := by
  induction outs generalizing base with
  | nil => rfl
  | cons k outs ih =>
    simp only [List.all_cons, Bool.and_eq_true] at h
    cases k with
    | own s => cases h.1
    | val s => exact ih h.2

theorem doCall_sound (hS : SimM c E st m a w) {f : FuncId} {args : List AV} {vals : List Value} (hl : args.length = vals.length)
    (hv : ∀ (i : Nat) (av : AV) (v : Value), args[i]? = some av → vals[i]? = some v → RVs c E st m w av v) :
    ∀ {es : List EntX}, (∀ e ∈ es, SoundX P f e) → doCall E q o.dst args st K es = some r →
      CallOk P f vals.toArray w fun v w' => Post c E K r (a.put o.dst v) w' ∧ (es.all EntX.isPl = true → Below w.heap.size w w') := by
  intro es
  induction es with
  | nil => intro _ h; cases h
  | cons e es ih =>
    intro hT h
    have hrest : doCall E q o.dst args st K es = some r → CallOk P f vals.toArray w fun v w' => Post c E K r (a.put o.dst v) w' ∧ ((e :: es).all EntX.isPl = true → Below w.heap.size w w') := fun h => (ih (fun e he => hT e (List.mem_cons_of_mem _ he)) h).mono fun v w' hp => ⟨hp.1, fun ha => hp.2 (by simp only [List.all_cons, Bool.and_eq_true] at ha; exact ha.2)⟩
    cases e with
    | mu e =>
      have hc := hT _ List.mem_cons_self
      simp only [doCall] at h
      split at h
      · rename_i hh args'
        split at h
        · rename_i s xs0 hlk
          split at h
          · rename_i xs x hx1 hx2
            obtain ⟨e1, rfl⟩ := castSh_some hx1
            cases e1
            match vals, hl with
            | v :: vals, hl =>
              cases hh0 : q || e.io.ref || !e.outs.all RK.det with
              | true => rw [hh0] at h; cases h
              | false =>
                rw [hh0] at h
                simp only [Bool.or_eq_false_iff, Bool.not_eq_false'] at hh0
                obtain ⟨⟨_, href⟩, hdet⟩ := hh0
                simp only [cond_false] at h
                obtain ⟨z, hz, h'⟩ := bind_some h
                obtain ⟨hlen, h''⟩ := cond_some h'
                have hlen := Nat.eq_of_beq_eq_true hlen
                have hA := argsA_sound (ok := c.ok m (E.ob st) w.heap) (okA := fun _ b => b < w.heap.size ∧ m hh ≠ some b) (mt := c.mt) (fun i b hb => ⟨hb.1, hb.2.2.1 hh _ (ob_of_look hlk)⟩) (fun b hb => Cx.ok_any hb)
                  (fun h o ho => (exceptO_some ho).2) hS.objs (fun i k o b ho hb => by
                    obtain ⟨g1, g2⟩ := exceptO_some ho
                    obtain ⟨_, cs, e, g3⟩ := (hS.objs k o g2).block hb
                    exact ⟨lt_of_some g3, fun he => g1 (hS.inj k hh o _ b g2 (ob_of_look hlk) hb he)⟩) hx2 (vs := vals) (by simpa using hl) (fun i av u h1 h2 => hv (i + 1) av u (by simpa using h1) (by simpa using h2))
                have hM := (MutR_of hS hlk (hv 0 _ v rfl rfl)).noref (ok' := fun _ _ => False) href
                refine (hc (fun b => b < w.heap.size ∧ m hh ≠ some b) w v (m hh) vals xs0 x z (fun b hb => hb) hM hA href hdet hz).mono ?_
                rintro u w' ⟨vs, hu, hb, hR, hrow⟩
                have hS' := hS.mutate hlk hlen href hb (by
                  cases hm : m hh with
                  | none => rw [hm] at hrow; exact hrow
                  | some b => rw [hm] at hrow; exact ⟨_, hrow⟩)
                refine ⟨wr_post hS' o.dst ?_ h'', fun ha => (by simp [EntX.isPl] at ha)⟩
                obtain ⟨n1, n2, n3⟩ := resA_spec (m := m) (base := 0) hR
                have hnil := resA_det (base := 0) (y := z.2) hdet
                exact valOf_RV hu n2 (n3 (fun i b hb => hb.elim) (fun k o ho => by rw [hnil] at ho; cases ho))
          · exact hrest h
        · cases h
      · exact hrest h
    | bm e =>
      have hc := hT _ List.mem_cons_self
      simp only [doCall] at h
      split at h
      · rename_i a0 args' htk
        split at h
        · rename_i hh k xs c0 hbx
          split at h
          · rename_i x hx
            obtain ⟨u0, vals', rfl, hl', hp1, hp2, hpt⟩ := takeN_both hl htk
            · obtain ⟨hq, h'⟩ := cond_none h
              simp only [Bool.or_eq_false_iff, Bool.not_eq_false'] at hq
              obtain ⟨z, hz, h''⟩ := bind_some h'
              obtain ⟨hf, h3⟩ := cond_some h''
              simp only [Bool.and_eq_true, Bool.not_eq_true'] at hf
              obtain ⟨hf, hne⟩ := hf
              have hne : hh ≠ o.dst.getD 0 + 20000 := fun he => by rw [he] at hne; simp at hne
              have hv0 := hv _ a0 u0 hp1 hp2
              obtain ⟨bb, cs, e0, v, g1, rfl, g3, g4, g5, g6, g7⟩ := boxA_mem hS hv0 hbx
              have hspec := (boxA_spec hbx).2
              have hoh : ∃ o, E.ob st hh = some o := by
                rcases hspec with ⟨_, _, hl1⟩ | ⟨_, _, hl1, _⟩
                · exact ⟨_, ob_of_look hl1⟩
                · exact ⟨_, ob_of_look hl1⟩
              obtain ⟨oh, hoh⟩ := hoh
              have hkb : ∀ b, k.bind m = some b → ∃ k0 o, k = some k0 ∧ m k0 = some b ∧ E.ob st k0 = some o := fun b hb => by
                rcases hspec with ⟨rfl, _, _⟩ | ⟨k0, rfl, _, hk0⟩
                · cases hb
                · exact ⟨k0, _, rfl, hb, ob_of_look hk0⟩
              have hA := argsA_sound (ok := c.ok m (E.ob st) w.heap) (okA := fun _ b => b < w.heap.size ∧ b ≠ bb ∧ k.bind m ≠ some b) (mt := c.mt) (fun i b hb => ⟨hb.1, fun he => by subst he; exact hb.2.2.1 hh _ hoh g1, fun he => by
                  obtain ⟨k0, o0, _, q2, q3⟩ := hkb b he
                  exact hb.2.2.1 k0 o0 q3 q2⟩) (fun b hb => Cx.ok_any hb)
                (fun q o ho => by
                  unfold exceptL at ho
                  exact (cond_none ho).2) hS.objs (fun i q o b ho hb => by
                  unfold exceptL at ho
                  obtain ⟨r1, r2⟩ := cond_none ho
                  obtain ⟨_, cs, e, r3⟩ := (hS.objs q o r2).block hb
                  simp only [List.contains_cons, Bool.or_eq_false_iff, beq_eq_false_iff_ne] at r1
                  refine ⟨lt_of_some r3, fun he => ?_, fun he => ?_⟩
                  · subst he
                    exact r1.1 (hS.inj q hh o _ b r2 hoh hb g1)
                  · obtain ⟨k0, o0, rfl, q2, q3⟩ := hkb b he
                    have := hS.inj k0 q o0 o b q3 r2 q2 hb
                    subst this
                    simp at r1) hx (vs := vals') hl' (fun i av u h1 h2 => by
                  obtain ⟨j, j1, j2⟩ := hpt i av u h1 h2
                  exact hv j av u j1 j2)
              refine (hc (fun b => b < w.heap.size ∧ b ≠ bb ∧ k.bind m ≠ some b) w bb cs e0 v (k.bind m) vals' xs c0 x z (fun b hb => hb) g4 g5 g6 g7 hA hq.2 hz).mono ?_
              rintro u w' ⟨vs, v', e1, ob', hu, hb, hR, hbox, hM, hob, hnb⟩
              have hS' := hS.boxed hv0 hbx hf hne g1 hb hbox hM hob hnb
              refine ⟨wr_post hS' o.dst ?_ h3, fun ha => (by simp [EntX.isPl] at ha)⟩
              obtain ⟨n1, n2, n3⟩ := resA_spec (m := m) (base := 0) hR
              have hnil := resA_det (base := 0) (y := z.2) hq.2
              exact valOf_RV hu n2 (n3 (fun i b hb => hb.elim) (fun k o ho => by rw [hnil] at ho; cases ho))
          · exact hrest h
        · exact hrest h
      · exact hrest h
    | ap e =>
      have hc := hT _ List.mem_cons_self
      simp only [doCall] at h
      split at h
      · rename_i hh i a3
        split at h
        · rename_i s xs0 y hlk hy
          split at h
          · rename_i xs hx1
            obtain ⟨e1, rfl⟩ := castSh_some hx1
            cases e1
            match vals, hl with
            | [v, u1, u2], hl =>
              obtain ⟨hq, h'⟩ := cond_none h
              obtain ⟨z, hz, h''⟩ := bind_some h'
              have hu := g_int (hv 1 _ u1 rfl rfl)
              subst hu
              have hM : MutR (fun _ _ => False) w.heap (.int .i64) xs0 v (m hh) := (MutR_of hS hlk (hv 0 _ v rfl rfl)).noref rfl
              have h3 := third_sound hS hlk (hv 2 _ u2 rfl rfl) hy
              refine (hc w v u2 (m hh) i xs0 y z hM h3 hz).mono ?_
              intro r0 w' hA
              refine ⟨?_, fun ha => (by simp [EntX.isPl] at ha)⟩
              unfold Env.nw at h''
              split at h''
              · cases h''
              · rename_i d hd
                obtain ⟨hf, h4⟩ := cond_some h''
                rw [hd]
                rcases hA with ⟨b, cs, cs', e0, o0, cp, hm, hb, hs, hw, hel, rfl, hc1, hc2, hc3⟩ | ⟨cs, e0, cp, hw, hel, rfl, hc1, hc2⟩
                · have hS1 := hS.rename (zs := z) (s := .int .i64) hlk hm hf hb hs ⟨by rw [hs]; simp only [Sh.size, Nat.mul_one]; omega, fun k x hx => ⟨[.int .i64 x], rfl, fun j u hj => by
                    cases j with
                    | zero => cases hj; simpa [Sh.size] using hel k x hx
                    | succ j => simp at hj, rfl⟩⟩
                  refine wr_post (hS1.same hw) (some d) (.full d _ (fun s' xs' hO => ?_) rfl) h4
                  rw [show E.ob { st with objs := (d, .arr (.int .i64) z) :: del st.objs hh } d = some (.arr (.int .i64) z) from ob_cons_self (st := { st with objs := del st.objs hh }) d _] at hO
                  cases hO
                  unfold SlV
                  rw [upd_self]
                  refine ⟨o0, cp, rfl, hc1, fun hne => by rw [hc2 hne]; simp, fun n hn => ?_⟩
                  rw [hw.heap] at hn
                  simp only [bsz, setB_get _ _ _ (lt_of_some hb), Option.some.injEq] at hn
                  subst hn
                  simp only [Sh.size, Nat.mul_one, Nat.zero_add]
                  omega
                · have hS1 : SimM c E { st with objs := del st.objs hh } m a w := (hS.dels [hh]).1
                  have hS2 := hS1.nw hf (o := .arr (.int .i64) z) (cs := cs) (e := e0) ⟨by simp only [Sh.size, Nat.mul_one]; omega, fun k x hx => ⟨[.int .i64 x], rfl, fun j u hj => by
                    cases j with
                    | zero => cases hj; simpa [Sh.size] using hel k x hx
                    | succ j => simp at hj, rfl⟩⟩ (fun cells hc => by cases hc)
                  refine wr_post (hS2.same hw) (some d) ?_ h4
                  exact new_full (s := .int .i64) (xs := z) (cs := cs) rfl hc1 (by simp only [Sh.size, Nat.mul_one]; exact hc2) d E { slots := st.slots, objs := (d, .arr (.int .i64) z) :: del st.objs hh } _ _ (ob_cons_self (st := { st with objs := del st.objs hh }) d _) (upd_self _ _ _) (by rw [hw.heap]; simp [bsz, alloc_heap])
          · exact hrest h
        · cases h
      · exact hrest h
    | dp e =>
      have hc := hT _ List.mem_cons_self
      simp only [doCall] at h
      split at h
      · rename_i hh k
        split at h
        · rename_i s xs0 hlk
          split at h
          · rename_i xs hx1
            obtain ⟨e1, rfl⟩ := castSh_some hx1
            cases e1
            match vals, hl with
            | [v, u], hl =>
              obtain ⟨hq, h'⟩ := cond_some h
              simp only [Bool.and_eq_true] at hq
              obtain ⟨z, hz, h''⟩ := bind_some h'
              have hu := g_int (hv 1 _ u rfl rfl)
              subst hu
              have hM := MutR_of hS hlk (hv 0 _ v rfl rfl)
              have hM' : MutR (fun _ => c.ok m (E.ob st) w.heap true) w.heap e.io xs0 v (m hh) := by
                cases hm : m hh with
                | none => rw [hm] at hM; exact hM
                | some b =>
                  rw [hm] at hM
                  exact hM
              refine (hc (c.ok m (E.ob st) w.heap true) w v (m hh) k z xs0 (fun b hb => ⟨hb.1, hb.2.2.1 hh _ (ob_of_look hlk), (hb.2.2.2.2 rfl).2⟩) hM' hz).mono ?_
              rintro u w' ⟨rfl, hb⟩
              obtain ⟨D, hS'⟩ := hS.lost hq.2 hlk hb
              exact ⟨wr_post hS' o.dst mk_int h'', fun ha => (by simp [EntX.isPl] at ha)⟩
          · split at h
            · rename_i xs hx1
              obtain ⟨e1, rfl⟩ := castSh_some hx1
              cases e1
              match vals, hl with
              | [v, u], hl =>
                obtain ⟨hq, h'⟩ := cond_some h
                simp only [Bool.and_eq_true, Bool.not_eq_true'] at hq
                obtain ⟨z, hz, h''⟩ := bind_some h'
                have hu := g_int (hv 1 _ u rfl rfl)
                subst hu
                have hM' : MutR (fun _ => c.ok m (E.ob st) w.heap true) w.heap e.io xs0 v (m hh) := (MutR_of hS hlk (hv 0 _ v rfl rfl)).noref hq.1
                refine (hc (c.ok m (E.ob st) w.heap true) w v (m hh) k z xs0 (fun b hb => ⟨hb.1, hb.2.2.1 hh _ (ob_of_look hlk), (hb.2.2.2.2 rfl).2⟩) hM' hz).mono ?_
                rintro u w' ⟨rfl, hb⟩
                obtain ⟨D, hS'⟩ := hS.lost hq.2.2 hlk hb
                exact ⟨wr_post hS' o.dst mk_int h'', fun ha => (by simp [EntX.isPl] at ha)⟩
            · exact hrest h
        · cases h
      · exact hrest h
    | pl e =>
      simp only [doCall] at h
      split at h
      · exact hrest h
      · rename_i x hx
        cases hh0 : args.any (AV.handle 6) && e.outs.any RK.ref || q && !e.outs.all RK.det with
        | true => rw [hh0] at h; cases h
        | false =>
          rw [hh0] at h
          have hh := (Bool.or_eq_false_iff.1 hh0).1
          simp only [cond_false] at h
          obtain ⟨y, hy, h'⟩ := bind_some h
          obtain ⟨hf, h''⟩ := cond_some h'
          clear h h'
          -- where the arguments lie
          have key : ∃ p : Nat → Prop, (∀ b, p b → b < w.heap.size) ∧ ArgR (fun _ => p) w.heap e.ins x vals ∧
              ∀ {w' : World} {z : dens (e.outs.map RK.sh)} {vs : List Value} {bs : List (Option Nat)}, ResR (okRes p w.heap.size w'.heap bs) w.heap.size w'.heap e.outs z vs bs →
                ResR (okRes (c.ok m (E.ob st) w.heap false) w.heap.size w'.heap bs) w.heap.size w'.heap e.outs z vs bs := by
            cases han : args.any (AV.handle 6) with
            | true =>
              rw [han] at hh hx
              refine ⟨fun b => b < w.heap.size, fun b hb => hb, ?_, fun {w' z vs bs} hr => ResR.noref (by simpa using hh) hr⟩
              exact argsA_sound (ok := c.ok m (E.ob st) w.heap) (okA := fun _ b => b < w.heap.size) (mt := c.mt) (fun i b hb => hb.1) (fun b hb => Cx.ok_any hb) (fun h o ho => ho) hS.objs (fun i h o b ho hb => by
                obtain ⟨_, cs, e, hh⟩ := (hS.objs h o ho).block hb
                exact lt_of_some hh) hx hl hv
            | false =>
              rw [han] at hx
              exact ⟨c.ok m (E.ob st) w.heap false, fun b hb => hb.1, argsA_sound (ok := c.ok m (E.ob st) w.heap) (okA := fun _ => c.ok m (E.ob st) w.heap false) (mt := c.mt) (fun i b hb => Cx.ok_any hb) (fun b hb => Cx.ok_any hb) (fun h o ho => by cases ho) hS.objs (fun i h o b ho => by cases ho) hx hl hv, fun hr => hr⟩
          obtain ⟨p, hp, hA, hres⟩ := key
          refine CallOk.mono (hT _ List.mem_cons_self p w vals x y hp hA hy) ?_
          rintro v w' ⟨vs, bs, hv1, hb, hd, hR⟩
          obtain ⟨n1, n2, n3⟩ := resA_spec (base := o.dst.getD 0 + 10000) (hres hR)
          obtain ⟨g1, g2, g3⟩ := hS.grow hb hf hd n1 (fun i b hb' => by
            obtain ⟨h1, h2, hun⟩ := hb'
            refine ⟨?_, h2, hun⟩
            rcases h1 with ⟨h1, h3, h4⟩ | h1
            · subst h4; exact .inl ⟨h1, h3⟩
            · exact .inr h1)
          refine ⟨wr_post g1 o.dst ?_ h'', fun _ => hb⟩
          have hvs := n3 (O' := E.ob { st with objs := (resA (o.dst.getD 0 + 10000) e.outs y).2 ++ st.objs }) (m' := updL m (resA (o.dst.getD 0 + 10000) e.outs y).2 bs) g3 (fun h o ho => ⟨by simp [Env.ob, look_append, ho], rfl⟩)
          exact valOf_RV hv1 n2 hvs
end

end Go.Proofs.Ytmdicmdodbndgaa.Fw
