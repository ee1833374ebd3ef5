/-
  What the evaluator answers of a function's body, the function's call does. No condition.
-/
import Derived.Test.YtmdicmdodbndgaaFwQ
namespace Go.Proofs.Ytmdicmdodbndgaa.Fw
open Go Go.RowKit

theorem results_run {fn : Func} {res : List Nat} (h : fn.results = (res.map ResultVar.tmp).toArray) (tmps : Array Value) (P : Program) (w : World) :
    (results fn tmps).run P w = .ok (if h : (res.map fun t => tmps.getD t undef).toArray.size = 1 then (res.map fun t => tmps.getD t undef).toArray[0] else .tuple (res.map fun t => tmps.getD t undef).toArray) w := by
  have key : ∀ (F : ResultVar → Sem Value), (∀ t, F (.tmp t) = pure (tmps.getD t undef)) → ∀ (l : List Nat), ((l.map ResultVar.tmp).mapM F).run P w = .ok (l.map fun t => tmps.getD t undef) w := by
    intro F hF l
    induction l with
    | nil => rfl
    | cons t l ih => simp only [List.map_cons, List.mapM_cons, Sem.run_bind, hF, Sem.run_pure, Result.andThen_ok, ih]
  unfold results
  rw [h]
  simp only [List.mapM_toArray, Sem.run_bind, Sem.run_map]
  rw [key _ (fun t => rfl)]
  rfl

/-- Where the own results lie. -/
def outBs (E : Env) (st : St) (m : Nat → Option Nat) : List RK → List Nat → List (Option Nat)
  | .own _ :: r, t :: ts => (match E.rd st t with | .full h => m h | _ => none) :: outBs E st m r ts
  | .val _ :: r, _ :: ts => outBs E st m r ts
  | _, _ => []

section
variable {P : Program} {c : Cx} {E : Env} {st : St} {m : Nat → Option Nat} {a : Act} {w : World}

theorem outA_look (hS : SimM c E st m a w) {hs : List Nat} : ∀ {outs : List RK} {res : List Nat} {y : dens (outs.map RK.sh)}, outA E st hs outs res = some y → ∀ h ∈ outHs E st outs res, ∃ o, look st.objs h = some o := by
  intro outs
  induction outs with
  | nil => intro res y _ h hh; cases res <;> simp [outHs] at hh
  | cons k outs ih =>
    intro res y hy h hh
    cases res with
    | nil => cases k <;> simp [outA] at hy
    | cons t ts =>
      cases k with
      | val s =>
        simp only [outA] at hy
        split at hy
        · rename_i h1 h2
          exact ih h2 h hh
        · cases hy
      | own s =>
        simp only [outA] at hy
        split at hy
        · rename_i h1 h2
          simp only [outHs] at hh
          split at hh
          · rename_i k hk
            rcases List.mem_cons.1 hh with rfl | hh
            · rw [hk] at h1
              rcases baseOf_spec h1 (by intro h off len hc; cases hc) with ⟨k', h3, h4⟩ | ⟨h3, _⟩
              · cases h3; exact ⟨_, h4⟩
              · cases h3
            · exact ih h2 h hh
          · exact ih h2 h hh
        · cases hy

theorem outBs_mem : ∀ {outs : List RK} {res : List Nat} {b : Nat}, some b ∈ outBs E st m outs res → ∃ h ∈ outHs E st outs res, m h = some b := by
  intro outs
  induction outs with
  | nil => intro res b hb; cases res <;> simp [outBs] at hb
  | cons k outs ih =>
    intro res b hb
    cases res with
    | nil => cases k <;> simp [outBs] at hb
    | cons t ts =>
      cases k with
      | val s => exact ih (by simpa only [outBs] using hb)
      | own s =>
        simp only [outBs, List.mem_cons] at hb
        simp only [outHs]
        rcases hb with hb | hb
        · split at hb
          · rename_i h hh
            exact ⟨h, by rw [hh]; exact List.mem_cons_self, hb.symm⟩
          · cases hb
        · obtain ⟨h, h1, h2⟩ := ih hb
          split
          · exact ⟨h, List.mem_cons_of_mem _ h1, h2⟩
          · exact ⟨h, h1, h2⟩

theorem outBs_dist (hS : SimM c E st m a w) {hs : List Nat} : ∀ {outs : List RK} {res : List Nat} {y : dens (outs.map RK.sh)}, outA E st hs outs res = some y → (outHs E st outs res).Nodup → Dist (outBs E st m outs res) := by
  intro outs
  induction outs with
  | nil => intro res y _ _; cases res <;> trivial
  | cons k outs ih =>
    intro res y hy hn
    have hlk := outA_look hS hy
    cases res with
    | nil => cases k <;> trivial
    | cons t ts =>
      cases k with
      | val s =>
        simp only [outA] at hy
        split at hy
        · rename_i h1 h2
          exact ih h2 hn
        · cases hy
      | own s =>
        simp only [outA] at hy
        split at hy
        · rename_i h1 h2
          simp only [outHs] at hn hlk
          simp only [outBs]
          split at hn
          · rename_i k hk
            simp only [hk] at hlk ⊢
            rw [List.nodup_cons] at hn
            have hd := ih h2 hn.2
            cases hmk : m k with
            | none => exact hd
            | some b =>
              refine ⟨fun hb => ?_, hd⟩
              obtain ⟨h', h3, h4⟩ := outBs_mem hb
              obtain ⟨o1, q1⟩ := hlk k List.mem_cons_self
              obtain ⟨o2, q2⟩ := hlk h' (List.mem_cons_of_mem _ h3)
              have := hS.inj k h' o1 o2 b (ob_of_look q1) (ob_of_look q2) hmk h4
              subst this
              exact hn.1 h3
          · rename_i hne
            have hd := ih h2 hn
            split
            · rename_i k hk
              exact absurd hk (hne k)
            · exact hd
        · cases hy

theorem giveR_some {s : Sh} {hs : List Nat} {k : Nat} {o : AO} (h : giveR E st s hs k = some o) : k ∉ hs ∧ look st.objs k = some o := by
  unfold giveR at h
  obtain ⟨h1, h2⟩ := cond_some h
  simp only [Bool.and_eq_true, Bool.not_eq_true', List.contains_eq_mem, decide_eq_false_iff_not] at h1
  exact ⟨h1.2, h2⟩

theorem outA_res (hS : SimM c E st m a w) (hmu : ∀ b, ¬ c.mu b) {hs : List Nat} {okR : Bool → Nat → Prop} (hok : ∀ i b, c.ok m (E.ob st) w.heap i b → okR i b)
    (hgive : ∀ i h o b, h ∉ hs → look st.objs h = some o → m h = some b → okR i b) :
    ∀ {outs : List RK} {res : List Nat} {y : dens (outs.map RK.sh)}, outA E st hs outs res = some y →
      ResR okR c.B w.heap outs y (res.map fun t => a.tmps.getD t undef) (outBs E st m outs res) := by
  have hokc : ∀ i b, c.ok m (E.ob st) w.heap i b → okR i b ∧ ∀ o, cellH w.heap b o = cellH w.heap b o := fun i b hb => ⟨hok i b hb, fun _ => rfl⟩
  intro outs
  induction outs with
  | nil =>
    intro res y hy
    cases res with
    | nil => trivial
    | cons t ts => simp [outA] at hy
  | cons k outs ih =>
    intro res y hy
    cases res with
    | nil => cases k <;> simp [outA] at hy
    | cons t ts =>
      cases k with
      | val s =>
        simp only [outA] at hy
        split at hy
        · rename_i x1 x2 h1 h2
          cases hy
          obtain ⟨g1, g2⟩ := gndV_sound (O1 := giveR E st s hs) (okA := okR) (mt := c.mt) hok (fun b hb => Cx.ok_any hb) (fun h o hh => ob_of_look (giveR_some hh).2) hS.objs (fun i h o b hh hb => hgive i h o b (giveR_some hh).1 (giveR_some hh).2 hb) h1 (hS.rd t)
          exact ⟨⟨g1, g2⟩, ih h2⟩
        · cases hy
      | own s =>
        simp only [outA] at hy
        split at hy
        · rename_i h0 x1 x2 h1 h2
          cases hy
          refine ⟨?_, ih h2⟩
          have hr := hS.rd t
          rcases baseOf_spec h1 (by intro h off len; split <;> simp_all) with ⟨k, h3, h4⟩ | ⟨h3, h4⟩
          · have hk : E.rd st t = .full k := by
              split at h3
              · cases h3
              · exact h3
            rw [hk] at hr ⊢
            cases hr with
            | full _ _ hv _ =>
              have hv := hv _ _ (ob_of_look h4)
              have hro := hS.objs k _ (ob_of_look h4)
              unfold SlV at hv
              simp only [RO] at hro
              simp only
              cases hm : m k with
              | none =>
                rw [hm] at hv hro
                exact ⟨hv.1, hro⟩
              | some b =>
                rw [hm] at hv hro
                obtain ⟨o, cp, q1, q2, q3, q4⟩ := hv
                obtain ⟨r1, cs, e, r2, r3, r4⟩ := hro
                refine ⟨r1.resolve_right (hmu b), ⟨cs, e, r2, r3, fun i z hz => ?_⟩, o, cp, q1, q2, fun hne => by simpa using q3 hne, fun n hn => by simpa using q4 n hn⟩
                obtain ⟨l, l1, l2, l3⟩ := r4 i z hz
                exact ⟨l, l1, l2, RC.mono hokc l3⟩
          · have hk : E.rd st t = .nil := by
              split at h3
              · cases h3
              · exact h3
            rw [hk] at hr ⊢
            generalize hu : a.tmps.getD t undef = u at hr
            simp only [List.map_cons, hu]
            cases hr
            exact ⟨rfl, h4⟩
        · cases hy

theorem inSlots_get : ∀ {ins : List Sh} {x : dens ins} {vals : List Value} {ok : Bool → Nat → Prop} {H : Array Obj}, ArgR ok H ins x vals → ins.all Sh.plain = true →
    (inSlots ins x).length = vals.length ∧ ins.length = vals.length ∧ ∀ (t : Nat) (av : AV), (inSlots ins x)[t]? = some av → ∃ (s : Sh) (y : s.den) (v : Value), av = inV s y ∧ vals[t]? = some v ∧ RC ok H s y v.cells.toList ∧ aggV v = s.isAgg ∧ s.plain = true := by
  intro ins
  induction ins with
  | nil =>
    intro x vals ok H h _
    cases vals with
    | nil => exact ⟨rfl, rfl, fun t av ht => by simp [inSlots] at ht⟩
    | cons v vs => simp [ArgR] at h
  | cons s ins ih =>
    intro x vals ok H h hp
    simp only [List.all_cons, Bool.and_eq_true] at hp
    cases vals with
    | nil => simp [ArgR] at h
    | cons v vs =>
      obtain ⟨i1, i2, i3⟩ := ih h.2 hp.2
      refine ⟨by simp [inSlots, i1], by simp [i2], fun t av ht => ?_⟩
      cases t with
      | zero => cases ht; exact ⟨s, _, v, rfl, rfl, h.1.1, h.1.2, hp.1⟩
      | succ t => simpa using i3 t av (by simpa [inSlots] using ht)

/-- A parameter's value, as the evaluator has it. -/
theorem inV_RV {ok ok' : Bool → Nat → Prop} {O : Nat → Option AO} {H : Array Obj} {s : Sh} {y : s.den} {v : Value} (hok : ∀ b, ok false b → ok' false b) (hp : s.plain = true) (hc : RC ok H s y v.cells.toList) (ha : aggV v = s.isAgg) :
    RV ok' m O H (inV s y) v := by
  have hc' : RC ok' H s y v.cells.toList := RC.plain_ hp (fun b hb => ⟨hok b hb, fun _ => rfl⟩) hc
  cases s with
  | bx s =>
    rw [cells_one (by rw [ha]; rfl)] at hc'
    simp only [RC, List.cons.injEq, and_true] at hc'
    obtain ⟨b, off, l, rfl, h1, h2, h3, h4⟩ := hc'
    exact .rp s y b off l h1 h2 h3 h4
  | _ => exact .g _ _ _ hc' ha

theorem inV_arg {s t : Sh} {y : s.den} {x : t.den} (h : inV s y = .g t x) : ∃ e : s = t, e ▸ y = x := by
  cases s with
  | bx s => cases h
  | _ => cases h; exact ⟨rfl, rfl⟩

theorem enter_of {f : FuncId} {fn : Func} {code : Code} {vals : List Value} (hf : P.funcs[f]? = some fn) (hb : fn.body = some code) (hname : (fn.name == "runtime.NumGoroutine") = false) (w : World) :
    (callFunc f vals.toArray).run P w = .ok (.enter f vals.toArray) w := by
  have h1 : fn.name ≠ "runtime.NumGoroutine" := by simpa using hname
  simp [callFunc, hf, h1, hb]

/-- The state in which a call begins. -/
theorem start_sim {fn : Func} {ntmps : Nat} {ins : List Sh} {x : dens ins} {vals : List Value} {p : Nat → Prop} (hn : fn.ntmps = ntmps) (hp : ∀ b, p b → b < w.heap.size) (hA : ArgR (fun _ => p) w.heap ins x vals) (hpl : ins.all Sh.plain = true)
    (hle : ins.length ≤ ntmps) (ea : List AV) (hea : ea = [] ∨ ea = inSlots ins x) :
    SimM { n := ntmps, w0 := w, p := p, mu := fun _ => False, D := fun _ => False, v0 := fun t => vals.getD t undef } (EA ea) { slots := inSlots ins x ++ List.replicate (ntmps - ins.length) .top, objs := [] } (fun _ => none)
      { tmps := vals.toArray ++ Array.replicate (fn.ntmps - vals.toArray.size) undef, defers := [] } w := by
  obtain ⟨i1, i2, i3⟩ := inSlots_get hA hpl
  replace i1 : (inSlots ins x).length = vals.length := i1
  replace i2 : ins.length = vals.length := i2
  have hlen : (inSlots ins x ++ List.replicate (ntmps - ins.length) AV.top).length = ntmps := by
    simp only [List.length_append, List.length_replicate, i1]
    omega
  have hval : ∀ (t : Nat) (v : Value), vals[t]? = some v → (vals.toArray ++ Array.replicate (fn.ntmps - vals.toArray.size) undef).getD t undef = v := fun t v h2 => by
    have : t < vals.length := lt_of_getl h2
    rw [Array.getD_eq_getD_getElem?, Array.getElem?_append, if_pos (by simpa using this)]
    simp [h2]
  refine ⟨rfl, ?_, hlen, ⟨rfl, rfl, rfl, Nat.le_refl _, fun _ _ _ => rfl, fun _ _ => rfl⟩, fun t av h => ?_, fun t av h => ?_, fun h o ho => ?_, fun h h' o o' b ho => ?_, fun h o ho => ?_, fun t av h hn => ?_, fun _ b hb => hb, ⟨hp, fun t s y h => ?_⟩, fun b hb => hb.elim⟩
  · rw [hlen, hn]
    simp only [Array.size_append, List.size_toArray, Array.size_replicate]
    omega
  · rw [List.getElem?_append] at h
    split at h
    · rename_i hlt
      obtain ⟨s, z, v, rfl, h2, h3, h4, h5⟩ := i3 t av h
      simp only
      rw [hval t v h2]
      exact inV_RV (fun b hb => ⟨hp b hb, fun _ => hb, fun h o ho => (by cases ho), fun h => h, fun h => (by cases h)⟩) h5 h3 h4
    · rw [List.getElem?_replicate] at h
      split at h
      · cases h; exact .top _
      · cases h
  · simp [EA] at h
  · cases ho
  · cases ho
  · cases ho
  · simp only [EA] at h
    rcases hea with rfl | rfl
    · simp at h
    · obtain ⟨s, z, v, rfl, h2, h3, h4, h5⟩ := i3 t av h
      simp only
      rw [hval t v h2]
      simp [h2]
  · simp only [EA] at h
    rcases hea with rfl | rfl
    · simp at h
    · obtain ⟨s', z, v, he, h2, h3, h4, h5⟩ := i3 t _ h
      obtain ⟨rfl, rfl⟩ := inV_arg he.symm
      simp only [List.getD_eq_getElem?_getD, h2, Option.getD_some]
      exact ⟨h3, h4, h5⟩

/-- What the evaluator reads at a body's end. -/
theorem end_sim {fn : Func} {outs : List RK} {res : List Nat} {w' : World} {a' : Act} {st' : St} {y : dens (outs.map RK.sh)} {p : Nat → Prop} {n : Nat} {v0 : Nat → Value} {D : Nat → Prop}
    (hS : SimM ({ n := n, w0 := w, p := p, mu := fun _ => False, D := D, v0 := v0 } : Cx) E st' m a' w')
    (hK : cond (nodup (outHs E st' outs res)) (outA E st' (outHs E st' outs res) outs res) none = some y) :
    Below w.heap.size w w' ∧ Dist (outBs E st' m outs res) ∧
      ResR (okRes p w.heap.size w'.heap (outBs E st' m outs res)) w.heap.size w'.heap outs y (res.map fun t => a'.tmps.getD t undef) (outBs E st' m outs res) := by
  obtain ⟨h1, h2⟩ := cond_some hK
  have hnotin : ∀ b, some b ∈ outBs E st' m outs res → ∃ h o, h ∈ outHs E st' outs res ∧ look st'.objs h = some o ∧ m h = some b := fun b hm => by
    obtain ⟨h, q1, q2⟩ := outBs_mem hm
    obtain ⟨o, q3⟩ := outA_look hS h2 h q1
    exact ⟨h, o, q1, q3, q2⟩
  refine ⟨⟨hS.kept.os, hS.kept.tape, hS.kept.output, hS.kept.size, fun k hk => hS.kept.block k hk (fun h => h)⟩, outBs_dist hS h2 (nodup_spec h1), ?_⟩
  refine outA_res hS (fun b h => h) (fun i b hb => ⟨?_, fun hm => ?_, fun hi => (hb.2.2.2.2 hi).2⟩) (fun i h o b hh hl hm => ⟨?_, fun hb => ?_, fun _ => ((hS.objs h o (ob_of_look hl)).block hm).2⟩) h2
  · by_cases hlt : b < w.heap.size
    · refine .inl ⟨hlt, hb.2.1 hlt, ?_⟩
      cases i with
      | false => rfl
      | true =>
        have : w.heap.size ≤ b := (hb.2.2.2.2 rfl).1
        omega
    · exact .inr ⟨Nat.le_of_not_lt hlt, hb.1⟩
  · obtain ⟨h, o, q1, q2, q3⟩ := hnotin b hm
    exact hb.2.2.1 h o (ob_of_look q2) q3
  · obtain ⟨g1, cs, e, g2⟩ := (hS.objs h o (ob_of_look hl)).block hm
    exact .inr ⟨g1.resolve_right (fun h => h), lt_of_some g2⟩
  · obtain ⟨h', o', q1, q2, q3⟩ := hnotin b hb
    have := hS.inj h h' o o' b (ob_of_look hl) (ob_of_look q2) hm q3
    subst this
    exact hh q1

/-- The one value of a result list. -/
theorem valOf_res {vs : List Value} : valOf vs (if h : vs.toArray.size = 1 then vs.toArray[0] else .tuple vs.toArray) := by
  unfold valOf
  split
  · rfl
  · rename_i hne
    rw [dif_neg]
    intro hsz
    simp only [List.size_toArray] at hsz
    match vs, hsz with
    | [u], _ => exact hne u rfl

/-- A function's contract from the evaluator's answer, whatever of the parameters is kept. -/
theorem runE_sound {f : FuncId} {fn : Func} {code : Code} {N ntmps : Nat} {tt : Nat → TD} {T : Nat → List EntX} {L : Nat → List (Nat × TK)} {ins : List Sh} {outs : List RK} {res : List Nat} (ea : dens ins → List AV) (hea : ∀ x, ea x = [] ∨ ea x = inSlots ins x)
    (hM : P.follows .mixedOrders = true) (hP : ∀ t, TDok P t (tt t)) (hT : ∀ f, ∀ e ∈ T f, SoundX P f e) (hf : P.funcs[f]? = some fn) (hb : fn.body = some code) (hn : fn.ntmps = ntmps)
    (hname : (fn.name == "runtime.NumGoroutine") = false) (hres : fn.results = (res.map ResultVar.tmp).toArray) (hle : ins.length ≤ ntmps) :
    SoundC P f { ins := ins, outs := outs, F := fun x => cond (ins.all Sh.plain) (ex N tt T L (EA (ea x)) code { slots := inSlots ins x ++ List.replicate (ntmps - ins.length) .top, objs := [] } fun e st =>
      match e with
      | .exit _ => none
      | _ => cond (nodup (outHs (EA (ea x)) st outs res)) (outA (EA (ea x)) st (outHs (EA (ea x)) st outs res) outs res) none) none } := by
  intro p w vals x y hp hA hF
  obtain ⟨hpl, hF⟩ := cond_some hF
  unfold CallOk
  rw [enter_of hf hb hname]
  simp only
  refine ⟨trivial, calls_of_wp hf hb ?_⟩
  have hsim := start_sim (fn := fn) hn hp hA hpl hle (ea x) (hea x)
  refine ex_sound (c := { n := ntmps, w0 := w, p := p, mu := fun _ => False, D := fun _ => False, v0 := fun t => vals.getD t undef }) hM hP hT code ⟨_, _, hsim⟩ hF ?_
  rintro e st' a' w' ⟨m, D, hS⟩ hK
  have fin : cond (nodup (outHs (EA (ea x)) st' outs res)) (outA (EA (ea x)) st' (outHs (EA (ea x)) st' outs res) outs res) none = some y → a'.defers = [] ∧ ∃ v, (results fn a'.tmps).run P w' = .ok v w' ∧
      ∃ v', Ending.returned v = .returned v' ∧ ∃ vs bs, valOf vs v' ∧ Below w.heap.size w w' ∧ Dist bs ∧ ResR (okRes p w.heap.size w'.heap bs) w.heap.size w'.heap outs y vs bs := by
    intro hK
    obtain ⟨k1, k2, k3⟩ := end_sim (fn := fn) (w := w) hS hK
    exact ⟨hS.defers, _, results_run hres _ _ _, _, rfl, res.map (fun t => a'.tmps.getD t undef), outBs (EA (ea x)) st' m outs res, valOf_res, k1, k2, k3⟩
  cases e with
  | normal => exact fin hK
  | ret => exact fin hK
  | exit id => cases hK

theorem runF_sound {f : FuncId} {fn : Func} {code : Code} {N ntmps : Nat} {tt : Nat → TD} {T : Nat → List EntX} {L : Nat → List (Nat × TK)} {ins : List Sh} {outs : List RK} {res : List Nat}
    (hM : P.follows .mixedOrders = true) (hP : ∀ t, TDok P t (tt t)) (hT : ∀ f, ∀ e ∈ T f, SoundX P f e) (hf : P.funcs[f]? = some fn) (hb : fn.body = some code) (hn : fn.ntmps = ntmps)
    (hname : (fn.name == "runtime.NumGoroutine") = false) (hres : fn.results = (res.map ResultVar.tmp).toArray) (hle : ins.length ≤ ntmps) :
    SoundC P f { ins := ins, outs := outs, F := runF N tt T L ins outs code ntmps res } :=
  runE_sound (fun _ => []) (fun _ => .inl rfl) hM hP hT hf hb hn hname hres hle

/-- The same, the parameters kept. -/
theorem runL_sound {f : FuncId} {fn : Func} {code : Code} {N ntmps : Nat} {tt : Nat → TD} {T : Nat → List EntX} {L : Nat → List (Nat × TK)} {ins : List Sh} {outs : List RK} {res : List Nat}
    (hM : P.follows .mixedOrders = true) (hP : ∀ t, TDok P t (tt t)) (hT : ∀ f, ∀ e ∈ T f, SoundX P f e) (hf : P.funcs[f]? = some fn) (hb : fn.body = some code) (hn : fn.ntmps = ntmps)
    (hname : (fn.name == "runtime.NumGoroutine") = false) (hres : fn.results = (res.map ResultVar.tmp).toArray) (hle : ins.length ≤ ntmps) :
    SoundC P f { ins := ins, outs := outs, F := runL N tt T L ins outs code ntmps res } :=
  runE_sound (fun x => inSlots ins x) (fun _ => .inr rfl) hM hP hT hf hb hn hname hres hle

theorem outBs_nil : ∀ {outs : List RK} {res : List Nat}, outs.all RK.det = true → outBs E st m outs res = [] := by
  intro outs
  induction outs with
  | nil => intro res _; cases res <;> rfl
  | cons k outs ih =>
    intro res h
    simp only [List.all_cons, Bool.and_eq_true] at h
    cases k with
    | own s => cases h.1
    | val s =>
      cases res with
      | nil => rfl
      | cons t ts => exact ih h.2

theorem ResR.B_any {ok : Bool → Nat → Prop} {B B' : Nat} {H : Array Obj} : ∀ {outs : List RK} {y : dens (outs.map RK.sh)} {vs : List Value} {bs : List (Option Nat)}, outs.all RK.det = true → ResR ok B H outs y vs bs → ResR ok B' H outs y vs bs := by
  intro outs
  induction outs with
  | nil => intro y vs bs _ h; cases vs <;> cases bs <;> simp_all [ResR]
  | cons k outs ih =>
    intro y vs bs hd h
    simp only [List.all_cons, Bool.and_eq_true] at hd
    cases k with
    | own s => cases hd.1
    | val s =>
      cases vs with
      | nil => simp [ResR] at h
      | cons v vs => exact ⟨h.1, ih hd.2 h.2⟩

theorem outA_det (hS : SimM c E st m a w) {hs : List Nat} : ∀ {outs : List RK} {res : List Nat} {y : dens (outs.map RK.sh)}, outs.all RK.det = true → outA E st hs outs res = some y →
      ResR (fun _ _ => False) 0 w.heap outs y (res.map fun t => a.tmps.getD t undef) [] := by
  intro outs
  induction outs with
  | nil =>
    intro res y _ hy
    cases res with
    | nil => trivial
    | cons t ts => simp [outA] at hy
  | cons k outs ih =>
    intro res y hd hy
    simp only [List.all_cons, Bool.and_eq_true] at hd
    cases res with
    | nil => cases k <;> simp [outA] at hy
    | cons t ts =>
      cases k with
      | own s => cases hd.1
      | val s =>
        simp only [outA] at hy
        split at hy
        · rename_i x1 x2 h1 h2
          cases hy
          obtain ⟨g1, g2⟩ := gndV_sound (O1 := giveR E st s hs) (okA := fun _ _ => True) (mt := c.mt) (fun _ _ _ => trivial) (fun b hb => Cx.ok_any hb) (fun h o hh => ob_of_look (giveR_some hh).2) hS.objs (fun i h o b hh hb => trivial) h1 (hS.rd t)
          exact ⟨⟨RC.noref (det_noref hd.1) g1, g2⟩, ih hd.2 h2⟩
        · cases hy

/-- The contract of a function that changes the array that it takes first. -/
theorem runM_sound {f : FuncId} {fn : Func} {code : Code} {N ntmps : Nat} {tt : Nat → TD} {T : Nat → List EntX} {L : Nat → List (Nat × TK)} {io : Sh} {ins : List Sh} {outs : List RK} {res : List Nat}
    (hM : P.follows .mixedOrders = true) (hP : ∀ t, TDok P t (tt t)) (hT : ∀ f, ∀ e ∈ T f, SoundX P f e) (hf : P.funcs[f]? = some fn) (hb : fn.body = some code) (hn : fn.ntmps = ntmps)
    (hname : (fn.name == "runtime.NumGoroutine") = false) (hres : fn.results = (res.map ResultVar.tmp).toArray) (hle : ins.length + 1 ≤ ntmps) :
    SoundM P f { io := io, ins := ins, outs := outs, F := runM N tt T L io ins outs code ntmps res } := by
  intro p w v ob vals xs x z hp hM0 hA href hdet hF
  unfold runM at hF
  obtain ⟨hpl, hF⟩ := cond_some hF
  simp only [Bool.and_eq_true] at hpl
  have hpl := hpl.1
  unfold CallOk
  rw [enter_of hf hb hname]
  simp only
  refine ⟨trivial, calls_of_wp hf hb ?_⟩
  obtain ⟨i1, i2, i3⟩ := inSlots_get hA hpl
  replace i1 : (inSlots ins x).length = vals.length := i1
  replace i2 : ins.length = vals.length := i2
  let c : Cx := { n := ntmps, w0 := w, p := p, mu := fun b => ob = some b, D := fun _ => False, v0 := fun t => (v :: vals).getD t undef }
  have hlt : ∀ b, ob = some b → b < w.heap.size := fun b hb => by
    subst hb
    obtain ⟨⟨cs, e, h1, _⟩, _⟩ := hM0
    exact lt_of_some h1
  have hmm : (fun h => if h = MUT then ob else none) MUT = ob := if_pos rfl
  have hsim : SimM c EM { slots := .full MUT :: (inSlots ins x ++ List.replicate (ntmps - 1 - ins.length) .top), objs := [(MUT, .arr io xs)] } (fun h => if h = MUT then ob else none)
      { tmps := (v :: vals).toArray ++ Array.replicate (fn.ntmps - (v :: vals).toArray.size) undef, defers := [] } w := by
    have hlen : (AV.full MUT :: (inSlots ins x ++ List.replicate (ntmps - 1 - ins.length) AV.top)).length = ntmps := by
      simp only [List.length_cons, List.length_append, List.length_replicate, i1]
      omega
    have hval : ∀ (t : Nat) (u : Value), (v :: vals)[t]? = some u → ((v :: vals).toArray ++ Array.replicate (fn.ntmps - (v :: vals).toArray.size) undef).getD t undef = u := fun t u h2 => by
      have : t < (v :: vals).length := lt_of_getl h2
      rw [Array.getD_eq_getD_getElem?, Array.getElem?_append, if_pos (by simpa using this)]
      simp [h2]
    have hob : ∀ h o, EM.ob { slots := .full MUT :: (inSlots ins x ++ List.replicate (ntmps - 1 - ins.length) .top), objs := [(MUT, .arr io xs)] } h = some o → h = MUT ∧ o = .arr io xs := fun h o ho => by
      simp only [Env.ob, EM, look] at ho
      by_cases hh : MUT = h
      · subst hh
        simp at ho
        exact ⟨rfl, ho.symm⟩
      · rw [beq_false hh] at ho
        simp at ho
    refine ⟨rfl, ?_, hlen, ⟨rfl, rfl, rfl, Nat.le_refl _, fun _ _ _ => rfl, fun _ _ => rfl⟩, fun t av h => ?_, fun t av h => ?_, fun h o ho => ?_, fun h h' o o' b h1 h2 _ _ => ?_, fun h o ho => ?_, fun t av h hn => ?_, fun h => ?_, ⟨fun b hb => (hp b hb).1, fun t s y h => ?_⟩, fun b hb => hb.elim⟩
    · rw [hlen, hn]
      simp only [Array.size_append, List.size_toArray, Array.size_replicate, List.length_cons]
      omega
    · cases t with
      | zero =>
        cases h
        simp only
        rw [hval 0 v rfl]
        refine .full _ _ (fun s' xs' ho => ?_) ?_
        · obtain ⟨_, h2⟩ := hob _ _ ho
          cases h2
          unfold SlV
          rw [hmm]
          cases ob with
          | none => exact ⟨hM0.1, by rw [hM0.2]; rfl⟩
          | some b =>
            obtain ⟨_, o0, cp, g1, g2, g3, g4⟩ := hM0
            exact ⟨o0, cp, g1, g2, fun hne => by rw [g3 hne]; simp, fun n hn => by simpa using g4 n hn⟩
        · cases ob with
          | none => rw [hM0.1]; rfl
          | some b =>
            obtain ⟨_, o0, cp, g1, _⟩ := hM0
            rw [g1]; rfl
      | succ t =>
        rw [List.getElem?_cons_succ, List.getElem?_append] at h
        split at h
        · rename_i hlt
          obtain ⟨s, z, u, rfl, h2, h3, h4, h5⟩ := i3 t av h
          simp only
          rw [hval (t + 1) u (by simpa using h2)]
          refine inV_RV (fun b hb => ⟨(hp b hb).1, fun _ => hb, fun h o ho => ?_, fun h => h, fun h => (by cases h)⟩) h5 h3 h4
          obtain ⟨rfl, _⟩ := hob h o ho
          rw [hmm]
          exact (hp b hb).2
        · rw [List.getElem?_replicate] at h
          split at h
          · cases h; exact .top _
          · cases h
    · simp [EM] at h
    · obtain ⟨rfl, rfl⟩ := hob h o ho
      simp only [RO]
      rw [if_pos trivial]
      cases ob with
      | none => exact hM0.2
      | some b =>
        obtain ⟨⟨cs, e, g1, g2, g3⟩, _⟩ := hM0
        refine ⟨.inr rfl, cs, e, g1, g2, fun i y hy => ?_⟩
        obtain ⟨l, l1, l2, l3⟩ := g3 i y hy
        exact ⟨l, l1, l2, RC.noref href l3⟩
    · rw [(hob h o h1).1, (hob h' o' h2).1]
    · rfl
    · cases t with
      | zero =>
        simp only
        rw [hval 0 v rfl]
        rfl
      | succ t => simp [EM] at h
    · cases h
    · cases t with
      | zero => cases h
      | succ t => simp [EM] at h
  refine ex_sound (c := c) hM hP hT code ⟨_, _, hsim⟩ hF ?_
  rintro e st' a' w' ⟨m, D, hS⟩ hK
  have fin : (match EM.rd st' 0 with
      | .full h => match look st'.objs h with
        | some (.arr s ys) => match castSh (.sl io) (.sl s) ys, outA EM st' [] outs res with
          | some ys, some z => some (ys, z)
          | _, _ => none
        | _ => none
      | _ => none) = some z → a'.defers = [] ∧ ∃ v, (results fn a'.tmps).run P w' = .ok v w' ∧
      ∃ v', Ending.returned v = .returned v' ∧ ∃ vs, valOf vs v' ∧ BelowX w.heap.size (fun b => ob = some b) w w' ∧ ResR (fun _ _ => False) 0 w'.heap outs z.2 vs [] ∧ MutEnd w'.heap io z.1 ob := by
    intro hK
    split at hK
    · rename_i h hrd
      split at hK
      · rename_i s ys hl
        split at hK
        · rename_i ys' z' hc hz
          cases hK
          obtain ⟨e1, rfl⟩ := castSh_some hc
          cases e1
          refine ⟨hS.defers, _, results_run hres _ _ _, _, rfl, res.map (fun t => a'.tmps.getD t undef), valOf_res, ⟨hS.kept.os, hS.kept.tape, hS.kept.output, hS.kept.size, fun k hk hm => hS.kept.block k hk hm, fun k hk => hS.kept.bsz k hk⟩, outA_det hS hdet hz, ?_⟩
          have hv0 : a'.tmps.getD 0 undef = v := hS.fix 0 .nil rfl rfl
          have hr := hS.rd 0
          rw [hrd, hv0] at hr
          have hro := hS.objs h _ (ob_of_look hl)
          cases hr with
          | full _ _ hsl _ =>
            have h2 := hsl _ _ (ob_of_look hl)
            unfold SlV at h2
            simp only [RO] at hro
            cases hm : m h with
            | none =>
              rw [hm] at h2 hro
              cases ob with
              | none => exact hro
              | some b =>
                obtain ⟨_, o0, cp, g1, _⟩ := hM0
                rw [g1] at h2
                cases h2.1
            | some b' =>
              rw [hm] at h2 hro
              obtain ⟨o1, cp1, k1, k2, k3, k4⟩ := h2
              obtain ⟨_, cs, e, k5, k6, k7⟩ := hro
              cases ob with
              | none =>
                rw [hM0.1] at k1
                cases k1
              | some b =>
                obtain ⟨_, o0, cp, g1, _⟩ := hM0
                rw [g1] at k1
                simp only [Value.slice.injEq, Option.some.injEq, Addr.mk.injEq] at k1
                obtain ⟨⟨rfl, _⟩, _⟩ := k1
                refine ⟨cs, e, k5, k6, fun i y hy => ?_⟩
                obtain ⟨l, l1, l2, l3⟩ := k7 i y hy
                exact ⟨l, l1, l2, RC.noref href l3⟩
        · cases hK
      · cases hK
    · cases hK
  cases e with
  | normal => exact fin hK
  | ret => exact fin hK
  | exit id => cases hK

/-- The contract of a function that changes what a pointer names that it takes at a place. -/
theorem runB_sound {f : FuncId} {fn : Func} {code : Code} {N ntmps : Nat} {tt : Nat → TD} {T : Nat → List EntX} {L : Nat → List (Nat × TK)} {pos : Nat} {ins : List Sh} {outs : List RK} {res : List Nat}
    (hM : P.follows .mixedOrders = true) (hP : ∀ t, TDok P t (tt t)) (hT : ∀ f, ∀ e ∈ T f, SoundX P f e) (hf : P.funcs[f]? = some fn) (hb : fn.body = some code) (hn : fn.ntmps = ntmps)
    (hname : (fn.name == "runtime.NumGoroutine") = false) (hres : fn.results = (res.map ResultVar.tmp).toArray) (hle : ins.length + 1 ≤ ntmps) (hpos : pos ≤ ins.length) :
    SoundB P f { pos := pos, ins := ins, outs := outs, F := runB N tt T L pos ins outs code ntmps res } := by
  intro p w bb cs0 e0 v ob vals xs c0 x z hp hbox hcs hM0 hobb hA hdet hF
  unfold runB at hF
  obtain ⟨hpl, hF⟩ := cond_some hF
  simp only [Bool.and_eq_true] at hpl
  have hpl := hpl.1
  unfold CallOk
  rw [enter_of hf hb hname]
  simp only
  refine ⟨trivial, calls_of_wp hf hb ?_⟩
  obtain ⟨i1, i2, i3⟩ := inSlots_get hA hpl
  replace i1 : (inSlots ins x).length = vals.length := i1
  replace i2 : ins.length = vals.length := i2
  let c : Cx := { n := ntmps, w0 := w, p := p, mu := fun b => b = bb ∨ ob = some b, D := fun _ => False, v0 := fun t => (insN pos (Value.pointer (some ⟨bb, 0, none⟩)) vals).getD t undef }
  let m0 : Nat → Option Nat := fun h => if h = MUT then some bb else if h = MUT + 1 then ob else none
  have hm1 : m0 MUT = some bb := if_pos rfl
  have hm2 : m0 (MUT + 1) = ob := by
    show (if MUT + 1 = MUT then some bb else if MUT + 1 = MUT + 1 then ob else none) = ob
    rw [if_neg (by omega), if_pos rfl]
  have hsim : SimM c (EMp pos) { slots := insN pos (.ptr MUT 0) (inSlots ins x) ++ List.replicate (ntmps - 1 - ins.length) .top, objs := [(MUT, .box [.full (MUT + 1), .g (.int .i64) c0]), (MUT + 1, .arr (.int .i64) xs)] } m0
      { tmps := (insN pos (Value.pointer (some ⟨bb, 0, none⟩)) vals).toArray ++ Array.replicate (fn.ntmps - (insN pos (Value.pointer (some ⟨bb, 0, none⟩)) vals).toArray.size) undef, defers := [] } w := by
    have hlen : (insN pos (AV.ptr MUT 0) (inSlots ins x) ++ List.replicate (ntmps - 1 - ins.length) AV.top).length = ntmps := by
      simp only [insN_len, List.length_append, List.length_replicate, i1]
      omega
    have hval : ∀ (t : Nat) (u : Value), (insN pos (Value.pointer (some ⟨bb, 0, none⟩)) vals)[t]? = some u → ((insN pos (Value.pointer (some ⟨bb, 0, none⟩)) vals).toArray ++ Array.replicate (fn.ntmps - (insN pos (Value.pointer (some ⟨bb, 0, none⟩)) vals).toArray.size) undef).getD t undef = u := fun t u h2 => by
      have : t < (insN pos (Value.pointer (some ⟨bb, 0, none⟩)) vals).length := lt_of_getl h2
      rw [Array.getD_eq_getD_getElem?, Array.getElem?_append, if_pos (by simpa using this)]
      simp [h2]
    have hob : ∀ h o, (EMp pos).ob { slots := insN pos (.ptr MUT 0) (inSlots ins x) ++ List.replicate (ntmps - 1 - ins.length) .top, objs := [(MUT, .box [.full (MUT + 1), .g (.int .i64) c0]), (MUT + 1, .arr (.int .i64) xs)] } h = some o →
        (h = MUT ∧ o = .box [.full (MUT + 1), .g (.int .i64) c0]) ∨ (h = MUT + 1 ∧ o = .arr (.int .i64) xs) := fun h o ho => by
      simp only [Env.ob, EMp, look] at ho
      by_cases hh : MUT = h
      · subst hh
        simp at ho
        exact .inl ⟨rfl, ho.symm⟩
      · rw [beq_false hh] at ho
        by_cases hh2 : MUT + 1 = h
        · subst hh2
          simp at ho
          exact .inr ⟨rfl, ho.symm⟩
        · rw [beq_false hh2] at ho
          simp at ho
    have hv1 : oneV v = true := by
      cases ob with
      | none => rw [hM0.1]; rfl
      | some b =>
        obtain ⟨_, o0, cp, g1, _⟩ := hM0
        rw [g1]; rfl
    refine ⟨rfl, ?_, hlen, ⟨rfl, rfl, rfl, Nat.le_refl _, fun _ _ _ => rfl, fun _ _ => rfl⟩, fun t av h => ?_, fun t av h => ?_, fun h o ho => ?_, fun h h' o o' b h1 h2 h3 h4 => ?_, fun h o ho => ?_, fun t av h hn => ?_, fun h => ?_, ⟨fun b hb => (hp b hb).1, fun t s y h => ?_⟩, fun b hb => hb.elim⟩
    · rw [hlen, hn]
      simp only [Array.size_append, List.size_toArray, Array.size_replicate, insN_len]
      omega
    · have hpv : pos ≤ vals.length := by omega
      rw [List.getElem?_append] at h
      split at h
      · rename_i hlt
        rw [insN_get (by omega)] at h
        have old : ∀ i, (inSlots ins x)[i]? = some av → (∀ u, vals[i]? = some u → (insN pos (Value.pointer (some ⟨bb, 0, none⟩)) vals)[t]? = some u) → RVs c (EMp pos) { slots := insN pos (.ptr MUT 0) (inSlots ins x) ++ List.replicate (ntmps - 1 - ins.length) .top, objs := [(MUT, .box [.full (MUT + 1), .g (.int .i64) c0]), (MUT + 1, .arr (.int .i64) xs)] } m0 w av (((insN pos (Value.pointer (some ⟨bb, 0, none⟩)) vals).toArray ++ Array.replicate (fn.ntmps - (insN pos (Value.pointer (some ⟨bb, 0, none⟩)) vals).toArray.size) undef).getD t undef) := fun i hi hu => by
          obtain ⟨s, z, u, rfl, h2, h3, h4, h5⟩ := i3 i av hi
          rw [hval t u (hu u h2)]
          refine inV_RV (fun b hb => ⟨(hp b hb).1, fun _ => hb, fun h o ho => ?_, fun h => h, fun h => (by cases h)⟩) h5 h3 h4
          rcases hob h o ho with ⟨rfl, _⟩ | ⟨rfl, _⟩
          · rw [hm1]
            exact fun he => (hp b hb).2.1 (Option.some.inj he).symm
          · rw [hm2]
            exact (hp b hb).2.2
        by_cases h1 : t < pos
        · rw [if_pos h1] at h
          exact old t h fun u hu => by rw [insN_get hpv, if_pos h1]; exact hu
        · rw [if_neg h1] at h
          by_cases h2 : t = pos
          · subst h2
            rw [if_pos rfl] at h
            cases h
            simp only
            rw [hval t _ (by rw [insN_get hpv, if_neg h1, if_pos rfl])]
            exact .ptr _ _ _ (fun cells ho => ⟨bb, hm1, rfl⟩) rfl
          · rw [if_neg h2] at h
            exact old (t - 1) h fun u hu => by rw [insN_get hpv, if_neg h1, if_neg h2]; exact hu
      · rw [List.getElem?_replicate] at h
        split at h
        · cases h; exact .top _
        · cases h
    · simp [EMp] at h
    · rcases hob h o ho with ⟨rfl, rfl⟩ | ⟨rfl, rfl⟩
      · refine ⟨bb, cs0, e0, hm1, .inr (.inl rfl), hbox, by rw [hcs]; rfl, fun u hu => ?_, fun i av u r1 r2 => ?_⟩
        · rw [hcs] at hu
          simp at hu
          rcases hu with rfl | rfl
          · exact hv1
          · rfl
        · rw [hcs] at r2
          match i, r1, r2 with
          | 0, r1, r2 =>
            cases r1
            cases r2
            refine .full _ _ (fun s' xs' hO => ?_) hv1
            rcases hob _ _ hO with ⟨_, h2⟩ | ⟨_, h2⟩
            · cases h2
            · cases h2
              unfold SlV
              rw [hm2]
              cases ob with
              | none => exact ⟨hM0.1, by rw [hM0.2]; rfl⟩
              | some b =>
                obtain ⟨_, o0, cp, g1, g2, g3, g4⟩ := hM0
                exact ⟨o0, cp, g1, g2, fun hne => by rw [g3 hne]; simp, fun n hn => by simpa [Sh.size] using g4 n hn⟩
          | 1, r1, r2 =>
            cases r1
            cases r2
            exact mk_int
          | i + 2, r1, r2 => simp at r1
      · simp only [RO]
        rw [hm2]
        cases ob with
        | none => exact hM0.2
        | some b =>
          obtain ⟨⟨cs, e, g1, g2, g3⟩, _⟩ := hM0
          refine ⟨.inr (.inr rfl), cs, e, g1, g2, fun i y hy => ?_⟩
          obtain ⟨l, l1, l2, l3⟩ := g3 i y hy
          exact ⟨l, l1, l2, RC.noref rfl l3⟩
    · rcases hob h o h1 with ⟨rfl, _⟩ | ⟨rfl, _⟩ <;> rcases hob h' o' h2 with ⟨rfl, _⟩ | ⟨rfl, _⟩
      · rfl
      · rw [hm1] at h3
        rw [hm2] at h4
        rw [h4] at hobb
        exact absurd h3.symm hobb
      · rw [hm1] at h4
        rw [hm2] at h3
        rw [h3] at hobb
        exact absurd h4.symm hobb
      · rfl
    · rfl
    · have hpv : pos ≤ vals.length := by omega
      have h : (List.replicate pos AV.top ++ [AV.nil])[t]? = some av := h
      rw [List.getElem?_append] at h
      split at h
      · rw [List.getElem?_replicate] at h
        split at h
        · cases h; cases hn
        · cases h
      · rename_i hge
        rw [List.length_replicate] at hge h
        have ht : t = pos := by
          by_cases he : t - pos = 0
          · omega
          · obtain ⟨q, hq⟩ : ∃ q, t - pos = q + 1 := ⟨t - pos - 1, by omega⟩
            rw [hq] at h
            simp at h
        subst ht
        simp only
        have hg : (insN t (Value.pointer (some ⟨bb, 0, none⟩)) vals)[t]? = some (.pointer (some ⟨bb, 0, none⟩)) := by rw [insN_get hpv, if_neg (Nat.lt_irrefl _), if_pos rfl]
        rw [hval t _ hg]
        show _ = (insN t (Value.pointer (some ⟨bb, 0, none⟩)) vals).getD t undef
        rw [List.getD_eq_getElem?_getD, hg]
        rfl
    · cases h
    · have h : (List.replicate pos AV.top ++ [AV.nil])[t]? = some (.g s y) := h
      rw [List.getElem?_append] at h
      split at h
      · rw [List.getElem?_replicate] at h
        split at h
        · cases h
        · cases h
      · rw [List.getElem?_singleton] at h
        split at h
        · cases h
        · cases h
  refine ex_sound (c := c) hM hP hT code ⟨_, _, hsim⟩ hF ?_
  rintro e st' a' w' ⟨m, D, hS⟩ hK
  have fin : (match boxA (look st'.objs) ((EMp pos).rd st' pos) with
      | some (_, _, ys, c') => match outA (EMp pos) st' [] outs res with
        | some z => some ((ys, c'), z)
        | none => none
      | none => none) = some z → a'.defers = [] ∧ ∃ u, (results fn a'.tmps).run P w' = .ok u w' ∧
      ∃ u', Ending.returned u = .returned u' ∧ ∃ vs v' e1 ob', valOf vs u' ∧ BelowX w.heap.size (fun b => b = bb ∨ ob = some b) w w' ∧ ResR (fun _ _ => False) 0 w'.heap outs z.2 vs [] ∧
        w'.heap[bb]? = some (.cells #[v', .int .i64 z.1.2] e1 (0, 0)) ∧ MutR (fun _ _ => False) w'.heap (.int .i64) z.1.1 v' ob' ∧ (∀ b, ob' = some b → ob = some b ∨ w.heap.size ≤ b) ∧ ob' ≠ some bb := by
    intro hK
    split at hK
    · rename_i h k ys c' hbx
      split at hK
      · rename_i z' hz
        cases hK
        have hpv : pos ≤ vals.length := by omega
        have hv0 : a'.tmps.getD pos undef = .pointer (some ⟨bb, 0, none⟩) := by
          rw [hS.fix pos .nil (by simp [EMp]) rfl]
          show (insN pos (Value.pointer (some ⟨bb, 0, none⟩)) vals).getD pos undef = _
          rw [List.getD_eq_getElem?_getD, insN_get hpv, if_neg (Nat.lt_irrefl _), if_pos rfl]
          rfl
        obtain ⟨bb', cs, e1, v', g1, g2, g3, g4, g5, g6, g7⟩ := boxA_mem hS (hS.rd pos) hbx
        rw [hv0] at g2
        simp only [Value.pointer.injEq, Option.some.injEq, Addr.mk.injEq] at g2
        obtain ⟨rfl, _⟩ := g2
        refine ⟨hS.defers, _, results_run hres _ _ _, _, rfl, res.map (fun t => a'.tmps.getD t undef), v', e1, k.bind m, valOf_res, ⟨hS.kept.os, hS.kept.tape, hS.kept.output, hS.kept.size, fun k hk hm => hS.kept.block k hk hm, fun k hk => hS.kept.bsz k hk⟩, outA_det hS hdet hz, by rw [g4, g5], g6, fun b hb => ?_, g7⟩
        rcases (boxA_spec hbx).2 with ⟨rfl, _, _⟩ | ⟨k0, rfl, _, hk0⟩
        · cases hb
        · have hb : m k0 = some b := hb
          rcases ((hS.objs k0 _ (ob_of_look hk0)).block hb).1 with h1 | h1 | h1
          · exact .inr h1
          · subst h1
            exact absurd hb g7
          · exact .inl h1
      · cases hK
    · cases hK
  cases e with
  | normal => exact fin hK
  | ret => exact fin hK
  | exit id => cases hK

end

end Go.Proofs.Ytmdicmdodbndgaa.Fw
