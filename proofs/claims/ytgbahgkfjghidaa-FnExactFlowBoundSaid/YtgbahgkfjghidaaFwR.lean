/-
  What the evaluator answers of a function's body, the function's call does. No condition.
-/
import Derived.Test.YtgbahgkfjghidaaFwQ
namespace Go.Proofs.Ytgbahgkfjghidaa.Fw
open Go Go.RowKit

theorem results_run {fn : Func} {res : List Nat} (h : fn.results = (res.map ResultVar.tmp).toArray) (tmps : Array Value) (P : Program) (w : World) :
    (results fn tmps).run P w = .ok (if h : (res.map fun t => tmps.getD t undef).toArray.size = 1 then (res.map fun t => tmps.getD t undef).toArray[0] else .tuple (res.map fun t => tmps.getD t undef).toArray) w := by
  have key : ∀ (F : ResultVar → Sem Value), (∀ t, F (.tmp t) = pure (tmps.getD t undef)) → ∀ (l : List Nat), ((l.map ResultVar.tmp).mapM F).run P w = .ok (l.map fun t => tmps.getD t undef) w := by
    intro F hF l
    induction l with
    | nil => rfl
    | cons t l ih => simp only [List.map_cons, List.mapM_cons, Sem.run_bind, hF, Sem.run_pure, Result.andThen_ok, ih]
  unfold results
  rw [h]
  simp only [List.mapM_toArray, Sem.run_bind, Sem.run_map]
  rw [key _ (fun t => rfl)]
  rfl

/-- Where the own results lie. -/
def outBs (E : Env) (st : St) (m : Nat → Option Nat) : List RK → List Nat → List (Option Nat)
  | .own _ :: r, t :: ts => (match E.rd st t with | .full h => m h | _ => none) :: outBs E st m r ts
  | .val _ :: r, _ :: ts => outBs E st m r ts
  | _, _ => []

section
variable {P : Program} {c : Cx} {E : Env} {st : St} {m : Nat → Option Nat} {a : Act} {w : World}

theorem outA_look (hS : SimM c E st m a w) : ∀ {outs : List RK} {res : List Nat} {y : dens (outs.map RK.sh)}, outA E st outs res = some y → ∀ h ∈ outHs E st outs res, ∃ o, look st.objs h = some o := by
  intro outs
  induction outs with
  | nil => intro res y _ h hh; cases res <;> simp [outHs] at hh
  | cons k outs ih =>
    intro res y hy h hh
    cases res with
    | nil => cases k <;> simp [outA] at hy
    | cons t ts =>
      cases k with
      | val s =>
        simp only [outA] at hy
        split at hy
        · rename_i h1 h2
          exact ih h2 h hh
        · cases hy
      | own s =>
        simp only [outA] at hy
        split at hy
        · rename_i h1 h2
          simp only [outHs] at hh
          split at hh
          · rename_i k hk
            rcases List.mem_cons.1 hh with rfl | hh
            · rw [hk] at h1
              rcases baseOf_spec h1 (by intro h off len hc; cases hc) with ⟨k', h3, h4⟩ | ⟨h3, _⟩
              · cases h3; exact ⟨_, h4⟩
              · cases h3
            · exact ih h2 h hh
          · exact ih h2 h hh
        · cases hy

theorem outBs_mem : ∀ {outs : List RK} {res : List Nat} {b : Nat}, some b ∈ outBs E st m outs res → ∃ h ∈ outHs E st outs res, m h = some b := by
  intro outs
  induction outs with
  | nil => intro res b hb; cases res <;> simp [outBs] at hb
  | cons k outs ih =>
    intro res b hb
    cases res with
    | nil => cases k <;> simp [outBs] at hb
    | cons t ts =>
      cases k with
      | val s => exact ih (by simpa only [outBs] using hb)
      | own s =>
        simp only [outBs, List.mem_cons] at hb
        simp only [outHs]
        rcases hb with hb | hb
        · split at hb
          · rename_i h hh
            exact ⟨h, by rw [hh]; exact List.mem_cons_self, hb.symm⟩
          · cases hb
        · obtain ⟨h, h1, h2⟩ := ih hb
          split
          · exact ⟨h, List.mem_cons_of_mem _ h1, h2⟩
          · exact ⟨h, h1, h2⟩

theorem outBs_dist (hS : SimM c E st m a w) : ∀ {outs : List RK} {res : List Nat} {y : dens (outs.map RK.sh)}, outA E st outs res = some y → (outHs E st outs res).Nodup → Dist (outBs E st m outs res) := by
  intro outs
  induction outs with
  | nil => intro res y _ _; cases res <;> trivial
  | cons k outs ih =>
    intro res y hy hn
    have hlk := outA_look hS hy
    cases res with
    | nil => cases k <;> trivial
    | cons t ts =>
      cases k with
      | val s =>
        simp only [outA] at hy
        split at hy
        · rename_i h1 h2
          exact ih h2 hn
        · cases hy
      | own s =>
        simp only [outA] at hy
        split at hy
        · rename_i h1 h2
          simp only [outHs] at hn hlk
          simp only [outBs]
          split at hn
          · rename_i k hk
            simp only [hk] at hlk ⊢
            rw [List.nodup_cons] at hn
            have hd := ih h2 hn.2
            cases hmk : m k with
            | none => exact hd
            | some b =>
              refine ⟨fun hb => ?_, hd⟩
              obtain ⟨h', h3, h4⟩ := outBs_mem hb
              obtain ⟨o1, q1⟩ := hlk k List.mem_cons_self
              obtain ⟨o2, q2⟩ := hlk h' (List.mem_cons_of_mem _ h3)
              have := hS.inj k h' o1 o2 b (ob_of_look q1) (ob_of_look q2) hmk h4
              subst this
              exact hn.1 h3
          · rename_i hne
            have hd := ih h2 hn
            split
            · rename_i k hk
              exact absurd hk (hne k)
            · exact hd
        · cases hy

theorem outA_res (hS : SimM c E st m a w) (hmu : ∀ b, ¬ c.mu b) {okR : Nat → Prop} (hok : ∀ b, c.ok m (E.ob st) w.heap b → okR b) :
    ∀ {outs : List RK} {res : List Nat} {y : dens (outs.map RK.sh)}, outA E st outs res = some y →
      ResR okR c.B w.heap outs y (res.map fun t => a.tmps.getD t undef) (outBs E st m outs res) := by
  have hokc : ∀ b, c.ok m (E.ob st) w.heap b → okR b ∧ ∀ o, cellH w.heap b o = cellH w.heap b o := fun b hb => ⟨hok b hb, fun _ => rfl⟩
  intro outs
  induction outs with
  | nil =>
    intro res y hy
    cases res with
    | nil => trivial
    | cons t ts => simp [outA] at hy
  | cons k outs ih =>
    intro res y hy
    cases res with
    | nil => cases k <;> simp [outA] at hy
    | cons t ts =>
      cases k with
      | val s =>
        simp only [outA] at hy
        split at hy
        · rename_i x1 x2 h1 h2
          cases hy
          obtain ⟨g1, g2⟩ := gndV_sound (mt := c.mt) (fun b hb => hb) (fun h o hh => by cases hh) hS.objs (fun h o b hh => by cases hh) h1 (hS.rd t)
          exact ⟨⟨RC.mono hokc g1, g2⟩, ih h2⟩
        · cases hy
      | own s =>
        simp only [outA] at hy
        split at hy
        · rename_i h0 x1 x2 h1 h2
          cases hy
          refine ⟨?_, ih h2⟩
          have hr := hS.rd t
          rcases baseOf_spec h1 (by intro h off len; split <;> simp_all) with ⟨k, h3, h4⟩ | ⟨h3, h4⟩
          · have hk : E.rd st t = .full k := by
              split at h3
              · cases h3
              · exact h3
            rw [hk] at hr ⊢
            cases hr with
            | full _ _ hv _ =>
              have hv := hv _ _ (ob_of_look h4)
              have hro := hS.objs k _ (ob_of_look h4)
              unfold SlV at hv
              simp only [RO] at hro
              simp only
              cases hm : m k with
              | none =>
                rw [hm] at hv hro
                exact ⟨hv.1, hro⟩
              | some b =>
                rw [hm] at hv hro
                obtain ⟨o, cp, q1, q2, q3, q4⟩ := hv
                obtain ⟨r1, cs, e, r2, r3, r4⟩ := hro
                refine ⟨r1.resolve_right (hmu b), ⟨cs, e, r2, r3, fun i z hz => ?_⟩, o, cp, q1, q2, fun hne => by simpa using q3 hne, fun n hn => by simpa using q4 n hn⟩
                obtain ⟨l, l1, l2, l3⟩ := r4 i z hz
                exact ⟨l, l1, l2, RC.mono hokc l3⟩
          · have hk : E.rd st t = .nil := by
              split at h3
              · cases h3
              · exact h3
            rw [hk] at hr ⊢
            generalize hu : a.tmps.getD t undef = u at hr
            simp only [List.map_cons, hu]
            cases hr
            exact ⟨rfl, h4⟩
        · cases hy

theorem inSlots_get : ∀ {ins : List Sh} {x : dens ins} {vals : List Value} {ok : Nat → Prop} {H : Array Obj}, ArgR ok H ins x vals →
    (inSlots ins x).length = vals.length ∧ ins.length = vals.length ∧ ∀ (t : Nat) (av : AV), (inSlots ins x)[t]? = some av → ∃ s y v, av = .g s y ∧ vals[t]? = some v ∧ RC ok H s y v.cells.toList ∧ aggV v = s.isAgg := by
  intro ins
  induction ins with
  | nil =>
    intro x vals ok H h
    cases vals with
    | nil => exact ⟨rfl, rfl, fun t av ht => by simp [inSlots] at ht⟩
    | cons v vs => simp [ArgR] at h
  | cons s ins ih =>
    intro x vals ok H h
    cases vals with
    | nil => simp [ArgR] at h
    | cons v vs =>
      obtain ⟨i1, i2, i3⟩ := ih h.2
      refine ⟨by simp [inSlots, i1], by simp [i2], fun t av ht => ?_⟩
      cases t with
      | zero => cases ht; exact ⟨s, _, v, rfl, rfl, h.1.1, h.1.2⟩
      | succ t => simpa using i3 t av (by simpa [inSlots] using ht)

/-- A function's contract from the evaluator's answer. -/
theorem runF_sound {f : FuncId} {fn : Func} {code : Code} {N ntmps : Nat} {tt : Nat → TD} {T : Nat → List Ent} {L : Nat → List (Nat × TK)} {ins : List Sh} {outs : List RK} {res : List Nat}
    (hM : P.follows .mixedOrders = true) (hP : ∀ t, TDok P t (tt t)) (hT : ∀ f, ∀ e ∈ T f, SoundC P f e) (hf : P.funcs[f]? = some fn) (hb : fn.body = some code) (hn : fn.ntmps = ntmps)
    (hname : (fn.name == "runtime.NumGoroutine") = false) (hres : fn.results = (res.map ResultVar.tmp).toArray) (hle : ins.length ≤ ntmps) :
    SoundC P f { ins := ins, outs := outs, F := runF N tt T L ins outs code ntmps res } := by
  intro p w vals x y hp hA hF
  obtain ⟨i1, i2, i3⟩ := inSlots_get hA
  replace i1 : (inSlots ins x).length = vals.length := i1
  replace i2 : ins.length = vals.length := i2
  have hcall : (callFunc f vals.toArray).run P w = .ok (.enter f vals.toArray) w := by
    have h1 : fn.name ≠ "runtime.NumGoroutine" := by simpa using hname
    simp [callFunc, hf, h1, hb]
  unfold CallOk
  rw [hcall]
  simp only
  refine ⟨trivial, calls_of_wp hf hb ?_⟩
  let c : Cx := { n := ntmps, w0 := w, p := p, mu := fun _ => False }
  have hsim : SimM c E0 { slots := inSlots ins x ++ List.replicate (ntmps - ins.length) .top, objs := [] } (fun _ => none)
      { tmps := vals.toArray ++ Array.replicate (fn.ntmps - vals.toArray.size) undef, defers := [] } w := by
    have hlen : (inSlots ins x ++ List.replicate (ntmps - ins.length) AV.top).length = ntmps := by
      simp only [List.length_append, List.length_replicate, i1]
      omega
    refine ⟨rfl, ?_, hlen, ⟨rfl, rfl, rfl, Nat.le_refl _, fun _ _ _ => rfl⟩, fun t av h => ?_, fun t av h => ?_, fun h o ho => ?_, fun h h' o o' b ho => ?_, fun h o ho => ?_⟩
    · rw [hlen, hn]
      simp only [Array.size_append, List.size_toArray, Array.size_replicate]
      omega
    · rw [List.getElem?_append] at h
      split at h
      · rename_i hlt
        obtain ⟨s, z, v, rfl, h2, h3, h4⟩ := i3 t av h
        have hv : (vals.toArray ++ Array.replicate (fn.ntmps - vals.toArray.size) undef).getD t undef = v := by
          rw [Array.getD_eq_getD_getElem?, Array.getElem?_append, if_pos (by simp; omega)]
          simp [h2]
        simp only
        rw [hv]
        refine .g s z v (RC.mono (fun b hb => ⟨⟨hp b hb, fun _ => hb, fun h o ho => by cases ho⟩, fun _ => rfl⟩) h3) h4
      · rw [List.getElem?_replicate] at h
        split at h
        · cases h; exact .top _
        · cases h
    · simp [E0] at h
    · cases ho
    · cases ho
    · cases ho
  refine ex_sound (c := c) hM hP hT code ⟨_, hsim⟩ hF ?_
  rintro e st' a' w' ⟨m, hS⟩ hK
  have fin : cond (nodup (outHs E0 st' outs res)) (outA E0 st' outs res) none = some y → a'.defers = [] ∧ ∃ v, (results fn a'.tmps).run P w' = .ok v w' ∧
      ∃ v', Ending.returned v = .returned v' ∧ ∃ vs bs, valOf vs v' ∧ Below w.heap.size w w' ∧ Dist bs ∧ ResR (okRes p w.heap.size w'.heap.size bs) w.heap.size w'.heap outs y vs bs := by
    intro hK
    obtain ⟨h1, h2⟩ := cond_some hK
    refine ⟨hS.defers, _, results_run hres _ _ _, _, rfl, res.map (fun t => a'.tmps.getD t undef), outBs E0 st' m outs res, ?_, ?_, outBs_dist hS h2 (nodup_spec h1), ?_⟩
    · unfold valOf
      split
      · rename_i u hu
        have one : ∀ l : List Value, l = [u] → (if h : l.toArray.size = 1 then l.toArray[0] else .tuple l.toArray) = u := by
          rintro _ rfl
          rfl
        exact one _ hu
      · rename_i l hne
        rw [dif_neg]
        intro hsz
        simp only [List.size_toArray] at hsz
        match hl : (res.map fun t => a'.tmps.getD t undef), hsz with
        | [u], _ => exact hne u hl
    · exact ⟨hS.kept.os, hS.kept.tape, hS.kept.output, hS.kept.size, fun k hk => hS.kept.block k hk (fun h => h)⟩
    · refine outA_res hS (fun b h => h) (fun b hb => ⟨?_, fun hm => ?_⟩) h2
      · by_cases hlt : b < w.heap.size
        · exact .inl ⟨hlt, hb.2.1 hlt⟩
        · exact .inr ⟨Nat.le_of_not_lt hlt, hb.1⟩
      · obtain ⟨h, q1, q2⟩ := outBs_mem hm
        obtain ⟨o, q3⟩ := outA_look hS h2 h q1
        exact hb.2.2 h o (ob_of_look q3) q2
  cases e with
  | normal => exact fin hK
  | ret => exact fin hK
  | exit id => cases hK

end

end Go.Proofs.Ytgbahgkfjghidaa.Fw
