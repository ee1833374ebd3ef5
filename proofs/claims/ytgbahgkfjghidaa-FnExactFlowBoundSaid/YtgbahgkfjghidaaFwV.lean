/-
  Functions whose results lie in cells: the cells are read behind the body. No condition.
-/
import Derived.Test.YtgbahgkfjghidaaFwS
namespace Go.Proofs.Ytgbahgkfjghidaa.Fw
open Go Go.RowKit

/-- The reading of a result's cell, its value laid where the cell's address stood. -/
def ldOp (s : Nat) (t : TypeId) : Oper := { dst := some s, op := .load t (.tmp s), type := t, pos := "", after := #[], guard := none }

def ldRes {ρ : Type} (tt : Nat → TD) (T : Nat → List Ent) (E : Env) : List (Nat × Nat) → St → (St → Option ρ) → Option ρ
  | [], st, K => K st
  | (s, t) :: r, st, K => aop tt T E false (ldOp s t) st fun st' => ldRes tt T E r st' K

def runC (N : Nat) (tt : Nat → TD) (T : Nat → List Ent) (L : Nat → List (Nat × TK)) (ins : List Sh) (outs : List RK) (body : Code) (ntmps : Nat) (res : List Nat) (cells : List (Nat × Nat))
    (x : dens ins) : Option (dens (outs.map RK.sh)) :=
  ex N tt T L E0 body { slots := inSlots ins x ++ List.replicate (ntmps - ins.length) .top, objs := [] } fun e st =>
    match e with
    | .exit _ => none
    | _ => ldRes tt T E0 cells st fun st' => cond (nodup (outHs E0 st' outs res)) (outA E0 st' outs res) none

def rslot : ResultVar → Nat
  | .tmp t => t
  | .cell s _ => s

def rcells : List ResultVar → List (Nat × Nat)
  | [] => []
  | .tmp _ :: r => rcells r
  | .cell s t :: r => (s, t) :: rcells r

section
variable {P : Program} {tt : Nat → TD} {T : Nat → List Ent} {c : Cx} {E : Env} {ρ : Type} {K : St → Option ρ} {r : ρ}

def Lds (P : Program) (w : World) : List (Nat × Nat) → Act → Act → Prop
  | [], a, a' => a' = a
  | (s, t) :: r, a, a' => ∃ u, (Instr.loadAt t (a.tmps.getD s undef)).run P w = .ok u w ∧ Lds P w r (a.put (some s) u) a'

theorem ldRes_sound (hP : ∀ t, TDok P t (tt t)) {w : World} : ∀ {cells : List (Nat × Nat)} {st : St} {a : Act}, Sim c E st a w → ldRes tt T E cells st K = some r →
    ∃ a', Lds P w cells a a' ∧ Post c E K r a' w := by
  intro cells
  induction cells with
  | nil => intro st a hS h; exact ⟨a, rfl, st, hS, h⟩
  | cons p cells ih =>
    intro st a hS h
    obtain ⟨s, t⟩ := p
    obtain ⟨m, hS⟩ := hS
    obtain ⟨u, h1, st', h2, h3⟩ := s_load (o := ldOp s t) hP hS rfl h
    obtain ⟨a', h4, h5⟩ := ih h2 h3
    refine ⟨a', ⟨u, ?_, h4⟩, h5⟩
    have h6 := h1 w (Below.refl _ _)
    unfold execOp ldOp at h6
    simp only [Sem.run_bind] at h6
    change ((Instr.loadAt t (a.tmps.getD s undef)).run P w).andThen _ = _ at h6
    cases hr : (Instr.loadAt t (a.tmps.getD s undef)).run P w with
    | ok v w1 =>
      rw [hr] at h6
      simp only [Result.andThen_ok, Sem.run_pure, Result.ok.injEq, Next.value.injEq] at h6
      obtain ⟨rfl, rfl⟩ := h6
      rfl
    | _ => rw [hr] at h6; cases h6

theorem put_same {a : Act} {s : Nat} {u : Value} (h : s < a.tmps.size) : (a.put (some s) u).tmps.getD s undef = u := by
  simp [Act.put, h]

theorem put_other {a : Act} {s t : Nat} {u : Value} (h : t ≠ s) : (a.put (some s) u).tmps.getD t undef = a.tmps.getD t undef := by
  simp [Act.put, Array.getD_eq_getD_getElem?, Array.getElem?_setIfInBounds, Ne.symm h]

theorem lds_get {w : World} : ∀ {cells : List (Nat × Nat)} {a a' : Act}, (cells.map (·.1)).Nodup → (∀ p ∈ cells, p.1 < a.tmps.size) → Lds P w cells a a' →
    a'.defers = a.defers ∧ (∀ t, t ∉ cells.map (·.1) → a'.tmps.getD t undef = a.tmps.getD t undef) ∧
    ∀ p ∈ cells, (Instr.loadAt p.2 (a.tmps.getD p.1 undef)).run P w = .ok (a'.tmps.getD p.1 undef) w := by
  intro cells
  induction cells with
  | nil => intro a a' _ _ h; cases h; exact ⟨rfl, fun t _ => rfl, fun p hp => by cases hp⟩
  | cons p cells ih =>
    intro a a' hn hl h
    obtain ⟨s, t⟩ := p
    obtain ⟨u, h1, h2⟩ := h
    simp only [List.map_cons, List.nodup_cons] at hn
    have hs := hl (s, t) List.mem_cons_self
    obtain ⟨i1, i2, i3⟩ := ih hn.2 (fun p hp => by simpa [Act.put] using hl p (List.mem_cons_of_mem _ hp)) h2
    refine ⟨i1, fun k hk => ?_, fun p hp => ?_⟩
    · simp only [List.map_cons, List.mem_cons, not_or] at hk
      rw [i2 k hk.2, put_other hk.1]
    · rcases List.mem_cons.1 hp with rfl | hp
      · rw [i2 s hn.1, put_same hs]
        exact h1
      · have hne : p.1 ≠ s := fun e => hn.1 (List.mem_map.2 ⟨p, hp, e⟩)
        have := i3 p hp
        rwa [put_other hne] at this

theorem loadAt_var {t : TypeId} {v u : Value} {w : World} (h : (Instr.loadAt t v).run P w = .ok u w) : (do loadVar t (← asAddr v) : Sem Value).run P w = .ok u w := by
  unfold Instr.loadAt at h
  rw [Sem.run_bind] at h ⊢
  cases v with
  | pointer x =>
    cases x with
    | some x => exact h
    | none => cases h
  | _ => cases h

theorem results_cells {fn : Func} {rs : List ResultVar} {w : World} {a a' : Act} (h : fn.results = rs.toArray) (hn : (rs.map rslot).Nodup) (hl : ∀ p ∈ rcells rs, p.1 < a.tmps.size) (hL : Lds P w (rcells rs) a a') :
    (results fn a.tmps).run P w = .ok (if h : ((rs.map rslot).map fun t => a'.tmps.getD t undef).toArray.size = 1 then ((rs.map rslot).map fun t => a'.tmps.getD t undef).toArray[0]
      else .tuple ((rs.map rslot).map fun t => a'.tmps.getD t undef).toArray) w := by
  have sub : ∀ {l : List ResultVar}, ∀ x ∈ (rcells l).map (·.1), x ∈ l.map rslot := by
    intro l
    induction l with
    | nil => intro x hx; exact hx
    | cons v l ih =>
      intro x hx
      cases v with
      | tmp t => exact List.mem_cons_of_mem _ (ih x hx)
      | cell s t =>
        rcases List.mem_cons.1 hx with rfl | hx
        · exact List.mem_cons_self
        · exact List.mem_cons_of_mem _ (ih x hx)
  have nd : ∀ {l : List ResultVar}, (l.map rslot).Nodup → ((rcells l).map (·.1)).Nodup := by
    intro l
    induction l with
    | nil => intro _; exact List.nodup_nil
    | cons v l ih =>
      intro hh
      simp only [List.map_cons, List.nodup_cons] at hh
      cases v with
      | tmp t => exact ih hh.2
      | cell s t => exact List.nodup_cons.2 ⟨fun hx => hh.1 (sub _ hx), ih hh.2⟩
  obtain ⟨_, g1, g2⟩ := lds_get (nd hn) hl hL
  have notin : ∀ {l : List ResultVar} {t : Nat}, (l.map rslot).Nodup → ResultVar.tmp t ∈ l → t ∉ (rcells l).map (·.1) := by
    intro l
    induction l with
    | nil => intro t _ ht; cases ht
    | cons v l ih =>
      intro t hh ht hx
      simp only [List.map_cons, List.nodup_cons] at hh
      cases v with
      | tmp t' =>
        rcases List.mem_cons.1 ht with e | ht2
        · cases e; exact hh.1 (sub _ hx)
        · exact ih hh.2 ht2 hx
      | cell s t' =>
        rcases List.mem_cons.1 ht with e | ht2
        · cases e
        · rcases List.mem_cons.1 hx with e | hx2
          · exact hh.1 (List.mem_map.2 ⟨_, ht2, e⟩)
          · exact ih hh.2 ht2 hx2
  have incell : ∀ {l : List ResultVar} {s t : Nat}, ResultVar.cell s t ∈ l → (s, t) ∈ rcells l := by
    intro l
    induction l with
    | nil => intro s t h; cases h
    | cons v l ih =>
      intro s t h
      rcases List.mem_cons.1 h with rfl | h2
      · exact List.mem_cons_self
      · cases v with
        | tmp t' => exact ih h2
        | cell s' t' => exact List.mem_cons_of_mem _ (ih h2)
  have key : ∀ (F : ResultVar → Sem Value), (∀ t, F (.tmp t) = pure (a.tmps.getD t undef)) → (∀ s t, F (.cell s t) = (do loadVar t (← asAddr (a.tmps.getD s undef)))) →
      ∀ (l : List ResultVar), (∀ v ∈ l, v ∈ rs) → (l.mapM F).run P w = .ok ((l.map rslot).map fun t => a'.tmps.getD t undef) w := by
    intro F h1 h2 l
    induction l with
    | nil => intro _; rfl
    | cons v l ih =>
      intro hin
      have e : (F v).run P w = .ok (a'.tmps.getD (rslot v) undef) w := by
        cases v with
        | tmp t =>
          rw [h1, Sem.run_pure]
          exact congrArg (fun x => Result.ok x w) (g1 t (notin hn (hin _ List.mem_cons_self))).symm
        | cell s t =>
          rw [h2]
          exact loadAt_var (g2 (s, t) (incell (hin _ List.mem_cons_self)))
      simp only [List.map_cons, List.mapM_cons, Sem.run_bind, e, Sem.run_pure, Result.andThen_ok, ih (fun v hv => hin v (List.mem_cons_of_mem _ hv))]
  unfold results
  rw [h]
  simp only [List.mapM_toArray, Sem.run_bind, Sem.run_map]
  rw [key _ (fun t => rfl) (fun s t => rfl) rs (fun v hv => hv)]
  rfl

/-- A function's contract from the evaluator's answer, results in cells. -/
theorem runC_sound {f : FuncId} {fn : Func} {code : Code} {N ntmps : Nat} {L : Nat → List (Nat × TK)} {ins : List Sh} {outs : List RK} {res : List Nat} {rs : List ResultVar} {cells : List (Nat × Nat)}
    (hM : P.follows .mixedOrders = true) (hP : ∀ t, TDok P t (tt t)) (hT : ∀ f, ∀ e ∈ T f, SoundC P f e) (hf : P.funcs[f]? = some fn) (hb : fn.body = some code) (hn : fn.ntmps = ntmps)
    (hname : (fn.name == "runtime.NumGoroutine") = false) (hres : fn.results = rs.toArray) (h1 : rs.map rslot = res) (h2 : rcells rs = cells) (hnd : res.Nodup) (hlt : ∀ p ∈ cells, p.1 < ntmps) (hle : ins.length ≤ ntmps) :
    SoundC P f { ins := ins, outs := outs, F := runC N tt T L ins outs code ntmps res cells } := by
  intro p w vals x y hp hA hF
  obtain ⟨i1, i2, i3⟩ := inSlots_get hA
  replace i1 : (inSlots ins x).length = vals.length := i1
  replace i2 : ins.length = vals.length := i2
  have hcall : (callFunc f vals.toArray).run P w = .ok (.enter f vals.toArray) w := by
    have h1 : fn.name ≠ "runtime.NumGoroutine" := by simpa using hname
    simp [callFunc, hf, h1, hb]
  unfold CallOk
  rw [hcall]
  simp only
  refine ⟨trivial, calls_of_wp hf hb ?_⟩
  let c : Cx := { n := ntmps, w0 := w, p := p, mu := fun _ => False }
  have hsim : SimM c E0 { slots := inSlots ins x ++ List.replicate (ntmps - ins.length) .top, objs := [] } (fun _ => none)
      { tmps := vals.toArray ++ Array.replicate (fn.ntmps - vals.toArray.size) undef, defers := [] } w := by
    have hlen : (inSlots ins x ++ List.replicate (ntmps - ins.length) AV.top).length = ntmps := by
      simp only [List.length_append, List.length_replicate, i1]
      omega
    refine ⟨rfl, ?_, hlen, ⟨rfl, rfl, rfl, Nat.le_refl _, fun _ _ _ => rfl⟩, fun t av h => ?_, fun t av h => ?_, fun h o ho => ?_, fun h h' o o' b ho => ?_, fun h o ho => ?_⟩
    · rw [hlen, hn]
      simp only [Array.size_append, List.size_toArray, Array.size_replicate]
      omega
    · rw [List.getElem?_append] at h
      split at h
      · rename_i hlt
        obtain ⟨s, z, v, rfl, h2, h3, h4⟩ := i3 t av h
        have hv : (vals.toArray ++ Array.replicate (fn.ntmps - vals.toArray.size) undef).getD t undef = v := by
          rw [Array.getD_eq_getD_getElem?, Array.getElem?_append, if_pos (by simp; omega)]
          simp [h2]
        simp only
        rw [hv]
        refine .g s z v (RC.mono (fun b hb => ⟨⟨hp b hb, fun _ => hb, fun h o ho => by cases ho⟩, fun _ => rfl⟩) h3) h4
      · rw [List.getElem?_replicate] at h
        split at h
        · cases h; exact .top _
        · cases h
    · simp [E0] at h
    · cases ho
    · cases ho
    · cases ho
  refine ex_sound (c := c) hM hP hT code ⟨_, hsim⟩ hF ?_
  rintro e st0 a0 w' hS0 hK0
  have fin : ldRes tt T E0 cells st0 (fun st' => cond (nodup (outHs E0 st' outs res)) (outA E0 st' outs res) none) = some y → a0.defers = [] ∧ ∃ v, (results fn a0.tmps).run P w' = .ok v w' ∧
      ∃ v', Ending.returned v = .returned v' ∧ ∃ vs bs, valOf vs v' ∧ Below w.heap.size w w' ∧ Dist bs ∧ ResR (okRes p w.heap.size w'.heap.size bs) w.heap.size w'.heap outs y vs bs := by
    intro hK0
    obtain ⟨m0, hS0'⟩ := hS0
    obtain ⟨a', hL, st', ⟨m, hS⟩, hK⟩ := ldRes_sound hP ⟨m0, hS0'⟩ hK0
    obtain ⟨h3, h4⟩ := cond_some hK
    subst h1
    subst h2
    have hrun := results_cells (P := P) (fn := fn) (rs := rs) (w := w') (a := a0) (a' := a') hres hnd (fun p hp => by
      have := hS0'.size
      rw [hS0'.num] at this
      rw [this]
      exact hlt p hp) hL
    refine ⟨hS0'.defers, _, hrun, _, rfl, (rs.map rslot).map (fun t => a'.tmps.getD t undef), outBs E0 st' m outs (rs.map rslot), ?_, ?_, outBs_dist hS h4 (nodup_spec h3), ?_⟩
    · unfold valOf
      split
      · rename_i u hu
        have one : ∀ l : List Value, l = [u] → (if h : l.toArray.size = 1 then l.toArray[0] else .tuple l.toArray) = u := by
          rintro _ rfl
          rfl
        exact one _ hu
      · rename_i l hne
        rw [dif_neg]
        intro hsz
        simp only [List.size_toArray] at hsz
        match hl : ((rs.map rslot).map fun t => a'.tmps.getD t undef), hsz with
        | [u], _ => exact hne u hl
    · exact ⟨hS.kept.os, hS.kept.tape, hS.kept.output, hS.kept.size, fun k hk => hS.kept.block k hk (fun h => h)⟩
    · refine outA_res hS (fun b h => h) (fun b hb => ⟨?_, fun hm => ?_⟩) h4
      · by_cases hlt : b < w.heap.size
        · exact .inl ⟨hlt, hb.2.1 hlt⟩
        · exact .inr ⟨Nat.le_of_not_lt hlt, hb.1⟩
      · obtain ⟨h, q1, q2⟩ := outBs_mem hm
        obtain ⟨o, q3⟩ := outA_look hS h4 h q1
        exact hb.2.2 h o (ob_of_look q3) q2
  cases e with
  | normal => exact fin hK0
  | ret => exact fin hK0
  | exit id => cases hK0
end

end Go.Proofs.Ytgbahgkfjghidaa.Fw
