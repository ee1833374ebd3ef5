/-
  Functions whose results lie in cells: the cells are read behind the body. No condition.
-/
import Derived.Test.YtmdicmdodbndgaaFwS
namespace Go.Proofs.Ytmdicmdodbndgaa.Fw
open Go Go.RowKit

/-- The reading of a result's cell, its value laid where the cell's address stood. -/
def ldOp (s : Nat) (t : TypeId) : Oper := { dst := some s, op := .load t (.tmp s), type := t, pos := "", after := #[], guard := none }

def ldRes {ρ : Type} (tt : Nat → TD) (T : Nat → List EntX) (E : Env) : List (Nat × Nat) → St → (St → Option ρ) → Option ρ
  | [], st, K => K st
  | (s, t) :: r, st, K => aop tt T E false (ldOp s t) st fun st' => ldRes tt T E r st' K

def runC (N : Nat) (tt : Nat → TD) (T : Nat → List EntX) (L : Nat → List (Nat × TK)) (ins : List Sh) (outs : List RK) (body : Code) (ntmps : Nat) (res : List Nat) (cells : List (Nat × Nat))
    (x : dens ins) : Option (dens (outs.map RK.sh)) :=
  cond (ins.all Sh.plain) (ex N tt T L E0 body { slots := inSlots ins x ++ List.replicate (ntmps - ins.length) .top, objs := [] } fun e st =>
    match e with
    | .exit _ => none
    | _ => ldRes tt T E0 cells st fun st' => cond (nodup (outHs E0 st' outs res)) (outA E0 st' (outHs E0 st' outs res) outs res) none) none

def rslot : ResultVar → Nat
  | .tmp t => t
  | .cell s _ => s

def rcells : List ResultVar → List (Nat × Nat)
  | [] => []
  | .tmp _ :: r => rcells r
  | .cell s t :: r => (s, t) :: rcells r

section
variable {P : Program} {tt : Nat → TD} {T : Nat → List EntX} {c : Cx} {E : Env} {ρ : Type} {K : St → Option ρ} {r : ρ}

def Lds (P : Program) (w : World) : List (Nat × Nat) → Act → Act → Prop
  | [], a, a' => a' = a
  | (s, t) :: r, a, a' => ∃ u, (Instr.loadAt t (a.tmps.getD s undef)).run P w = .ok u w ∧ Lds P w r (a.put (some s) u) a'

theorem ldRes_sound (hP : ∀ t, TDok P t (tt t)) {w : World} : ∀ {cells : List (Nat × Nat)} {st : St} {a : Act}, Sim c E st a w → ldRes tt T E cells st K = some r →
    ∃ a', Lds P w cells a a' ∧ Post c E K r a' w := by
  intro cells
  induction cells with
  | nil => intro st a hS h; exact ⟨a, rfl, st, hS, h⟩
  | cons p cells ih =>
    intro st a hS h
    obtain ⟨s, t⟩ := p
    obtain ⟨m, D, hS⟩ := hS
    obtain ⟨u, h1, st', h2, h3⟩ := s_load (o := ldOp s t) hP hS rfl h
    have h2 : Sim c E st' (a.put (some s) u) w := h2
    obtain ⟨a', h4, h5⟩ := ih h2 h3
    refine ⟨a', ⟨u, ?_, h4⟩, h5⟩
    have h6 := h1 w (fun _ => Below.refl _ _)
    unfold execOp ldOp at h6
    simp only [Sem.run_bind] at h6
    change ((Instr.loadAt t (a.tmps.getD s undef)).run P w).andThen _ = _ at h6
    cases hr : (Instr.loadAt t (a.tmps.getD s undef)).run P w with
    | ok v w1 =>
      rw [hr] at h6
      simp only [Result.andThen_ok, Sem.run_pure, Result.ok.injEq, Next.value.injEq] at h6
      obtain ⟨rfl, rfl⟩ := h6
      rfl
    | _ => rw [hr] at h6; cases h6

theorem put_same {a : Act} {s : Nat} {u : Value} (h : s < a.tmps.size) : (a.put (some s) u).tmps.getD s undef = u := by
  simp [Act.put, h]

theorem put_other {a : Act} {s t : Nat} {u : Value} (h : t ≠ s) : (a.put (some s) u).tmps.getD t undef = a.tmps.getD t undef := by
  simp [Act.put, Array.getD_eq_getD_getElem?, Array.getElem?_setIfInBounds, Ne.symm h]

theorem lds_get {w : World} : ∀ {cells : List (Nat × Nat)} {a a' : Act}, (cells.map (·.1)).Nodup → (∀ p ∈ cells, p.1 < a.tmps.size) → Lds P w cells a a' →
    a'.defers = a.defers ∧ (∀ t, t ∉ cells.map (·.1) → a'.tmps.getD t undef = a.tmps.getD t undef) ∧
    ∀ p ∈ cells, (Instr.loadAt p.2 (a.tmps.getD p.1 undef)).run P w = .ok (a'.tmps.getD p.1 undef) w := by
  intro cells
  induction cells with
  | nil => intro a a' _ _ h; cases h; exact ⟨rfl, fun t _ => rfl, fun p hp => by cases hp⟩
  | cons p cells ih =>
    intro a a' hn hl h
    obtain ⟨s, t⟩ := p
    obtain ⟨u, h1, h2⟩ := h
    simp only [List.map_cons, List.nodup_cons] at hn
    have hs := hl (s, t) List.mem_cons_self
    obtain ⟨i1, i2, i3⟩ := ih hn.2 (fun p hp => by simpa [Act.put] using hl p (List.mem_cons_of_mem _ hp)) h2
    refine ⟨i1, fun k hk => ?_, fun p hp => ?_⟩
    · simp only [List.map_cons, List.mem_cons, not_or] at hk
      rw [i2 k hk.2, put_other hk.1]
    · rcases List.mem_cons.1 hp with rfl | hp
      · rw [i2 s hn.1, put_same hs]
        exact h1
      · have hne : p.1 ≠ s := fun e => hn.1 (List.mem_map.2 ⟨p, hp, e⟩)
        have := i3 p hp
        rwa [put_other hne] at this

theorem loadAt_var {t : TypeId} {v u : Value} {w : World} (h : (Instr.loadAt t v).run P w = .ok u w) : (do loadVar t (← asAddr v) : Sem Value).run P w = .ok u w := by
  unfold Instr.loadAt at h
  rw [Sem.run_bind] at h ⊢
  cases v with
  | pointer x =>
    cases x with
    | some x => exact h
    | none => cases h
  | _ => cases h

theorem results_cells {fn : Func} {rs : List ResultVar} {w : World} {a a' : Act} (h : fn.results = rs.toArray) (hn : (rs.map rslot).Nodup) (hl : ∀ p ∈ rcells rs, p.1 < a.tmps.size) (hL : Lds P w (rcells rs) a a') :
    (results fn a.tmps).run P w = .ok (if h : ((rs.map rslot).map fun t => a'.tmps.getD t undef).toArray.size = 1 then ((rs.map rslot).map fun t => a'.tmps.getD t undef).toArray[0]
      else .tuple ((rs.map rslot).map fun t => a'.tmps.getD t undef).toArray) w := by
  have sub : ∀ {l : List ResultVar}, ∀ x ∈ (rcells l).map (·.1), x ∈ l.map rslot := by
    intro l
    induction l with
    | nil => intro x hx; exact hx
    | cons v l ih =>
      intro x hx
      cases v with
      | tmp t => exact List.mem_cons_of_mem _ (ih x hx)
      | cell s t =>
        rcases List.mem_cons.1 hx with rfl | hx
        · exact List.mem_cons_self
        · exact List.mem_cons_of_mem _ (ih x hx)
  have nd : ∀ {l : List ResultVar}, (l.map rslot).Nodup → ((rcells l).map (·.1)).Nodup := by
    intro l
    induction l with
    | nil => intro _; exact List.nodup_nil
    | cons v l ih =>
      intro hh
      simp only [List.map_cons, List.nodup_cons] at hh
      cases v with
      | tmp t => exact ih hh.2
      | cell s t => exact List.nodup_cons.2 ⟨fun hx => hh.1 (sub _ hx), ih hh.2⟩
  obtain ⟨_, g1, g2⟩ := lds_get (nd hn) hl hL
  have notin : ∀ {l : List ResultVar} {t : Nat}, (l.map rslot).Nodup → ResultVar.tmp t ∈ l → t ∉ (rcells l).map (·.1) := by
    intro l
    induction l with
    | nil => intro t _ ht; cases ht
    | cons v l ih =>
      intro t hh ht hx
      simp only [List.map_cons, List.nodup_cons] at hh
      cases v with
      | tmp t' =>
        rcases List.mem_cons.1 ht with e | ht2
        · cases e; exact hh.1 (sub _ hx)
        · exact ih hh.2 ht2 hx
      | cell s t' =>
        rcases List.mem_cons.1 ht with e | ht2
        · cases e
        · rcases List.mem_cons.1 hx with e | hx2
          · exact hh.1 (List.mem_map.2 ⟨_, ht2, e⟩)
          · exact ih hh.2 ht2 hx2
  have incell : ∀ {l : List ResultVar} {s t : Nat}, ResultVar.cell s t ∈ l → (s, t) ∈ rcells l := by
    intro l
    induction l with
    | nil => intro s t h; cases h
    | cons v l ih =>
      intro s t h
      rcases List.mem_cons.1 h with rfl | h2
      · exact List.mem_cons_self
      · cases v with
        | tmp t' => exact ih h2
        | cell s' t' => exact List.mem_cons_of_mem _ (ih h2)
  have key : ∀ (F : ResultVar → Sem Value), (∀ t, F (.tmp t) = pure (a.tmps.getD t undef)) → (∀ s t, F (.cell s t) = (do loadVar t (← asAddr (a.tmps.getD s undef)))) →
      ∀ (l : List ResultVar), (∀ v ∈ l, v ∈ rs) → (l.mapM F).run P w = .ok ((l.map rslot).map fun t => a'.tmps.getD t undef) w := by
    intro F h1 h2 l
    induction l with
    | nil => intro _; rfl
    | cons v l ih =>
      intro hin
      have e : (F v).run P w = .ok (a'.tmps.getD (rslot v) undef) w := by
        cases v with
        | tmp t =>
          rw [h1, Sem.run_pure]
          exact congrArg (fun x => Result.ok x w) (g1 t (notin hn (hin _ List.mem_cons_self))).symm
        | cell s t =>
          rw [h2]
          exact loadAt_var (g2 (s, t) (incell (hin _ List.mem_cons_self)))
      simp only [List.map_cons, List.mapM_cons, Sem.run_bind, e, Sem.run_pure, Result.andThen_ok, ih (fun v hv => hin v (List.mem_cons_of_mem _ hv))]
  unfold results
  rw [h]
  simp only [List.mapM_toArray, Sem.run_bind, Sem.run_map]
  rw [key _ (fun t => rfl) (fun s t => rfl) rs (fun v hv => hv)]
  rfl

/-- A function's contract from the evaluator's answer, results in cells. -/
theorem runC_sound {f : FuncId} {fn : Func} {code : Code} {N ntmps : Nat} {L : Nat → List (Nat × TK)} {ins : List Sh} {outs : List RK} {res : List Nat} {rs : List ResultVar} {cells : List (Nat × Nat)}
    (hM : P.follows .mixedOrders = true) (hP : ∀ t, TDok P t (tt t)) (hT : ∀ f, ∀ e ∈ T f, SoundX P f e) (hf : P.funcs[f]? = some fn) (hb : fn.body = some code) (hn : fn.ntmps = ntmps)
    (hname : (fn.name == "runtime.NumGoroutine") = false) (hres : fn.results = rs.toArray) (h1 : rs.map rslot = res) (h2 : rcells rs = cells) (hnd : res.Nodup) (hlt : ∀ p ∈ cells, p.1 < ntmps) (hle : ins.length ≤ ntmps) :
    SoundC P f { ins := ins, outs := outs, F := runC N tt T L ins outs code ntmps res cells } := by
  intro p w vals x y hp hA hF
  unfold runC at hF
  obtain ⟨hpl, hF⟩ := cond_some hF
  unfold CallOk
  rw [enter_of hf hb hname]
  simp only
  refine ⟨trivial, calls_of_wp hf hb ?_⟩
  have hsim := start_sim (fn := fn) hn hp hA hpl hle [] (.inl rfl)
  refine ex_sound (c := { n := ntmps, w0 := w, p := p, mu := fun _ => False, D := fun _ => False, v0 := fun t => vals.getD t undef }) hM hP hT code ⟨_, _, hsim⟩ hF ?_
  rintro e st0 a0 w' hS0 hK0
  have fin : ldRes tt T E0 cells st0 (fun st' => cond (nodup (outHs E0 st' outs res)) (outA E0 st' (outHs E0 st' outs res) outs res) none) = some y → a0.defers = [] ∧ ∃ v, (results fn a0.tmps).run P w' = .ok v w' ∧
      ∃ v', Ending.returned v = .returned v' ∧ ∃ vs bs, valOf vs v' ∧ Below w.heap.size w w' ∧ Dist bs ∧ ResR (okRes p w.heap.size w'.heap bs) w.heap.size w'.heap outs y vs bs := by
    intro hK0
    obtain ⟨m0, D0, hS0'⟩ := hS0
    obtain ⟨a', hL, st', ⟨m, D, hS⟩, hK⟩ := ldRes_sound hP ⟨m0, D0, hS0'⟩ hK0
    subst h1
    subst h2
    have hrun := results_cells (P := P) (fn := fn) (rs := rs) (w := w') (a := a0) (a' := a') hres hnd (fun p hp => by
      have := hS0'.size
      rw [hS0'.num] at this
      rw [this]
      exact hlt p hp) hL
    obtain ⟨k1, k2, k3⟩ := end_sim (fn := fn) (w := w) hS hK
    exact ⟨hS0'.defers, _, hrun, _, rfl, (rs.map rslot).map (fun t => a'.tmps.getD t undef), outBs E0 st' m outs (rs.map rslot), valOf_res, k1, k2, k3⟩
  cases e with
  | normal => exact fin hK0
  | ret => exact fin hK0
  | exit id => cases hK0
end

end Go.Proofs.Ytmdicmdodbndgaa.Fw
