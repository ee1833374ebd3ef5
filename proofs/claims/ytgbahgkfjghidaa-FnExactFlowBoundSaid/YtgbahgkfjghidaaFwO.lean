/-
  Steps of the evaluator are steps of the model, twelfth part: every operation; regions. No condition.
-/
import Derived.Test.YtgbahgkfjghidaaFwN
namespace Go.Proofs.Ytgbahgkfjghidaa.Fw
open Go Go.RowKit

section
variable {P : Program} {tt : Nat → TD} {T : Nat → List Ent} {q : Bool} {c : Cx} {E : Env} {st : St} {m : Nat → Option Nat} {a : Act} {w : World} {ρ : Type} {K : St → Option ρ} {r : ρ} {o : Oper}

theorem s_callF {f : Operand} {args : Array Operand} {ats : Array TypeId} (hT : ∀ f, ∀ e ∈ T f, SoundC P f e) (hS : SimM c E st m a w) (hop : o.op = .call { callee := .value f, args := args, argTypes := ats })
    (h : aop tt T E q o st K = some r) : Done P c E K r o a w := by
  simp only [aop, hop] at h
  split at h
  · rename_i g caps he
    have hf := hS.ev f
    rw [he] at hf
    generalize hu : a.eval f = u at hf
    cases hf with
    | fn _ _ vs hs hv ho =>
      have hc := doCall_sound (o := o) hS (f := g) (args := args.toList.map (E.ev st) ++ caps) (vals := (args.map a.eval).toList ++ vs.toList) (by simp [hs]) (fun i av v h1 h2 => ?_) (hT g) h
      · have hrun : (execOp a.eval o).run P w = (callFunc g (args.map a.eval ++ vs)).run P w := by
          unfold execOp
          simp only [hop, resolve, Deferred.ofValue, hu, invoke]
          simp
        have harr : ((args.map a.eval).toList ++ vs.toList).toArray = args.map a.eval ++ vs := by
          apply Array.ext'
          simp
        rw [harr] at hc
        refine .inr ?_
        unfold Oper.wp
        rw [hrun]
        unfold CallOk at hc
        split at hc
        · rename_i k ar w1 hr
          rw [hr]
          exact hc.2.mono fun e w' ⟨v, h1, h2⟩ => by subst h1; exact h2
        · rename_i v w1 hr
          rw [hr]
          exact hc.2
        · exact hc.elim
      · rw [List.getElem?_append] at h1 h2
        simp only [List.length_map, Array.length_toList, Array.size_map] at h1 h2
        split at h1
        · rename_i hi
          rw [if_pos hi] at h2
          rw [List.getElem?_map, Array.getElem?_toList] at h1
          rw [Array.getElem?_toList, Array.getElem?_map] at h2
          cases hx : args[i]? with
          | none => rw [hx] at h1; cases h1
          | some x =>
            rw [hx] at h1 h2
            cases h1
            cases h2
            exact hS.ev x
        · rename_i hi
          rw [if_neg hi] at h2
          exact hv _ av v h1 (by simpa using h2)
  · cases h

theorem evs_sound (hS : SimM c E st m a w) (args : Array Operand) (i : Nat) (av : AV) (h : (args.toList.map (E.ev st))[i]? = some av) : ∃ x, args[i]? = some x ∧ RVs c E st m w av (a.eval x) := by
  rw [List.getElem?_map, Array.getElem?_toList] at h
  cases hx : args[i]? with
  | none => rw [hx] at h; cases h
  | some x =>
    rw [hx] at h
    cases h
    exact ⟨x, rfl, hS.ev x⟩

theorem foldI_max {k : IntKind} {l : List AV} : ∀ {vs : List Value} {x y : Int}, l.length = vs.length → (∀ (i : Nat) (av : AV) (v : Value), l[i]? = some av → vs[i]? = some v → RVs c E st m w av v) → allKind k l = true → foldI imax x l = some y →
    ∀ w', (vs.foldlM Builtin.max2 (.int k x)).run P w' = .ok (.int k y) w' := by
  induction l with
  | nil => intro vs x y hl _ _ h; cases vs with
    | nil => cases h; intro w'; rfl
    | cons v vs => simp at hl
  | cons b l ih =>
    intro vs x y hl hv hk h
    cases vs with
    | nil => simp at hl
    | cons v vs =>
      have h0 := hv 0 b v rfl rfl
      unfold allKind at hk
      split at hk
      · rename_i heq; cases heq
      · rename_i k' n r' heq
        cases heq
        simp only [Bool.and_eq_true, decide_eq_true_eq] at hk
        obtain ⟨rfl, hk⟩ := hk
        have := g_int h0
        subst this
        simp only [foldI] at h
        intro w'
        simp only [List.foldlM_cons, Sem.run_bind, Builtin.max2, Sem.run_pure, Result.andThen_ok]
        exact ih (by simpa using hl) (fun i av u h1 h2 => hv (i + 1) av u (by simpa using h1) (by simpa using h2)) hk h w'
      · cases hk

theorem foldI_min {k : IntKind} {l : List AV} : ∀ {vs : List Value} {x y : Int}, l.length = vs.length → (∀ (i : Nat) (av : AV) (v : Value), l[i]? = some av → vs[i]? = some v → RVs c E st m w av v) → allKind k l = true → foldI imin x l = some y →
    ∀ w', (vs.foldlM Builtin.min2 (.int k x)).run P w' = .ok (.int k y) w' := by
  induction l with
  | nil => intro vs x y hl _ _ h; cases vs with
    | nil => cases h; intro w'; rfl
    | cons v vs => simp at hl
  | cons b l ih =>
    intro vs x y hl hv hk h
    cases vs with
    | nil => simp at hl
    | cons v vs =>
      have h0 := hv 0 b v rfl rfl
      unfold allKind at hk
      split at hk
      · rename_i heq; cases heq
      · rename_i k' n r' heq
        cases heq
        simp only [Bool.and_eq_true, decide_eq_true_eq] at hk
        obtain ⟨rfl, hk⟩ := hk
        have := g_int h0
        subst this
        simp only [foldI] at h
        intro w'
        simp only [List.foldlM_cons, Sem.run_bind, Builtin.min2, Sem.run_pure, Result.andThen_ok]
        exact ih (by simpa using hl) (fun i av u h1 h2 => hv (i + 1) av u (by simpa using h1) (by simpa using h2)) hk h w'
      · cases hk

theorem s_builtin {b : Builtin} {args : Array Operand} {ats : Array TypeId} (hP : ∀ t, TDok P t (tt t)) (hS : SimM c E st m a w) (hop : o.op = .call { callee := .builtin b, args := args, argTypes := ats })
    (h : aop tt T E q o st K = some r) : DoneQ P c E K r o a w := by
  simp only [aop, hop] at h
  have hval : (args.map a.eval).toList = args.toList.map a.eval := by simp
  split at h
  · rename_i x hx
    split at h
    · rename_i t ht
      split at h
      · rename_i x0 n he hn
        obtain ⟨s, by0⟩ := x0
        obtain ⟨e, inf, hu, _⟩ := (hP _).elem _ _ he
        obtain ⟨y, hy, hyx⟩ := evs_sound hS args 0 x (by rw [hx]; rfl)
        obtain ⟨A, cp, hv⟩ := lenOf_sound hS hyx hn
        refine done_v hS (u := .int .i64 n) (fun w' hb => ?_) mk_int h
        unfold execOp
        simp only [hop, resolve, invoke, builtin, Builtin.len_]
        simp [ht, hy, hv, run_underlying hu, goInt]
      · cases h
    · cases h
  · rename_i k x l hx
    obtain ⟨hk, h'⟩ := cond_some h
    split at h'
    · rename_i y hy
      match hargs : args.toList, hx with
      | [], hx => simp at hx
      | p :: ps, hx =>
        simp only [List.map_cons, List.cons.injEq] at hx
        have h1 := hS.ev p
        rw [hx.1] at h1
        have h1 := g_int h1
        have hf := foldI_max (P := P) (c := c) (E := E) (st := st) (m := m) (w := w) (vs := ps.map a.eval) (l := l) (x := x) (by rw [← hx.2]; simp) (fun i av v h2 h3 => by
          rw [← hx.2, List.getElem?_map] at h2
          rw [List.getElem?_map] at h3
          cases hp : ps[i]? with
          | none => rw [hp] at h2; cases h2
          | some z =>
            rw [hp] at h2 h3
            cases h2
            cases h3
            exact hS.ev z) hk hy
        refine done_v hS (u := .int k y) (fun w' hb => ?_) mk_int h'
        unfold execOp
        simp only [hop, resolve, invoke, builtin, Builtin.max_]
        have hml : args.toList.map a.eval = .int k x :: ps.map a.eval := by simp [hargs, h1]
        simp [hml, hf]
    · cases h'
  · rename_i k x l hx
    obtain ⟨hk, h'⟩ := cond_some h
    split at h'
    · rename_i y hy
      match hargs : args.toList, hx with
      | [], hx => simp at hx
      | p :: ps, hx =>
        simp only [List.map_cons, List.cons.injEq] at hx
        have h1 := hS.ev p
        rw [hx.1] at h1
        have h1 := g_int h1
        have hf := foldI_min (P := P) (c := c) (E := E) (st := st) (m := m) (w := w) (vs := ps.map a.eval) (l := l) (x := x) (by rw [← hx.2]; simp) (fun i av v h2 h3 => by
          rw [← hx.2, List.getElem?_map] at h2
          rw [List.getElem?_map] at h3
          cases hp : ps[i]? with
          | none => rw [hp] at h2; cases h2
          | some z =>
            rw [hp] at h2 h3
            cases h2
            cases h3
            exact hS.ev z) hk hy
        refine done_v hS (u := .int k y) (fun w' hb => ?_) mk_int h'
        unfold execOp
        simp only [hop, resolve, invoke, builtin, Builtin.min_]
        have hml : args.toList.map a.eval = .int k x :: ps.map a.eval := by simp [hargs, h1]
        simp [hml, hf]
    · cases h'
  · cases h

/-- Every operation. -/
theorem aop_sound (hP : ∀ t, TDok P t (tt t)) (hT : ∀ f, ∀ e ∈ T f, SoundC P f e) (hS : SimM c E st m a w) (h : aop tt T E q o st K = some r) : Done P c E K r o a w := by
  cases hop : o.op with
  | move x => exact .inl (s_move hS hop h)
  | assign x => exact .inl (s_assign hS hop h)
  | pick x y z => exact .inl (s_pick hS hop h)
  | binOp op t x y u => exact .inl (s_binOp hP hS hop h)
  | unOp op t x => exact .inl (s_unOp hS hop h)
  | convert s d x => exact .inl (s_convert hP hS hop h)
  | extract x i => exact .inl (s_extract hS hop h)
  | nilCheck x => exact .inl (s_nilCheck hS hop h)
  | indexAddr t x i => exact .inl (s_indexAddr hP hS hop h)
  | fieldAddr t x f => exact .inl (s_fieldAddr hP hS hop h)
  | field t x f => exact .inl (s_field hP hS hop h)
  | load t x => exact .inl (s_load hP hS hop h)
  | store t x y => exact s_store hP hS hop h
  | alloc t => exact s_alloc hP hS hop h
  | box t x => exact s_box hS hop h
  | makeSlice t l cp => exact s_makeSlice hP hS hop h
  | slice t x lo hi mx =>
    cases mx with
    | none => exact .inl (s_slice hP hS hop h)
    | some _ => simp [aop, hop] at h
  | build t parts => exact .inl (s_build hP hS hop h)
  | makeFunc fn fi ca =>
    cases fn with
    | func f => exact .inl (s_makeFunc hS hop h)
    | _ => simp [aop, hop] at h
  | call cl =>
    obtain ⟨callee, args, ats⟩ := cl
    cases callee with
    | builtin b => exact .inl (s_builtin hP hS hop h)
    | value f => exact s_callF hT hS hop h
    | invoke _ _ => simp [aop, hop] at h
  | _ => simp [aop, hop] at h

/-- The cells of a plain value that tells them. -/
def detC : (s : Sh) → s.den → List Value
  | .int k, n => [.int k n]
  | .bool, b => [.bool b]
  | .pair a b, x => detC a x.1 ++ detC b x.2
  | _, _ => []

theorem RC_det {ok : Nat → Prop} {H : Array Obj} : ∀ {s : Sh} {x : s.den} {cs : List Value}, s.det = true → RC ok H s x cs → cs = detC s x := by
  intro s
  induction s with
  | int k => intro x cs _ h; simpa [RC, detC] using h
  | bool => intro x cs _ h; simpa [RC, detC] using h
  | pair a b iha ihb =>
    intro x cs hd h
    simp only [Sh.det, Bool.and_eq_true] at hd
    simp only [RC] at h
    obtain ⟨c1, c2, rfl, h1, h2⟩ := h
    rw [iha hd.1 h1, ihb hd.2 h2]
    rfl
  | _ => intro x cs hd; simp [Sh.det] at hd

theorem det_val {s : Sh} {v v' : Value} (h : v.cells.toList = v'.cells.toList) (h1 : aggV v = s.isAgg) (h2 : aggV v' = s.isAgg) : v = v' := by
  cases hs : s.isAgg with
  | true =>
    rw [hs] at h1 h2
    obtain ⟨a, rfl⟩ := agg_cells h1
    obtain ⟨b, rfl⟩ := agg_cells h2
    simp only [Value.cells] at h
    rw [Array.toList_inj.1 h]
  | false =>
    rw [hs] at h1 h2
    rw [cells_one h1, cells_one h2] at h
    simpa using h

theorem ResR_det {ok ok' : Nat → Prop} {B B' : Nat} {H H' : Array Obj} : ∀ {outs : List RK} {y : dens (outs.map RK.sh)} {vs vs' : List Value} {bs bs' : List (Option Nat)}, outs.all RK.det = true →
    ResR ok B H outs y vs bs → ResR ok' B' H' outs y vs' bs' → vs = vs' := by
  intro outs
  induction outs with
  | nil => intro y vs vs' bs bs' _ h h'; cases vs <;> cases bs <;> cases vs' <;> cases bs' <;> simp_all [ResR]
  | cons k outs ih =>
    intro y vs vs' bs bs' hd h h'
    simp only [List.all_cons, Bool.and_eq_true] at hd
    cases k with
    | own s => simp [RK.det] at hd
    | val s =>
      cases vs with
      | nil => simp [ResR] at h
      | cons v vs =>
        cases vs' with
        | nil => simp [ResR] at h'
        | cons v' vs' =>
          have h1 := RC_det hd.1 h.1.1
          have h2 := RC_det hd.1 h'.1.1
          rw [det_val (s := s) (h1.trans h2.symm) h.1.2 h'.1.2, ih hd.2 h.2 h'.2]

theorem SimM.below (hS : SimM c E st m a w) {w' : World} (hb : Below w.heap.size w w') : SimM c E st m a w' := by
  have := (hS.grow hb (l := []) (bs := []) (by rfl) trivial (okN := fun _ => False) trivial (fun b hb => hb.elim)).1
  exact this

theorem ResR_noOwn {ok : Nat → Prop} {B : Nat} {H : Array Obj} : ∀ {outs : List RK} {y : dens (outs.map RK.sh)} {vs : List Value} {bs : List (Option Nat)} {base : Nat}, outs.all RK.det = true → ResR ok B H outs y vs bs → (resA base outs y).2 = [] ∧ bs = [] := by
  intro outs
  induction outs with
  | nil => intro y vs bs base _ h; cases vs <;> cases bs <;> simp_all [ResR, resA]
  | cons k outs ih =>
    intro y vs bs base hd h
    simp only [List.all_cons, Bool.and_eq_true] at hd
    cases k with
    | own s => simp [RK.det] at hd
    | val s =>
      cases vs with
      | nil => simp [ResR] at h
      | cons v vs =>
        obtain ⟨h1, h2⟩ := ih (base := base + 10000) hd.2 h.2
        exact ⟨by simpa [resA] using h1, h2⟩

theorem valOf_inj {vs : List Value} {v v' : Value} (h : valOf vs v) (h' : valOf vs v') : v = v' := by
  match vs, h, h' with
  | [u], h, h' =>
    have h1 : v = u := h
    have h2 : v' = u := h'
    exact h1.trans h2.symm
  | [], h, h' =>
    have h1 : v = .tuple #[] := h
    have h2 : v' = .tuple #[] := h'
    exact h1.trans h2.symm
  | x1 :: x2 :: xs, h, h' =>
    have h1 : v = .tuple (x1 :: x2 :: xs).toArray := h
    have h2 : v' = .tuple (x1 :: x2 :: xs).toArray := h'
    exact h1.trans h2.symm

theorem det_noref {s : Sh} (h : s.det = true) : s.ref = false := by
  induction s with
  | pair a b iha ihb =>
    simp only [Sh.det, Bool.and_eq_true] at h
    simp [Sh.ref, iha h.1, ihb h.2]
  | _ => simp_all [Sh.det, Sh.ref]

theorem ResR_any {ok ok' : Nat → Prop} {B B' : Nat} {H H' : Array Obj} : ∀ {outs : List RK} {y : dens (outs.map RK.sh)} {vs : List Value}, outs.all RK.det = true → ResR ok B H outs y vs [] → ResR ok' B' H' outs y vs [] := by
  intro outs
  induction outs with
  | nil => intro y vs _ h; cases vs <;> simp_all [ResR]
  | cons k outs ih =>
    intro y vs hd h
    simp only [List.all_cons, Bool.and_eq_true] at hd
    cases k with
    | own s => simp [RK.det] at hd
    | val s =>
      cases vs with
      | nil => simp [ResR] at h
      | cons v vs => exact ⟨⟨RC.noref (det_noref hd.1) h.1.1, h.1.2⟩, ih hd.2 h.2⟩

/-- A call in a region that draws its order. -/
theorem doCall_quiet (hS : SimM c E st m a w) {f : FuncId} {args : List AV} {vals : List Value} (hl : args.length = vals.length)
    (hv : ∀ (i : Nat) (av : AV) (v : Value), args[i]? = some av → vals[i]? = some v → RVs c E st m w av v) :
    ∀ {es : List Ent}, (∀ e ∈ es, SoundC P f e) → doCall E true o.dst args st K es = some r →
      ∃ u, (∀ w', Below w.heap.size w w' → CallOk P f vals.toArray w' fun v w'' => v = u ∧ Below w.heap.size w w'') ∧ Post c E K r (a.put o.dst u) w := by
  intro es
  induction es with
  | nil => intro _ h; cases h
  | cons e es ih =>
    intro hT h
    simp only [doCall] at h
    split at h
    · exact ih (fun e he => hT e (List.mem_cons_of_mem _ he)) h
    · rename_i x hx
      cases hh0 : args.any (AV.handle 6) && e.outs.any RK.ref || true && !e.outs.all RK.det with
      | true => rw [hh0] at h; cases h
      | false =>
        rw [hh0] at h
        have hh := (Bool.or_eq_false_iff.1 hh0).1
        have hdet : e.outs.all RK.det = true := by
          have := (Bool.or_eq_false_iff.1 hh0).2
          simpa using this
        simp only [cond_false] at h
        obtain ⟨y, hy, h'⟩ := bind_some h
        obtain ⟨hf, h''⟩ := cond_some h'
        have key : ∀ w', Below w.heap.size w w' → ∃ p : Nat → Prop, (∀ b, p b → b < w'.heap.size) ∧ ArgR p w'.heap e.ins x vals := by
          intro w' hb
          have hS' := hS.below hb
          have hv' : ∀ (i : Nat) (av : AV) (v : Value), args[i]? = some av → vals[i]? = some v → RVs c E st m w' av v := fun i av v h1 h2 => by
            have hT' := (hS.grow hb (l := []) (bs := []) (by rfl) trivial (okN := fun _ => False) trivial (fun b hb => hb.elim)).2.1
            exact (hv i av v h1 h2).mono hT' (fun d ⟨o, ho⟩ => by cases ho)
          cases han : args.any (AV.handle 6) with
          | true =>
            rw [han] at hx
            refine ⟨fun b => b < w'.heap.size, fun b hb => hb, ?_⟩
            exact argsA_sound (mt := c.mt) (fun b hb => hb.1) (fun h o ho => ho) hS'.objs (fun h o b ho hb => by
              obtain ⟨_, cs, e, hh⟩ := (hS'.objs h o ho).block hb
              exact lt_of_some hh) hx hl hv'
          | false =>
            rw [han] at hx
            exact ⟨c.ok m (E.ob st) w'.heap, fun b hb => hb.1, argsA_sound (mt := c.mt) (fun b hb => hb) (fun h o ho => by cases ho) hS'.objs (fun h o b ho => by cases ho) hx hl hv'⟩
        have call : ∀ w', Below w.heap.size w w' → CallOk P f vals.toArray w' fun v w'' => ∃ vs, valOf vs v ∧ Below w.heap.size w w'' ∧ ∃ ok B H, ResR ok B H e.outs y vs [] := by
          intro w' hb
          obtain ⟨p, hp, hA⟩ := key w' hb
          have hc := hT e List.mem_cons_self p w' vals x y hp hA hy
          have fin : ∀ v w'', (∃ vs bs, valOf vs v ∧ Below w'.heap.size w' w'' ∧ Dist bs ∧ ResR (okRes p w'.heap.size w''.heap.size bs) w'.heap.size w''.heap e.outs y vs bs) →
              ∃ vs, valOf vs v ∧ Below w.heap.size w w'' ∧ ∃ ok B H, ResR ok B H e.outs y vs [] := by
            rintro v w'' ⟨vs, bs, h1, h2, _, h4⟩
            have := (ResR_noOwn (base := 0) hdet h4).2
            subst this
            exact ⟨vs, h1, hb.trans (h2.mono hb.size), _, _, _, h4⟩
          unfold CallOk at hc ⊢
          split
          · rename_i g args' w1 hr
            rw [hr] at hc
            exact ⟨hc.1, hc.2.mono fun en w' ⟨v, h1, h2⟩ => ⟨v, h1, fin v w' h2⟩⟩
          · rename_i v w1 hr
            rw [hr] at hc
            exact ⟨hc.1, fin v w1 hc.2⟩
          · rename_i h1 h2
            revert hc
            split
            · rename_i hr; exact absurd hr (h1 _ _ _)
            · rename_i hr; exact absurd hr (h2 _ _)
            · exact id
        have ex : ∃ u vs, valOf vs u ∧ ∃ ok B H, ResR ok B H e.outs y vs [] := by
          have hc := call w (Below.refl _ _)
          unfold CallOk at hc
          split at hc
          · obtain ⟨en, w', fr, ⟨v, _, vs, h1, _, h3⟩, _⟩ := hc.2 []
            exact ⟨v, vs, h1, h3⟩
          · obtain ⟨_, vs, h1, _, h3⟩ := hc
            exact ⟨_, vs, h1, h3⟩
          · exact hc.elim
        obtain ⟨u, vs, hu, ok0, B0, H0, hR⟩ := ex
        refine ⟨u, fun w' hb => ?_, ?_⟩
        · have hc := call w' hb
          have fin : ∀ v w'', (∃ vs, valOf vs v ∧ Below w.heap.size w w'' ∧ ∃ ok B H, ResR ok B H e.outs y vs []) → v = u ∧ Below w.heap.size w w'' := by
            rintro v w'' ⟨vs', h1, h2, ok1, B1, H1, h3⟩
            have := ResR_det hdet h3 hR
            subst this
            exact ⟨valOf_inj h1 hu, h2⟩
          unfold CallOk at hc ⊢
          split
          · rename_i g args' w1 hr
            rw [hr] at hc
            exact ⟨hc.1, hc.2.mono fun en w' ⟨v, h1, h2⟩ => ⟨v, h1, fin v w' h2⟩⟩
          · rename_i v w1 hr
            rw [hr] at hc
            exact ⟨hc.1, fin v w1 hc.2⟩
          · rename_i h1 h2
            revert hc
            split
            · rename_i hr; exact absurd hr (h1 _ _ _)
            · rename_i hr; exact absurd hr (h2 _ _)
            · exact id
        · have hnil : (resA (o.dst.getD 0 + 10000) e.outs y).2 = [] := (ResR_noOwn hdet hR).1
          rw [hnil] at h''
          have hR' : ResR (c.ok m (E.ob st) w.heap) w.heap.size w.heap e.outs y vs [] := ResR_any hdet hR
          obtain ⟨n1, n2, n3⟩ := resA_spec (m := m) (base := o.dst.getD 0 + 10000) hR'
          have hvs := n3 (ok' := c.ok m (E.ob st) w.heap) (O' := E.ob st) (m' := m) (fun b hb => hb) (fun h o ho => by rw [hnil] at ho; cases ho)
          exact wr_post hS o.dst (valOf_RV hu n2 hvs) h''

/-- The operations of a region, in the text's order. -/
theorem aops_sound (hP : ∀ t, TDok P t (tt t)) (hT : ∀ f, ∀ e ∈ T f, SoundC P f e) {Q : Exit → Act → World → Prop} {all : List Oper} : ∀ (l : List Oper) {st : St} {m : Nat → Option Nat} {a : Act} {w : World},
    SimM c E st m a w → aops tt T E q all l st K = some r → (∀ st' a' w', Sim c E st' a' w' → K st' = some r → Q .normal a' w') → wpList P all.toArray Q l a w := by
  intro l
  induction l with
  | nil => intro st m a w hS h hQ; exact hQ st a w ⟨m, hS⟩ h
  | cons o l ih =>
    intro st m a w hS h hQ
    have next : ∀ {a' : Act} {w' : World}, Post c E (fun st' => aops tt T E q all l st' K) r a' w' → wpList P all.toArray Q l a' w' := by
      rintro a' w' ⟨st', ⟨m', hS'⟩, h'⟩
      exact ih hS' h' hQ
    have run : ∀ {st : St} {m : Nat → Option Nat}, SimM c E st m a w → aop tt T E q o st (fun st' => aops tt T E q all l st' K) = some r → o.wp P a w (wpList P all.toArray Q l) Q := by
      intro st m hS h
      have := (aop_sound (o := o) hP hT hS h).wp
      unfold Oper.wp at this
      unfold Oper.wp
      generalize (execOp a.eval o).run P w = res at this
      cases res with
      | halt x w' => cases x <;> simp only [Oper.upon] at this
      | ok n w' =>
        cases n <;> simp only [Oper.upon] at this ⊢
        case value v => exact next this
        case skip => exact next this
        case defer d => exact next this
        case enter f args =>
          refine this.mono fun e w'' he => ?_
          cases e with
          | returned v => exact next he
          | panicked ch => exact he.elim
          | outgrown => obtain ⟨_, _, hh⟩ := he; exact hh.elim
        case row rw0 args => exact this.mono fun v w'' he => next he
    simp only [aops] at h
    split at h
    · rename_i hg
      unfold wpList
      rw [if_pos (by simp [Region.wanted, hg])]
      exact .inl (run hS h)
    · rename_i j want hg
      split at h
      · cases h
      · rename_i t ht
        split at h
        · rename_i b hb
          have hv := hS.rd t
          rw [hb] at hv
          have hv := g_bool hv
          have hlt : t < a.tmps.size := by
            rcases Nat.lt_or_ge t a.tmps.size with h' | h'
            · exact h'
            · rw [Array.getD_eq_getD_getElem?, Array.getElem?_eq_none h'] at hv
              simp [undef] at hv
          have hy : yielded all.toArray a.tmps j = some b := by
            unfold yielded
            have ht' : (all.toArray[j]?).bind (·.dst) = some t := by simpa using ht
            rw [ht']
            have : a.tmps[t]? = some (.bool b) := by
              rw [Array.getElem?_eq_getElem hlt]
              rw [Array.getD_eq_getD_getElem?, Array.getElem?_eq_getElem hlt] at hv
              simpa using hv
            simp [this]
          have hput : a.put (some t) (.bool b) = a := by
            unfold Act.put
            simp only
            congr 1
            apply Array.ext_getElem?
            intro i
            rw [Array.getElem?_setIfInBounds]
            split
            · rename_i hi
              subst hi
              rw [Array.getElem?_eq_getElem hlt]
              rw [Array.getD_eq_getD_getElem?, Array.getElem?_eq_getElem hlt] at hv
              simpa using hv.symm
            · rfl
          have step : ∀ v : Bool, b = v → E.wr (some t) (.g .bool v) st (fun st1 => cond (v == want) (aop tt T E q o st1 fun st' => aops tt T E q all l st' K) (E.wr o.dst .top st1 fun st' => aops tt T E q all l st' K)) = some r →
              wpList P all.toArray Q (o :: l) a w := by
            intro v hbv h
            subst hbv
            obtain ⟨st1, h1, h2⟩ := wr_sound hS (some t) (u := .bool b) mk_bool h
            rw [hput] at h1
            unfold wpList
            by_cases hw : b = want
            · subst hw
              simp only [beq_self_eq_true, cond_true] at h2
              rw [if_pos (by simp [Region.wanted, hg, hy])]
              exact .inl (run h1 h2)
            · have : (b == want) = false := by simpa using hw
              rw [this] at h2
              simp only [cond_false] at h2
              rw [if_neg (by simp [Region.wanted, hg, hy, hw])]
              exact next (wr_post h1 _ (.top _) h2)
          cases b with
          | true => exact step true rfl h
          | false => exact step false rfl h
        · cases h

/-- What is shown of each operation of a region that draws its order. -/
def DoneD (P : Program) (c : Cx) (E : Env) (K : St → Option ρ) (r : ρ) (o : Oper) (a : Act) (w : World) : Prop :=
  ∃ u, (∀ w', Below w.heap.size w w' → o.quietAt P a (Below w.heap.size w) w' u) ∧ Post c E K r (a.put o.dst u) w

theorem DoneQ.d (h : DoneQ P c E K r o a w) : DoneD P c E K r o a w := by
  obtain ⟨u, h1, h2⟩ := h
  refine ⟨u, fun w' hb => ?_, h2⟩
  unfold Oper.quietAt
  rw [h1 w' hb]
  exact ⟨rfl, rfl⟩

theorem s_callD {f : Operand} {args : Array Operand} {ats : Array TypeId} (hT : ∀ f, ∀ e ∈ T f, SoundC P f e) (hS : SimM c E st m a w) (hop : o.op = .call { callee := .value f, args := args, argTypes := ats })
    (h : aop tt T E true o st K = some r) : DoneD P c E K r o a w := by
  simp only [aop, hop] at h
  split at h
  · rename_i g caps he
    have hf := hS.ev f
    rw [he] at hf
    generalize hu : a.eval f = u at hf
    cases hf with
    | fn _ _ vs hs hv ho =>
      obtain ⟨u, h1, h2⟩ := doCall_quiet (o := o) hS (f := g) (args := args.toList.map (E.ev st) ++ caps) (vals := (args.map a.eval).toList ++ vs.toList) (by simp [hs]) (fun i av v h1 h2 => by
        rw [List.getElem?_append] at h1 h2
        simp only [List.length_map, Array.length_toList, Array.size_map] at h1 h2
        split at h1
        · rename_i hi
          rw [if_pos hi] at h2
          rw [List.getElem?_map, Array.getElem?_toList] at h1
          rw [Array.getElem?_toList, Array.getElem?_map] at h2
          cases hx : args[i]? with
          | none => rw [hx] at h1; cases h1
          | some x =>
            rw [hx] at h1 h2
            cases h1
            cases h2
            exact hS.ev x
        · rename_i hi
          rw [if_neg hi] at h2
          exact hv _ av v h1 (by simpa using h2)) (hT g) h
      refine ⟨u, fun w' hb => ?_, h2⟩
      have hc := h1 w' hb
      have hrun : (execOp a.eval o).run P w' = (callFunc g (args.map a.eval ++ vs)).run P w' := by
        unfold execOp
        simp only [hop, resolve, Deferred.ofValue, hu, invoke]
        simp
      have harr : ((args.map a.eval).toList ++ vs.toList).toArray = args.map a.eval ++ vs := by
        apply Array.ext'
        simp
      rw [harr] at hc
      unfold Oper.quietAt
      rw [hrun]
      unfold CallOk at hc
      split at hc
      · rename_i k ar w1 hr
        rw [hr]
        obtain ⟨rfl, hc⟩ := hc
        exact ⟨rfl, hc.mono fun e w' ⟨v, h1, h2, h3⟩ => by subst h1; exact ⟨by rw [h2], h3⟩⟩
      · rename_i v w1 hr
        rw [hr]
        exact ⟨hc.1, hc.2.1⟩
      · exact hc.elim
  · cases h

theorem aop_draw (hP : ∀ t, TDok P t (tt t)) (hT : ∀ f, ∀ e ∈ T f, SoundC P f e) (hq : quietOp o = true) (hS : SimM c E st m a w) (h : aop tt T E true o st K = some r) : DoneD P c E K r o a w := by
  cases hop : o.op with
  | move x => exact (s_move hS hop h).d
  | assign x => exact (s_assign hS hop h).d
  | pick x y z => exact (s_pick hS hop h).d
  | binOp op t x y u => exact (s_binOp hP hS hop h).d
  | unOp op t x => exact (s_unOp hS hop h).d
  | convert s d x => exact (s_convert hP hS hop h).d
  | extract x i => exact (s_extract hS hop h).d
  | nilCheck x => exact (s_nilCheck hS hop h).d
  | indexAddr t x i => exact (s_indexAddr hP hS hop h).d
  | fieldAddr t x f => exact (s_fieldAddr hP hS hop h).d
  | field t x f => exact (s_field hP hS hop h).d
  | load t x => exact (s_load hP hS hop h).d
  | slice t x lo hi mx =>
    cases mx with
    | none => exact (s_slice hP hS hop h).d
    | some _ => simp [aop, hop] at h
  | build t parts => exact (s_build hP hS hop h).d
  | makeFunc fn fi ca =>
    cases fn with
    | func f => exact (s_makeFunc hS hop h).d
    | _ => simp [aop, hop] at h
  | call cl =>
    obtain ⟨callee, args, ats⟩ := cl
    cases callee with
    | builtin b => exact (s_builtin hP hS hop h).d
    | value f => exact s_callD hT hS hop h
    | invoke _ _ => simp [aop, hop] at h
  | _ => simp [quietOp, hop] at hq

/-- The operations of a region that draws its order, in the text's order. -/
theorem aops_draw (hP : ∀ t, TDok P t (tt t)) (hT : ∀ f, ∀ e ∈ T f, SoundC P f e) {Q : Exit → Act → World → Prop} {all : List Oper} : ∀ (l : List Oper) {st : St} {m : Nat → Option Nat} {a : Act},
    (∀ o ∈ l, quietOp o = true) → SimM c E st m a w → aops tt T E true all l st K = some r → (∀ st' a' w', Sim c E st' a' w' → K st' = some r → Q .normal a' w') →
      wpQuiet P all.toArray (Below w.heap.size w) (fun a' => ∀ w', Below w.heap.size w w' → Q .normal a' w') l a := by
  intro l
  induction l with
  | nil => intro st m a _ hS h hQ; exact fun w' hb => hQ st a w' ⟨m, hS.below hb⟩ h
  | cons o l ih =>
    intro st m a hq hS h hQ
    have next : ∀ {a' : Act}, Post c E (fun st' => aops tt T E true all l st' K) r a' w → wpQuiet P all.toArray (Below w.heap.size w) (fun a' => ∀ w', Below w.heap.size w w' → Q .normal a' w') l a' := by
      rintro a' ⟨st', ⟨m', hS'⟩, h'⟩
      exact ih (fun o ho => hq o (List.mem_cons_of_mem _ ho)) hS' h' hQ
    have run : ∀ {st : St} {m : Nat → Option Nat}, SimM c E st m a w → aop tt T E true o st (fun st' => aops tt T E true all l st' K) = some r →
        o.quiet P a (Below w.heap.size w) (wpQuiet P all.toArray (Below w.heap.size w) (fun a' => ∀ w', Below w.heap.size w w' → Q .normal a' w') l) := by
      intro st m hS h
      obtain ⟨u, h1, h2⟩ := aop_draw hP hT (hq o List.mem_cons_self) hS h
      exact ⟨u, h1, next h2⟩
    simp only [aops] at h
    split at h
    · rename_i hg
      unfold wpQuiet
      rw [if_pos (by simp [Region.wanted, hg])]
      exact run hS h
    · rename_i j want hg
      split at h
      · cases h
      · rename_i t ht
        split at h
        · rename_i b hb
          have hv := hS.rd t
          rw [hb] at hv
          have hv := g_bool hv
          have hlt : t < a.tmps.size := by
            rcases Nat.lt_or_ge t a.tmps.size with h' | h'
            · exact h'
            · rw [Array.getD_eq_getD_getElem?, Array.getElem?_eq_none h'] at hv
              simp [undef] at hv
          have hy : yielded all.toArray a.tmps j = some b := by
            unfold yielded
            have ht' : (all.toArray[j]?).bind (·.dst) = some t := by simpa using ht
            rw [ht']
            have : a.tmps[t]? = some (.bool b) := by
              rw [Array.getElem?_eq_getElem hlt]
              rw [Array.getD_eq_getD_getElem?, Array.getElem?_eq_getElem hlt] at hv
              simpa using hv
            simp [this]
          have hput : a.put (some t) (.bool b) = a := by
            unfold Act.put
            simp only
            congr 1
            apply Array.ext_getElem?
            intro i
            rw [Array.getElem?_setIfInBounds]
            split
            · rename_i hi
              subst hi
              rw [Array.getElem?_eq_getElem hlt]
              rw [Array.getD_eq_getD_getElem?, Array.getElem?_eq_getElem hlt] at hv
              simpa using hv.symm
            · rfl
          have step : ∀ v : Bool, b = v → E.wr (some t) (.g .bool v) st (fun st1 => cond (v == want) (aop tt T E true o st1 fun st' => aops tt T E true all l st' K) (E.wr o.dst .top st1 fun st' => aops tt T E true all l st' K)) = some r →
              wpQuiet P all.toArray (Below w.heap.size w) (fun a' => ∀ w', Below w.heap.size w w' → Q .normal a' w') (o :: l) a := by
            intro v hbv h
            subst hbv
            obtain ⟨st1, h1, h2⟩ := wr_sound hS (some t) (u := .bool b) mk_bool h
            rw [hput] at h1
            unfold wpQuiet
            by_cases hw : b = want
            · subst hw
              simp only [beq_self_eq_true, cond_true] at h2
              rw [if_pos (by simp [Region.wanted, hg, hy])]
              exact run h1 h2
            · have : (b == want) = false := by simpa using hw
              rw [this] at h2
              simp only [cond_false] at h2
              rw [if_neg (by simp [Region.wanted, hg, hy, hw])]
              exact next (wr_post h1 _ (.top _) h2)
          cases b with
          | true => exact step true rfl h
          | false => exact step false rfl h
        · cases h

end

end Go.Proofs.Ytgbahgkfjghidaa.Fw
