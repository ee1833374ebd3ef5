/-
  Steps of the evaluator are steps of the model, twelfth part: every operation; regions. No condition.
-/
import Derived.Test.YtmdicmdodbndgaaFwY
import Derived.Test.YtmdicmdodbndgaaFwW
namespace Go.Proofs.Ytmdicmdodbndgaa.Fw
open Go Go.RowKit

section
variable {P : Program} {tt : Nat → TD} {T : Nat → List EntX} {q : Bool} {c : Cx} {E : Env} {st : St} {m : Nat → Option Nat} {a : Act} {w : World} {ρ : Type} {K : St → Option ρ} {r : ρ} {o : Oper}

/-- What is called: a function, and the values that it has captured. -/
theorem callee_sound (hS : SimM c E st m a w) {f : Operand} {g : Nat} {caps : List AV} (he : E.ev st f = .fn g caps ∨ ∃ s x, E.ev st f = .g (.clo g s) x ∧ caps = flat s x) :
    ∃ vs : Array Value, a.eval f = .func (.func g) #[] vs ∧ vs.size = caps.length ∧ ∀ (i : Nat) (av : AV) (v : Value), caps[i]? = some av → vs[i]? = some v → RVs c E st m w av v := by
  have hf := hS.ev f
  rcases he with he | ⟨s, x, he, rfl⟩
  · rw [he] at hf
    generalize a.eval f = u at hf
    cases hf with
    | fn _ _ vs hs hv ho => exact ⟨vs, rfl, hs, hv⟩
  · rw [he] at hf
    obtain ⟨hc, ha⟩ := hf.g_cells
    rw [cells_one (by rw [ha]; rfl)] at hc
    simp only [RC, List.cons.injEq, and_true] at hc
    obtain ⟨vs, h1, h2⟩ := hc
    obtain ⟨k1, k2, _⟩ := flat_sound (m := m) (O := E.ob st) (fun b hb => Cx.ok_any hb) h2
    exact ⟨vs, h1, by rw [k1]; simp, fun i av v h3 h4 => k2 i av v h3 (by rw [Array.getElem?_toList]; exact h4)⟩

theorem SimM.below (hS : SimM c E st m a w) {w' : World} (hb : Below w.heap.size w w') : SimM c E st m a w' := by
  have := (hS.grow hb (l := []) (bs := []) (by rfl) trivial (okN := fun _ _ => False) trivial (fun i b hb => hb.elim)).1
  exact this

theorem s_callF {f : Operand} {args : Array Operand} {ats : Array TypeId} (hT : ∀ f, ∀ e ∈ T f, SoundX P f e) (hS : SimM c E st m a w) (hop : o.op = .call { callee := .value f, args := args, argTypes := ats })
    (h : aop tt T E q o st K = some r) : Done P c E K r o a w := by
  have core : ∀ {g : Nat} {caps : List AV}, (E.ev st f = .fn g caps ∨ ∃ s x, E.ev st f = .g (.clo g s) x ∧ caps = flat s x) → doCall E q o.dst (args.toList.map (E.ev st) ++ caps) st K (T g) = some r → Done P c E K r o a w := by
    intro g caps he h
    obtain ⟨vs, hu, hs, hv⟩ := callee_sound hS he
    have hc := doCall_sound (o := o) hS (f := g) (args := args.toList.map (E.ev st) ++ caps) (vals := (args.map a.eval).toList ++ vs.toList) (by simp [hs]) (fun i av v h1 h2 => ?_) (hT g) h
    · have hrun : (execOp a.eval o).run P w = (callFunc g (args.map a.eval ++ vs)).run P w := by
        unfold execOp
        simp only [hop, resolve, Deferred.ofValue, hu, invoke]
        simp
      have harr : ((args.map a.eval).toList ++ vs.toList).toArray = args.map a.eval ++ vs := by
        apply Array.ext'
        simp
      rw [harr] at hc
      refine .inr ?_
      unfold Oper.wp
      rw [hrun]
      unfold CallOk at hc
      split at hc
      · rename_i k ar w1 hr
        rw [hr]
        exact hc.2.mono fun e w' ⟨v, h1, h2⟩ => by subst h1; exact h2.1
      · rename_i v w1 hr
        rw [hr]
        exact hc.2.1
      · exact hc.elim
    · rw [List.getElem?_append] at h1 h2
      simp only [List.length_map, Array.length_toList, Array.size_map] at h1 h2
      split at h1
      · rename_i hi
        rw [if_pos hi] at h2
        rw [List.getElem?_map, Array.getElem?_toList] at h1
        rw [Array.getElem?_toList, Array.getElem?_map] at h2
        cases hx : args[i]? with
        | none => rw [hx] at h1; cases h1
        | some x =>
          rw [hx] at h1 h2
          cases h1
          cases h2
          exact hS.ev x
      · rename_i hi
        rw [if_neg hi] at h2
        exact hv _ av v h1 (by simpa using h2)
  simp only [aop, hop] at h
  split at h
  · rename_i g caps he
    exact core (.inl he) h
  · rename_i g s x he
    exact core (.inr ⟨s, x, he, rfl⟩) h
  · cases h

theorem s_callG {f : Operand} {args : Array Operand} {ats : Array TypeId} (hT : ∀ f, ∀ e ∈ T f, SoundX P f e) (hS : SimM c E st m a w) (hop : o.op = .call { callee := .value f, args := args, argTypes := ats })
    (h : aop tt T E q o st K = some r) (hg : growOp T o = true) : OutW P o a w fun a' w' => Post c E K r a' w' ∧ Below w.heap.size w w' := by
  have core : ∀ {g : Nat} {caps : List AV}, (E.ev st f = .fn g caps ∨ ∃ s x, E.ev st f = .g (.clo g s) x ∧ caps = flat s x) → doCall E q o.dst (args.toList.map (E.ev st) ++ caps) st K (T g) = some r → OutW P o a w fun a' w' => Post c E K r a' w' ∧ Below w.heap.size w w' := by
    intro g caps he h
    have hgg : (T g).all EntX.isPl = true := by
      simp only [growOp, hop] at hg
      cases f with
      | func f0 =>
        have e0 : E.ev st (.func f0) = .fn f0 [] := rfl
        rcases he with he | ⟨s, x, he, _⟩
        · rw [e0] at he; cases he; exact hg
        · rw [e0] at he; cases he
      | _ => cases hg
    obtain ⟨vs, hu, hs, hv⟩ := callee_sound hS he
    have hc := doCall_sound (o := o) hS (f := g) (args := args.toList.map (E.ev st) ++ caps) (vals := (args.map a.eval).toList ++ vs.toList) (by simp [hs]) (fun i av v h1 h2 => ?_) (hT g) h
    · have hrun : (execOp a.eval o).run P w = (callFunc g (args.map a.eval ++ vs)).run P w := by
        unfold execOp
        simp only [hop, resolve, Deferred.ofValue, hu, invoke]
        simp
      have harr : ((args.map a.eval).toList ++ vs.toList).toArray = args.map a.eval ++ vs := by
        apply Array.ext'
        simp
      rw [harr] at hc
      unfold OutW Oper.wp
      rw [hrun]
      unfold CallOk at hc
      split at hc
      · rename_i k ar w1 hr
        rw [hr]
        exact hc.2.mono fun e w' ⟨v, h1, h2⟩ => by subst h1; exact ⟨h2.1, h2.2 hgg⟩
      · rename_i v w1 hr
        rw [hr]
        exact ⟨hc.2.1, hc.2.2 hgg⟩
      · exact hc.elim
    · rw [List.getElem?_append] at h1 h2
      simp only [List.length_map, Array.length_toList, Array.size_map] at h1 h2
      split at h1
      · rename_i hi
        rw [if_pos hi] at h2
        rw [List.getElem?_map, Array.getElem?_toList] at h1
        rw [Array.getElem?_toList, Array.getElem?_map] at h2
        cases hx : args[i]? with
        | none => rw [hx] at h1; cases h1
        | some x =>
          rw [hx] at h1 h2
          cases h1
          cases h2
          exact hS.ev x
      · rename_i hi
        rw [if_neg hi] at h2
        exact hv _ av v h1 (by simpa using h2)
  simp only [aop, hop] at h
  split at h
  · rename_i g caps he
    exact core (.inl he) h
  · rename_i g s x he
    exact core (.inr ⟨s, x, he, rfl⟩) h
  · cases h

theorem evs_sound (hS : SimM c E st m a w) (args : Array Operand) (i : Nat) (av : AV) (h : (args.toList.map (E.ev st))[i]? = some av) : ∃ x, args[i]? = some x ∧ RVs c E st m w av (a.eval x) := by
  rw [List.getElem?_map, Array.getElem?_toList] at h
  cases hx : args[i]? with
  | none => rw [hx] at h; cases h
  | some x =>
    rw [hx] at h
    cases h
    exact ⟨x, rfl, hS.ev x⟩

theorem foldI_max {k : IntKind} {l : List AV} : ∀ {vs : List Value} {x y : Int}, l.length = vs.length → (∀ (i : Nat) (av : AV) (v : Value), l[i]? = some av → vs[i]? = some v → RVs c E st m w av v) → allKind k l = true → foldI imax x l = some y →
    ∀ w', (vs.foldlM Builtin.max2 (.int k x)).run P w' = .ok (.int k y) w' := by
  induction l with
  | nil => intro vs x y hl _ _ h; cases vs with
    | nil => cases h; intro w'; rfl
    | cons v vs => simp at hl
  | cons b l ih =>
    intro vs x y hl hv hk h
    cases vs with
    | nil => simp at hl
    | cons v vs =>
      have h0 := hv 0 b v rfl rfl
      unfold allKind at hk
      split at hk
      · rename_i heq; cases heq
      · rename_i k' n r' heq
        cases heq
        simp only [Bool.and_eq_true, decide_eq_true_eq] at hk
        obtain ⟨rfl, hk⟩ := hk
        have := g_int h0
        subst this
        simp only [foldI] at h
        intro w'
        simp only [List.foldlM_cons, Sem.run_bind, Builtin.max2, Sem.run_pure, Result.andThen_ok]
        exact ih (by simpa using hl) (fun i av u h1 h2 => hv (i + 1) av u (by simpa using h1) (by simpa using h2)) hk h w'
      · cases hk

theorem foldI_min {k : IntKind} {l : List AV} : ∀ {vs : List Value} {x y : Int}, l.length = vs.length → (∀ (i : Nat) (av : AV) (v : Value), l[i]? = some av → vs[i]? = some v → RVs c E st m w av v) → allKind k l = true → foldI imin x l = some y →
    ∀ w', (vs.foldlM Builtin.min2 (.int k x)).run P w' = .ok (.int k y) w' := by
  induction l with
  | nil => intro vs x y hl _ _ h; cases vs with
    | nil => cases h; intro w'; rfl
    | cons v vs => simp at hl
  | cons b l ih =>
    intro vs x y hl hv hk h
    cases vs with
    | nil => simp at hl
    | cons v vs =>
      have h0 := hv 0 b v rfl rfl
      unfold allKind at hk
      split at hk
      · rename_i heq; cases heq
      · rename_i k' n r' heq
        cases heq
        simp only [Bool.and_eq_true, decide_eq_true_eq] at hk
        obtain ⟨rfl, hk⟩ := hk
        have := g_int h0
        subst this
        simp only [foldI] at h
        intro w'
        simp only [List.foldlM_cons, Sem.run_bind, Builtin.min2, Sem.run_pure, Result.andThen_ok]
        exact ih (by simpa using hl) (fun i av u h1 h2 => hv (i + 1) av u (by simpa using h1) (by simpa using h2)) hk h w'
      · cases hk

theorem s_builtin {b : Builtin} {args : Array Operand} {ats : Array TypeId} (hb : b ≠ .append) (hb2 : b ≠ .copy) (hP : ∀ t, TDok P t (tt t)) (hS : SimM c E st m a w) (hop : o.op = .call { callee := .builtin b, args := args, argTypes := ats })
    (h : aop tt T E q o st K = some r) : DoneQ P c E K r o a w := by
  simp only [aop, hop] at h
  have hval : (args.map a.eval).toList = args.toList.map a.eval := by simp
  split at h
  · rename_i x hx
    split at h
    · rename_i t ht
      split at h
      · rename_i x0 n he hn
        obtain ⟨s, by0⟩ := x0
        obtain ⟨e, inf, hu, _⟩ := (hP _).elem _ _ he
        obtain ⟨y, hy, hyx⟩ := evs_sound hS args 0 x (by rw [hx]; rfl)
        obtain ⟨A, cp, hv⟩ := lenOf_sound hS hyx hn
        refine done_v hS (u := .int .i64 n) (fun w' hb => ?_) mk_int h
        unfold execOp
        simp only [hop, resolve, invoke, builtin, Builtin.len_]
        simp [ht, hy, hv, run_underlying hu, goInt]
      · cases h
    · cases h
  · rename_i k x l hx
    obtain ⟨hk, h'⟩ := cond_some h
    split at h'
    · rename_i y hy
      match hargs : args.toList, hx with
      | [], hx => simp at hx
      | p :: ps, hx =>
        simp only [List.map_cons, List.cons.injEq] at hx
        have h1 := hS.ev p
        rw [hx.1] at h1
        have h1 := g_int h1
        have hf := foldI_max (P := P) (c := c) (E := E) (st := st) (m := m) (w := w) (vs := ps.map a.eval) (l := l) (x := x) (by rw [← hx.2]; simp) (fun i av v h2 h3 => by
          rw [← hx.2, List.getElem?_map] at h2
          rw [List.getElem?_map] at h3
          cases hp : ps[i]? with
          | none => rw [hp] at h2; cases h2
          | some z =>
            rw [hp] at h2 h3
            cases h2
            cases h3
            exact hS.ev z) hk hy
        refine done_v hS (u := .int k y) (fun w' hb => ?_) mk_int h'
        unfold execOp
        simp only [hop, resolve, invoke, builtin, Builtin.max_]
        have hml : args.toList.map a.eval = .int k x :: ps.map a.eval := by simp [hargs, h1]
        simp [hml, hf]
    · cases h'
  · rename_i k x l hx
    obtain ⟨hk, h'⟩ := cond_some h
    split at h'
    · rename_i y hy
      match hargs : args.toList, hx with
      | [], hx => simp at hx
      | p :: ps, hx =>
        simp only [List.map_cons, List.cons.injEq] at hx
        have h1 := hS.ev p
        rw [hx.1] at h1
        have h1 := g_int h1
        have hf := foldI_min (P := P) (c := c) (E := E) (st := st) (m := m) (w := w) (vs := ps.map a.eval) (l := l) (x := x) (by rw [← hx.2]; simp) (fun i av v h2 h3 => by
          rw [← hx.2, List.getElem?_map] at h2
          rw [List.getElem?_map] at h3
          cases hp : ps[i]? with
          | none => rw [hp] at h2; cases h2
          | some z =>
            rw [hp] at h2 h3
            cases h2
            cases h3
            exact hS.ev z) hk hy
        refine done_v hS (u := .int k y) (fun w' hb => ?_) mk_int h'
        unfold execOp
        simp only [hop, resolve, invoke, builtin, Builtin.min_]
        have hml : args.toList.map a.eval = .int k x :: ps.map a.eval := by simp [hargs, h1]
        simp [hml, hf]
    · cases h'
  · exact absurd rfl hb
  · exact absurd rfl hb2
  · cases h

/-- Every operation. -/
theorem aop_sound (hP : ∀ t, TDok P t (tt t)) (hT : ∀ f, ∀ e ∈ T f, SoundX P f e) (hS : SimM c E st m a w) (h : aop tt T E q o st K = some r) : Done P c E K r o a w := by
  cases hop : o.op with
  | move x => exact .inl (s_move hS hop h)
  | assign x => exact .inl (s_assign hS hop h)
  | pick x y z => exact .inl (s_pick hS hop h)
  | binOp op t x y u => exact (s_binOp hP hS (fun w1 hb => hS.below hb) hop h).elim .inl (·.2.1)
  | unOp op t x => exact .inl (s_unOp hS hop h)
  | convert s d x => exact (s_convert hP hS (fun w1 hb => hS.below hb) hop h).elim .inl (·.2.1)
  | extract x i => exact .inl (s_extract hS hop h)
  | nilCheck x => exact .inl (s_nilCheck hS hop h)
  | indexAddr t x i => exact .inl (s_indexAddr hP hS hop h)
  | fieldAddr t x f => exact .inl (s_fieldAddr hP hS hop h)
  | field t x f => exact .inl (s_field hP hS hop h)
  | load t x => exact .inl (s_load hP hS hop h)
  | store t x y => exact (s_store hP hS hop h).done
  | alloc t => exact s_alloc hP hS hop h
  | box t x => exact s_box hS hop h
  | makeSlice t l cp => exact s_makeSlice hP hS hop h
  | slice t x lo hi mx =>
    cases mx with
    | none => exact .inl (s_slice hP hS hop h)
    | some _ => simp [aop, hop] at h
  | build t parts => exact .inl (s_build hP hS hop h)
  | buildSlice t n parts => exact s_buildSlice hP hS hop h
  | makeFunc fn fi ca =>
    cases fn with
    | func f => exact .inl (s_makeFunc hS hop h)
    | _ => simp [aop, hop] at h
  | call cl =>
    obtain ⟨callee, args, ats⟩ := cl
    cases callee with
    | builtin b =>
      by_cases hb : b = .append
      · subst hb
        exact s_append hP hS hop h
      · by_cases hb2 : b = .copy
        · subst hb2
          exact s_copy hP hS hop h
        · exact .inl (s_builtin hb hb2 hP hS hop h)
    | value f => exact s_callF hT hS hop h
    | invoke _ _ => simp [aop, hop] at h
  | _ => simp [aop, hop] at h

/-- The cells of a plain value that tells them. -/
def detC : (s : Sh) → s.den → List Value
  | .int k, n => [.int k n]
  | .bool, b => [.bool b]
  | .pair a b, x => detC a x.1 ++ detC b x.2
  | _, _ => []

theorem RC_det {ok : Bool → Nat → Prop} {H : Array Obj} : ∀ {s : Sh} {x : s.den} {cs : List Value}, s.det = true → RC ok H s x cs → cs = detC s x := by
  intro s
  induction s with
  | int k => intro x cs _ h; simpa [RC, detC] using h
  | bool => intro x cs _ h; simpa [RC, detC] using h
  | pair a b iha ihb =>
    intro x cs hd h
    simp only [Sh.det, Bool.and_eq_true] at hd
    simp only [RC] at h
    obtain ⟨c1, c2, rfl, h1, h2⟩ := h
    rw [iha hd.1 h1, ihb hd.2 h2]
    rfl
  | _ => intro x cs hd; simp [Sh.det] at hd

theorem det_val {s : Sh} {v v' : Value} (h : v.cells.toList = v'.cells.toList) (h1 : aggV v = s.isAgg) (h2 : aggV v' = s.isAgg) : v = v' := by
  cases hs : s.isAgg with
  | true =>
    rw [hs] at h1 h2
    obtain ⟨a, rfl⟩ := agg_cells h1
    obtain ⟨b, rfl⟩ := agg_cells h2
    simp only [Value.cells] at h
    rw [Array.toList_inj.1 h]
  | false =>
    rw [hs] at h1 h2
    rw [cells_one h1, cells_one h2] at h
    simpa using h

theorem ResR_det {ok ok' : Bool → Nat → Prop} {B B' : Nat} {H H' : Array Obj} : ∀ {outs : List RK} {y : dens (outs.map RK.sh)} {vs vs' : List Value} {bs bs' : List (Option Nat)}, outs.all RK.det = true →
    ResR ok B H outs y vs bs → ResR ok' B' H' outs y vs' bs' → vs = vs' := by
  intro outs
  induction outs with
  | nil => intro y vs vs' bs bs' _ h h'; cases vs <;> cases bs <;> cases vs' <;> cases bs' <;> simp_all [ResR]
  | cons k outs ih =>
    intro y vs vs' bs bs' hd h h'
    simp only [List.all_cons, Bool.and_eq_true] at hd
    cases k with
    | own s => simp [RK.det] at hd
    | val s =>
      cases vs with
      | nil => simp [ResR] at h
      | cons v vs =>
        cases vs' with
        | nil => simp [ResR] at h'
        | cons v' vs' =>
          have h1 := RC_det hd.1 h.1.1
          have h2 := RC_det hd.1 h'.1.1
          rw [det_val (s := s) (h1.trans h2.symm) h.1.2 h'.1.2, ih hd.2 h.2 h'.2]

theorem ResR_noOwn {ok : Bool → Nat → Prop} {B : Nat} {H : Array Obj} : ∀ {outs : List RK} {y : dens (outs.map RK.sh)} {vs : List Value} {bs : List (Option Nat)} {base : Nat}, outs.all RK.det = true → ResR ok B H outs y vs bs → (resA base outs y).2 = [] ∧ bs = [] := by
  intro outs
  induction outs with
  | nil => intro y vs bs base _ h; cases vs <;> cases bs <;> simp_all [ResR, resA]
  | cons k outs ih =>
    intro y vs bs base hd h
    simp only [List.all_cons, Bool.and_eq_true] at hd
    cases k with
    | own s => simp [RK.det] at hd
    | val s =>
      cases vs with
      | nil => simp [ResR] at h
      | cons v vs =>
        obtain ⟨h1, h2⟩ := ih (base := base + 10000) hd.2 h.2
        exact ⟨by simpa [resA] using h1, h2⟩

theorem valOf_inj {vs : List Value} {v v' : Value} (h : valOf vs v) (h' : valOf vs v') : v = v' := by
  match vs, h, h' with
  | [u], h, h' =>
    have h1 : v = u := h
    have h2 : v' = u := h'
    exact h1.trans h2.symm
  | [], h, h' =>
    have h1 : v = .tuple #[] := h
    have h2 : v' = .tuple #[] := h'
    exact h1.trans h2.symm
  | x1 :: x2 :: xs, h, h' =>
    have h1 : v = .tuple (x1 :: x2 :: xs).toArray := h
    have h2 : v' = .tuple (x1 :: x2 :: xs).toArray := h'
    exact h1.trans h2.symm

theorem det_noref {s : Sh} (h : s.det = true) : s.ref = false := by
  induction s with
  | pair a b iha ihb =>
    simp only [Sh.det, Bool.and_eq_true] at h
    simp [Sh.ref, iha h.1, ihb h.2]
  | _ => simp_all [Sh.det, Sh.ref]

theorem ResR_any {ok ok' : Bool → Nat → Prop} {B B' : Nat} {H H' : Array Obj} : ∀ {outs : List RK} {y : dens (outs.map RK.sh)} {vs : List Value}, outs.all RK.det = true → ResR ok B H outs y vs [] → ResR ok' B' H' outs y vs [] := by
  intro outs
  induction outs with
  | nil => intro y vs _ h; cases vs <;> simp_all [ResR]
  | cons k outs ih =>
    intro y vs hd h
    simp only [List.all_cons, Bool.and_eq_true] at hd
    cases k with
    | own s => simp [RK.det] at hd
    | val s =>
      cases vs with
      | nil => simp [ResR] at h
      | cons v vs => exact ⟨⟨RC.noref (det_noref hd.1) h.1.1, h.1.2⟩, ih hd.2 h.2⟩

/-- A call in a region that draws its order. -/
theorem doCall_quiet (hS : SimM c E st m a w) {f : FuncId} {args : List AV} {vals : List Value} (hl : args.length = vals.length)
    (hv : ∀ (i : Nat) (av : AV) (v : Value), args[i]? = some av → vals[i]? = some v → RVs c E st m w av v) :
    ∀ {es : List EntX}, (∀ e ∈ es, SoundX P f e) → doCall E true o.dst args st K es = some r →
      ∃ u, (∀ w', Below w.heap.size w w' → CallOk P f vals.toArray w' fun v w'' => v = u ∧ Below w.heap.size w w'') ∧ Post c E K r (a.put o.dst u) w := by
  intro es
  induction es with
  | nil => intro _ h; cases h
  | cons e es ih =>
    intro hT h
    have hrest := ih (fun e he => hT e (List.mem_cons_of_mem _ he))
    cases e with
    | mu e =>
      simp only [doCall] at h
      split at h
      · split at h
        · split at h
          · simp at h
          · exact hrest h
        · cases h
      · exact hrest h
    | dp e =>
      simp only [doCall] at h
      split at h
      · split at h
        · split at h
          · simp at h
          · split at h
            · simp at h
            · exact hrest h
        · cases h
      · exact hrest h
    | bm e =>
      simp only [doCall] at h
      split at h
      · split at h
        · split at h
          · simp at h
          · exact hrest h
        · exact hrest h
      · exact hrest h
    | ap e =>
      simp only [doCall] at h
      split at h
      · split at h
        · split at h
          · simp at h
          · exact hrest h
        · cases h
      · exact hrest h
    | pl e =>
      simp only [doCall] at h
      split at h
      · exact hrest h
      · rename_i x hx
        cases hh0 : args.any (AV.handle 6) && e.outs.any RK.ref || true && !e.outs.all RK.det with
        | true => rw [hh0] at h; cases h
        | false =>
          rw [hh0] at h
          have hdet : e.outs.all RK.det = true := by
            have := (Bool.or_eq_false_iff.1 hh0).2
            simpa using this
          simp only [cond_false] at h
          obtain ⟨y, hy, h'⟩ := bind_some h
          obtain ⟨hf, h''⟩ := cond_some h'
          have key : ∀ w', Below w.heap.size w w' → ∃ p : Nat → Prop, (∀ b, p b → b < w'.heap.size) ∧ ArgR (fun _ => p) w'.heap e.ins x vals := by
            intro w' hb
            have hS' := hS.below hb
            have hv' : ∀ (i : Nat) (av : AV) (v : Value), args[i]? = some av → vals[i]? = some v → RVs c E st m w' av v := fun i av v h1 h2 => by
              have hT' := (hS.grow hb (l := []) (bs := []) (by rfl) trivial (okN := fun _ _ => False) trivial (fun i b hb => hb.elim)).2.1
              exact (hv i av v h1 h2).mono hT' (fun d ⟨o, ho⟩ => by cases ho)
            cases han : args.any (AV.handle 6) with
            | true =>
              rw [han] at hx
              refine ⟨fun b => b < w'.heap.size, fun b hb => hb, ?_⟩
              exact argsA_sound (ok := c.ok m (E.ob st) w'.heap) (okA := fun _ b => b < w'.heap.size) (mt := c.mt) (fun i b hb => hb.1) (fun b hb => Cx.ok_any hb) (fun h o ho => ho) hS'.objs (fun i h o b ho hb => by
                obtain ⟨_, cs, e, hh⟩ := (hS'.objs h o ho).block hb
                exact lt_of_some hh) hx hl hv'
            | false =>
              rw [han] at hx
              exact ⟨c.ok m (E.ob st) w'.heap false, fun b hb => hb.1, argsA_sound (ok := c.ok m (E.ob st) w'.heap) (okA := fun _ => c.ok m (E.ob st) w'.heap false) (mt := c.mt) (fun i b hb => Cx.ok_any hb) (fun b hb => Cx.ok_any hb) (fun h o ho => by cases ho) hS'.objs (fun i h o b ho => by cases ho) hx hl hv'⟩
          have call : ∀ w', Below w.heap.size w w' → CallOk P f vals.toArray w' fun v w'' => ∃ vs, valOf vs v ∧ Below w.heap.size w w'' ∧ ∃ ok B H, ResR ok B H e.outs y vs [] := by
            intro w' hb
            obtain ⟨p, hp, hA⟩ := key w' hb
            refine CallOk.mono (hT _ List.mem_cons_self p w' vals x y hp hA hy) ?_
            rintro v w'' ⟨vs, bs, h1, h2, _, h4⟩
            have := (ResR_noOwn (base := 0) hdet h4).2
            subst this
            exact ⟨vs, h1, hb.trans (h2.mono hb.size), _, _, _, h4⟩
          have ex : ∃ u vs, valOf vs u ∧ ∃ ok B H, ResR ok B H e.outs y vs [] := by
            have hc := call w (Below.refl _ _)
            unfold CallOk at hc
            split at hc
            · obtain ⟨en, w', fr, ⟨v, _, vs, h1, _, h3⟩, _⟩ := hc.2 []
              exact ⟨v, vs, h1, h3⟩
            · obtain ⟨_, vs, h1, _, h3⟩ := hc
              exact ⟨_, vs, h1, h3⟩
            · exact hc.elim
          obtain ⟨u, vs, hu, ok0, B0, H0, hR⟩ := ex
          refine ⟨u, fun w' hb => ?_, ?_⟩
          · refine (call w' hb).mono ?_
            rintro v w'' ⟨vs', h1, h2, ok1, B1, H1, h3⟩
            have := ResR_det hdet h3 hR
            subst this
            exact ⟨valOf_inj h1 hu, h2⟩
          · have hnil : (resA (o.dst.getD 0 + 10000) e.outs y).2 = [] := (ResR_noOwn hdet hR).1
            rw [hnil] at h''
            have hR' : ResR (c.ok m (E.ob st) w.heap) w.heap.size w.heap e.outs y vs [] := ResR_any hdet hR
            obtain ⟨n1, n2, n3⟩ := resA_spec (m := m) (base := o.dst.getD 0 + 10000) hR'
            have hvs := n3 (ok' := c.ok m (E.ob st) w.heap) (O' := E.ob st) (m' := m) (fun i b hb => hb) (fun h o ho => by rw [hnil] at ho; cases ho)
            exact wr_post hS o.dst (valOf_RV hu n2 hvs) h''

/-- What a guard's slot says. -/
theorem guard_bool (hS : SimM c E st m a w) {all : List Oper} {j t : Nat} {b : Bool} (ht : (all[j]?).bind (·.dst) = some t) (hb : E.rd st t = .g .bool b) :
    yielded all.toArray a.tmps j = some b ∧ a.put (some t) (.bool b) = a := by
  have hv := hS.rd t
  rw [hb] at hv
  have hv := g_bool hv
  have hlt : t < a.tmps.size := by
    rcases Nat.lt_or_ge t a.tmps.size with h' | h'
    · exact h'
    · rw [Array.getD_eq_getD_getElem?, Array.getElem?_eq_none h'] at hv
      simp [undef] at hv
  constructor
  · unfold yielded
    have ht' : (all.toArray[j]?).bind (·.dst) = some t := by simpa using ht
    rw [ht']
    have : a.tmps[t]? = some (.bool b) := by
      rw [Array.getElem?_eq_getElem hlt]
      rw [Array.getD_eq_getD_getElem?, Array.getElem?_eq_getElem hlt] at hv
      simpa using hv
    simp [this]
  · unfold Act.put
    simp only
    congr 1
    apply Array.ext_getElem?
    intro i
    rw [Array.getElem?_setIfInBounds]
    split
    · rename_i hi
      subst hi
      rw [Array.getElem?_eq_getElem hlt]
      rw [Array.getD_eq_getD_getElem?, Array.getElem?_eq_getElem hlt] at hv
      simpa using hv.symm
    · rfl

theorem guard_none (hS : SimM c E st m a w) {all : List Oper} {j t : Nat} (ht : (all[j]?).bind (·.dst) = some t) (hb : E.rd st t = .tup []) : yielded all.toArray a.tmps j = none := by
  have hv := hS.rd t
  rw [hb] at hv
  have hv : a.tmps.getD t undef = .tuple #[] := by
    generalize a.tmps.getD t undef = u at hv
    cases hv with
    | tup _ vs hs _ =>
      have : vs = #[] := by simpa using hs
      rw [this]
  unfold yielded
  have ht' : (all.toArray[j]?).bind (·.dst) = some t := by simpa using ht
  rw [ht']
  simp only [Option.bind_some]
  cases hg : a.tmps[t]? with
  | none => rfl
  | some u =>
    rw [Array.getD_eq_getD_getElem?, hg] at hv
    simp only [Option.getD_some] at hv
    subst hv
    rfl

theorem rv_undef {ok : Bool → Nat → Prop} {O : Nat → Option AO} {H : Array Obj} : RV ok m O H (.tup []) undef := .tup [] #[] rfl (fun i a v h _ => by simp at h)

/-- One operation of a region: it is left out, or it is carried out. -/
theorem guard_cases {q : Oper → Bool} (hS : SimM c E st m a w) {all l : List Oper} (h : aops tt T E q all (o :: l) st K = some r) :
    (Region.wanted o (yielded all.toArray a.tmps) = false ∧ Post c E (fun st' => aops tt T E q all l st' K) r (a.put o.dst undef) w) ∨
    (Region.wanted o (yielded all.toArray a.tmps) = true ∧ ∃ st1, SimM c E st1 m a w ∧ aop tt T E (q o) o st1 (fun st' => aops tt T E q all l st' K) = some r) := by
  simp only [aops] at h
  split at h
  · rename_i hg
    exact .inr ⟨by simp [Region.wanted, hg], st, hS, h⟩
  · rename_i j want hg
    split at h
    · cases h
    · rename_i t ht
      split at h
      · rename_i b hb
        obtain ⟨hy, hput⟩ := guard_bool hS ht hb
        have step : ∀ v : Bool, b = v → E.wr (some t) (.g .bool v) st (fun st1 => cond (v == want) (aop tt T E (q o) o st1 fun st' => aops tt T E q all l st' K) (E.wr o.dst (.tup []) st1 fun st' => aops tt T E q all l st' K)) = some r →
            (Region.wanted o (yielded all.toArray a.tmps) = false ∧ Post c E (fun st' => aops tt T E q all l st' K) r (a.put o.dst undef) w) ∨
            (Region.wanted o (yielded all.toArray a.tmps) = true ∧ ∃ st1, SimM c E st1 m a w ∧ aop tt T E (q o) o st1 (fun st' => aops tt T E q all l st' K) = some r) := by
          intro v hbv h
          subst hbv
          obtain ⟨st1, h1, h2⟩ := wr_sound hS (some t) (u := .bool b) mk_bool h
          rw [hput] at h1
          by_cases hw : b = want
          · subst hw
            simp only [beq_self_eq_true, cond_true] at h2
            exact .inr ⟨by simp [Region.wanted, hg, hy], st1, h1, h2⟩
          · have : (b == want) = false := by simpa using hw
            rw [this] at h2
            simp only [cond_false] at h2
            exact .inl ⟨by simp [Region.wanted, hg, hy, hw], wr_post h1 _ rv_undef h2⟩
        cases b with
        | true => exact step true rfl h
        | false => exact step false rfl h
      · rename_i hb
        have hy := guard_none hS ht hb
        exact .inl ⟨by simp [Region.wanted, hg, hy], wr_post hS _ rv_undef h⟩
      · cases h

/-- The operations of a region, in the text's order. -/
theorem aops_sound {q : Oper → Bool} (hP : ∀ t, TDok P t (tt t)) (hT : ∀ f, ∀ e ∈ T f, SoundX P f e) {Q : Exit → Act → World → Prop} {all : List Oper} : ∀ (l : List Oper) {st : St} {m : Nat → Option Nat} {D : Nat → Prop} {a : Act} {w : World},
    SimM (c.die D) E st m a w → aops tt T E q all l st K = some r → (∀ st' a' w', Sim c E st' a' w' → K st' = some r → Q .normal a' w') → wpList P all.toArray Q l a w := by
  intro l
  induction l with
  | nil => intro st m D a w hS h hQ; exact hQ st a w ⟨m, D, hS⟩ h
  | cons o l ih =>
    intro st m D a w hS h hQ
    have next : ∀ {a' : Act} {w' : World}, Post (c.die D) E (fun st' => aops tt T E q all l st' K) r a' w' → wpList P all.toArray Q l a' w' := by
      rintro a' w' ⟨st', ⟨m', D', hS'⟩, h'⟩
      exact ih (D := D') hS' h' hQ
    unfold wpList
    rcases guard_cases hS h with ⟨hw, hp⟩ | ⟨hw, st1, hS1, h1⟩
    · rw [if_neg (by simp [hw])]
      exact next hp
    · rw [if_pos hw]
      refine .inl ?_
      have := (aop_sound (o := o) hP hT hS1 h1).wp
      unfold Oper.wp at this
      unfold Oper.wp
      generalize (execOp a.eval o).run P w = res at this
      cases res with
      | halt x w' => cases x <;> simp only [Oper.upon] at this
      | ok n w' =>
        cases n <;> simp only [Oper.upon] at this ⊢
        case value v => exact next this
        case skip => exact next this
        case defer d => exact next this
        case enter f args =>
          refine this.mono fun e w'' he => ?_
          cases e with
          | returned v => exact next he
          | panicked ch => exact he.elim
          | outgrown => obtain ⟨_, _, hh⟩ := he; exact hh.elim
        case row rw0 args => exact this.mono fun v w'' he => next he

/-- What is shown of each operation of a region that draws its order. -/
def DoneD (P : Program) (c : Cx) (E : Env) (K : St → Option ρ) (r : ρ) (o : Oper) (a : Act) (w : World) : Prop :=
  ∃ u, (∀ w', (memOp o = false ∨ loadOp o = true ∧ Below w.heap.size w w') → (execOp a.eval o).run P w' = .ok (.value u) w') ∧ (∀ w', Below w.heap.size w w' → o.quietAt P a (Below w.heap.size w) w' u) ∧ Post c E K r (a.put o.dst u) w

theorem DoneQ.d (h : DoneQ P c E K r o a w) : DoneD P c E K r o a w := by
  obtain ⟨u, h1, h2⟩ := h
  refine ⟨u, fun w' hm => h1 w' (fun h => hm.elim (fun hm => by rw [hm] at h; cases h) fun hm => hm.2), fun w' hb => ?_, h2⟩
  unfold Oper.quietAt
  rw [h1 w' (fun _ => hb)]
  exact ⟨rfl, rfl⟩

theorem s_callD {f : Operand} {args : Array Operand} {ats : Array TypeId} (hT : ∀ f, ∀ e ∈ T f, SoundX P f e) (hS : SimM c E st m a w) (hop : o.op = .call { callee := .value f, args := args, argTypes := ats })
    (h : aop tt T E true o st K = some r) : DoneD P c E K r o a w := by
  have core : ∀ {g : Nat} {caps : List AV}, (E.ev st f = .fn g caps ∨ ∃ s x, E.ev st f = .g (.clo g s) x ∧ caps = flat s x) → doCall E true o.dst (args.toList.map (E.ev st) ++ caps) st K (T g) = some r → DoneD P c E K r o a w := by
    intro g caps he h
    obtain ⟨vs, hu, hs, hv⟩ := callee_sound hS he
    obtain ⟨u, h1, h2⟩ := doCall_quiet (o := o) hS (f := g) (args := args.toList.map (E.ev st) ++ caps) (vals := (args.map a.eval).toList ++ vs.toList) (by simp [hs]) (fun i av v h1 h2 => by
      rw [List.getElem?_append] at h1 h2
      simp only [List.length_map, Array.length_toList, Array.size_map] at h1 h2
      split at h1
      · rename_i hi
        rw [if_pos hi] at h2
        rw [List.getElem?_map, Array.getElem?_toList] at h1
        rw [Array.getElem?_toList, Array.getElem?_map] at h2
        cases hx : args[i]? with
        | none => rw [hx] at h1; cases h1
        | some x =>
          rw [hx] at h1 h2
          cases h1
          cases h2
          exact hS.ev x
      · rename_i hi
        rw [if_neg hi] at h2
        exact hv _ av v h1 (by simpa using h2)) (hT g) h
    refine ⟨u, fun w' hm => (by simp [memOp, loadOp, hop] at hm), fun w' hb => ?_, h2⟩
    have hc := h1 w' hb
    have hrun : (execOp a.eval o).run P w' = (callFunc g (args.map a.eval ++ vs)).run P w' := by
      unfold execOp
      simp only [hop, resolve, Deferred.ofValue, hu, invoke]
      simp
    have harr : ((args.map a.eval).toList ++ vs.toList).toArray = args.map a.eval ++ vs := by
      apply Array.ext'
      simp
    rw [harr] at hc
    unfold Oper.quietAt
    rw [hrun]
    unfold CallOk at hc
    split at hc
    · rename_i k ar w1 hr
      rw [hr]
      obtain ⟨rfl, hc⟩ := hc
      exact ⟨rfl, hc.mono fun e w' ⟨v, h1, h2, h3⟩ => by subst h1; exact ⟨by rw [h2], h3⟩⟩
    · rename_i v w1 hr
      rw [hr]
      exact ⟨hc.1, hc.2.1⟩
    · exact hc.elim
  simp only [aop, hop] at h
  split at h
  · rename_i g caps he
    exact core (.inl he) h
  · rename_i g s x he
    exact core (.inr ⟨s, x, he, rfl⟩) h
  · cases h

theorem aop_draw (hP : ∀ t, TDok P t (tt t)) (hT : ∀ f, ∀ e ∈ T f, SoundX P f e) (hq : quietOp o = true) (hS : SimM c E st m a w) (h : aop tt T E true o st K = some r) : DoneD P c E K r o a w := by
  cases hop : o.op with
  | move x => exact (s_move hS hop h).d
  | assign x => exact (s_assign hS hop h).d
  | pick x y z => exact (s_pick hS hop h).d
  | binOp op t x y u => exact (s_binOp hP hS (fun w1 hb => hS.below hb) hop h).elim (·.d) (fun h => nomatch h.1)
  | unOp op t x => exact (s_unOp hS hop h).d
  | convert s d x => exact (s_convert hP hS (fun w1 hb => hS.below hb) hop h).elim (·.d) (fun h => nomatch h.1)
  | extract x i => exact (s_extract hS hop h).d
  | nilCheck x => exact (s_nilCheck hS hop h).d
  | indexAddr t x i => exact (s_indexAddr hP hS hop h).d
  | fieldAddr t x f => exact (s_fieldAddr hP hS hop h).d
  | field t x f => exact (s_field hP hS hop h).d
  | load t x => exact (s_load hP hS hop h).d
  | slice t x lo hi mx =>
    cases mx with
    | none => exact (s_slice hP hS hop h).d
    | some _ => simp [aop, hop] at h
  | build t parts => exact (s_build hP hS hop h).d
  | makeFunc fn fi ca =>
    cases fn with
    | func f => exact (s_makeFunc hS hop h).d
    | _ => simp [aop, hop] at h
  | call cl =>
    obtain ⟨callee, args, ats⟩ := cl
    cases callee with
    | builtin b =>
      refine (s_builtin ?_ ?_ hP hS hop h).d
      · rintro rfl
        simp [quietOp, hop] at hq
      · rintro rfl
        simp [quietOp, hop] at hq
    | value f => exact s_callD hT hS hop h
    | invoke _ _ => simp [aop, hop] at h
  | _ => simp [quietOp, hop] at hq

theorem aop_dr (hP : ∀ t, TDok P t (tt t)) (hd : fltDr tt o = true) (hS : SimM c E st m a w) (h : aop tt T E q o st K = some r) : DoneR P c E K r o a w := by
  unfold fltDr at hd
  split at hd
  · rename_i op t x y u hop
    exact (s_binOp hP hS (fun w1 hb => hS.below hb) hop h).elim (·.dr) (·.2.2)
  · rename_i s d x hop
    exact (s_convert hP hS (fun w1 hb => hS.below hb) hop h).elim (·.dr) (·.2.2)
  · cases hd

/-- The operations of a region that draws its order, in the text's order. -/
theorem aops_draw {q : Oper → Bool} (hP : ∀ t, TDok P t (tt t)) (hT : ∀ f, ∀ e ∈ T f, SoundX P f e) {Q : Exit → Act → World → Prop} {all : List Oper} : ∀ (l : List Oper) {st : St} {m : Nat → Option Nat} {D : Nat → Prop} {a : Act},
    (∀ o ∈ l, quietOp o = true ∧ q o = true) → SimM (c.die D) E st m a w → aops tt T E q all l st K = some r → (∀ st' a' w', Sim c E st' a' w' → K st' = some r → Q .normal a' w') →
      wpQuiet P all.toArray (Below w.heap.size w) (fun a' => ∀ w', Below w.heap.size w w' → Q .normal a' w') l a := by
  intro l
  induction l with
  | nil => intro st m D a _ hS h hQ; exact fun w' hb => hQ st a w' ⟨m, D, hS.below hb⟩ h
  | cons o l ih =>
    intro st m D a hq hS h hQ
    have next : ∀ {a' : Act}, Post (c.die D) E (fun st' => aops tt T E q all l st' K) r a' w → wpQuiet P all.toArray (Below w.heap.size w) (fun a' => ∀ w', Below w.heap.size w w' → Q .normal a' w') l a' := by
      rintro a' ⟨st', ⟨m', D', hS'⟩, h'⟩
      exact ih (D := D') (fun o ho => hq o (List.mem_cons_of_mem _ ho)) hS' h' hQ
    unfold wpQuiet
    rcases guard_cases hS h with ⟨hw, hp⟩ | ⟨hw, st1, hS1, h1⟩
    · rw [if_neg (by simp [hw])]
      exact next hp
    · rw [if_pos hw]
      obtain ⟨hq1, hq2⟩ := hq o List.mem_cons_self
      rw [hq2] at h1
      obtain ⟨u, _, h1, h2⟩ := aop_draw hP hT hq1 hS1 h1
      exact ⟨u, h1, next h2⟩

/-- The same where there are operations that change memory. -/
theorem aops_mix {q : Oper → Bool} {Wd : Oper → Bool} (hP : ∀ t, TDok P t (tt t)) (hT : ∀ f, ∀ e ∈ T f, SoundX P f e) {Q : Exit → Act → World → Prop} {all : List Oper} : ∀ (l : List Oper) {st : St} {m : Nat → Option Nat} {D : Nat → Prop} {a : Act} {w : World},
    (∀ o ∈ l, Wd o = true ∨ (Wd o = false ∧ fltDr tt o = true) ∨ (Wd o = false ∧ quietOp o = true ∧ q o = true)) → SimM (c.die D) E st m a w → aops tt T E q all l st K = some r → (∀ st' a' w', Sim c E st' a' w' → K st' = some r → Q .normal a' w') →
      wpMix P Wd (growOp T) (fltDr tt) all.toArray Q l a (Below w.heap.size w) := by
  intro l
  induction l with
  | nil => intro st m D a w _ hS h hQ; exact fun w' hb => hQ st a w' ⟨m, D, hS.below hb⟩ h
  | cons o l ih =>
    intro st m D a w hq hS h hQ
    have next : ∀ {a' : Act} {w' : World}, Post (c.die D) E (fun st' => aops tt T E q all l st' K) r a' w' → wpMix P Wd (growOp T) (fltDr tt) all.toArray Q l a' (Below w'.heap.size w') := by
      rintro a' w' ⟨st', ⟨m', D', hS'⟩, h'⟩
      exact ih (D := D') (fun o ho => hq o (List.mem_cons_of_mem _ ho)) hS' h' hQ
    unfold wpMix stepM
    rcases guard_cases hS h with ⟨hw, hp⟩ | ⟨hw, st1, hS1, h1⟩
    · exact .inr (.inr (.inl ⟨hw, next hp⟩))
    · rcases hq o List.mem_cons_self with hwd | ⟨hwd, hfd⟩ | ⟨hwd, hq1, hq2⟩
      · refine .inl ⟨hw, hwd, fun w1 hb => ?_⟩
        cases hgr : growOp T o with
        | false => exact OutW.mono (aop_sound (o := o) hP hT (hS1.below hb) h1).wp fun a' w' hp => ⟨_, Below.refl _ _, fun h => (nomatch h), next hp⟩
        | true =>
          have hcall : ∃ f args ats, o.op = .call { callee := .value f, args := args, argTypes := ats } := by
            unfold growOp at hgr
            split at hgr
            · rename_i e
              exact ⟨_, _, _, e⟩
            · cases hgr
          obtain ⟨f, args, ats, hop⟩ := hcall
          exact OutW.mono (s_callG hT (hS1.below hb) hop h1 hgr) fun a' w' ⟨hp, hb'⟩ => ⟨_, Below.refl _ _, fun _ x hx => hb.trans ((hb'.trans (hx.mono hb'.size)).mono hb.size), next hp⟩
      · refine .inr (.inr (.inr ⟨hw, hwd, hfd, fun w1 hb => ?_⟩))
        obtain ⟨v, w', h2, h3, h4⟩ := aop_dr hP hfd hS1 h1 w1 hb
        exact ⟨v, w', h2, h3, next h4⟩
      · rw [hq2] at h1
        obtain ⟨u, h2, h3, h4⟩ := aop_draw hP hT hq1 hS1 h1
        exact .inr (.inl ⟨hw, hwd, u, h2, h3, next h4⟩)

end

end Go.Proofs.Ytmdicmdodbndgaa.Fw
