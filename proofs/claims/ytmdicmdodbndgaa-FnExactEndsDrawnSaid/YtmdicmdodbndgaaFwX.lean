/-
  Steps of the evaluator are steps of the model: append. No condition.
-/
import Derived.Test.YtmdicmdodbndgaaFwN
import Derived.Deep.AppendSrc
import Derived.Laws.AppendOwn
namespace Go.Proofs.Ytmdicmdodbndgaa.Fw
open Go Go.RowKit

section
variable {P : Program} {tt : Nat → TD} {T : Nat → List EntX} {q : Bool} {c : Cx} {E : Env} {st : St} {m : Nat → Option Nat} {a : Act} {w : World} {ρ : Type} {K : St → Option ρ} {r : ρ} {o : Oper}

theorem baseOf_spec {S : Nat → Option AO} {s : Sh} {av : AV} {h : Option Nat} {y : List s.den} (hb : baseOf S s av = some (h, y)) (hn : ∀ h off len, av ≠ .slc h off len) :
    (∃ k, av = .full k ∧ S k = some (.arr s y)) ∨ (av = .nil ∧ y = []) := by
  unfold baseOf at hb
  split at hb
  · cases hb; exact .inr ⟨rfl, rfl⟩
  · rename_i k
    split at hb
    · rename_i s' xs hs
      split at hb
      · rename_i ys hc
        cases hb
        obtain ⟨e, rfl⟩ := castSh_some hc
        cases e
        exact .inl ⟨k, rfl, hs⟩
      · cases hb
    · cases hb
  · rename_i h' len
    exact absurd rfl (hn h' 0 len)
  · cases hb

/-- The cells of a row, one behind the other. -/
theorem row_cells {ok : Bool → Nat → Prop} {H : Array Obj} {s : Sh} {b : Nat} : ∀ {xs : List s.den} {off : Nat},
    (∀ (i : Nat) (x : s.den), xs[i]? = some x → ∃ l, l.length = s.size ∧ Reads H b (off + i * s.size) l ∧ RC ok H s x l) →
    ∃ news : List Value, news.length = xs.length * s.size ∧ Reads H b off news ∧ (∀ v ∈ news, oneV v = true) ∧
      ∀ (i : Nat) (x : s.den), xs[i]? = some x → ∃ l, l.length = s.size ∧ (∀ (j : Nat) (v : Value), l[j]? = some v → news[i * s.size + j]? = some v) ∧ RC ok H s x l := by
  intro xs
  induction xs with
  | nil => intro off _; exact ⟨[], by simp, fun j v hj => (by simp at hj), fun v hv => (by cases hv), fun i x hx => (by simp at hx)⟩
  | cons x xs ih =>
    intro off h
    obtain ⟨l0, h1, h2, h3⟩ := h 0 x rfl
    obtain ⟨news, n1, n2, n3, n4⟩ := ih (off := off + s.size) (fun i y hy => by
      obtain ⟨l, l1, l2, l3⟩ := h (i + 1) y (by simpa using hy)
      refine ⟨l, l1, ?_, l3⟩
      rw [Nat.add_mul, Nat.one_mul] at l2
      rw [show off + s.size + i * s.size = off + (i * s.size + s.size) by omega]
      exact l2)
    refine ⟨l0 ++ news, by simp [h1, n1, Nat.add_mul, Nat.add_comm], fun j v hj => ?_, fun v hv => ?_, fun i y hy => ?_⟩
    · rw [List.getElem?_append] at hj
      split at hj
      · have := h2 j v hj
        simpa using this
      · rename_i hlt
        have := n2 _ v hj
        rw [show off + s.size + (j - l0.length) = off + j by omega] at this
        exact this
    · rcases List.mem_append.1 hv with hv | hv
      · exact h3.one v hv
      · exact n3 v hv
    · cases i with
      | zero =>
        cases hy
        exact ⟨l0, h1, fun j v hj => by rw [Nat.zero_mul, Nat.zero_add, List.getElem?_append_left (lt_of_getl hj)]; exact hj, h3⟩
      | succ i =>
        obtain ⟨l, l1, l2, l3⟩ := n4 i y (by simpa using hy)
        refine ⟨l, l1, fun j v hj => ?_, l3⟩
        rw [List.getElem?_append_right (by rw [h1, Nat.add_mul]; omega), show (i + 1) * s.size + j - l0.length = i * s.size + j by rw [h1, Nat.add_mul]; omega]
        exact l2 j v hj

/-- What an append is handed first. -/
def BaseR (ok : Bool → Nat → Prop) (H : Array Obj) (s : Sh) (xs : List s.den) (v : Value) : Option Nat → Prop
  | none => v = .slice none 0 0 ∧ xs = []
  | some b => ∃ cs e o c, H[b]? = some (.cells cs e (0, 0)) ∧ v = .slice (some ⟨b, o, none⟩) xs.length c ∧ xs.length ≤ c ∧ (c ≠ 0 → o = 0) ∧ c * s.size ≤ cs.size ∧
      ∀ (i : Nat) (x : s.den), xs[i]? = some x → ∃ l, l.length = s.size ∧ Reads H b (i * s.size) l ∧ RC ok H s x l

theorem base_sound (hS : SimM c E st m a w) {s : Sh} {av : AV} {h : Option Nat} {xs : List s.den} {v : Value} (hv : RVs c E st m w av v) (hb : baseOf (look st.objs) s av = some (h, xs)) :
    BaseR (c.ok m (E.ob st) w.heap) w.heap s xs v (h.bind m) ∧ ∀ k, h = some k → ∃ ys : List s.den, look st.objs k = some (.arr s ys) ∧ xs.length ≤ ys.length := by
  have own : ∀ {k off len : Nat} {s' : Sh} {zs : List s'.den} {ys : List s.den} {v : Value}, look st.objs k = some (.arr s' zs) → castSh (.sl s) (.sl s') (zs.take len) = some ys → len ≤ zs.length → SlV m w.heap k s'.size 0 len v →
      BaseR (c.ok m (E.ob st) w.heap) w.heap s ys v (m k) ∧ ∃ qs : List s.den, look st.objs k = some (.arr s qs) ∧ ys.length ≤ qs.length := by
    intro k off len s' zs ys v hl hc hle hsl
    obtain ⟨e1, rfl⟩ := castSh_some hc
    cases e1
    have hlen : (List.take len zs).length = len := by simp; omega
    have hro := hS.objs k _ (ob_of_look hl)
    refine ⟨?_, zs, hl, by simp; omega⟩
    unfold SlV at hsl
    simp only [RO] at hro
    cases hm : m k with
    | none =>
      rw [hm] at hsl hro
      subst hro
      exact ⟨hsl.1, by simp⟩
    | some b =>
      rw [hm] at hsl hro
      obtain ⟨o0, cp, h1, h2, h3, h4⟩ := hsl
      obtain ⟨_, cs, e, g1, g2, g3⟩ := hro
      refine ⟨cs, e, o0, cp, g1, by rw [hlen]; exact h1, by rw [hlen]; exact h2, fun hne => by simpa using h3 hne, ?_, fun i x hx => ?_⟩
      · have := h4 cs.size (by simp [bsz, g1])
        simpa using this
      · refine g3 i x ?_
        rw [List.getElem?_take] at hx
        split at hx
        · exact hx
        · cases hx
  unfold baseOf at hb
  split at hb
  · cases hb
    cases hv
    exact ⟨⟨rfl, rfl⟩, fun k hk => by cases hk⟩
  · rename_i k
    split at hb
    · rename_i s' zs hl
      split at hb
      · rename_i ys hc
        cases hb
        cases hv with
        | full _ _ hsl _ =>
          obtain ⟨g1, g2⟩ := own (off := 0) (len := zs.length) hl (by simpa using hc) (Nat.le_refl _) (hsl _ _ (ob_of_look hl))
          exact ⟨g1, fun k' hk => by cases hk; exact g2⟩
      · cases hb
    · cases hb
  · rename_i k len
    split at hb
    · rename_i s' zs hl
      split at hb
      · rename_i ys hc
        cases hb
        cases hv with
        | slc _ _ _ _ hsl _ =>
          obtain ⟨q1, q2⟩ := hsl _ _ (ob_of_look hl)
          obtain ⟨g1, g2⟩ := own (off := 0) (len := len) hl hc (by omega) q1
          exact ⟨g1, fun k' hk => by cases hk; exact g2⟩
      · cases hb
    · cases hb
  · cases hb

/-- A new name for no block. -/
theorem SimM.nwNone (hS : SimM c E st m a w) {d : Nat} (hf : E.fresh st d = true) {s : Sh} : SimM c E { st with objs := (d, .arr s []) :: st.objs } (upd m d none) a w := by
  obtain ⟨f1, f2, f3, f4, f5⟩ := fresh_spec hf
  have hT : Tr (c.ok m (E.ob st) w.heap) m (E.ob st) w.heap (c.ok (upd m d none) (E.ob { st with objs := (d, .arr s []) :: st.objs }) w.heap)
      (upd m d none) (E.ob { st with objs := (d, .arr s []) :: st.objs }) w.heap (· = d) := by
    refine ⟨fun i b hb => ⟨⟨hb.1, hb.2.1, fun h o' ho => ?_, hb.2.2.2⟩, fun _ => rfl⟩, fun h o' ho hne => ?_⟩
    · by_cases hd : h = d
      · subst hd; rw [upd_self]; intro hh; cases hh
      · rw [upd_ne _ _ hd]
        rw [ob_cons_ne _ (Ne.symm hd)] at ho
        exact hb.2.2.1 h o' ho
    · rw [ob_cons_ne _ (Ne.symm hne)] at ho
      exact ⟨o', ho, AO.like_refl o', upd_ne _ _ hne, fun b hb => rfl⟩
  refine hS.change rfl hS.kept _ hT (fun d' hd' => by subst hd'; exact ⟨f1, f2⟩) (fun h o' ho => ?_) (fun h h' o1 o2 b h1 h2 h3 h4 => ?_) (fun h o' ho => ?_) (fun b hb => ?_)
  · by_cases hd : h = d
    · subst hd
      rw [ob_cons_self] at ho
      cases ho
      simp only [RO, upd_self]
    · rw [ob_cons_ne _ (Ne.symm hd)] at ho
      exact (hS.objs h o' ho).mono hT (upd_ne _ _ hd) (fun b hb => rfl) (fun cells hc d' hd' a ha => by
        subst hc
        subst hd'
        exact f5 h cells ho a ha)
  · by_cases hd : h = d
    · subst hd; rw [upd_self] at h3; cases h3
    · by_cases hd' : h' = d
      · subst hd'; rw [upd_self] at h4; cases h4
      · rw [ob_cons_ne _ (Ne.symm hd)] at h1
        rw [ob_cons_ne _ (Ne.symm hd')] at h2
        rw [upd_ne _ _ hd] at h3
        rw [upd_ne _ _ hd'] at h4
        exact hS.inj h h' o1 o2 b h1 h2 h3 h4
  · by_cases hd : h = d
    · subst hd; exact f4
    · simp only at ho
      rw [look_cons_ne _ _ (Ne.symm hd)] at ho
      exact hS.disj h o' ho
  · obtain ⟨g1, g2, g3⟩ := hS.alive b hb
    refine ⟨g1, g2, fun h o' ho => ?_⟩
    by_cases hd : h = d
    · subst hd; rw [upd_self]; intro hh; cases hh
    · rw [upd_ne _ _ hd]
      rw [ob_cons_ne _ (Ne.symm hd)] at ho
      exact g3 h o' ho

/-- The elements that an append is handed. -/
theorem run_first {s : Sh} {ys : List s.den} {ok : Bool → Nat → Prop} {v : Value} {w : World} (hr : RC ok w.heap (.sl s) ys [v]) : ∃ (A : Option Addr) (cp : Nat) (news : List Value), v = .slice A ys.length cp ∧ news.length = ys.length * s.size ∧ (∀ u ∈ news, oneV u = true) ∧
    (∀ (i : Nat) (x : s.den), ys[i]? = some x → ∃ l, l.length = s.size ∧ (∀ (j : Nat) (u : Value), l[j]? = some u → news[i * s.size + j]? = some u) ∧ RC ok w.heap s x l) ∧
    ∀ w', w'.heap = w.heap → (Builtin.firstCells s.size ys.length v).run P w' = .ok news.toArray w' := by
  simp only [RC] at hr
  obtain ⟨A, cp, h1, h2, h3⟩ := hr
  simp only [List.cons.injEq, and_true] at h1
  by_cases hy : ys = []
  · subst hy
    refine ⟨A, cp, [], h1, by simp, fun u hu => (by cases hu), fun i x hx => (by simp at hx), fun w' _ => ?_⟩
    subst h1
    cases A with
    | none => simp [Builtin.firstCells]
    | some A =>
      have := run_loadCells_list (P := P) (w := w') A [] (fun j v hj => by simp at hj)
      simpa [Builtin.firstCells] using this
  · obtain ⟨b, off, rfl, hb, hrow⟩ := h3 hy
    obtain ⟨news, n1, n2, n3, n4⟩ := row_cells hrow
    refine ⟨_, cp, news, h1, n1, n3, n4, fun w' hw => ?_⟩
    subst h1
    have := run_loadCells_list (P := P) (w := w') ⟨b, off, none⟩ news (fun j v hj => by rw [add_mk, cell_eq, hw]; exact n2 j v hj)
    rw [n1] at this
    simpa [Builtin.firstCells] using this

theorem zeroCells_size (z : Array Value) (n : Nat) : (Builtin.zeroCells z n).size = n * z.size := by simp [Builtin.zeroCells]

theorem s_append {args : Array Operand} {ats : Array TypeId} (hP : ∀ t, TDok P t (tt t)) (hS : SimM c E st m a w) (hop : o.op = .call { callee := .builtin .append, args := args, argTypes := ats })
    (h : aop tt T E q o st K = some r) : Done P c E K r o a w := by
  simp only [aop, hop] at h
  split at h
  · rename_i hb _; cases hb
  · rename_i hb _; cases hb
  · rename_i hb _; cases hb
  · rename_i x y _ hxy
    split at h
    · rename_i t ht
      split at h
      · rename_i s by0 he
        split at h
        · rename_i ho xs ys hbase hys
          obtain ⟨hc, h'⟩ := cond_some h
          simp only [Bool.and_eq_true, decide_eq_true_eq, LIM] at hc
          obtain ⟨⟨⟨⟨_, hlim⟩, hz⟩, href⟩, ht1⟩ := hc
          have href : s.ref = false := by simpa using href
          have hlim : xs.length + ys.length ≤ 4294967296 := of_decide_eq_true hlim
          clear h
          obtain ⟨e, inf, hu, hinf, hsz, hby, hby', hzz⟩ := (hP t).elem _ _ he
          obtain ⟨z, hz1, hz2⟩ := hzz hz
          have hzs : z.cells.size = s.size := by rw [← zcells_len hz, ← hz2]; simp
          -- the operands
          obtain ⟨p1, p2, hargs, hp1, hp2⟩ : ∃ p1 p2, args.toList = [p1, p2] ∧ E.ev st p1 = x ∧ E.ev st p2 = y := by
            match hl : args.toList, hxy with
            | [p1, p2], hxy =>
              simp only [List.map_cons, List.map_nil, List.cons.injEq, and_true] at hxy
              exact ⟨p1, p2, rfl, hxy.1, hxy.2⟩
          have hx := hS.ev p1
          have hy := hS.ev p2
          rw [hp1] at hx
          rw [hp2] at hy
          generalize hu1 : a.eval p1 = u at hx
          generalize hu2 : a.eval p2 = v at hy
          obtain ⟨hB, hlk⟩ := base_sound hS hx hbase
          have hone2 : oneV v = true := by
            cases hy with
            | top => simp [gnd] at hys
            | g s' x' v hc ha =>
              simp only [gnd] at hys
              have h1 := (castW_some (ok := c.ok m (E.ob st) w.heap) (H := w.heap) (hw := fun b hb => Cx.ok_any hb) hys).1
              have h2 : aggV v = false := by rw [ha, h1]; rfl
              rw [cells_one h2] at hc
              exact hc.one v (by simp)
            | full _ _ _ ho => exact ho
            | slc _ _ _ _ _ ho => exact ho
            | ptr _ _ _ _ ho => exact ho
            | el _ _ _ _ ho => exact ho
            | rp => rfl
            | nil => rfl
            | agg => simp [gnd] at hys
            | tup => simp [gnd] at hys
            | fn => rfl
          have hR2 := gnd_sound (m := m) (ok := c.ok m (E.ob st) w.heap) (okA := fun _ b => b < w.heap.size) (mt := c.mt) (vs := [v]) (fun i b hb => hb.1) (fun b hb => Cx.ok_any hb) (fun h o ho => ho) hS.objs (fun i k o b ho hb => by
            obtain ⟨_, cs, e, hh⟩ := (hS.objs k o ho).block hb
            exact lt_of_some hh) hys rfl (fun i av u h1 h2 => by
              cases i with
              | zero => cases h1; cases h2; exact hy
              | succ i => simp at h1) (by simp [hone2])
          obtain ⟨A2, cp2, news, rfl, n1, n2, n3, n4⟩ := run_first (P := P) hR2
          have hsrc : Src P inf.size t (.slice A2 ys.length cp2) ys.length news w := by
            rw [hsz]
            exact ⟨.inl ⟨e, hu⟩, fun w' => rfl, n4 w rfl, n4 w.drew rfl, n1, fun u hu => by have := n2 u hu; cases u <;> simp_all [oneV, Value.oneCell']⟩
          have hrunO : ∀ {u' : Value} {w' : World}, (Builtin.append_ #[t, t] o.type #[u, .slice A2 ys.length cp2]).run P w = .ok u' w' → (execOp a.eval o).run P w = .ok (.value u') w' := by
            intro u' w' hr
            have ha : args = #[p1, p2] := Array.toList_inj.1 hargs
            subst ha
            have hr' : (Builtin.append_ ats o.type #[u, .slice A2 ys.length cp2]).run P w = .ok u' w' := by
              have e : (Builtin.append_ ats o.type #[u, .slice A2 ys.length cp2]) = (Builtin.append_ #[t, t] o.type #[u, .slice A2 ys.length cp2]) := by
                unfold Builtin.append_
                simp [ht, ht1]
              rw [e, hr]
            unfold execOp
            simp only [hop, resolve, invoke, builtin, Sem.run_bind, Sem.run_pure, Result.andThen_ok, List.map_toArray, List.map_cons, List.map_nil, hu1, hu2, hr']
          -- a row of its own
          have hnew : ∀ {st1 : St} {m1 : Nat → Option Nat} {w1 : World} {cs : Array Value} {u' : Value}, SimM c E st1 m1 a w1 → E.nw o.dst (.arr s (xs ++ ys)) .full st1 K = some r →
              (Builtin.append_ #[t, t] o.type #[u, .slice A2 ys.length cp2]).run P w = .ok u' (w1.alloc (.cells cs e)) → ∀ cap, u' = .slice (some ⟨w1.heap.size, 0, none⟩) (xs.length + ys.length) cap → xs.length + ys.length ≤ cap → cap * s.size ≤ cs.size →
              (∀ (i : Nat) (x : s.den), (xs ++ ys)[i]? = some x → ∃ l ok, l.length = s.size ∧ (∀ (j : Nat) (v : Value), l[j]? = some v → cs[i * s.size + j]? = some v) ∧ RC ok w.heap s x l) → Done P c E K r o a w := by
            intro st1 m1 w1 cs u' hS1 hk hr cap hu' hcap hcs hel
            unfold Env.nw at hk
            split at hk
            · cases hk
            · rename_i d hd
              obtain ⟨hf, h''⟩ := cond_some hk
              have hlen : (xs ++ ys).length = xs.length + ys.length := List.length_append
              have hS' := hS1.nw hf (o := .arr s (xs ++ ys)) (cs := cs) (e := e) ⟨by
                rw [hlen]
                exact Nat.le_trans (Nat.mul_le_mul_right _ hcap) hcs, fun i x hx => by
                obtain ⟨l, ok, l1, l2, l3⟩ := hel i x hx
                exact ⟨l, l1, l2, RC.noref href l3⟩⟩ (fun cells hc => by cases hc)
              refine .inr (op_value (hrunO hr) ?_)
              rw [hd]
              refine wr_post hS' (some d) ?_ h''
              subst hu'
              exact new_full (cs := cs) hlen.symm hcap hcs d E { st1 with objs := (d, .arr s (xs ++ ys)) :: st1.objs } _ _ (ob_cons_self d _) (upd_self _ _ _) (by simp [bsz, alloc_heap])
          -- the arm that grows
          have grow : ∀ {base : Option Addr} {sCap : Nat} {olds : List Value} {st1 : St}, u = .slice base xs.length sCap → sCap < xs.length + ys.length → olds.length = xs.length * s.size →
              (∀ w' : World, w'.heap = w.heap → (Builtin.firstCells s.size xs.length (.slice base xs.length sCap)).run P w' = .ok olds.toArray w') →
              (∀ (i : Nat) (x : s.den), xs[i]? = some x → ∃ l ok, l.length = s.size ∧ (∀ (j : Nat) (v : Value), l[j]? = some v → olds[i * s.size + j]? = some v) ∧ RC ok w.heap s x l) →
              SimM c E st1 m a w → E.nw o.dst (.arr s (xs ++ ys)) .full st1 K = some r → Done P c E K r o a w := by
            intro base sCap olds st1 hu0 hlt ho1 ho2 ho3 hS1 hk
            have hby2 : (xs.length + ys.length) * inf.bytes ≤ 140737488355328 := by
              have h1 : (xs.length + ys.length) * inf.bytes ≤ 4294967296 * 4096 := Nat.mul_le_mul hlim (by omega)
              omega
            have hr := run_append_grow_src (P := P) w t t o.type e inf z hu hinf hz1 base xs.length sCap olds (by rw [hsz]; exact ho2 w.drew rfl) (.slice A2 ys.length cp2) ys.length news hsrc hlt (by omega) (growslice_fits hlt hby2)
            rw [← hu0] at hr
            have hge := grownCap_ge w (xs.length + ys.length) sCap e
            have hlen2 : (olds ++ news).length = (xs.length + ys.length) * s.size := by rw [List.length_append, ho1, n1, Nat.add_mul]
            have hS2 : SimM c E st1 m a w.drew := hS1.same ⟨rfl, rfl, rfl, rfl⟩
            refine hnew hS2 hk hr _ rfl hge ?_ (fun i x hx => ?_)
            · simp only [Array.size_append, List.size_toArray, hlen2, zeroCells_size, hzs, ← Nat.add_mul]
              exact Nat.mul_le_mul_right _ (by omega)
            · have hcell : ∀ (k : Nat) (v : Value), (olds ++ news)[k]? = some v → ((olds ++ news).toArray ++ Builtin.zeroCells z.cells (grownCap w (xs.length + ys.length) sCap e - (xs.length + ys.length)))[k]? = some v := fun k v hk' => by
                rw [Array.getElem?_append_left (by simpa using lt_of_getl hk')]
                simpa using hk'
              rw [List.getElem?_append] at hx
              split at hx
              · rename_i hi
                obtain ⟨l, ok, l1, l2, l3⟩ := ho3 i x hx
                exact ⟨l, ok, l1, fun j v hj => hcell _ _ (by rw [List.getElem?_append_left (lt_of_getl (l2 j v hj))]; exact l2 j v hj), l3⟩
              · rename_i hi
                obtain ⟨l, l1, l2, l3⟩ := n3 _ x hx
                refine ⟨l, _, l1, fun j v hj => hcell _ _ ?_, l3⟩
                have hmul : xs.length * s.size ≤ i * s.size := Nat.mul_le_mul_right _ (by omega)
                have h5 := l2 j v hj
                rw [Nat.sub_mul] at h5
                rw [List.getElem?_append_right (by omega), show i * s.size + j - olds.length = i * s.size - xs.length * s.size + j by omega]
                exact h5
          have hnilO : ∀ w' : World, w'.heap = w.heap → (Builtin.firstCells s.size 0 (.slice none 0 0)).run P w' = .ok ([] : List Value).toArray w' := fun w' _ => by simp [Builtin.firstCells]
          -- nothing onto nothing
          have none0 : ∀ {st1 : St}, u = .slice none 0 0 → xs = [] → ys = [] → SimM c E st1 m a w → E.nw o.dst (.arr s (xs ++ ys)) .full st1 K = some r → Done P c E K r o a w := by
            intro st1 hu0 hx0 hy0 hS1 hk
            subst hx0 hy0 hu0
            have hr : (Builtin.append_ #[t, t] o.type #[.slice none 0 0, .slice A2 ([] : List s.den).length cp2]).run P w = .ok (.slice none 0 0) w := by
              have h1 := hsrc.len w
              have h2 := hsrc.cells
              simp only [List.length_nil] at h1 h2 ⊢
              simp [Builtin.append_, run_underlying hu, sizeOf, typeInfo, hinf, h1, h2]
            unfold Env.nw at hk
            split at hk
            · cases hk
            · rename_i d hd
              obtain ⟨hf, h''⟩ := cond_some hk
              have hS' := hS1.nwNone hf (s := s)
              refine .inr (op_value (hrunO hr) ?_)
              rw [hd]
              refine wr_post hS' (some d) (.full d _ (fun s' xs' hO => ?_) rfl) h''
              rw [ob_cons_self] at hO
              cases hO
              unfold SlV
              rw [upd_self]
              exact ⟨rfl, rfl⟩
          -- a slice that has cells
          have some1 : ∀ {h b : Nat}, ho = some h → m h = some b → E.nw o.dst (.arr s (xs ++ ys)) .full { st with objs := del st.objs h } K = some r → Done P c E K r o a w := by
            intro h b hho hm hk
            obtain ⟨zs, hl, hle⟩ := hlk h hho
            rw [hho] at hB
            simp only [Option.bind_some, hm] at hB
            obtain ⟨cs, e0, o0, cp, b1, b2, b3, b4, b5, b6⟩ := hB
            have hS1 := (hS.dels [h]).1
            have hS1 : SimM c E { st with objs := del st.objs h } m a w := hS1
            by_cases hroom : xs.length + ys.length ≤ cp
            · unfold Env.nw at hk
              split at hk
              · cases hk
              · rename_i d hd
                obtain ⟨hf, h''⟩ := cond_some hk
                have hlen : (xs ++ ys).length = xs.length + ys.length := List.length_append
                have hfit : xs.length * s.size + news.length ≤ cs.size := by
                  have : (xs.length + ys.length) * s.size ≤ cp * s.size := Nat.mul_le_mul_right _ hroom
                  rw [n1, ← Nat.add_mul]
                  omega
                have hr : (Builtin.append_ #[t, t] o.type #[u, .slice A2 ys.length cp2]).run P w = .ok (.slice (some ⟨b, o0, none⟩) (xs.length + ys.length) cp) (setB w b (.cells (lay cs (xs.length * s.size) news) e0 (0, 0))) := by
                  have h1 := hsrc.len w
                  have h2 := hsrc.cells
                  rw [hsz] at h2
                  have h3 : (storeCells ((⟨b, o0, none⟩ : Addr).add (xs.length * inf.size)) news 0).run P w = .ok () (setB w b (.cells (lay cs (xs.length * s.size) news) e0 (0, 0))) := by
                    rw [hsz, add_mk]
                    by_cases hcp : cp = 0
                    · have hy0 : ys = [] := List.eq_nil_of_length_eq_zero (by omega)
                      have hx0 : xs = [] := List.eq_nil_of_length_eq_zero (by omega)
                      subst hy0 hx0
                      have hn0 : news = [] := List.eq_nil_of_length_eq_zero (by simpa using n1)
                      subst hn0
                      have h6 := run_storeCells (P := P) b [] (fun v hv => by cases hv) 0 0 w cs e0 b1 (by simp)
                      simp only [storeCells, lay] at h6 ⊢
                      simpa using h6
                    · rw [b4 hcp, Nat.zero_add]
                      exact run_storeCells b news n2 (xs.length * s.size) 0 w cs e0 b1 (by omega)
                  rw [b2]
                  simp [Builtin.append_, run_underlying hu, sizeOf, typeInfo, hinf, h1, hroom, hsz, h2]
                  rw [hsz] at h3
                  simp [h3]
                have hS' := hS.rename (zs := xs ++ ys) hl hm hf b1 (lay_size cs (xs.length * s.size) news) ⟨by
                  rw [lay_size, hlen]
                  exact Nat.le_trans (Nat.mul_le_mul_right _ hroom) b5, fun i x hx => by
                  have hcell : ∀ (k : Nat), (lay cs (xs.length * s.size) news)[k]? = if xs.length * s.size ≤ k ∧ k < xs.length * s.size + news.length then news[k - xs.length * s.size]? else cs[k]? := lay_get _ _ _ hfit
                  rw [List.getElem?_append] at hx
                  split at hx
                  · rename_i hi
                    obtain ⟨l, l1, l2, l3⟩ := b6 i x hx
                    refine ⟨l, l1, fun j v hj => ?_, RC.noref href l3⟩
                    have h5 := l2 j v hj
                    simp only [cellH, b1] at h5
                    have hj1 := lt_of_getl hj
                    have hmul : (i + 1) * s.size ≤ xs.length * s.size := Nat.mul_le_mul_right _ hi
                    rw [Nat.add_mul] at hmul
                    rw [hcell, if_neg (by omega)]
                    exact h5
                  · rename_i hi
                    obtain ⟨l, l1, l2, l3⟩ := n3 _ x hx
                    refine ⟨l, l1, fun j v hj => ?_, RC.noref href l3⟩
                    have h5 := l2 j v hj
                    have hlt := lt_of_getl h5
                    have hmul : xs.length * s.size ≤ i * s.size := Nat.mul_le_mul_right _ (by omega)
                    rw [Nat.sub_mul] at h5 hlt
                    rw [hcell, if_pos (by omega), show i * s.size + j - xs.length * s.size = i * s.size - xs.length * s.size + j by omega]
                    exact h5⟩
                refine .inr (op_value (hrunO hr) ?_)
                rw [hd]
                refine wr_post hS' (some d) (.full d _ (fun s' xs' hO => ?_) rfl) h''
                rw [show E.ob { st with objs := (d, .arr s (xs ++ ys)) :: del st.objs h } d = some (.arr s (xs ++ ys)) from ob_cons_self (st := { st with objs := del st.objs h }) d _] at hO
                cases hO
                unfold SlV
                rw [upd_self]
                refine ⟨o0, cp, by rw [hlen], by rw [hlen]; exact hroom, fun hne => by rw [b4 hne]; simp, fun n hn => ?_⟩
                simp only [bsz, setB_get _ _ _ (lt_of_some b1), lay_size, Option.some.injEq] at hn
                subst hn
                simpa using b5
            · obtain ⟨olds, q1, q2, q3, q4⟩ := row_cells (off := 0) (b := b) (xs := xs) (s := s) (H := w.heap) (ok := c.ok m (E.ob st) w.heap) (fun i x hx => by
                obtain ⟨l, l1, l2, l3⟩ := b6 i x hx
                exact ⟨l, l1, by rw [Nat.zero_add]; exact l2, l3⟩)
              refine grow (olds := olds) b2 (by omega) q1 (fun w' hw => ?_) (fun i x hx => by
                obtain ⟨l, l1, l2, l3⟩ := q4 i x hx
                exact ⟨l, _, l1, l2, l3⟩) hS1 hk
              by_cases hcp : cp = 0
              · have hx0 : xs = [] := List.eq_nil_of_length_eq_zero (by omega)
                subst hx0
                have ho0 : olds = [] := List.eq_nil_of_length_eq_zero (by simpa using q1)
                subst ho0
                have := run_loadCells_list (P := P) (w := w') ⟨b, o0, none⟩ [] (fun j v hj => by simp at hj)
                simpa [Builtin.firstCells] using this
              · have ho0 := b4 hcp
                subst ho0
                have := run_loadCells_list (P := P) (w := w') ⟨b, 0, none⟩ olds (fun j v hj => by rw [add_mk, cell_eq, hw]; exact q2 j v hj)
                rw [q1] at this
                simpa [Builtin.firstCells] using this
          cases ho with
          | none =>
            simp only [Option.bind_none] at hB
            obtain ⟨b1, b2⟩ := hB
            by_cases hy0 : ys = []
            · exact none0 b1 b2 hy0 hS h'
            · have hpos := List.length_pos_iff.2 hy0
              refine grow (base := none) (sCap := 0) (olds := []) (by rw [b1, b2]; rfl) (by omega) (by rw [b2]; simp) (fun w' hw => by rw [b2]; exact hnilO w' hw) (fun i x hx => by rw [b2] at hx; simp at hx) hS h'
          | some hk0 =>
            cases hm : m hk0 with
            | some b => exact some1 rfl hm h'
            | none =>
              simp only [Option.bind_some, hm] at hB
              obtain ⟨b1, b2⟩ := hB
              have hk := h'
              have hS1 : SimM c E { st with objs := del st.objs hk0 } m a w := (hS.dels [hk0]).1
              by_cases hy0 : ys = []
              · exact none0 b1 b2 hy0 hS1 hk
              · have hpos := List.length_pos_iff.2 hy0
                refine grow (base := none) (sCap := 0) (olds := []) (by rw [b1, b2]; rfl) (by omega) (by rw [b2]; simp) (fun w' hw => by rw [b2]; exact hnilO w' hw) (fun i x hx => by rw [b2] at hx; simp at hx) hS1 hk
        · cases h
      · cases h
    · cases h
  · rename_i hb _; cases hb
  · cases h

end

end Go.Proofs.Ytmdicmdodbndgaa.Fw
