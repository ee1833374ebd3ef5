/-
  Steps of the evaluator are steps of the model, eighth part: new objects, cuts of slices, lengths. No condition.
-/
import Derived.Test.YtmdicmdodbndgaaFwJ
namespace Go.Proofs.Ytmdicmdodbndgaa.Fw
open Go Go.RowKit

section
variable {P : Program} {tt : Nat → TD} {T : Nat → List EntX} {q : Bool} {c : Cx} {E : Env} {st : St} {m : Nat → Option Nat} {a : Act} {w : World} {ρ : Type} {K : St → Option ρ} {r : ρ} {o : Oper}

theorem ofV_mn (d : Nat) (v : Value) : ¬ Mn d (ofV v) := by
  have h0 : ∀ v, ¬ Mn d (ofV0 v) := by
    intro v hm
    unfold ofV0 at hm
    split at hm <;> cases hm
  unfold ofV
  split
  · rename_i cs
    cases cs.toList.all oneV with
    | false => intro hm; cases hm
    | true =>
      intro hm
      simp only [cond_true] at hm
      cases hm with
      | agg _ b hb hm =>
        obtain ⟨v, _, rfl⟩ := List.mem_map.1 hb
        exact h0 v hm
  · exact h0 _

theorem ev_mn {d : Nat} (hf : E.fresh st d = true) (x : Operand) : ¬ Mn d (E.ev st x) := by
  obtain ⟨f1, f2, _⟩ := fresh_spec hf
  cases x with
  | tmp t =>
    simp only [Env.ev, Env.rd]
    have h1 : ¬ Mn d (st.slots.getD t .top) := by
      rw [List.getD_eq_getElem?_getD]
      cases h : st.slots[t]? with
      | none => intro hm; cases hm
      | some av => exact f1 t av h
    have h2 : ¬ Mn d (E.slots.getD t .top) := by
      rw [List.getD_eq_getElem?_getD]
      cases h : E.slots[t]? with
      | none => intro hm; cases hm
      | some av => exact f2 t av h
    split
    · exact h2
    · exact h1
  | const v => exact ofV_mn d v
  | global g => intro hm; cases hm
  | func f => intro hm; cases hm with | fn _ _ b hb _ => cases hb

/-- A new object, and the slot that names it. -/
theorem nw_done (hS : SimM c E st m a w) {ob : AO} {vf : Nat → AV} (h : E.nw o.dst ob vf st K = some r) {u : Value} {cs : Array Value} {e : TypeId}
    (hr : (execOp a.eval o).run P w = .ok (.value u) (w.alloc (.cells cs e))) (hn : NewOk (c.ok m (E.ob st) w.heap) m (E.ob st) w.heap cs ob)
    (hnd : ∀ d, E.fresh st d = true → ∀ cells, ob = .box cells → ∀ a ∈ cells, ¬ Mn d a)
    (hv : ∀ d (E' : Env) (st' : St) (m' : Nat → Option Nat) (H : Array Obj), E'.ob st' d = some ob → m' d = some w.heap.size → bsz H w.heap.size = some cs.size →
      RV (c.ok m' (E'.ob st') H) m' (E'.ob st') H (vf d) u) : Done P c E K r o a w := by
  unfold Env.nw at h
  split at h
  · cases h
  · rename_i d hd
    obtain ⟨hf, h'⟩ := cond_some h
    have hS' := hS.nw hf (e := e) hn (hnd d hf)
    refine .inr (op_value hr ?_)
    rw [hd]
    refine wr_post hS' (some d) (hv d E { st with objs := (d, ob) :: st.objs } _ _ (ob_cons_self d ob) (upd_self _ _ _) ?_) h'
    simp [bsz, alloc_heap]

theorem new_ptr {cells : List AV} {cs : Array Value} {B : Nat} : ∀ d (E' : Env) (st' : St) (m' : Nat → Option Nat) (H : Array Obj), E'.ob st' d = some (.box cells) → m' d = some B → bsz H B = some cs.size →
      RV (c.ok m' (E'.ob st') H) m' (E'.ob st') H (.ptr d 0) (.pointer (some ⟨B, 0, none⟩)) := fun d E' st' m' H _ hm _ =>
  .ptr d 0 _ (fun _ _ => ⟨B, hm, rfl⟩) rfl

theorem new_full {s : Sh} {xs : List s.den} {cs : Array Value} {B n cap : Nat} (hn : n = xs.length) (hc : n ≤ cap) (hcs : cap * s.size ≤ cs.size) :
    ∀ d (E' : Env) (st' : St) (m' : Nat → Option Nat) (H : Array Obj), E'.ob st' d = some (.arr s xs) → m' d = some B → bsz H B = some cs.size →
      RV (c.ok m' (E'.ob st') H) m' (E'.ob st') H (.full d) (.slice (some ⟨B, 0, none⟩) n cap) := fun d E' st' m' H ho hm hb =>
  .full d _ (fun s' xs' ho' => by
    rw [ho] at ho'
    cases ho'
    unfold SlV
    rw [hm]
    refine ⟨0, cap, by rw [hn], by omega, fun _ => by simp, fun k hk => ?_⟩
    rw [hb] at hk
    cases hk
    simpa using hcs) rfl

theorem handle_mn {d : Nat} : ∀ (n : Nat) {v : AV}, Mn d v → AV.handle n v = true := by
  intro n
  induction n with
  | zero => intro v _; rfl
  | succ n ih =>
    intro v h
    cases h with
    | full => rfl
    | slc off len => rfl
    | ptr off => rfl
    | el i => rfl
    | agg l b hb hm => simp only [AV.handle]; exact List.any_eq_true.2 ⟨b, hb, ih hm⟩
    | tup l b hb hm => simp only [AV.handle]; exact List.any_eq_true.2 ⟨b, hb, ih hm⟩
    | fn f l b hb hm => simp only [AV.handle]; exact List.any_eq_true.2 ⟨b, hb, ih hm⟩

theorem s_alloc {t : TypeId} (hP : ∀ t, TDok P t (tt t)) (hS : SimM c E st m a w) (hop : o.op = .alloc t) (h : aop tt T E q o st K = some r) : Done P c E K r o a w := by
  simp only [aop, hop] at h
  obtain ⟨hc, h'⟩ := cond_some h
  simp only [Bool.and_eq_true, Bool.not_eq_true', List.isEmpty_eq_false_iff] at hc
  obtain ⟨hne, hnh⟩ := hc
  obtain ⟨z, z1, z2, z3, z4⟩ := (hP t).zero hne
  refine nw_done hS (e := t) h' (u := .pointer (some ⟨w.heap.size, 0, none⟩)) (cs := z.cells) ?_ ⟨z2, z3, fun i av v h1 h2 => z4 _ _ _ _ i av v h1 h2⟩ (fun d _ cells hb b hbb hm => ?_) new_ptr
  · unfold execOp
    simp [hop, Instr.alloc, z1, newVar, newRow]
  · cases hb
    rw [List.any_eq_true.2 ⟨b, hbb, handle_mn 6 hm⟩] at hnh
    cases hnh

theorem s_box {t : TypeId} {x : Operand} (hS : SimM c E st m a w) (hop : o.op = .box t x) (h : aop tt T E q o st K = some r) : Done P c E K r o a w := by
  simp only [aop, hop] at h
  split at h
  · rename_i cs hcs
    obtain ⟨c1, c2, c3, c4⟩ := cellsOf_sound (fun b hb => Cx.ok_any hb) (hS.ev x) hcs
    refine nw_done hS (e := t) h (u := .pointer (some ⟨w.heap.size, 0, none⟩)) (cs := (a.eval x).cells) ?_ ⟨c1, c2, c3⟩ (fun d hf cells hb b hbb hm => ?_) new_ptr
    · unfold execOp
      simp [hop, Instr.box, newVar, newRow]
    · cases hb
      exact ev_mn hf x (c4 d b hbb hm)
  · cases h

theorem zcells_len {s : Sh} (h : s.zeroed = true) : (zcells s).length = s.size := by
  induction s with
  | pair a b iha ihb =>
    simp only [Sh.zeroed, Bool.and_eq_true] at h
    simp [zcells, Sh.size, iha h.1, ihb h.2]
  | _ => simp_all [Sh.zeroed, zcells, Sh.size]

theorem toF_zero (k : FloatKind) : toF k 0 = some 0 := by cases k <;> rfl

theorem zcells_RC {H : Array Obj} {s : Sh} : ∀ {ok : Bool → Nat → Prop} (_ : s.zeroed = true), RC ok H s s.zero (zcells s) := by
  induction s with
  | pair a b iha ihb =>
    intro ok h
    simp only [Sh.zeroed, Bool.and_eq_true] at h
    simp only [RC, zcells]
    exact ⟨_, _, rfl, iha h.1, ihb h.2⟩
  | int k => intro ok h; simp [RC, zcells, Sh.zero]
  | bool => intro ok h; simp [RC, zcells, Sh.zero]
  | flt k => intro ok h; simp only [RC, zcells, Sh.zero]; exact ⟨0, rfl, (toF_zero k).symm⟩
  | sl s _ => intro ok h; exact RC.row rfl (Nat.le_refl 0) (fun h => absurd rfl h)
  | bx s _ => intro ok h; simp [Sh.zeroed] at h
  | clo f s _ => intro ok h; simp [Sh.zeroed] at h
  | un => intro ok h; simp [Sh.zeroed] at h
  | nw s ih => intro ok h; simp only [RC, zcells, Sh.zero]; exact ih h

theorem zcells_mk (s : Sh) : zcells s.mk = zcells s := by
  unfold Sh.mk
  cases s.ref <;> rfl
theorem zeroed_mk (s : Sh) : s.mk.zeroed = s.zeroed := by
  unfold Sh.mk
  cases s.ref <;> rfl
theorem size_mk (s : Sh) : s.mk.size = s.size := by
  unfold Sh.mk
  cases s.ref <;> rfl

theorem s_makeSlice {t : TypeId} {l cp : Operand} (hP : ∀ t, TDok P t (tt t)) (hS : SimM c E st m a w) (hop : o.op = .makeSlice t l cp) (h : aop tt T E q o st K = some r) : Done P c E K r o a w := by
  simp only [aop, hop] at h
  split at h
  · rename_i s by0 n k he hl hk
    obtain ⟨hc, h'⟩ := cond_some h
    simp only [Bool.and_eq_true] at hc
    obtain ⟨hd, hz⟩ := hc
    obtain ⟨d1, d2, d3⟩ := of_decide_eq_true hd
    simp only [LIM] at d3
    obtain ⟨e, inf, hu, hinf, hsz, hby, hby', hzz⟩ := (hP t).elem _ _ he
    obtain ⟨z, hz1, hz2⟩ := hzz hz
    obtain ⟨kn, hln⟩ := intA_sound (hS.ev l) hl
    obtain ⟨kk, hkk⟩ := intA_sound (hS.ev cp) hk
    obtain ⟨n, rfl⟩ := Int.eq_ofNat_of_zero_le d1
    obtain ⟨k, rfl⟩ := Int.eq_ofNat_of_zero_le (by omega : 0 ≤ k)
    have hw1 : IntKind.i64.wrap (n : Int) = n := IntWalk.i64_in _ (by omega)
    have hw2 : IntKind.i64.wrap (k : Int) = k := IntWalk.i64_in _ (by omega)
    have hzs : z.cells.size = s.size := by rw [← zcells_len hz, ← hz2]; simp
    have hbytes : ¬ ((281474976710656 : Int) < (by0 : Int) * k) := by
      have h1 : (by0 : Int) * k ≤ 4096 * k := Int.mul_le_mul_of_nonneg_right (by omega) (by omega)
      omega
    have hrun : (Instr.makeSlice t (.int kn n) (.int kk k)).run P w = .ok (.slice (some ⟨w.heap.size, 0, none⟩) n k) (w.alloc (.cells ((Array.range (k * s.size)).map (z.cells[· % z.cells.size]!)) e)) := by
      have hlt : ¬ ((k : Int) < 0) := by omega
      have hnk : ¬ ((n : Int) > k) := by omega
      have hn0 : ¬ ((n : Int) < 0) := by omega
      by_cases hk0 : k * s.size = 0
      · simp [Instr.makeSlice, run_underlying hu, asInt, asIntOf, run_info hinf, hw1, hw2, hby, hbytes, hnk, hlt, hn0, run_size hinf, hsz, hk0, newRow, Array.range_zero']
      · simp [Instr.makeSlice, run_underlying hu, asInt, asIntOf, run_info hinf, hw1, hw2, hby, hbytes, hnk, hlt, hn0, run_size hinf, hsz, hk0, newRow, zeroValue, hz1]
    refine nw_done hS (e := e) h' (u := .slice (some ⟨w.heap.size, 0, none⟩) n k) (cs := (Array.range (k * s.size)).map (z.cells[· % z.cells.size]!)) ?_ ⟨?_, fun i x hx => ?_⟩ (fun d _ cells hb => by cases hb) (new_full (by simp) (by omega) (by simp [size_mk]))
    · unfold execOp
      simp [hop, hln, hkk, hrun]
    · simp only [Int.toNat_natCast, List.length_replicate, Array.size_map, Array.size_range, size_mk]
      exact Nat.mul_le_mul_right _ (by omega)
    · simp only [Int.toNat_natCast] at hx
      have hi := lt_of_getl hx
      rw [List.length_replicate] at hi
      rw [List.getElem?_replicate, if_pos hi] at hx
      cases hx
      refine ⟨zcells s, by rw [zcells_len hz, size_mk], fun j v hj => ?_, by rw [← zcells_mk]; exact zcells_RC (by rw [zeroed_mk]; exact hz)⟩
      have hj1 := lt_of_getl hj
      rw [zcells_len hz] at hj1
      have hlt : i * s.size + j < k * s.size := by
        have : (i + 1) * s.size ≤ k * s.size := Nat.mul_le_mul_right _ (by omega)
        rw [Nat.add_mul] at this
        omega
      rw [size_mk, Array.getElem?_map]
      simp only [Array.getElem?_range, hlt, if_true, Option.map_some, Option.some.injEq]
      rw [hzs, Nat.mul_comm, Nat.mul_add_mod, Nat.mod_eq_of_lt hj1]
      rw [← hz2, Array.getElem?_toList] at hj
      rw [Array.getElem!_eq_getD, Array.getD_eq_getD_getElem?, hj]
      rfl
  · cases h

theorem s_makeFunc {f : Nat} {fi ca : Array Operand} (hS : SimM c E st m a w) (hop : o.op = .makeFunc (.func f) fi ca) (h : aop tt T E q o st K = some r) : DoneQ P c E K r o a w := by
  simp only [aop, hop] at h
  obtain ⟨hc, h'⟩ := cond_some h
  simp only [Bool.and_eq_true, Array.isEmpty_iff] at hc
  obtain ⟨hf, hall⟩ := hc
  subst hf
  refine done_v hS (u := .func (.func f) #[] (ca.map a.eval)) (fun w' hb => by unfold execOp; simp [hop, Instr.makeFunc]) (.fn f _ _ (by simp) (fun i av v h1 h2 => ?_) (fun v hv => ?_)) h'
  · rw [List.getElem?_map, Array.getElem?_toList] at h1
    rw [Array.getElem?_map] at h2
    cases hi : ca[i]? with
    | none => rw [hi] at h1; cases h1
    | some x =>
      rw [hi] at h1 h2
      cases h1
      cases h2
      exact hS.ev x
  · simp only [Array.toList_map, List.mem_map] at hv
    obtain ⟨x, hx, rfl⟩ := hv
    have h1 := List.all_eq_true.1 hall (E.ev st x) (List.mem_map_of_mem hx)
    have h2 := hS.ev x
    generalize a.eval x = v at h2
    generalize E.ev st x = av at h1 h2
    cases h2 with
    | g s y v hc ha =>
      simp only [AV.one, Bool.and_eq_true, Bool.not_eq_true'] at h1
      have h3 := cells_one (by rw [ha]; exact h1.1)
      rw [h3] at hc
      exact hc.one v (by simp)
    | full _ _ _ ho => exact ho
    | slc _ _ _ _ _ ho => exact ho
    | ptr _ _ _ _ ho => exact ho
    | el _ _ _ _ ho => exact ho
    | rp => rfl
    | nil => rfl
    | fn => rfl
    | top => cases h1
    | agg => cases h1
    | tup => cases h1

/-- A value of one cell. -/
theorem one_of {ok : Bool → Nat → Prop} {O : Nat → Option AO} {H : Array Obj} {av : AV} {v : Value} (h1 : av.one = true) (h2 : RV ok m O H av v) : oneV v = true := by
  cases h2 with
  | g s y v hc ha =>
    simp only [AV.one, Bool.and_eq_true, Bool.not_eq_true'] at h1
    have h3 := cells_one (by rw [ha]; exact h1.1)
    rw [h3] at hc
    exact hc.one v (by simp)
  | full _ _ _ ho => exact ho
  | slc _ _ _ _ _ ho => exact ho
  | ptr _ _ _ _ ho => exact ho
  | el _ _ _ _ ho => exact ho
  | rp => rfl
  | nil => rfl
  | fn => rfl
  | top => cases h1
  | agg => cases h1
  | tup => cases h1

theorem cells_of_one {v : Value} (h : oneV v = true) : v.cells = #[v] := by cases v <;> simp_all [oneV, Value.cells]

theorem fill_sound {fields : List (Nat × Nat × Bool)} {place : Nat → Option (Nat × Nat)} (hpl : ∀ i : Nat, place i = (fields[i]?).map fun x => (x.1, x.2.1)) {ok : Bool → Nat → Prop} {O : Nat → Option AO} {H : Array Obj}
    {ev : Operand → AV} {vl : Operand → Value} (hev : ∀ x, RV ok m O H (ev x) (vl x)) : ∀ {parts : List (Nat × Operand)} {ca l : List AV} {cv : Array Value}, cv.size = ca.length →
      (∀ (i : Nat) (a : AV) (v : Value), ca[i]? = some a → cv[i]? = some v → RV ok m O H a v) → (∀ v ∈ cv.toList, oneV v = true) → fillA fields (parts.map fun p => (p.1, ev p.2)) ca = some l →
      ∃ cs : Array Value, Instr.fill place cv (parts.map fun p => (p.1, vl p.2)) = some cs ∧ cs.size = l.length ∧ (∀ (i : Nat) (a : AV) (v : Value), l[i]? = some a → cs[i]? = some v → RV ok m O H a v) ∧ ∀ v ∈ cs.toList, oneV v = true := by
  intro parts
  induction parts with
  | nil =>
    intro ca l cv h1 h2 h3 h
    cases h
    exact ⟨cv, rfl, h1, h2, h3⟩
  | cons p parts ih =>
    intro ca l cv h1 h2 h3 h
    obtain ⟨i, x⟩ := p
    simp only [List.map_cons, fillA] at h
    split at h
    · rename_i off n ag hf
      obtain ⟨hc, h'⟩ := cond_some h
      simp only [Bool.and_eq_true, decide_eq_true_eq] at hc
      obtain ⟨⟨hn, hlt⟩, ho⟩ := hc
      subst hn
      have hone := one_of ho (hev x)
      have hcells := cells_of_one hone
      obtain ⟨cs, k1, k2, k3, k4⟩ := ih (cv := cv.setIfInBounds off (vl x)) (by simp [h1]) (fun j a v ha hv => by
        rw [List.getElem?_set] at ha
        rw [Array.getElem?_setIfInBounds] at hv
        by_cases hj : off = j
        · subst hj
          rw [if_pos rfl, if_pos hlt] at ha
          rw [if_pos rfl, if_pos (by omega)] at hv
          cases ha
          cases hv
          exact hev x
        · rw [if_neg hj] at ha hv
          exact h2 j a v ha hv) (fun v hv => by
        obtain ⟨j, hj, he⟩ := List.getElem_of_mem hv
        have hg : (cv.setIfInBounds off (vl x))[j]? = some v := by rw [← he, ← Array.getElem?_toList]; exact List.getElem?_eq_getElem hj
        rw [Array.getElem?_setIfInBounds] at hg
        split at hg
        · split at hg
          · cases hg; exact hone
          · cases hg
        · exact h3 v (by
            rw [← Array.getElem?_toList] at hg
            exact List.mem_of_getElem? hg)) h'
      refine ⟨cs, ?_, k2, k3, k4⟩
      simp only [List.map_cons, Instr.fill, hpl, hf, Option.map_some, hcells]
      rw [if_neg (by simp; omega)]
      simpa using k1
    · cases h

theorem s_build {t : TypeId} {parts : Array (Nat × Operand)} (hP : ∀ t, TDok P t (tt t)) (hS : SimM c E st m a w) (hop : o.op = .build t parts) (h : aop tt T E q o st K = some r) : DoneQ P c E K r o a w := by
  simp only [aop, hop] at h
  split at h
  · rename_i l hl
    obtain ⟨hc, h'⟩ := cond_some h
    simp only [Bool.and_eq_true, Bool.not_eq_true', List.isEmpty_eq_false_iff] at hc
    obtain ⟨hag, hne⟩ := hc
    obtain ⟨fs, pl, b1, b2, b3⟩ := (hP t).bld hag
    obtain ⟨z, z1, z2, z3, z4⟩ := (hP t).zero hne
    obtain ⟨cs, k1, k2, k3, k4⟩ := fill_sound (m := m) (place := fun i => pl[i]?) b3 (ok := c.ok m (E.ob st) w.heap) (O := E.ob st) (H := w.heap) (ev := E.ev st) (vl := a.eval) (fun x => hS.ev x) z2 (fun i a v => z4 _ _ _ _ i a v) z3 hl
    refine done_v hS (u := .agg cs) (fun w' hb => ?_) (.agg l cs k2 k3 k4) h'
    unfold execOp
    have hpm : (parts.map fun (i, x) => (i, a.eval x)).toList = parts.toList.map fun p => (p.1, a.eval p.2) := by simp
    simp only [hop, Instr.build, Sem.run_bind, z1, Result.andThen_ok, run_underlying b1, b2, hpm, k1, Sem.run_pure]
  · cases h

theorem fill_row : ∀ {vs : List Value} {o : Nat} {cells : Array Value}, (∀ v ∈ vs, v.cells = #[v]) → cells.size = o + vs.length →
    ∃ cs : Array Value, Instr.fill (fun i => some (i * 1, 1)) cells ((List.range' o vs.length).zip vs) = some cs ∧ cs.toList = cells.toList.take o ++ vs := by
  intro vs
  induction vs with
  | nil =>
    intro o cells _ h
    refine ⟨cells, rfl, ?_⟩
    rw [List.append_nil, List.take_of_length_le (by simp [h])]
  | cons v vs ih =>
    intro o cells hv h
    simp only [List.length_cons] at h
    obtain ⟨cs, h1, h2⟩ := ih (o := o + 1) (cells := cells.setIfInBounds o v) (fun x hx => hv x (List.mem_cons_of_mem _ hx)) (by simp; omega)
    refine ⟨cs, ?_, ?_⟩
    · simp only [List.length_cons, List.range'_succ, List.zip_cons_cons, Instr.fill, hv v List.mem_cons_self]
      rw [if_neg (by simp; omega)]
      simpa using h1
    · rw [h2]
      have hlt : o < cells.toList.length := by simp; omega
      simp only [Array.toList_setIfInBounds]
      rw [List.take_succ_eq_append_getElem (by simpa using hlt), List.take_set_of_le (Nat.le_refl o)]
      simp

theorem rowA_get {s : Sh} : ∀ {l : List AV} {xs : List s.den}, rowA s l = some xs → xs.length = l.length ∧ ∀ (i : Nat) (x : s.den), xs[i]? = some x → ∃ a, l[i]? = some a ∧ gndV (fun _ => none) s a = some x := by
  intro l
  induction l with
  | nil => intro xs h; cases h; exact ⟨rfl, fun i x hx => by simp at hx⟩
  | cons a l ih =>
    intro xs h
    simp only [rowA] at h
    split at h
    · rename_i x xs' h1 h2
      cases h
      obtain ⟨i1, i2⟩ := ih h2
      refine ⟨by simp [i1], fun i y hy => ?_⟩
      cases i with
      | zero => cases hy; exact ⟨a, rfl, h1⟩
      | succ i => exact i2 i y (by simpa using hy)
    · cases h

theorem s_buildSlice {t : TypeId} {n : Nat} {parts : Array (Nat × Operand)} (hP : ∀ t, TDok P t (tt t)) (hS : SimM c E st m a w) (hop : o.op = .buildSlice t n parts) (h : aop tt T E q o st K = some r) : Done P c E K r o a w := by
  simp only [aop, hop] at h
  split at h
  · rename_i s by0 he
    obtain ⟨hc, h'⟩ := cond_some h
    simp only [Bool.and_eq_true, Bool.or_eq_true, Bool.not_eq_true', decide_eq_true_eq] at hc
    obtain ⟨⟨⟨hp, hz⟩, hsh⟩, hn⟩ := hc
    split at h'
    · rename_i xs hx
      obtain ⟨e, inf, hu, hinf, hsz, hby, hby', hzz⟩ := (hP t).elem _ _ he
      obtain ⟨z, hz1, hz2⟩ := hzz hz
      obtain ⟨x1, x2⟩ := rowA_get hx
      have hlen : parts.toList.length = n := by simpa using congrArg List.length hp
      have hxn : xs.length = n := by rw [x1, List.length_map, hlen]
      -- each element
      have each : ∀ (i : Nat) (x : s.den), xs[i]? = some x → ∃ p, parts.toList[i]? = some p ∧ RC (c.ok m (E.ob st) w.heap) w.heap s x (a.eval p.2).cells.toList ∧ aggV (a.eval p.2) = s.isAgg := by
        intro i x hi
        obtain ⟨av, h1, h2⟩ := x2 i x hi
        rw [List.getElem?_map] at h1
        obtain ⟨p, hp1, rfl⟩ := Option.map_eq_some_iff.1 h1
        exact ⟨p, hp1, gndV_sound (mt := c.mt) (fun i b hb => hb) (fun b hb => Cx.ok_any hb) (fun h o ho => by cases ho) hS.objs (fun i h o b ho => by cases ho) h2 (hS.ev p.2)⟩
      have hrow : ∃ cs : Array Value, (Instr.buildSlice t n (parts.map fun (i, x) => (i, a.eval x))).run P w = .ok (.slice (some ⟨w.heap.size, 0, none⟩) n n) (w.alloc (.cells cs e)) ∧ n * s.size ≤ cs.size ∧
          ∀ (i : Nat) (x : s.den), xs[i]? = some x → ∃ l, l.length = s.size ∧ (∀ (j : Nat) (v : Value), l[j]? = some v → cs[i * s.size + j]? = some v) ∧ RC (c.ok m (E.ob st) w.heap) w.heap s x l := by
        rcases hsh with h0 | ⟨hag, h1⟩
        · replace h0 := Nat.eq_of_beq_eq_true h0
          subst h0
          have hpe : parts = #[] := by
            apply Array.toList_inj.1
            exact List.length_eq_zero_iff.1 hlen
          subst hpe
          refine ⟨#[], ?_, by simp, fun i x hi => ?_⟩
          · simp [Instr.buildSlice, run_underlying hu, run_size hinf, Instr.fill, newRow, Array.range_zero']
          · rw [List.length_eq_zero_iff.1 hxn] at hi
            simp at hi
        · replace h1 := Nat.eq_of_beq_eq_true h1
          have hcell : ∀ v ∈ (parts.toList.map fun p => a.eval p.2), v.cells = #[v] := by
            intro v hv
            obtain ⟨i, hi, he'⟩ := List.getElem_of_mem hv
            rw [List.length_map] at hi
            obtain ⟨x, hx'⟩ : ∃ x, xs[i]? = some x := ⟨xs[i]'(by omega), List.getElem?_eq_getElem _⟩
            obtain ⟨p, p1, p2, p3⟩ := each i x hx'
            rw [List.getElem?_eq_getElem hi] at p1
            cases p1
            rw [List.getElem_map] at he'
            rw [he', hag] at p3
            rw [← Array.toList_inj, cells_one p3]
          have hcz : z.cells.size = 1 := by rw [← h1, ← zcells_len hz, ← hz2]; simp
          obtain ⟨cs, c1, c2⟩ := fill_row (vs := parts.toList.map fun p => a.eval p.2) (o := 0) (cells := (Array.range (n * 1)).map (z.cells[· % z.cells.size]!)) hcell (by simp [hlen])
          have hzip : (parts.map fun (i, x) => (i, a.eval x)).toList = (List.range' 0 (parts.toList.map fun p => a.eval p.2).length).zip (parts.toList.map fun p => a.eval p.2) := by
            rw [List.length_map, hlen, ← List.range_eq_range', ← hp, List.zip_map']
            simp
          rw [List.take_zero, List.nil_append] at c2
          refine ⟨cs, ?_, ?_, fun i x hi => ?_⟩
          · have h24 : ¬ (n * 1 > 2 ^ 24) := by omega
            by_cases hn0 : n = 0
            · subst hn0
              have hpe : parts = #[] := Array.toList_inj.1 (List.length_eq_zero_iff.1 hlen)
              subst hpe
              have hcs : cs = #[] := Array.toList_inj.1 (by simpa using c2)
              subst hcs
              simp [Instr.buildSlice, run_underlying hu, run_size hinf, Instr.fill, newRow, Array.range_zero']
            · have hn1 : ¬ (n * 1 = 0) := by omega
              simp only [Instr.buildSlice, Sem.run_bind, run_underlying hu, Result.andThen_ok, run_size hinf, hsz, h1, if_neg h24, if_neg hn1, hzip, zeroValue, run_info hinf, hz1, Sem.run_pure, c1, newRow]
              simp
          · rw [h1, ← Array.length_toList, c2, List.length_map, hlen]
            omega
          · obtain ⟨p, p1, p2, p3⟩ := each i x hi
            refine ⟨(a.eval p.2).cells.toList, ?_, fun j v hj => ?_, p2⟩
            · rw [hag] at p3
              rw [cells_one p3, h1]
              rfl
            · rw [hag] at p3
              rw [cells_one p3] at hj
              cases j with
              | zero =>
                cases hj
                rw [h1, Nat.mul_one, Nat.add_zero, ← Array.getElem?_toList, c2, List.getElem?_map, p1]
                rfl
              | succ j => simp at hj
      obtain ⟨cs, r1, r2, r3⟩ := hrow
      refine nw_done hS (e := e) h' (u := .slice (some ⟨w.heap.size, 0, none⟩) n n) (cs := cs) (by unfold execOp; simp only [hop, Sem.run_bind]; rw [show (Instr.buildSlice t n (parts.map fun (i, x) => (i, a.eval x))).run P w = _ from r1]; rfl) ⟨by rw [hxn]; exact r2, r3⟩ (fun d _ cells hb => by cases hb) (new_full hxn.symm (Nat.le_refl _) r2)
    · cases h'
  · cases h

/-- A cut of a slice. -/
theorem run_slice2 {t e : TypeId} {inf : TypeInfo} (hu : P.underlying t = some (.slice e)) (hi : P.info? e = some inf) (A : Option Addr) (len cap x y : Nat) (lo hi' : Option Value)
    (hlo : (lo = none ∧ x = 0) ∨ ∃ k, lo = some (.int k (x : Int))) (hhi : (hi' = none ∧ y = len) ∨ ∃ k, hi' = some (.int k (y : Int))) (h1 : x ≤ y) (h2 : y ≤ cap) (w : World) :
    (Instr.sliceAt t (.slice A len cap) lo hi' none).run P w = .ok (.slice (if cap = x then A else A.map (·.add (x * inf.size))) (y - x) (cap - x)) w := by
  have hs := run_size hi
  rcases hlo with ⟨rfl, rfl⟩ | ⟨k1, rfl⟩ <;> rcases hhi with ⟨rfl, rfl⟩ | ⟨k2, rfl⟩ <;>
    simp [Instr.sliceAt, Instr.slice, run_underlying hu, Instr.sliceBounds, Instr.sliceBound, asIntOf, hs, h1, h2]

end

end Go.Proofs.Ytmdicmdodbndgaa.Fw
