/-
  Steps of the evaluator are steps of the model, fifth part: stores, and values read as plain ones. No condition.
-/
import Derived.Test.YtmdicmdodbndgaaFwG
namespace Go.Proofs.Ytmdicmdodbndgaa.Fw
open Go Go.RowKit

section
variable {c : Cx} {E : Env} {st : St} {m : Nat → Option Nat} {a : Act} {w : World}

theorem ob_put_self (h : Nat) (o : AO) : E.ob { st with objs := put st.objs h o } h = some o := by simp [Env.ob, look_put_self]
theorem ob_put_ne {h k : Nat} (o : AO) (hne : h ≠ k) : E.ob { st with objs := put st.objs h o } k = E.ob st k := by
  simp only [Env.ob]
  rw [look_put_ne _ _ hne]
theorem ob_of_look {h : Nat} {o : AO} (hl : look st.objs h = some o) : E.ob st h = some o := by simp [Env.ob, hl]

theorem setB_heap_ne (w : World) {b k : Nat} (o : Obj) (hne : b ≠ k) : (setB w b o).heap[k]? = w.heap[k]? := by
  simp [setB, Array.getElem?_setIfInBounds_ne hne]

theorem setB_size (w : World) (b : Nat) (o : Obj) : (setB w b o).heap.size = w.heap.size := by simp [setB]

theorem kept_setB (h : c.kept w) {b : Nat} (hb : c.mt b) {cs cs' : Array Value} {e : TypeId} (h0 : w.heap[b]? = some (.cells cs e (0, 0))) (hs : cs'.size = cs.size) : c.kept (setB w b (.cells cs' e (0, 0))) :=
  ⟨h.os, h.tape, h.output, by rw [setB_size]; exact h.size, fun k hk hm => by
    have hne : b ≠ k := by
      rintro rfl
      rcases hb with hb | hb
      · have : c.B = c.w0.heap.size := rfl
        omega
      · exact hm hb
    rw [setB_heap_ne _ _ hne]
    exact h.block k hk hm, fun k hk => by
    rw [← h.bsz k hk]
    by_cases hne : b = k
    · subst hne
      simp only [bsz, setB_get w b _ (lt_of_some h0), h0, hs]
    · exact bsz_congr (setB_heap_ne _ _ hne)⟩

/-- An object is changed in place. -/
theorem SimM.store (hS : SimM c E st m a w) {h0 : Nat} {o o' : AO} (hl : look st.objs h0 = some o) (hlk : o.like o') {b : Nat} (hm : m h0 = some b) {cs cs' : Array Value} {e : TypeId}
    (hb : w.heap[b]? = some (.cells cs e (0, 0))) (hs : cs'.size = cs.size) (hn : NewOk (c.ok m (E.ob st) w.heap) m (E.ob st) w.heap cs' o') :
    SimM c E { st with objs := put st.objs h0 o' } m a (setB w b (.cells cs' e (0, 0))) := by
  have ho0 := ob_of_look (E := E) hl
  obtain ⟨hmt, _⟩ := (hS.objs h0 o ho0).block hm
  have hg : (setB w b (.cells cs' e (0, 0))).heap[b]? = some (.cells cs' e (0, 0)) := setB_get _ _ _ (lt_of_some hb)
  have hT : Tr (c.ok m (E.ob st) w.heap) m (E.ob st) w.heap (c.ok m (E.ob { st with objs := put st.objs h0 o' }) (setB w b (.cells cs' e (0, 0))).heap)
      m (E.ob { st with objs := put st.objs h0 o' }) (setB w b (.cells cs' e (0, 0))).heap (fun _ => False) := by
    have hnb : ∀ i b', c.ok m (E.ob st) w.heap i b' → b ≠ b' := fun i b' hb' he => by
      subst he
      exact hb'.2.2.1 h0 o ho0 hm
    refine ⟨fun i b' hb' => ⟨⟨by rw [setB_size]; exact hb'.1, hb'.2.1, fun h q hq => ?_, hb'.2.2.2.1, fun hi => ⟨(hb'.2.2.2.2 hi).1, unf_congr (setB_heap_ne _ _ (hnb i b' hb')) (hb'.2.2.2.2 hi).2⟩⟩, cellH_congr (setB_heap_ne _ _ (hnb i b' hb'))⟩, fun h q hq _ => ?_⟩
    · by_cases hh : h0 = h
      · subst hh
        exact hb'.2.2.1 h0 o ho0
      · rw [ob_put_ne _ hh] at hq
        exact hb'.2.2.1 h q hq
    · by_cases hh : h0 = h
      · subst hh
        rw [ob_put_self] at hq
        cases hq
        refine ⟨o, ho0, hlk, rfl, fun b' hb' => ?_⟩
        rw [hm] at hb'
        cases hb'
        simp only [bsz, hg, hb, hs]
      · rw [ob_put_ne _ hh] at hq
        refine ⟨q, hq, AO.like_refl q, rfl, fun b' hb' => bsz_congr (setB_heap_ne _ _ ?_)⟩
        rintro rfl
        exact hh (hS.inj h0 h o q b ho0 hq hm hb')
  refine hS.change rfl (kept_setB hS.kept hmt hb hs) _ hT (fun d hd => hd.elim) (fun h q hq => ?_) (fun h h' q q' b' h1 h2 h3 h4 => ?_) (fun h q hq => ?_) (fun b' hb' => ?_)
  · by_cases hh : h0 = h
    · subst hh
      rw [ob_put_self] at hq
      cases hq
      cases o' with
      | arr s xs =>
        simp only [RO, hm]
        obtain ⟨n1, n2⟩ := hn
        refine ⟨hmt, cs', e, hg, n1, fun i x hx => ?_⟩
        obtain ⟨l, hl', hr, hc⟩ := n2 i x hx
        exact ⟨l, hl', fun j v hv => by unfold cellH; rw [hg]; exact hr j v hv, RC.mono hT.okc hc⟩
      | box cells =>
        simp only [RO]
        obtain ⟨n1, n2, n3⟩ := hn
        exact ⟨b, cs', e, hm, hmt, hg, n1, n2, fun i a v ha hv => (n3 i a v ha hv).mono hT fun d hd => hd.elim⟩
    · rw [ob_put_ne _ hh] at hq
      refine (hS.objs h q hq).mono hT rfl (fun b' hb' => setB_heap_ne _ _ ?_) (fun _ _ d hd => hd.elim)
      rintro rfl
      exact hh (hS.inj h0 h o q b ho0 hq hm hb')
  · have fix : ∀ h q, E.ob { st with objs := put st.objs h0 o' } h = some q → ∃ q, E.ob st h = some q := fun h q hq => by
      by_cases hh : h0 = h
      · subst hh; exact ⟨o, ho0⟩
      · rw [ob_put_ne _ hh] at hq; exact ⟨q, hq⟩
    obtain ⟨q1, hq1⟩ := fix h q h1
    obtain ⟨q2, hq2⟩ := fix h' q' h2
    exact hS.inj h h' q1 q2 b' hq1 hq2 h3 h4
  · by_cases hh : h0 = h
    · subst hh; exact hS.disj h0 o hl
    · simp only at hq
      rw [look_put_ne _ _ hh] at hq
      exact hS.disj h q hq
  · obtain ⟨g1, g2, g3⟩ := hS.alive b' hb'
    refine ⟨g1, by rw [setB_size]; exact g2, fun h q hq => ?_⟩
    by_cases hh : h0 = h
    · subst hh; exact g3 h0 o ho0
    · rw [ob_put_ne _ hh] at hq
      exact g3 h q hq

/-- The cells of a row, off from the element i on. -/
theorem RC.row {ok : Bool → Nat → Prop} {H : Array Obj} {s : Sh} {xs : List s.den} {A : Option Addr} {n cap : Nat} (hn : n = xs.length) (hc : n ≤ cap)
    (hx : xs ≠ [] → ∃ b off, A = some ⟨b, off, none⟩ ∧ ok false b ∧ ∀ i x, xs[i]? = some x → ∃ l, l.length = s.size ∧ Reads H b (off + i * s.size) l ∧ RC ok H s x l) :
    RC ok H (.sl s) xs [.slice A n cap] := by
  simp only [RC]
  subst hn
  exact ⟨A, cap, rfl, hc, hx⟩

theorem cells_one {v : Value} (h : aggV v = false) : v.cells.toList = [v] := by cases v <;> simp_all [aggV, Value.cells]
theorem oneV_agg {v : Value} (h : oneV v = true) : aggV v = false := by cases v <;> simp_all [oneV, aggV]
theorem agg_cells {v : Value} (h : aggV v = true) : ∃ vs, v = .agg vs := by cases v <;> simp_all [aggV]

/-- A slice of all of an own array, as a row. -/
theorem full_row {ok okA : Bool → Nat → Prop} {O : Nat → Option AO} {H : Array Obj} {mt : Nat → Prop} {s s' : Sh} {xs : List s'.den} {ys : List s.den} {hh : Nat} {v : Value}
    (hsz : s.size = s'.size) (hlen : ys.length = xs.length) (hel : ∀ (i : Nat) (y : s.den), ys[i]? = some y → ∃ x, xs[i]? = some x ∧ ∀ {l : List Value}, RC ok H s' x l → RC okA H s y l)
    (ho : O hh = some (.arr s' xs)) (hR : RV ok m O H (.full hh) v) (hr : RO ok m O H mt hh (.arr s' xs)) (hA : ∀ b, m hh = some b → okA false b) : RC okA H (.sl s) ys [v] := by
  cases hR with
  | full _ _ hsl _ =>
    have h2 := hsl _ _ ho
    unfold SlV at h2
    simp only [RO] at hr
    cases hm : m hh with
    | none =>
      rw [hm] at h2 hr
      obtain ⟨rfl, h5⟩ := h2
      subst hr
      have : ys = [] := List.eq_nil_of_length_eq_zero (by simpa using hlen)
      subst this
      exact RC.row rfl (Nat.le_refl 0) (fun h => absurd rfl h)
    | some b =>
      rw [hm] at h2 hr
      obtain ⟨o, cp, rfl, h6, h7, _⟩ := h2
      obtain ⟨_, cs, e, _, _, h8⟩ := hr
      refine RC.row hlen.symm h6 (fun hne => ⟨b, o, rfl, hA _ hm, fun i y hy => ?_⟩)
      obtain ⟨x, hx, hc⟩ := hel i y hy
      obtain ⟨lc, q1, q2, q3⟩ := h8 i x hx
      have hcp : cp ≠ 0 := by
        have : ys.length ≠ 0 := fun h0 => hne (List.eq_nil_of_length_eq_zero h0)
        have : xs.length ≤ cp := h6
        omega
      have ho0 := h7 hcp
      exact ⟨lc, by rw [q1, hsz], by rw [ho0, hsz]; simpa using q2, hc q3⟩

/-- Cells as the evaluator has them, read as a plain value of which all that it names is new. -/
theorem gndN_sound {ok okA : Bool → Nat → Prop} {O O1 : Nat → Option AO} {H : Array Obj} {mt : Nat → Prop} (hok : ∀ i b, ok i b → okA i b)
    (hO : ∀ h o, O1 h = some o → O h = some o) (hr : ∀ h o, O h = some o → RO ok m O H mt h o) (hA : ∀ i h o b, O1 h = some o → m h = some b → okA i b) :
    ∀ {s : Sh} {l : List AV} {x : s.den} {vs : List Value}, gndN O1 s l = some x → l.length = vs.length →
      (∀ (i : Nat) (a : AV) (v : Value), l[i]? = some a → vs[i]? = some v → RV ok m O H a v) → (∀ v ∈ vs, oneV v = true) → RC (fun _ => okA true) H s x vs := by
  have hone : ∀ {s s' : Sh} {x : s'.den} {y : s.den} {v : Value}, cond s'.ref none (castSh s s' x) = some y → RV ok m O H (.g s' x) v → oneV v = true → RC (fun _ => okA true) H s y [v] := by
    intro s s' x y v h1 h2 h3
    cases hf : s'.ref with
    | true => rw [hf] at h1; cases h1
    | false =>
      rw [hf] at h1
      obtain ⟨rfl, rfl⟩ := castSh_some h1
      obtain ⟨hc, _⟩ := h2.g_cells
      rw [cells_one (oneV_agg h3)] at hc
      exact RC.noref hf hc
  intro s
  induction s with
  | pair a b iha ihb =>
    intro l x vs h hl hv h1
    simp only [gndN] at h
    split at h
    · rename_i x1 x2 g1 g2
      cases h
      simp only [RC]
      refine ⟨vs.take a.size, vs.drop a.size, (List.take_append_drop _ _).symm, ?_, ?_⟩
      · refine iha g1 (by simp [hl]) (fun i av v ha hvv => ?_) (fun v hvv => h1 v (List.mem_of_mem_take hvv))
        rw [List.getElem?_take] at ha hvv
        split at ha
        · rename_i hi
          rw [if_pos hi] at hvv
          exact hv i av v ha hvv
        · cases ha
      · refine ihb g2 (by simp [hl]) (fun i av v ha hvv => ?_) (fun v hvv => h1 v (List.mem_of_mem_drop hvv))
        rw [List.getElem?_drop] at ha hvv
        exact hv _ av v ha hvv
    · cases h
  | sl s ih =>
    intro l x vs h hl hv h1
    simp only [gndN] at h
    split at h
    · rename_i t x
      match vs, hl with
      | [v], _ =>
        obtain ⟨e, rfl⟩ := castSh_some h
        subst e
        obtain ⟨hc, _⟩ := (hv 0 _ v rfl rfl).g_cells
        rw [cells_one (oneV_agg (h1 v (by simp)))] at hc
        have hc : RC (fun _ => ok true) H (.sl s) x [v] := hc
        exact RC.mono (fun i b hb => ⟨hok true b hb, fun _ => rfl⟩) hc
    · match vs, hl with
      | [v], _ =>
        cases h
        have := hv 0 _ v rfl rfl
        cases this
        exact RC.row rfl (Nat.le_refl 0) (fun h => absurd rfl h)
    · rename_i hh
      match vs, hl with
      | [v], _ =>
        have hR := hv 0 _ v rfl rfl
        split at h
        · rename_i s' xs ho
          cases hf : s'.ref with
          | true => rw [hf] at h; cases h
          | false =>
            rw [hf] at h
            obtain ⟨e, rfl⟩ := castSh_some h
            cases e
            exact full_row (mt := mt) rfl rfl (fun i y hy => ⟨y, hy, fun h => RC.noref hf h⟩) (hO _ _ ho) hR (hr _ _ (hO _ _ ho)) (fun b hb => hA true _ _ b ho hb)
        · cases h
    · cases h
  | _ =>
    intro l x vs h hl hv h1
    simp only [gndN] at h
    split at h
    · match vs, hl with
      | [v], _ => exact hone h (hv 0 _ v rfl rfl) (h1 v (by simp))
    · cases h

/-- Cells as the evaluator has them, read as a plain value. okA: where read values may lie (own arrays too). -/
theorem gnd_sound {ok okA : Bool → Nat → Prop} {O O1 : Nat → Option AO} {H : Array Obj} {mt : Nat → Prop} (hok : ∀ i b, ok i b → okA i b) (hw : ∀ b, ok true b → ok false b)
    (hO : ∀ h o, O1 h = some o → O h = some o) (hr : ∀ h o, O h = some o → RO ok m O H mt h o) (hA : ∀ i h o b, O1 h = some o → m h = some b → okA i b) :
    ∀ {s : Sh} {l : List AV} {x : s.den} {vs : List Value}, gnd O1 s l = some x → l.length = vs.length →
      (∀ (i : Nat) (a : AV) (v : Value), l[i]? = some a → vs[i]? = some v → RV ok m O H a v) → (∀ v ∈ vs, oneV v = true) → RC okA H s x vs := by
  have hmono : ∀ {s : Sh} {x : s.den} {cs : List Value}, RC ok H s x cs → RC okA H s x cs := fun h => RC.mono (fun i b hb => ⟨hok i b hb, fun _ => rfl⟩) h
  have hcastW : ∀ {s s' : Sh} {x : s'.den} {y : s.den} {v : Value}, castW s s' x = some y → RV ok m O H (.g s' x) v → oneV v = true → RC okA H s y [v] := by
    intro s s' x y v h1 h2 h3
    obtain ⟨hc, _⟩ := h2.g_cells
    rw [cells_one (oneV_agg h3)] at hc
    exact hmono ((castW_some (hw := hw) h1).2 hc)
  have hcast : ∀ {s s' : Sh} {x : s'.den} {y : s.den} {v : Value}, castSh s s' x = some y → RV ok m O H (.g s' x) v → oneV v = true → RC okA H s y [v] := by
    intro s s' x y v h1 h2 h3
    obtain ⟨rfl, rfl⟩ := castSh_some h1
    obtain ⟨hc, _⟩ := h2.g_cells
    rw [cells_one (oneV_agg h3)] at hc
    exact hmono hc
  intro s
  induction s with
  | int k =>
    intro l x vs h hl hv h1
    simp only [gnd] at h
    split at h
    · match vs, hl with
      | [v], _ => exact hcastW h (hv 0 _ v rfl rfl) (h1 v (by simp))
    · cases h
  | bool =>
    intro l x vs h hl hv h1
    simp only [gnd] at h
    split at h
    · match vs, hl with
      | [v], _ => exact hcastW h (hv 0 _ v rfl rfl) (h1 v (by simp))
    · cases h
  | flt k =>
    intro l x vs h hl hv h1
    simp only [gnd] at h
    split at h
    · match vs, hl with
      | [v], _ => exact hcastW h (hv 0 _ v rfl rfl) (h1 v (by simp))
    · cases h
  | pair a b iha ihb =>
    intro l x vs h hl hv h1
    simp only [gnd] at h
    split at h
    · rename_i x1 x2 g1 g2
      cases h
      simp only [RC]
      refine ⟨vs.take a.size, vs.drop a.size, (List.take_append_drop _ _).symm, ?_, ?_⟩
      · refine iha g1 (by simp [hl]) (fun i av v ha hvv => ?_) (fun v hvv => h1 v (List.mem_of_mem_take hvv))
        rw [List.getElem?_take] at ha hvv
        split at ha
        · rename_i hi
          rw [if_pos hi] at hvv
          exact hv i av v ha hvv
        · cases ha
      · refine ihb g2 (by simp [hl]) (fun i av v ha hvv => ?_) (fun v hvv => h1 v (List.mem_of_mem_drop hvv))
        rw [List.getElem?_drop] at ha hvv
        exact hv _ av v ha hvv
    · cases h
  | un =>
    intro l x vs h hl hv h1
    simp only [gnd] at h
    split at h
    · simp only [RC]
      exact List.eq_nil_of_length_eq_zero (by simpa using hl.symm)
    · cases h
  | nw s ih =>
    intro l x vs h hl hv h1
    simp only [gnd] at h
    simp only [RC]
    exact gndN_sound (mt := mt) hok hO hr hA h hl hv h1
  | sl s ih =>
    intro l x vs h hl hv h1
    simp only [gnd] at h
    split at h
    · match vs, hl with
      | [v], _ => exact hcastW h (hv 0 _ v rfl rfl) (h1 v (by simp))
    · match vs, hl with
      | [v], _ =>
        cases h
        have := hv 0 _ v rfl rfl
        cases this
        exact RC.row rfl (Nat.le_refl 0) (fun h => absurd rfl h)
    · rename_i hh
      match vs, hl with
      | [v], _ =>
        have hR := hv 0 _ v rfl rfl
        split at h
        · rename_i s' xs ho
          obtain ⟨k1, k2, k3⟩ := castW_row (ok := ok) (H := H) hw h
          refine full_row (mt := mt) k2 k1 (fun i y hy => ?_) (hO _ _ ho) hR (hr _ _ (hO _ _ ho)) (fun b hb => hA false _ _ b ho hb)
          obtain ⟨x, hx, hc⟩ := k3 i y hy
          exact ⟨x, hx, fun h => hmono (hc h)⟩
        · cases h
    · rename_i hh off len
      match vs, hl with
      | [v], _ =>
        have hR := hv 0 _ v rfl rfl
        split at h
        · rename_i s' xs ho
          obtain ⟨k1, k2, k3⟩ := castW_row (ok := ok) (H := H) hw h
          have ho' := hO _ _ ho
          cases hR with
          | slc _ _ _ _ hsl _ =>
            obtain ⟨h2, hol⟩ := hsl _ _ ho'
            have h3 := hr _ _ ho'
            have hlen : (List.take len (List.drop off xs)).length = len := by simp; omega
            unfold SlV at h2
            simp only [RO] at h3
            cases hm : m hh with
            | none =>
              rw [hm] at h2 h3
              obtain ⟨rfl, h5⟩ := h2
              subst h3
              have : x = [] := List.eq_nil_of_length_eq_zero (by rw [k1]; simp)
              subst this
              refine RC.row (by simp) (Nat.le_refl 0) (fun h => absurd rfl h)
            | some b =>
              rw [hm] at h2 h3
              obtain ⟨o, cp, rfl, h6, h7, _⟩ := h2
              obtain ⟨_, cs, e, _, _, h8⟩ := h3
              refine RC.row (by rw [k1, hlen]) h6 (fun hne => ⟨b, o, rfl, hA false _ _ _ ho hm, fun i y hy => ?_⟩)
              obtain ⟨z, hz, hc⟩ := k3 i y hy
              have hlt : i < len := by
                have : i < (List.take len (List.drop off xs)).length := by
                  rcases Nat.lt_or_ge i (List.take len (List.drop off xs)).length with h' | h'
                  · exact h'
                  · rw [List.getElem?_eq_none h'] at hz; cases hz
                omega
              have hz' : xs[off + i]? = some z := by
                rw [List.getElem?_take, if_pos hlt, List.getElem?_drop] at hz
                exact hz
              obtain ⟨lc, q1, q2, q3⟩ := h8 _ z hz'
              have ho0 := h7 (by omega)
              refine ⟨lc, by rw [q1, k2], ?_, hmono (hc q3)⟩
              rw [ho0, k2, ← Nat.add_mul]
              exact q2
        · cases h
    · cases h
  | bx s ih =>
    intro l x vs h hl hv h1
    simp only [gnd] at h
    split at h
    · match vs, hl with
      | [v], _ => exact hcast h (hv 0 _ v rfl rfl) (h1 v (by simp))
    · match vs, hl with
      | [v], _ =>
        have hR := hv 0 _ v rfl rfl
        obtain ⟨_, hc2⟩ := castW_some (ok := ok) (H := H) (hw := hw) h
        cases hR with
        | rp s' _ b off lc hb hlc hrd hc =>
          have hc3 := hc2 hc
          simp only [RC]
          exact ⟨b, off, lc, rfl, hok false b hb, hc3.len, hrd, hmono hc3⟩
    · rename_i hh off
      match vs, hl with
      | [v], _ =>
        have hR := hv 0 _ v rfl rfl
        split at h
        · rename_i cells ho
          have ho' := hO _ _ ho
          cases hR with
          | ptr _ _ _ hp _ =>
            obtain ⟨b, hm, rfl⟩ := hp _ ho'
            have h3 := hr _ _ ho'
            simp only [RO] at h3
            obtain ⟨b', cs, e, q1, q2, q3, q4, q5, q6⟩ := h3
            rw [hm] at q1
            cases q1
            have hrec := ih (vs := (cs.toList.drop off).take s.size) h (by simp [q4]) (fun i av v ha hvv => by
              rw [List.getElem?_take] at ha hvv
              split at ha
              · rename_i hi
                rw [if_pos hi, List.getElem?_drop, Array.getElem?_toList] at hvv
                rw [List.getElem?_drop] at ha
                exact q6 _ av v ha hvv
              · cases ha) (fun v hvv => q5 v (List.mem_of_mem_drop (List.mem_of_mem_take hvv)))
            simp only [RC]
            refine ⟨b, off, _, rfl, hA false _ _ _ ho hm, hrec.len, fun j v hj => ?_, hrec⟩
            rw [List.getElem?_take] at hj
            split at hj
            · rw [List.getElem?_drop, Array.getElem?_toList] at hj
              simp only [cellH, q3]
              exact hj
            · cases hj
        · cases h
    · cases h
  | clo f s ih =>
    intro l x vs h hl hv h1
    simp only [gnd] at h
    split at h
    · match vs, hl with
      | [v], _ => exact hcast h (hv 0 _ v rfl rfl) (h1 v (by simp))
    · rename_i f' caps
      match vs, hl with
      | [v], _ =>
        have hR := hv 0 _ v rfl rfl
        cases hf : Nat.beq f f' with
        | false => rw [hf] at h; cases h
        | true =>
          rw [hf] at h
          have : f = f' := Nat.eq_of_beq_eq_true hf
          subst this
          cases hR with
          | fn _ _ vs hs hvv ho =>
            simp only [RC]
            exact ⟨vs, rfl, ih h (by simp [hs]) (fun i av v ha hv' => hvv i av v ha (by simpa using hv')) ho⟩
    · cases h

end

end Go.Proofs.Ytmdicmdodbndgaa.Fw
