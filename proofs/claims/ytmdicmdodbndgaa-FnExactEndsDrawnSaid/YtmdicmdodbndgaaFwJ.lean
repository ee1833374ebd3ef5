/-
  Steps of the evaluator are steps of the model, seventh part: loads, stores, new objects, slices. No condition.
-/
import Derived.Test.YtmdicmdodbndgaaFwI
import Derived.IntWalk
namespace Go.Proofs.Ytmdicmdodbndgaa.Fw
open Go Go.RowKit

section
variable {P : Program} {tt : Nat → TD} {T : Nat → List EntX} {q : Bool} {c : Cx} {E : Env} {st : St} {m : Nat → Option Nat} {a : Act} {w : World} {ρ : Type} {K : St → Option ρ} {r : ρ} {o : Oper}

theorem flat_sound {ok : Bool → Nat → Prop} {O : Nat → Option AO} {H : Array Obj} (hw : ∀ b, ok true b → ok false b) : ∀ {s : Sh} {x : s.den} {vs : List Value}, RC ok H s x vs →
    (flat s x).length = vs.length ∧ (∀ (i : Nat) (av : AV) (v : Value), (flat s x)[i]? = some av → vs[i]? = some v → RV ok m O H av v) ∧ ∀ d, ∀ av ∈ flat s x, ¬ Mn d av := by
  have single : ∀ {s : Sh} {x : s.den} {vs : List Value}, s.isAgg = false → s.size = 1 → RC ok H s x vs →
      ([AV.g s x] : List AV).length = vs.length ∧ (∀ (i : Nat) (av : AV) (v : Value), ([AV.g s x] : List AV)[i]? = some av → vs[i]? = some v → RV ok m O H av v) ∧ ∀ d, ∀ av ∈ ([AV.g s x] : List AV), ¬ Mn d av := by
    intro s x vs h1 h2 h
    have hl := h.len
    rw [h2] at hl
    match vs, hl with
    | [v], _ =>
      refine ⟨rfl, fun i av u h3 h4 => ?_, fun d av hav => ?_⟩
      · cases i with
        | zero =>
          cases h3
          cases h4
          have h5 := oneV_agg (h.one v (by simp))
          exact .g s x v (by rw [cells_one h5]; exact h) (by rw [h1, h5])
        | succ i => simp at h3
      · simp only [List.mem_singleton] at hav
        subst hav
        intro hm
        cases hm
  intro s
  induction s with
  | pair s1 s2 ih1 ih2 =>
    intro x vs h
    simp only [RC] at h
    obtain ⟨c1, c2, rfl, h1, h2⟩ := h
    obtain ⟨a1, a2, a3⟩ := ih1 h1
    obtain ⟨b1, b2, b3⟩ := ih2 h2
    refine ⟨by simp [flat, a1, b1], fun i av v h3 h4 => ?_, fun d av hav => ?_⟩
    · simp only [flat] at h3
      rw [List.getElem?_append] at h3 h4
      split at h3
      · rename_i hi
        rw [if_pos (by omega)] at h4
        exact a2 i av v h3 h4
      · rename_i hi
        rw [if_neg (by omega)] at h4
        rw [a1] at h3
        exact b2 _ av v h3 h4
    · simp only [flat, List.mem_append] at hav
      rcases hav with hav | hav
      · exact a3 d av hav
      · exact b3 d av hav
  | un => intro x vs h; simp only [RC] at h; subst h; exact ⟨rfl, fun i av v h3 _ => by simp [flat] at h3, fun d av hav => by simp [flat] at hav⟩
  | int k => intro x vs h; exact single rfl rfl h
  | bool => intro x vs h; exact single rfl rfl h
  | flt k => intro x vs h; exact single rfl rfl h
  | sl s _ => intro x vs h; exact single rfl rfl h
  | bx s _ => intro x vs h; exact single rfl rfl h
  | clo f s _ => intro x vs h; exact single rfl rfl h
  | nw s ih => intro x vs h; exact ih (RC.weak hw h)

theorem cellsOf_sound {ok : Bool → Nat → Prop} {O : Nat → Option AO} {H : Array Obj} {av : AV} {v : Value} {cs : List AV} (hw : ∀ b, ok true b → ok false b) (hv : RV ok m O H av v) (h : cellsOf av = some cs) :
    v.cells.size = cs.length ∧ (∀ u ∈ v.cells.toList, oneV u = true) ∧ (∀ (i : Nat) (b : AV) (u : Value), cs[i]? = some b → v.cells[i]? = some u → RV ok m O H b u) ∧ ∀ d, ∀ b ∈ cs, Mn d b → Mn d av := by
  have single : ∀ {av : AV}, RV ok m O H av v → oneV v = true → v.cells.size = [av].length ∧ (∀ u ∈ v.cells.toList, oneV u = true) ∧ (∀ (i : Nat) (b : AV) (u : Value), [av][i]? = some b → v.cells[i]? = some u → RV ok m O H b u) ∧ ∀ d, ∀ b ∈ [av], Mn d b → Mn d av := by
    intro av hv h1
    have h2 : v.cells = #[v] := by cases v <;> simp_all [oneV, Value.cells]
    rw [h2]
    refine ⟨rfl, fun u hu => by simp at hu; subst hu; exact h1, fun i b u h3 h4 => ?_, fun d b hb => by simp at hb; subst hb; exact id⟩
    cases i with
    | zero => cases h3; simp at h4; subst h4; exact hv
    | succ i => simp at h3
  cases hv with
  | top v => simp [cellsOf] at h
  | g s x v hc ha =>
    simp only [cellsOf, Option.some.injEq] at h
    subst h
    obtain ⟨h1, h2, h3⟩ := flat_sound (m := m) (O := O) hw hc
    exact ⟨by rw [h1]; simp, fun u hu => hc.one u hu, fun i b u hb hu => h2 i b u hb (by rw [Array.getElem?_toList]; exact hu), fun d b hb hm => absurd hm (h3 d b hb)⟩
  | full hh v hv ho => simp only [cellsOf, Option.some.injEq] at h; subst h; exact single (.full hh v hv ho) ho
  | slc hh off len v hv ho => simp only [cellsOf, Option.some.injEq] at h; subst h; exact single (.slc hh off len v hv ho) ho
  | ptr hh off v hv ho => simp only [cellsOf, Option.some.injEq] at h; subst h; exact single (.ptr hh off v hv ho) ho
  | el hh i v hv ho => simp only [cellsOf, Option.some.injEq] at h; subst h; exact single (.el hh i v hv ho) ho
  | rp s x b off l hb hl hr hc => simp only [cellsOf, Option.some.injEq] at h; subst h; exact single (.rp s x b off l hb hl hr hc) rfl
  | nil => simp only [cellsOf, Option.some.injEq] at h; subst h; exact single .nil rfl
  | agg l vs hs hv ho =>
    simp only [cellsOf, Option.some.injEq] at h
    subst h
    exact ⟨by simpa [Value.cells] using hs, fun u hu => ho u (by simpa [Value.cells] using hu), fun i b u hb hu => hv i b u hb (by simpa [Value.cells] using hu), fun d b hb hm => .agg _ b hb hm⟩
  | tup l vs hs hv => simp [cellsOf] at h
  | fn f l vs hs hv ho => simp only [cellsOf, Option.some.injEq] at h; subst h; exact single (.fn f l vs hs hv ho) rfl

theorem gndN_none {O : Nat → Option AO} {s : Sh} {av : AV} (hs : s.isAgg = false) (h : av = .top ∨ ∃ l, av = .tup l) : gndN O s [av] = none := by
  rcases h with rfl | ⟨l, rfl⟩ <;> cases s <;> simp_all [gndN, Sh.isAgg]

theorem gndV_sound {ok okA : Bool → Nat → Prop} {O O1 : Nat → Option AO} {H : Array Obj} {mt : Nat → Prop} (hok : ∀ i b, ok i b → okA i b) (hw : ∀ b, ok true b → ok false b)
    (hO : ∀ h o, O1 h = some o → O h = some o) (hr : ∀ h o, O h = some o → RO ok m O H mt h o) (hA : ∀ i h o b, O1 h = some o → m h = some b → okA i b)
    {s : Sh} {av : AV} {x : s.den} {v : Value} (h : gndV O1 s av = some x) (hv : RV ok m O H av v) : RC okA H s x v.cells.toList ∧ aggV v = s.isAgg := by
  have single : ∀ {av : AV}, cond s.isAgg none (gnd O1 s [av]) = some x → RV ok m O H av v → oneV v = true → RC okA H s x v.cells.toList ∧ aggV v = s.isAgg := by
    intro av h hv h1
    cases hs : s.isAgg with
    | true => rw [hs] at h; cases h
    | false =>
      rw [hs] at h
      rw [cells_one (oneV_agg h1)]
      refine ⟨gnd_sound hok hw hO hr hA h rfl (fun i a u ha hu => ?_) (by simp [h1]), oneV_agg h1⟩
      cases i with
      | zero => cases ha; cases hu; exact hv
      | succ i => simp at ha
  cases hv with
  | g s' x' v hc ha =>
    simp only [gndV] at h
    obtain ⟨h1, h2⟩ := castW_some (ok := ok) (H := H) (hw := hw) h
    exact ⟨RC.mono (fun i b hb => ⟨hok i b hb, fun _ => rfl⟩) (h2 hc), by rw [ha, h1]⟩
  | agg l vs hs hv ho =>
    simp only [gndV] at h
    obtain ⟨h1, h2⟩ := cond_some h
    exact ⟨gnd_sound hok hw hO hr hA h2 (by simp [Value.cells, hs]) (fun i a u ha hu => hv i a u ha (by simpa [Value.cells] using hu)) (fun u hu => ho u (by simpa [Value.cells] using hu)), by rw [h1]; rfl⟩
  | tup l vs hs hv =>
    simp only [gndV] at h
    exfalso
    cases hs' : s.isAgg with
    | true => rw [hs'] at h; cases h
    | false => rw [hs'] at h; cases s <;> simp_all [gnd, gndN_none, Sh.isAgg]
  | top v =>
    simp only [gndV] at h
    exfalso
    cases hs' : s.isAgg with
    | true => rw [hs'] at h; cases h
    | false => rw [hs'] at h; cases s <;> simp_all [gnd, gndN_none, Sh.isAgg]
  | full hh v hv ho => exact single (by simpa [gndV] using h) (.full hh v hv ho) ho
  | slc hh off len v hv ho => exact single (by simpa [gndV] using h) (.slc hh off len v hv ho) ho
  | ptr hh off v hv ho => exact single (by simpa [gndV] using h) (.ptr hh off v hv ho) ho
  | el hh i v hv ho => exact single (by simpa [gndV] using h) (.el hh i v hv ho) ho
  | rp s' x' b off l hb hl hr' hc => exact single (by simpa [gndV] using h) (.rp s' x' b off l hb hl hr' hc) rfl
  | nil => exact single (by simpa [gndV] using h) .nil rfl
  | fn f l vs hs hv ho => exact single (by simpa [gndV] using h) (.fn f l vs hs hv ho) rfl

theorem size_one {s : Sh} (h1 : s.isAgg = false) (h2 : s.size ≠ 0) : s.size = 1 := (Sh.size_le h1).resolve_right h2

theorem s_load {t : TypeId} {x : Operand} (hP : ∀ t, TDok P t (tt t)) (hS : SimM c E st m a w) (hop : o.op = .load t x) (h : aop tt T E q o st K = some r) : DoneQ P c E K r o a w := by
  simp only [aop, hop] at h
  have hx := hS.ev x
  generalize hux : a.eval x = u at hx
  have fromCells : ∀ {s : Sh} {v : s.den} {b off : Nat} {l : List Value}, b < w.heap.size → u = .pointer (some ⟨b, off, none⟩) → (s.isAgg = (tt t).agg ∧ s.size = (tt t).size ∧ s.size ≠ 0 ∧ (tt t).known = true) →
      l.length = s.size → Reads w.heap b off l → RC (c.ok m (E.ob st) w.heap) w.heap s v l → E.wr o.dst (.g s v) st K = some r → DoneQ P c E K r o a w := by
    intro s v b off l hlt hu ⟨h1, h2, h3, h4⟩ hl hr hc h
    subst hu
    cases hag : s.isAgg with
    | false =>
      rw [hag] at h1
      have hsz := size_one hag h3
      rw [hsz] at hl
      match l, hl with
      | [z], _ =>
        have hz : oneV z = true := hc.one z (by simp)
        refine done_v hS (u := z) (fun w' hb => by unfold execOp; simp [hop, hux, run_load_one (hP t) h4 h1.symm b off z w' (by rw [cellH_congr ((hb (by simp [memOp, hop])).block b hlt)]; have := hr 0 z rfl; simpa using this)]) (.g s v z ?_ ?_) h
        · rw [cells_one (oneV_agg hz)]; exact hc
        · rw [oneV_agg hz, hag]
    | true =>
      rw [hag] at h1
      refine done_v hS (u := .agg l.toArray) (fun w' hb => by unfold execOp; simp [hop, hux, run_load_agg (hP t) h4 h1.symm b off l (by rw [hl, h2]) w' (fun j v hj => by rw [cellH_congr ((hb (by simp [memOp, hop])).block b hlt)]; exact hr j v hj)]) (.g s v _ ?_ ?_) h
      · simpa [Value.cells] using hc
      · rw [hag]; rfl
  split at h
  · rename_i s v he
    obtain ⟨hd, h'⟩ := cond_some h
    rw [he] at hx
    cases hx with
    | rp _ _ b off l hb hl hr hc => exact fromCells hb.1 rfl (of_decide_eq_true hd) hl hr hc h'
  · rename_i hh off he
    split at h
    · rename_i cells ho
      split at h
      · rename_i v hv
        obtain ⟨hk, h'⟩ := cond_some h
        rw [he] at hx
        cases hx with
        | ptr _ _ _ hp _ =>
          obtain ⟨b, hm, rfl⟩ := hp _ ho
          have hro := hS.objs hh _ ho
          simp only [RO] at hro
          obtain ⟨b', cs, e, h1, _, h3, h4, h5, h6⟩ := hro
          rw [hm] at h1
          cases h1
          cases hag : (tt t).agg with
          | false =>
            rw [hag] at hv
            simp only [cut, cond_false] at hv
            have hi : off < cs.size := by rw [h4]; exact lt_of_getl hv
            refine done_v hS (u := cs[off]) (fun w' hb => by unfold execOp; simp [hop, hux, run_load_one (hP t) hk hag b off cs[off] w' (by simp [cellH, (hb (by simp [memOp, hop])).block b (lt_of_some h3), h3, hi])]) (h6 off v _ hv (by simp [hi])) h'
          | true =>
            rw [hag] at hv
            simp only [cut, cond_true] at hv
            obtain ⟨hb, hv'⟩ := cond_some hv
            have hb := of_decide_eq_true hb
            cases hv'
            have hlen : ((cs.toList.drop off).take (tt t).size).length = (tt t).size := by simp; omega
            refine done_v hS (u := .agg ((cs.toList.drop off).take (tt t).size).toArray) (fun w' hbw => by
              unfold execOp
              simp only [hop, hux]
              have := run_load_agg (hP t) hk hag b off ((cs.toList.drop off).take (tt t).size) hlen w' (fun j v hj => by
                rw [List.getElem?_take] at hj
                split at hj
                · rw [List.getElem?_drop, Array.getElem?_toList] at hj
                  simp only [cellH, (hbw (by simp [memOp, hop])).block b (lt_of_some h3), h3]
                  exact hj
                · cases hj)
              simp [this]) (.agg _ _ (by simp; omega) (fun i av u h7 h8 => ?_) (fun u hu => ?_)) h'
            · rw [List.getElem?_take] at h7
              simp only [List.getElem?_toArray] at h8
              rw [List.getElem?_take] at h8
              split at h7
              · rename_i hi
                rw [if_pos hi, List.getElem?_drop, Array.getElem?_toList] at h8
                rw [List.getElem?_drop] at h7
                exact h6 _ av u h7 h8
              · cases h7
            · exact h5 u (List.mem_of_mem_drop (List.mem_of_mem_take (by simpa using hu)))
      · cases h
    · cases h
  · rename_i hh i he
    split at h
    · rename_i s xs ho
      obtain ⟨hd, h'⟩ := cond_some h
      obtain ⟨v, hv, h''⟩ := bind_some h'
      rw [he] at hx
      cases hx with
      | el _ _ _ hp _ =>
        obtain ⟨hi, b, hm, rfl⟩ := hp _ _ ho
        have hro := hS.objs hh _ ho
        simp only [RO, hm] at hro
        obtain ⟨_, cs, e, hbl, _, h4⟩ := hro
        obtain ⟨l, hl, hr, hc⟩ := h4 i v hv
        exact fromCells (lt_of_some hbl) rfl (of_decide_eq_true hd) hl hr hc h''
    · cases h
  · cases h

theorem slc_cells {cs : Array Value} {n i j k l : Nat} (h : i * n + j = k * n + l) (hj : j < n) (hl : l < n) : i = k ∧ j = l := by
  have h1 : (i * n + j) / n = i := by rw [Nat.mul_comm, Nat.mul_add_div (by omega)]; simp [Nat.div_eq_of_lt hj]
  have h2 : (k * n + l) / n = k := by rw [Nat.mul_comm, Nat.mul_add_div (by omega)]; simp [Nat.div_eq_of_lt hl]
  have h3 : i = k := by rw [← h1, ← h2, h]
  subst h3
  exact ⟨rfl, by omega⟩

theorem look_delAll_mem {l : List (Nat × AO)} : ∀ {hs : List Nat} {h : Nat}, h ∈ hs → look (delAll l hs) h = none := by
  intro hs
  induction hs generalizing l with
  | nil => intro h hh; cases hh
  | cons k hs ih =>
    intro h hh
    simp only [delAll]
    by_cases hm : h ∈ hs
    · exact ih hm
    · rcases List.mem_cons.1 hh with rfl | hh
      · have : ∀ {l : List (Nat × AO)} {hs : List Nat}, look l h = none → look (delAll l hs) h = none := by
          intro l hs
          induction hs generalizing l with
          | nil => exact id
          | cons q hs ih2 =>
            intro hl
            simp only [delAll]
            refine ih2 ?_
            by_cases hq : q = h
            · subst hq; exact look_del_self l q
            · rw [look_del_ne _ hq]; exact hl
        exact this (look_del_self l h)
      · exact absurd hh hm

theorem look_delAll_ne {l : List (Nat × AO)} : ∀ {hs : List Nat} {h : Nat}, h ∉ hs → look (delAll l hs) h = look l h := by
  intro hs
  induction hs generalizing l with
  | nil => intro h _; rfl
  | cons k hs ih =>
    intro h hh
    simp only [List.mem_cons, not_or] at hh
    simp only [delAll]
    rw [ih hh.2, look_del_ne _ (Ne.symm hh.1)]

theorem giveO_some {E : Env} {st : St} {hs : List Nat} {k : Nat} {o : AO} (h : giveO E st hs k = some o) : E.mutb = false ∧ k ∈ hs ∧ look st.objs k = some o := by
  unfold giveO at h
  obtain ⟨h1, h2⟩ := cond_some h
  simp only [Bool.and_eq_true, Bool.not_eq_true', List.contains_iff_mem] at h1
  exact ⟨h1.1, h1.2, h2⟩

/-- Objects are let go. -/
theorem SimM.dels (hS : SimM c E st m a w) (hs : List Nat) :
    SimM c E { st with objs := delAll st.objs hs } m a w ∧ (∀ i b, c.ok m (E.ob st) w.heap i b → c.ok m (E.ob { st with objs := delAll st.objs hs }) w.heap i b) ∧
    (E.mutb = false → ∀ k o b, k ∈ hs → look st.objs k = some o → m k = some b → ∀ i, c.ok m (E.ob { st with objs := delAll st.objs hs }) w.heap i b) := by
  have hob : ∀ k o, E.ob { st with objs := delAll st.objs hs } k = some o → E.ob st k = some o := fun k o hk => by
    by_cases hh : k ∈ hs
    · simp only [Env.ob, look_delAll_mem hh] at hk
      cases hl : look st.objs k with
      | none => simpa [Env.ob, hl] using hk
      | some o' =>
        have := hS.disj k o' hl
        rw [this] at hk
        cases hk
    · simpa only [Env.ob, look_delAll_ne hh] using hk
  have hok : ∀ i b, c.ok m (E.ob st) w.heap i b → c.ok m (E.ob { st with objs := delAll st.objs hs }) w.heap i b := fun i b hb =>
    ⟨hb.1, hb.2.1, fun h o ho => hb.2.2.1 h o (hob h o ho), hb.2.2.2⟩
  have hT : Tr (c.ok m (E.ob st) w.heap) m (E.ob st) w.heap (c.ok m (E.ob { st with objs := delAll st.objs hs }) w.heap) m (E.ob { st with objs := delAll st.objs hs }) w.heap (fun _ => False) :=
    ⟨fun i b hb => ⟨hok i b hb, fun _ => rfl⟩, fun h o ho _ => ⟨o, hob h o ho, AO.like_refl o, rfl, fun _ _ => rfl⟩⟩
  refine ⟨hS.change rfl hS.kept _ hT (fun d hd => hd.elim) (fun h o ho => (hS.objs h o (hob h o ho)).mono hT rfl (fun _ _ => rfl) (fun _ _ d hd => hd.elim))
    (fun h h' o o' b h1 h2 => hS.inj h h' o o' b (hob _ _ h1) (hob _ _ h2)) (fun h o ho => ?_) (fun b hb => ?_), hok, fun hmu k o b hk ho hm i => ?_⟩
  · by_cases hh : h ∈ hs
    · simp only [look_delAll_mem hh] at ho; cases ho
    · simp only [look_delAll_ne hh] at ho
      exact hS.disj h o ho
  · obtain ⟨g1, g2, g3⟩ := hS.alive b hb
    exact ⟨g1, g2, fun h o ho => g3 h o (hob h o ho)⟩
  · have ho1 := ob_of_look (E := E) ho
    obtain ⟨g1, cs, e, g2⟩ := (hS.objs k o ho1).block hm
    have hB : c.B ≤ b := g1.resolve_right (hS.nomu hmu b)
    refine ⟨lt_of_some g2, fun hlt => absurd hB (by omega), fun h o' ho' he => ?_, fun hD => (hS.alive b hD).2.2 k o ho1 hm, fun _ => ⟨hB, cs, e, g2⟩⟩
    have := hS.inj k h o o' b ho1 (hob h o' ho') hm he
    subst this
    simp only [Env.ob, look_delAll_mem hk] at ho'
    rw [hS.disj k o ho] at ho'
    cases ho'

/-- A store that does the same in every world that is as this one below. -/
def DoneS (P : Program) (c : Cx) (E : Env) (K : St → Option ρ) (r : ρ) (o : Oper) (a : Act) (w : World) : Prop :=
  ∃ b ob, b < w.heap.size ∧ (∀ w', Below w.heap.size w w' → (execOp a.eval o).run P w' = .ok .skip (setB w' b ob)) ∧ Post c E K r (a.put o.dst undef) (setB w b ob)

theorem DoneS.done (h : DoneS P c E K r o a w) : Done P c E K r o a w := by
  obtain ⟨b, ob, _, h1, h2⟩ := h
  exact .inr (op_skip (h1 w (Below.refl _ _)) h2)

theorem s_store {t : TypeId} {x y : Operand} (hP : ∀ t, TDok P t (tt t)) (hS : SimM c E st m a w) (hop : o.op = .store t x y) (h : aop tt T E q o st K = some r) : DoneS P c E K r o a w := by
  simp only [aop, hop] at h
  have hx := hS.ev x
  have hy := hS.ev y
  generalize hux : a.eval x = u at hx
  generalize huy : a.eval y = v at hy
  have fin : ∀ {st' : St} {b : Nat} {ob : Obj}, b < w.heap.size → (∀ w', Below w.heap.size w w' → (Instr.storeAt t u v).run P w' = .ok () (setB w' b ob)) → SimM c E st' m a (setB w b ob) → E.wr o.dst .top st' K = some r → DoneS P c E K r o a w := by
    intro st' b ob hb h1 h2 h3
    exact ⟨b, ob, hb, fun w' hw => by unfold execOp; simp [hop, hux, huy, h1 w' hw], wr_post h2 _ (.top _) h3⟩
  split at h
  · rename_i hh off he
    split at h
    · rename_i cells cv ho hcv
      obtain ⟨hd, h'⟩ := cond_some h
      obtain ⟨d1, d2, d3⟩ := of_decide_eq_true hd
      obtain ⟨c1, c2, c3, _⟩ := cellsOf_sound (fun b hb => Cx.ok_any hb) hy hcv
      rw [he] at hx
      cases hx with
      | ptr _ _ _ hp _ =>
        have ho' := ob_of_look (E := E) ho
        obtain ⟨b, hm, rfl⟩ := hp _ ho'
        have hro := hS.objs hh _ ho'
        simp only [RO] at hro
        obtain ⟨b', cs, e, h1, _, h3, h4, h5, h6⟩ := hro
        rw [hm] at h1
        cases h1
        have hle : off + v.cells.toList.length ≤ cs.size := by simp; omega
        refine fin (lt_of_some h3) (fun w' hw => run_store_at (hP t) d3 b off v (by rw [c1, d1]) c2 w' cs e (by rw [hw.block b (lt_of_some h3)]; exact h3) (by simpa using hle)) (hS.store ho ?_ hm h3 (lay_size _ _ _) ?_) h'
        · simp only [AO.like, paste, List.length_append, List.length_take, List.length_drop]; omega
        · refine ⟨by rw [lay_size]; simp only [paste, List.length_append, List.length_take, List.length_drop]; omega, fun u hu => ?_, fun i av u h7 h8 => ?_⟩
          · obtain ⟨i, hi, rfl⟩ := List.getElem_of_mem hu
            have hi' : (lay cs off v.cells.toList)[i]? = some (lay cs off v.cells.toList).toList[i] := by rw [← Array.getElem?_toList]; exact List.getElem?_eq_getElem hi
            rw [lay_get _ _ _ hle] at hi'
            split at hi'
            · exact c2 _ (List.mem_of_getElem? hi')
            · exact h5 _ (by rw [← Array.getElem?_toList] at hi'; exact List.mem_of_getElem? hi')
          · rw [lay_get _ _ _ hle] at h8
            simp only [Array.length_toList] at h8
            simp only [paste, List.append_assoc] at h7
            rw [List.getElem?_append] at h7
            simp only [List.length_take] at h7
            split at h7
            · rename_i hi
              rw [if_neg (by omega)] at h8
              rw [List.getElem?_take, if_pos (by omega)] at h7
              exact h6 _ av u h7 h8
            · rename_i hi
              have hmin : min off cells.length = off := by omega
              rw [hmin] at h7 hi
              rw [List.getElem?_append] at h7
              split at h7
              · rename_i hi2
                rw [if_pos (by omega)] at h8
                exact c3 _ av u h7 (by rw [← Array.getElem?_toList]; exact h8)
              · rename_i hi2
                rw [if_neg (by omega)] at h8
                rw [List.getElem?_drop] at h7
                exact h6 i av u (by rw [← h7]; congr 1; omega) h8
    · cases h
  · rename_i hh i he
    split at h
    · rename_i s xs ho
      split at h
      · rename_i z hz
        obtain ⟨hd, h'⟩ := cond_some h
        simp only [Bool.and_eq_true, Bool.not_eq_true'] at hd
        obtain ⟨hd, hnc⟩ := hd
        obtain ⟨d1, d2⟩ := of_decide_eq_true hd
        rw [he] at hx
        cases hx with
        | el _ _ _ hp _ =>
          have ho0 := ob_of_look (E := E) ho
          obtain ⟨hi, b, hm, rfl⟩ := hp _ _ ho0
          generalize givesOf s (E.ev st y) = hs at *
          obtain ⟨hS1, k1, k2⟩ := hS.dels hs
          have ho1 : look (delAll st.objs hs) hh = some (.arr s xs) := by
            rw [look_delAll_ne (by simpa using hnc)]
            exact ho
          have ho' := ob_of_look (E := E) (st := { st with objs := delAll st.objs hs }) ho1
          obtain ⟨hc, hag⟩ := gndV_sound (O1 := giveO E st hs) (okA := c.ok m (E.ob { st with objs := delAll st.objs hs }) w.heap) (mt := c.mt) k1 (fun b hb => Cx.ok_any hb) (fun h o hh => ob_of_look (giveO_some hh).2.2) hS.objs (fun i h o b hh hb => by
            obtain ⟨g1, g2, g3⟩ := giveO_some hh
            exact k2 g1 h o b g2 g3 hb i) hz hy
          have hro := hS1.objs hh _ ho'
          simp only [RO, hm] at hro
          obtain ⟨_, cs, e, h3, h4, h5⟩ := hro
          have hlen : v.cells.toList.length = s.size := hc.len
          have hmul : (i + 1) * s.size ≤ xs.length * s.size := Nat.mul_le_mul_right _ hi
          have hle : i * s.size + v.cells.toList.length ≤ cs.size := by rw [hlen]; rw [Nat.add_mul] at hmul; omega
          refine fin (lt_of_some h3) (fun w' hw => run_store_at (hP t) d2 b (i * s.size) v (by rw [← d1, ← hlen]; simp) (fun u hu => hc.one u hu) w' cs e (by rw [hw.block b (lt_of_some h3)]; exact h3) (by simpa using hle)) (hS1.store ho1 ?_ hm h3 (lay_size _ _ _) ?_) h'
          · simp [AO.like]
          · refine ⟨by rw [lay_size]; simpa using h4, fun k y hy' => ?_⟩
            by_cases hk : i = k
            · subst hk
              rw [List.getElem?_set_self hi] at hy'
              cases hy'
              refine ⟨v.cells.toList, hlen, fun j u hj => ?_, hc⟩
              have := lt_of_getl hj
              rw [lay_get _ _ _ hle, if_pos (by omega), Nat.add_sub_cancel_left]
              exact hj
            · rw [List.getElem?_set_ne hk] at hy'
              obtain ⟨l, l1, l2, l3⟩ := h5 k y hy'
              refine ⟨l, l1, fun j u hj => ?_, l3⟩
              have hj1 := lt_of_getl hj
              have := l2 j u hj
              simp only [cellH, h3] at this
              rw [lay_get _ _ _ hle, if_neg (fun hh => ?_)]
              · exact this
              · have hq : k * s.size + j = i * s.size + (k * s.size + j - i * s.size) := by omega
                exact hk (slc_cells (cs := cs) hq (by omega) (by omega)).1.symm
      · cases h
    · cases h
  · cases h

end

end Go.Proofs.Ytmdicmdodbndgaa.Fw
