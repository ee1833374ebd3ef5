/-
  Steps of the evaluator are steps of the model, first part: slots, and operations on numbers. No condition.
-/
import Derived.Test.YtmdicmdodbndgaaFwC
namespace Go.Proofs.Ytmdicmdodbndgaa.Fw
open Go Go.RowKit

section
variable {c : Cx} {E : Env} {st : St} {m : Nat → Option Nat} {a : Act} {w : World}

/-- A value as it stands in a state. -/
abbrev RVs (c : Cx) (E : Env) (st : St) (m : Nat → Option Nat) (w : World) : AV → Value → Prop :=
  RV (c.ok m (E.ob st) w.heap) m (E.ob st) w.heap

theorem ob_slots (l : List AV) (h : Nat) : E.ob { st with slots := l } h = E.ob st h := rfl

theorem SimM.rd (hS : SimM c E st m a w) (t : Nat) : RVs c E st m w (E.rd st t) (a.tmps.getD t undef) := by
  unfold Env.rd
  have h1 : RVs c E st m w (E.slots.getD t .top) (a.tmps.getD t undef) := by
    rw [List.getD_eq_getElem?_getD]
    cases h : E.slots[t]? with
    | none => exact .top _
    | some av => exact hS.eslots t av h
  have h2 : RVs c E st m w (st.slots.getD t .top) (a.tmps.getD t undef) := by
    rw [List.getD_eq_getElem?_getD]
    cases h : st.slots[t]? with
    | none => exact .top _
    | some av => exact hS.slots t av h
  split
  · exact h1
  · exact h2

theorem RV.ofV0 {ok : Bool → Nat → Prop} {O : Nat → Option AO} {H : Array Obj} (v : Value) : RV ok m O H (ofV0 v) v := by
  unfold Fw.ofV0
  split
  · exact .g _ _ _ (by simp [RC, Value.cells]) rfl
  · exact .g _ _ _ (by simp [RC, Value.cells]) rfl
  · exact .g _ _ _ (by simp [RC, Value.cells]) rfl
  · exact .nil
  · exact .top _

theorem RV.ofV {ok : Bool → Nat → Prop} {O : Nat → Option AO} {H : Array Obj} (v : Value) : RV ok m O H (ofV v) v := by
  unfold Fw.ofV
  split
  · rename_i cs
    cases h : cs.toList.all oneV with
    | false => exact .top _
    | true =>
      refine .agg _ _ (by simp) (fun i a v h1 h2 => ?_) (fun v hv => (List.all_eq_true.1 h) v hv)
      rw [List.getElem?_map, Array.getElem?_toList, h2] at h1
      simp only [Option.map_some, Option.some.injEq] at h1
      subst h1
      exact RV.ofV0 v
  · exact RV.ofV0 v

theorem SimM.ev (hS : SimM c E st m a w) (x : Operand) : RVs c E st m w (E.ev st x) (a.eval x) := by
  cases x with
  | tmp t => exact hS.rd t
  | const v => exact RV.ofV v
  | global g => exact .top _
  | func f => exact .fn f [] #[] rfl (fun i a v h _ => by simp at h) (fun v hv => by simp at hv)

theorem isTop_eq {v : AV} (h : v.isTop = true) : v = .top := by cases v <;> simp_all [AV.isTop]

theorem getD_put (a : Act) (d t : Nat) (u : Value) : (a.put (some d) u).tmps.getD t undef = if d = t ∧ t < a.tmps.size then u else a.tmps.getD t undef := by
  simp only [Act.put, Array.getD_eq_getD_getElem?, Array.getElem?_setIfInBounds]
  by_cases h : d = t
  · subst h
    by_cases h2 : d < a.tmps.size
    · simp [h2]
    · simp [h2]
  · simp [h]

/-- A slot is written. -/
theorem SimM.setS (hS : SimM c E st m a w) (d : Nat) {v : AV} {u : Value} (hv : RVs c E st m w v u) (hE : (E.slots.getD d .top).isTop = true) (hA : (E.args.getD d .top).isTop = true) :
    SimM c E { st with slots := st.slots.set d v } m (a.put (some d) u) w where
  defers := hS.defers
  size := by simp [Act.put, hS.size]
  num := by simp [hS.num]
  kept := hS.kept
  slots := fun t av h => by
    rw [List.getElem?_set] at h
    rw [getD_put]
    by_cases hdt : d = t
    · subst hdt
      by_cases hl : d < st.slots.length
      · simp only [if_true, if_pos hl, Option.some.injEq] at h
        subst h
        rw [if_pos ⟨rfl, by rw [hS.size]; exact hl⟩]
        exact hv
      · simp [hl] at h
    · rw [if_neg hdt] at h
      rw [if_neg (fun hh => hdt hh.1)]
      exact hS.slots t av h
  eslots := fun t av h => by
    rw [getD_put]
    by_cases hdt : d = t ∧ t < a.tmps.size
    · obtain ⟨rfl, hl⟩ := hdt
      rw [List.getD_eq_getElem?_getD, h] at hE
      have := isTop_eq hE
      simp only [Option.getD_some] at this
      subst this
      exact .top _
    · rw [if_neg hdt]
      exact hS.eslots t av h
  objs := hS.objs
  inj := hS.inj
  disj := hS.disj
  fix := fun t av h hn => by
    rw [getD_put]
    by_cases hdt : d = t ∧ t < a.tmps.size
    · obtain ⟨rfl, hl⟩ := hdt
      rw [List.getD_eq_getElem?_getD, h] at hA
      simp only [Option.getD_some] at hA
      rw [hA] at hn
      cases hn
    · rw [if_neg hdt]
      exact hS.fix t av h hn
  nomu := hS.nomu
  old := hS.old
  alive := hS.alive

variable {ρ : Type} {K : St → Option ρ} {r : ρ}

theorem wr_sound (hS : SimM c E st m a w) (d : Option Nat) {v : AV} {u : Value} (hv : RVs c E st m w v u) (h : E.wr d v st K = some r) :
    ∃ st', SimM c E st' m (a.put d u) w ∧ K st' = some r := by
  unfold Env.wr at h
  cases d with
  | none => exact ⟨st, hS, h⟩
  | some d =>
    simp only at h
    cases hE : (E.slots.getD d .top).isTop with
    | false => rw [hE] at h; cases h
    | true =>
      cases hA : (E.args.getD d .top).isTop with
      | false => rw [hE, hA] at h; cases h
      | true =>
        rw [hE, hA] at h
        exact ⟨_, hS.setS d hv hE hA, h⟩

/-- What holds when a region's operation has been run. -/
def Post (c : Cx) (E : Env) (K : St → Option ρ) (r : ρ) : Act → World → Prop := fun a' w' => ∃ st', Sim c E st' a' w' ∧ K st' = some r

theorem wr_post (hS : SimM c E st m a w) (d : Option Nat) {v : AV} {u : Value} (hv : RVs c E st m w v u) (h : E.wr d v st K = some r) :
    Post c E K r (a.put d u) w := by
  obtain ⟨st', h1, h2⟩ := wr_sound hS d hv h
  exact ⟨st', ⟨m, c.D, h1⟩, h2⟩

end

theorem toF_none {k : FloatKind} {b : Nat} : toF k b = none ↔ (k.decode b).isNaN = true := by
  unfold toF
  cases (k.decode b).isNaN <;> simp

theorem toF_some {k : FloatKind} {b x : Nat} : toF k b = some x ↔ (k.decode b).isNaN = false ∧ b = x := by
  unfold toF
  cases (k.decode b).isNaN <;> simp

theorem g_int {ok : Bool → Nat → Prop} {m : Nat → Option Nat} {O : Nat → Option AO} {H : Array Obj} {k : IntKind} {n : Int} {v : Value} (h : RV ok m O H (.g (.int k) n) v) : v = .int k n := by
  cases h with
  | g _ _ _ hc ha =>
    simp only [RC] at hc
    cases v <;> simp_all [Value.cells, aggV, Sh.isAgg]

theorem g_bool {ok : Bool → Nat → Prop} {m : Nat → Option Nat} {O : Nat → Option AO} {H : Array Obj} {b : Bool} {v : Value} (h : RV ok m O H (.g .bool b) v) : v = .bool b := by
  cases h with
  | g _ _ _ hc ha =>
    simp only [RC] at hc
    cases v <;> simp_all [Value.cells, aggV, Sh.isAgg]

theorem g_flt {ok : Bool → Nat → Prop} {m : Nat → Option Nat} {O : Nat → Option AO} {H : Array Obj} {k : FloatKind} {x : Option Nat} {v : Value} (h : RV ok m O H (.g (.flt k) x) v) : ∃ b, v = .float k b ∧ x = toF k b := by
  cases h with
  | g _ _ _ hc ha =>
    simp only [RC] at hc
    obtain ⟨b, hb, hx⟩ := hc
    refine ⟨b, ?_, hx⟩
    cases v <;> simp_all [Value.cells, aggV, Sh.isAgg]

theorem mk_int {ok : Bool → Nat → Prop} {m : Nat → Option Nat} {O : Nat → Option AO} {H : Array Obj} {k : IntKind} {n : Int} : RV ok m O H (.g (.int k) n) (.int k n) :=
  .g _ _ _ (by simp [RC, Value.cells]) rfl
theorem mk_bool {ok : Bool → Nat → Prop} {m : Nat → Option Nat} {O : Nat → Option AO} {H : Array Obj} {b : Bool} : RV ok m O H (.g .bool b) (.bool b) :=
  .g _ _ _ (by simp [RC, Value.cells]) rfl
theorem mk_flt {ok : Bool → Nat → Prop} {m : Nat → Option Nat} {O : Nat → Option AO} {H : Array Obj} {k : FloatKind} {b : Nat} : RV ok m O H (.g (.flt k) (toF k b)) (.float k b) :=
  .g _ _ _ (by simp [RC, Value.cells]) rfl

end Go.Proofs.Ytmdicmdodbndgaa.Fw
