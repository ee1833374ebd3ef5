/-
  Rows of the type table; small words of the plain functions. No condition.
-/
import Derived.Test.YtmdicmdodbndgaaFwR
import Derived.Laws.StructEq
namespace Go.Proofs.Ytmdicmdodbndgaa.Fw
open Go Go.RowKit

@[reducible] def w64 (n : Int) : Int := IntKind.i64.wrap n
def mkOk (n m : Int) : Bool := decide (0 ≤ n ∧ n ≤ m ∧ m ≤ (LIM : Int)) && true
def appOk (n m : Nat) : Bool := true && decide (n + m ≤ LIM) && true && true && true
def bodyOf (f : Func) : Code := match f.body with | some c => c | none => .skip

def tdNone : TD := { known := false, size := 0, agg := false, zero := [], elem := none, fields := [], kind := none }
def tdInt (k : IntKind) : TD := { known := true, size := 1, agg := false, zero := [.g (.int k) (0 : Int)], elem := none, fields := [], kind := some (.int k), eqs := none }
def tdBool : TD := { known := true, size := 1, agg := false, zero := [.g .bool false], elem := none, fields := [], kind := some .bool, eqs := some .bool }
def tdFlt (k : FloatKind) : TD := { known := true, size := 1, agg := false, zero := [.g (.flt k) (toF k 0)], elem := none, fields := [], kind := some (.flt k) }
def tdSl (s : Sh) (n : Nat) : TD := { known := true, size := 1, agg := false, zero := [.nil], elem := some (s, n), fields := [], kind := none }
def tdSt (n : Nat) (fs : List (Nat × Nat × Bool)) (z : List AV) (eqs : Option Sh := none) : TD := { known := true, size := n, agg := true, zero := z, elem := none, fields := fs, kind := none, eqs := eqs }

section
variable {P : Program} {t : TypeId}

theorem info_of {b : Nat} {z : Option Value} {n : Nat} (h : (P.info? t).map (fun i => (i.zero, i.size, i.bytes)) = some (z, n, b)) : ∃ i, P.info? t = some i ∧ i.zero = z ∧ i.size = n ∧ i.bytes = b := by
  cases hi : P.info? t with
  | none => rw [hi] at h; cases h
  | some i =>
    rw [hi] at h
    simp only [Option.map_some, Option.some.injEq, Prod.mk.injEq] at h
    exact ⟨i, rfl, h.1, h.2.1, h.2.2⟩

theorem tdok_none : TDok P t tdNone where
  kint := fun k h => by cases h
  eqs := fun s h => by cases h
  kflt := fun k h => by cases h
  kany := fun h => by cases h
  size := fun h => by cases h
  agg := fun h => by cases h
  zero := fun h => absurd rfl h
  elem := fun s n h => by cases h
  fields := fun f off n ag h => by simp [tdNone] at h
  bld := fun h => by simp [tdNone] at h

theorem run_isAgg_no {d : TypeDesc} (hu : P.underlying t = some d) (hd : (match d with | .struct _ | .array _ _ => true | _ => false) = false) (w : World) : (isAgg t).run P w = .ok false w := by
  unfold isAgg
  simp only [Sem.run_bind, run_underlying hu, Result.andThen_ok]
  cases d <;> simp_all

theorem zero_one {z : Value} {av : AV} (h1 : oneV z = true) (h2 : av = ofV0 z) : z.cells.size = [av].length ∧ (∀ v ∈ z.cells.toList, oneV v = true) ∧
    ∀ ok m O H (i : Nat) (a : AV) (v : Value), [av][i]? = some a → z.cells[i]? = some v → RV ok m O H a v := by
  have hc : z.cells = #[z] := by cases z <;> simp_all [oneV, Value.cells]
  rw [hc]
  refine ⟨rfl, fun v hv => by simp at hv; subst hv; exact h1, fun ok m O H i a v ha hv => ?_⟩
  cases i with
  | zero => cases ha; simp at hv; subst hv; subst h2; exact RV.ofV0 _
  | succ i => simp at ha

theorem run_zero {i : TypeInfo} {z : Value} (hi : P.info? t = some i) (hz : i.zero = some z) (w : World) : (zeroValue t).run P w = .ok z w := by
  unfold zeroValue
  simp [run_info hi, hz]

theorem tdok_int {k : IntKind} {b : Nat} (hu : P.underlying t = some (.int k)) (hi : (P.info? t).map (fun i => (i.zero, i.size, i.bytes)) = some (some (.int k 0), 1, b)) : TDok P t (tdInt k) := by
  obtain ⟨i, h1, h2, h3, h4⟩ := info_of hi
  exact {
    kint := fun q h => by simp only [tdInt, Option.some.injEq, Sh.int.injEq] at h; rw [← h]; exact hu
    eqs := fun s h => by simp [tdInt] at h
    kflt := fun q h => by simp [tdInt] at h
    kany := fun _ => by rw [hu]; rfl
    size := fun _ w => by rw [run_size h1, h3]; rfl
    agg := fun _ w => run_isAgg_no hu rfl w
    zero := fun _ => ⟨.int k 0, fun w => run_zero h1 h2 w, zero_one rfl rfl⟩
    elem := fun s n h => by simp [tdInt] at h
    fields := fun f off n ag h => by simp [tdInt] at h
    bld := fun h => by simp [tdInt] at h }

theorem tdok_bool {b : Nat} (hu : P.underlying t = some .bool) (hi : (P.info? t).map (fun i => (i.zero, i.size, i.bytes)) = some (some (.bool false), 1, b)) : TDok P t tdBool := by
  obtain ⟨i, h1, h2, h3, h4⟩ := info_of hi
  exact {
    kint := fun q h => by simp [tdBool] at h
    eqs := fun s h => by
      simp only [tdBool, Option.some.injEq] at h
      subst h
      intro ok H a b x y hx hax hy hay
      rw [cells_one (hax.trans rfl)] at hx
      rw [cells_one (hay.trans rfl)] at hy
      simp only [RC, List.cons.injEq, and_true] at hx hy
      subst hx hy
      exact ⟨fun op p q w => by rw [eqGuard_at_bool]; rfl, fun w => run_eql_bool _ _ _ _ hu, fun w => run_neq_bool _ _ _ _ hu⟩
    kflt := fun q h => by simp [tdBool] at h
    kany := fun _ => by rw [hu]; rfl
    size := fun _ w => by rw [run_size h1, h3]; rfl
    agg := fun _ w => run_isAgg_no hu rfl w
    zero := fun _ => ⟨.bool false, fun w => run_zero h1 h2 w, zero_one rfl rfl⟩
    elem := fun s n h => by simp [tdBool] at h
    fields := fun f off n ag h => by simp [tdBool] at h
    bld := fun h => by simp [tdBool] at h }

theorem tdok_flt {k : FloatKind} {b : Nat} (hu : P.underlying t = some (.float k)) (hi : (P.info? t).map (fun i => (i.zero, i.size, i.bytes)) = some (some (.float k 0), 1, b)) : TDok P t (tdFlt k) := by
  obtain ⟨i, h1, h2, h3, h4⟩ := info_of hi
  exact {
    kint := fun q h => by simp [tdFlt] at h
    eqs := fun s h => by simp [tdFlt] at h
    kflt := fun q h => by simp only [tdFlt, Option.some.injEq, Sh.flt.injEq] at h; rw [← h]; exact hu
    kany := fun _ => by rw [hu]; rfl
    size := fun _ w => by rw [run_size h1, h3]; rfl
    agg := fun _ w => run_isAgg_no hu rfl w
    zero := fun _ => ⟨.float k 0, fun w => run_zero h1 h2 w, zero_one rfl rfl⟩
    elem := fun s n h => by simp [tdFlt] at h
    fields := fun f off n ag h => by simp [tdFlt] at h
    bld := fun h => by simp [tdFlt] at h }

theorem tdok_sl {s : Sh} {n b : Nat} {e : TypeId} {z : Value} (hu : P.underlying t = some (.slice e)) (hi : (P.info? t).map (fun i => (i.zero, i.size, i.bytes)) = some (some (.slice none 0 0), 1, b))
    (he : (P.info? e).map (fun i => (i.zero, i.size, i.bytes)) = some (some z, s.size, n)) (hn : n ≤ 4096) (hz : s.zeroed = true → z.cells.toList = zcells s) : TDok P t (tdSl s n) := by
  obtain ⟨i, h1, h2, h3, h4⟩ := info_of hi
  obtain ⟨j, j1, j2, j3, j4⟩ := info_of he
  exact {
    kint := fun q h => by simp [tdSl] at h
    eqs := fun s h => by simp [tdSl] at h
    kflt := fun q h => by simp [tdSl] at h
    kany := fun h => by simp [tdSl] at h
    size := fun _ w => by rw [run_size h1, h3]; rfl
    agg := fun _ w => run_isAgg_no hu rfl w
    zero := fun _ => ⟨.slice none 0 0, fun w => run_zero h1 h2 w, zero_one rfl rfl⟩
    elem := fun s' n' h => by
      simp only [tdSl, Option.some.injEq, Prod.mk.injEq] at h
      obtain ⟨rfl, rfl⟩ := h
      exact ⟨e, j, hu, j1, j3, j4, hn, fun hh => ⟨z, j2, hz hh⟩⟩
    fields := fun f off n ag h => by simp [tdSl] at h
    bld := fun h => by simp [tdSl] at h }

def aggD : TypeDesc → Bool
  | .struct _ | .array _ _ => true
  | _ => false

def tdFn : TD := { known := true, size := 1, agg := false, zero := [], elem := none, fields := [], kind := none }

theorem tdok_fn (hu : (P.underlying t).map aggD = some false) (hi : (P.info? t).map (fun i => i.size) = some 1) : TDok P t tdFn := by
  obtain ⟨d, h1, h2⟩ := Option.map_eq_some_iff.1 hu
  obtain ⟨i, h3, h4⟩ := Option.map_eq_some_iff.1 hi
  exact {
    kint := fun q h => by simp [tdFn] at h
    eqs := fun s h => by simp [tdFn] at h
    kflt := fun q h => by simp [tdFn] at h
    kany := fun h => by simp [tdFn] at h
    size := fun _ w => by rw [run_size h3, h4]; rfl
    agg := fun _ w => run_isAgg_no h1 (by cases d <;> simp_all [aggD]) w
    zero := fun h => absurd rfl h
    elem := fun s' n' h => by simp [tdFn] at h
    fields := fun f off n ag h => by simp [tdFn] at h
    bld := fun h => by simp [tdFn] at h }

theorem run_isAgg_d {d : TypeDesc} (hu : P.underlying t = some d) (w : World) : (isAgg t).run P w = .ok (aggD d) w := by
  unfold isAgg
  simp only [Sem.run_bind, run_underlying hu, Result.andThen_ok]
  cases d <;> rfl

/-- The fields of a struct as the type table has them. -/
def fieldsOf (P : Program) (t : TypeId) : Option (List (Nat × Option Nat × Option Bool)) :=
  match P.underlying t with
  | some (.struct fs) => some (fs.toList.map fun f => (f.offset, (P.info? f.type).map (·.size), (P.underlying f.type).map aggD))
  | _ => none

theorem tdok_stE {n b : Nat} {fl : List (Nat × Nat × Bool)} {zl : List AV} {z : Value} (hf : fieldsOf P t = some (fl.map fun x => (x.1, some x.2.1, some x.2.2)))
    (hi : (P.info? t).map (fun i => (i.zero, i.size, i.bytes)) = some (some z, n, b)) (hz : z.cells.toList.map ofV0 = zl) (hone : z.cells.toList.all oneV = true) (hne : fl.all (fun x => x.2.1 != 0) = true) {eqs : Option Sh} (heq : ∀ s, eqs = some s → EqsOk P t s) :
    TDok P t (tdSt n fl zl eqs) := by
  obtain ⟨i, h1, h2, h3, h4⟩ := info_of hi
  unfold fieldsOf at hf
  split at hf
  · rename_i fs hu
    simp only [Option.some.injEq] at hf
    have hget : ∀ (k : Nat) (fd : Field), fs[k]? = some fd → ∃ off m ag, fl[k]? = some (off, m, ag) ∧ fd.offset = off ∧ (∀ w, (sizeOf fd.type).run P w = .ok m w) ∧ (∀ w, (isAgg fd.type).run P w = .ok ag w) := by
      intro k fd hk
      have e := congrArg (fun l => l[k]?) hf
      simp only [List.getElem?_map, Array.getElem?_toList, hk, Option.map_some] at e
      cases hl : fl[k]? with
      | none => rw [hl] at e; cases e
      | some x =>
        obtain ⟨off, m, ag⟩ := x
        rw [hl] at e
        simp only [Option.map_some, Option.some.injEq, Prod.mk.injEq, Option.map_eq_some_iff] at e
        obtain ⟨e1, ⟨j, e2, e3⟩, d, e4, e5⟩ := e
        exact ⟨off, m, ag, rfl, e1, fun w => by rw [run_size e2, e3], fun w => by rw [run_isAgg_d e4, e5]⟩
    have hlen : fl.length = fs.size := by simpa using (congrArg List.length hf).symm
    exact {
      kint := fun q h => by simp [tdSt] at h
      eqs := heq
      kflt := fun q h => by simp [tdSt] at h
      kany := fun h => by simp [tdSt] at h
      size := fun _ w => by rw [run_size h1, h3]; rfl
      agg := fun _ w => run_isAgg_d hu w
      zero := fun _ => ⟨z, fun w => run_zero h1 h2 w, by rw [← hz]; simp [tdSt], fun v hv => List.all_eq_true.1 hone v hv, fun ok m O H k a v ha hv => by
        subst hz
        simp only [tdSt, List.getElem?_map, Array.getElem?_toList, hv, Option.map_some, Option.some.injEq] at ha
        subst ha
        exact RV.ofV0 _⟩
      elem := fun s' n' h => by simp [tdSt] at h
      fields := fun f off m ag h => by
        have hlt : f < fs.size := by
          rw [← hlen]
          rcases Nat.lt_or_ge f fl.length with h' | h'
          · exact h'
          · simp only [tdSt] at h
            rw [List.getElem?_eq_none h'] at h
            cases h
        obtain ⟨off', m', ag', g1, g2, g3, g4⟩ := hget f fs[f] (Array.getElem?_eq_getElem hlt)
        simp only [tdSt] at h
        rw [h] at g1
        cases g1
        refine ⟨fs, fs[f], hu, Array.getElem?_eq_getElem hlt, g2, g3, g4, ?_⟩
        have := List.all_eq_true.1 hne _ (List.mem_of_getElem? h)
        simpa using this
      bld := fun _ => by
        refine ⟨fs, (fl.map fun x => (x.1, x.2.1)).toArray, hu, fun w => ?_, fun k => by simp [tdSt]⟩
        have key : ∀ (fl : List (Nat × Nat × Bool)) (l : List Field), (∀ (k : Nat) (fd : Field), l[k]? = some fd → ∃ off m ag, fl[k]? = some (off, m, ag) ∧ fd.offset = off ∧ (∀ w, (sizeOf fd.type).run P w = .ok m w)) → fl.length = l.length →
            (l.mapM fun f => (do pure (f.offset, ← sizeOf f.type) : Sem (Nat × Nat))).run P w = .ok (fl.map fun x => (x.1, x.2.1)) w := by
          intro fl l
          induction l generalizing fl with
          | nil => intro _ hl; cases fl with
            | nil => rfl
            | cons x fl => cases hl
          | cons f l ih =>
            intro hk hl
            cases fl with
            | nil => cases hl
            | cons x fl =>
              obtain ⟨off, m, ag, g1, g2, g3⟩ := hk 0 f rfl
              cases g1
              have hr := ih fl (fun k fd h => hk (k + 1) fd h) (by simpa using hl)
              simp only [List.mapM_cons, Sem.run_bind, g3, Sem.run_pure, Result.andThen_ok, hr, List.map_cons, g2]
        have := key fl fs.toList (fun k fd h => by
          obtain ⟨off, m, ag, g1, g2, g3, _⟩ := hget k fd (by rwa [Array.getElem?_toList] at h)
          exact ⟨off, m, ag, g1, g2, g3⟩) (by simpa using hlen)
        rw [Array.mapM_eq_mapM_toList, Sem.run_map, this]
        rfl }
  · cases hf

theorem tdok_st {n b : Nat} {fl : List (Nat × Nat × Bool)} {zl : List AV} {z : Value} (hf : fieldsOf P t = some (fl.map fun x => (x.1, some x.2.1, some x.2.2)))
    (hi : (P.info? t).map (fun i => (i.zero, i.size, i.bytes)) = some (some z, n, b)) (hz : z.cells.toList.map ofV0 = zl) (hone : z.cells.toList.all oneV = true) (hne : fl.all (fun x => x.2.1 != 0) = true) :
    TDok P t (tdSt n fl zl) := tdok_stE hf hi hz hone hne (fun s h => by cases h)

/-- The shape of a struct of numbers. -/
def stI : List IntKind → Sh
  | [] => .un
  | [k] => .int k
  | k :: ks => .pair (.int k) (stI ks)

/-- Fields that are numbers, cell by cell. -/
def eqFieldsB (P : Program) : List Field → Nat → List IntKind → Bool
  | [], _, [] => true
  | f :: r, i, k :: ks => decide (f.offset = i) && decide (f.name ≠ "_") && (match P.underlying f.type with | some (.int k') => decide (k' = k) | _ => false) && eqFieldsB P r (i + 1) ks
  | _, _, _ => false

theorem run_part_int {xs : Array Value} {i : Nat} {k : IntKind} {v : Value} (hu : P.underlying t = some (.int k)) (hv : xs[i]? = some v) (w : World) : (part t xs i).run P w = .ok v w := by
  have ha := run_isAgg_d hu w
  unfold part
  simp [ha, aggD, hv]

theorem eqFields_ints {d : Nat} {xs ys : Array Value} (w : World) : ∀ {fs : List Field} {o : Nat} {ks : List IntKind} {a b : (stI ks).den} {ok : Bool → Nat → Prop} {H : Array Obj}, eqFieldsB P fs o ks = true → 1 ≤ ks.length →
    RC ok H (stI ks) a (xs.toList.drop o) → RC ok H (stI ks) b (ys.toList.drop o) → (Op.eqFields (d + 1) xs ys fs).run P w = .ok ((stI ks).beq a b) w := by
  intro fs
  induction fs with
  | nil => intro o ks a b ok H h hl; cases ks with
    | nil => simp at hl
    | cons _ _ => cases h
  | cons f fs ih =>
    intro o ks a b ok H h hl hx hy
    cases ks with
    | nil => cases h
    | cons k ks =>
      simp only [eqFieldsB, Bool.and_eq_true, decide_eq_true_eq] at h
      obtain ⟨⟨⟨h1, h2⟩, h3⟩, h4⟩ := h
      have hu : P.underlying f.type = some (.int k) := by
        split at h3
        · rename_i k' hk
          rw [hk, of_decide_eq_true h3]
        · cases h3
      have head : ∀ {xs : Array Value} {n : Int} {rest : List Value}, xs.toList.drop o = .int k n :: rest → xs[o]? = some (.int k n) := fun {xs n rest} he => by
        have := congrArg (fun l => l[0]?) he
        simp only [List.getElem?_drop, List.getElem?_cons_zero, Nat.add_zero] at this
        rwa [Array.getElem?_toList] at this
      have step : ∀ {n m : Int} {r1 r2 : List Value}, xs.toList.drop o = .int k n :: r1 → ys.toList.drop o = .int k m :: r2 →
          (Op.eqFields (d + 1) xs ys (f :: fs)).run P w = (if n = m then (Op.eqFields (d + 1) xs ys fs).run P w else .ok false w) := fun {n m r1 r2} e1 e2 => by
        conv => lhs; unfold Op.eqFields
        rw [if_pos h2]
        simp only [Sem.run_bind, h1, run_part_int hu (head e1), run_part_int hu (head e2), Result.andThen_ok, run_equalIn_int w d f.type k k n m hu]
        by_cases hnm : n = m
        · rw [if_pos hnm]
          simp [hnm]
        · rw [if_neg hnm]
          have : (n == m) = false := by simpa using hnm
          simp [this]
      cases ks with
      | nil =>
        have e1 : xs.toList.drop o = [.int k a] := hx
        have e2 : ys.toList.drop o = [.int k b] := hy
        rw [step e1 e2]
        have hfs : fs = [] := by
          cases fs with
          | nil => rfl
          | cons _ _ => cases h4
        subst hfs
        simp only [Op.eqFields, Sem.run_pure, stI, Sh.beq]
        split
        · rename_i hnm
          exact congrArg (fun x => Result.ok x w) (beq_iff_eq (α := Int).2 hnm).symm
        · rename_i hnm
          exact congrArg (fun x => Result.ok x w) (beq_eq_false_iff_ne (α := Int).2 hnm).symm
      | cons k2 ks =>
        obtain ⟨c1, c2, e1, g1, g2⟩ := hx
        obtain ⟨d1, d2, e2, q1, q2⟩ := hy
        simp only [RC] at g1 q1
        subst g1 q1
        rw [step (by rw [e1]; rfl) (by rw [e2]; rfl)]
        have r1 : xs.toList.drop (o + 1) = c2 := by rw [← List.drop_drop, e1]; rfl
        have r2 : ys.toList.drop (o + 1) = d2 := by rw [← List.drop_drop, e2]; rfl
        by_cases hnm : a.1 = b.1
        · rw [if_pos hnm, ih h4 (by simp) (by rw [r1]; exact g2) (by rw [r2]; exact q2)]
          have : (a.1 == b.1) = true := by simpa using hnm
          simp only [stI, Sh.beq, this, Bool.true_and]
        · rw [if_neg hnm]
          have : (a.1 == b.1) = false := by simpa using hnm
          simp only [stI, Sh.beq, this, Bool.false_and]

theorem eqs_st {ks : List IntKind} (hl : 2 ≤ ks.length) (h : (match P.underlying t with | some (.struct fs) => eqFieldsB P fs.toList 0 ks | _ => false) = true) (hp : P.stoodInHeld t = false) (hm : P.eqGuardType P.depth t = false) : EqsOk P t (stI ks) := by
  intro ok H a b x y hx ha hy hb
  have hag : (stI ks).isAgg = true := by
    match ks, hl with
    | _ :: _ :: _, _ => rfl
  rw [hag] at ha hb
  obtain ⟨xs, rfl⟩ := agg_cells ha
  obtain ⟨ys, rfl⟩ := agg_cells hb
  split at h
  · rename_i fs hu
    have hF : P.fieldsOf t = fs := by unfold Program.fieldsOf; rw [hu]
    have hrun : ∀ w, (Op.equalIn 10000 t (.agg xs) (.agg ys)).run P w = .ok ((stI ks).beq a b) w := fun w => by
      rw [run_equalIn_struct w 9999 t xs ys (by rw [hF]; exact hu) hp, hF]
      exact eqFields_ints w h (by omega) (by simpa [Value.cells] using hx) (by simpa [Value.cells] using hy)
    refine ⟨fun op p q w => run_eqGuard_agg w op t p q xs ys hm, fun w => ?_, fun w => ?_⟩
    · rw [run_eql_struct, hrun]; rfl
    · rw [run_neq_struct, hrun]; rfl
  · cases h

end

end Go.Proofs.Ytmdicmdodbndgaa.Fw
