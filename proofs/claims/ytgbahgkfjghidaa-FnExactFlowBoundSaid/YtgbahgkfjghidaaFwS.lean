/-
  Rows of the type table; small words of the plain functions. No condition.
-/
import Derived.Test.YtgbahgkfjghidaaFwR
namespace Go.Proofs.Ytgbahgkfjghidaa.Fw
open Go Go.RowKit

@[reducible] def w64 (n : Int) : Int := IntKind.i64.wrap n
def mkOk (n m : Int) : Bool := decide (0 ≤ n ∧ n ≤ m ∧ m ≤ (LIM : Int)) && true
def bodyOf (f : Func) : Code := match f.body with | some c => c | none => .skip

def tdNone : TD := { known := false, size := 0, agg := false, zero := [], elem := none, fields := [], kind := none }
def tdInt (k : IntKind) : TD := { known := true, size := 1, agg := false, zero := [.g (.int k) (0 : Int)], elem := none, fields := [], kind := some (.int k) }
def tdBool : TD := { known := true, size := 1, agg := false, zero := [.g .bool false], elem := none, fields := [], kind := some .bool }
def tdFlt (k : FloatKind) : TD := { known := true, size := 1, agg := false, zero := [.g (.flt k) (toF k 0)], elem := none, fields := [], kind := some (.flt k) }
def tdSl (s : Sh) (n : Nat) : TD := { known := true, size := 1, agg := false, zero := [.nil], elem := some (s, n), fields := [], kind := none }
def tdSt (n : Nat) (fs : List (Nat × Nat × Bool)) (z : List AV) : TD := { known := true, size := n, agg := true, zero := z, elem := none, fields := fs, kind := none }

section
variable {P : Program} {t : TypeId}

theorem info_of {b : Nat} {z : Option Value} {n : Nat} (h : (P.info? t).map (fun i => (i.zero, i.size, i.bytes)) = some (z, n, b)) : ∃ i, P.info? t = some i ∧ i.zero = z ∧ i.size = n ∧ i.bytes = b := by
  cases hi : P.info? t with
  | none => rw [hi] at h; cases h
  | some i =>
    rw [hi] at h
    simp only [Option.map_some, Option.some.injEq, Prod.mk.injEq] at h
    exact ⟨i, rfl, h.1, h.2.1, h.2.2⟩

theorem tdok_none : TDok P t tdNone where
  kint := fun k h => by cases h
  kbool := fun h => by cases h
  kflt := fun k h => by cases h
  kany := fun h => by cases h
  size := fun h => by cases h
  agg := fun h => by cases h
  zero := fun h => absurd rfl h
  elem := fun s n h => by cases h
  fields := fun f off n ag h => by simp [tdNone] at h
  bld := fun h => by simp [tdNone] at h

theorem run_isAgg_no {d : TypeDesc} (hu : P.underlying t = some d) (hd : (match d with | .struct _ | .array _ _ => true | _ => false) = false) (w : World) : (isAgg t).run P w = .ok false w := by
  unfold isAgg
  simp only [Sem.run_bind, run_underlying hu, Result.andThen_ok]
  cases d <;> simp_all

theorem zero_one {z : Value} {av : AV} (h1 : oneV z = true) (h2 : av = ofV0 z) : z.cells.size = [av].length ∧ (∀ v ∈ z.cells.toList, oneV v = true) ∧
    ∀ ok m O H (i : Nat) (a : AV) (v : Value), [av][i]? = some a → z.cells[i]? = some v → RV ok m O H a v := by
  have hc : z.cells = #[z] := by cases z <;> simp_all [oneV, Value.cells]
  rw [hc]
  refine ⟨rfl, fun v hv => by simp at hv; subst hv; exact h1, fun ok m O H i a v ha hv => ?_⟩
  cases i with
  | zero => cases ha; simp at hv; subst hv; subst h2; exact RV.ofV0 _
  | succ i => simp at ha

theorem run_zero {i : TypeInfo} {z : Value} (hi : P.info? t = some i) (hz : i.zero = some z) (w : World) : (zeroValue t).run P w = .ok z w := by
  unfold zeroValue
  simp [run_info hi, hz]

theorem tdok_int {k : IntKind} {b : Nat} (hu : P.underlying t = some (.int k)) (hi : (P.info? t).map (fun i => (i.zero, i.size, i.bytes)) = some (some (.int k 0), 1, b)) : TDok P t (tdInt k) := by
  obtain ⟨i, h1, h2, h3, h4⟩ := info_of hi
  exact {
    kint := fun q h => by simp only [tdInt, Option.some.injEq, Sh.int.injEq] at h; rw [← h]; exact hu
    kbool := fun h => by simp [tdInt] at h
    kflt := fun q h => by simp [tdInt] at h
    kany := fun _ => by rw [hu]; rfl
    size := fun _ w => by rw [run_size h1, h3]; rfl
    agg := fun _ w => run_isAgg_no hu rfl w
    zero := fun _ => ⟨.int k 0, fun w => run_zero h1 h2 w, zero_one rfl rfl⟩
    elem := fun s n h => by simp [tdInt] at h
    fields := fun f off n ag h => by simp [tdInt] at h
    bld := fun h => by simp [tdInt] at h }

theorem tdok_bool {b : Nat} (hu : P.underlying t = some .bool) (hi : (P.info? t).map (fun i => (i.zero, i.size, i.bytes)) = some (some (.bool false), 1, b)) : TDok P t tdBool := by
  obtain ⟨i, h1, h2, h3, h4⟩ := info_of hi
  exact {
    kint := fun q h => by simp [tdBool] at h
    kbool := fun _ => hu
    kflt := fun q h => by simp [tdBool] at h
    kany := fun _ => by rw [hu]; rfl
    size := fun _ w => by rw [run_size h1, h3]; rfl
    agg := fun _ w => run_isAgg_no hu rfl w
    zero := fun _ => ⟨.bool false, fun w => run_zero h1 h2 w, zero_one rfl rfl⟩
    elem := fun s n h => by simp [tdBool] at h
    fields := fun f off n ag h => by simp [tdBool] at h
    bld := fun h => by simp [tdBool] at h }

theorem tdok_flt {k : FloatKind} {b : Nat} (hu : P.underlying t = some (.float k)) (hi : (P.info? t).map (fun i => (i.zero, i.size, i.bytes)) = some (some (.float k 0), 1, b)) : TDok P t (tdFlt k) := by
  obtain ⟨i, h1, h2, h3, h4⟩ := info_of hi
  exact {
    kint := fun q h => by simp [tdFlt] at h
    kbool := fun h => by simp [tdFlt] at h
    kflt := fun q h => by simp only [tdFlt, Option.some.injEq, Sh.flt.injEq] at h; rw [← h]; exact hu
    kany := fun _ => by rw [hu]; rfl
    size := fun _ w => by rw [run_size h1, h3]; rfl
    agg := fun _ w => run_isAgg_no hu rfl w
    zero := fun _ => ⟨.float k 0, fun w => run_zero h1 h2 w, zero_one rfl rfl⟩
    elem := fun s n h => by simp [tdFlt] at h
    fields := fun f off n ag h => by simp [tdFlt] at h
    bld := fun h => by simp [tdFlt] at h }

theorem tdok_sl {s : Sh} {n b : Nat} {e : TypeId} {z : Value} (hu : P.underlying t = some (.slice e)) (hi : (P.info? t).map (fun i => (i.zero, i.size, i.bytes)) = some (some (.slice none 0 0), 1, b))
    (he : (P.info? e).map (fun i => (i.zero, i.size, i.bytes)) = some (some z, s.size, n)) (hn : n ≤ 4096) (hz : s.zeroed = true → z.cells.toList = zcells s) : TDok P t (tdSl s n) := by
  obtain ⟨i, h1, h2, h3, h4⟩ := info_of hi
  obtain ⟨j, j1, j2, j3, j4⟩ := info_of he
  exact {
    kint := fun q h => by simp [tdSl] at h
    kbool := fun h => by simp [tdSl] at h
    kflt := fun q h => by simp [tdSl] at h
    kany := fun h => by simp [tdSl] at h
    size := fun _ w => by rw [run_size h1, h3]; rfl
    agg := fun _ w => run_isAgg_no hu rfl w
    zero := fun _ => ⟨.slice none 0 0, fun w => run_zero h1 h2 w, zero_one rfl rfl⟩
    elem := fun s' n' h => by
      simp only [tdSl, Option.some.injEq, Prod.mk.injEq] at h
      obtain ⟨rfl, rfl⟩ := h
      exact ⟨e, j, hu, j1, j3, j4, hn, fun hh => ⟨z, j2, hz hh⟩⟩
    fields := fun f off n ag h => by simp [tdSl] at h
    bld := fun h => by simp [tdSl] at h }

def aggD : TypeDesc → Bool
  | .struct _ | .array _ _ => true
  | _ => false

theorem run_isAgg_d {d : TypeDesc} (hu : P.underlying t = some d) (w : World) : (isAgg t).run P w = .ok (aggD d) w := by
  unfold isAgg
  simp only [Sem.run_bind, run_underlying hu, Result.andThen_ok]
  cases d <;> rfl

/-- The fields of a struct as the type table has them. -/
def fieldsOf (P : Program) (t : TypeId) : Option (List (Nat × Option Nat × Option Bool)) :=
  match P.underlying t with
  | some (.struct fs) => some (fs.toList.map fun f => (f.offset, (P.info? f.type).map (·.size), (P.underlying f.type).map aggD))
  | _ => none

theorem tdok_st {n b : Nat} {fl : List (Nat × Nat × Bool)} {zl : List AV} {z : Value} (hf : fieldsOf P t = some (fl.map fun x => (x.1, some x.2.1, some x.2.2)))
    (hi : (P.info? t).map (fun i => (i.zero, i.size, i.bytes)) = some (some z, n, b)) (hz : z.cells.toList.map ofV0 = zl) (hone : z.cells.toList.all oneV = true) (hne : fl.all (fun x => x.2.1 != 0) = true) :
    TDok P t (tdSt n fl zl) := by
  obtain ⟨i, h1, h2, h3, h4⟩ := info_of hi
  unfold fieldsOf at hf
  split at hf
  · rename_i fs hu
    simp only [Option.some.injEq] at hf
    have hget : ∀ (k : Nat) (fd : Field), fs[k]? = some fd → ∃ off m ag, fl[k]? = some (off, m, ag) ∧ fd.offset = off ∧ (∀ w, (sizeOf fd.type).run P w = .ok m w) ∧ (∀ w, (isAgg fd.type).run P w = .ok ag w) := by
      intro k fd hk
      have e := congrArg (fun l => l[k]?) hf
      simp only [List.getElem?_map, Array.getElem?_toList, hk, Option.map_some] at e
      cases hl : fl[k]? with
      | none => rw [hl] at e; cases e
      | some x =>
        obtain ⟨off, m, ag⟩ := x
        rw [hl] at e
        simp only [Option.map_some, Option.some.injEq, Prod.mk.injEq, Option.map_eq_some_iff] at e
        obtain ⟨e1, ⟨j, e2, e3⟩, d, e4, e5⟩ := e
        exact ⟨off, m, ag, rfl, e1, fun w => by rw [run_size e2, e3], fun w => by rw [run_isAgg_d e4, e5]⟩
    have hlen : fl.length = fs.size := by simpa using (congrArg List.length hf).symm
    exact {
      kint := fun q h => by simp [tdSt] at h
      kbool := fun h => by simp [tdSt] at h
      kflt := fun q h => by simp [tdSt] at h
      kany := fun h => by simp [tdSt] at h
      size := fun _ w => by rw [run_size h1, h3]; rfl
      agg := fun _ w => run_isAgg_d hu w
      zero := fun _ => ⟨z, fun w => run_zero h1 h2 w, by rw [← hz]; simp [tdSt], fun v hv => List.all_eq_true.1 hone v hv, fun ok m O H k a v ha hv => by
        subst hz
        simp only [tdSt, List.getElem?_map, Array.getElem?_toList, hv, Option.map_some, Option.some.injEq] at ha
        subst ha
        exact RV.ofV0 _⟩
      elem := fun s' n' h => by simp [tdSt] at h
      fields := fun f off m ag h => by
        have hlt : f < fs.size := by
          rw [← hlen]
          rcases Nat.lt_or_ge f fl.length with h' | h'
          · exact h'
          · simp only [tdSt] at h
            rw [List.getElem?_eq_none h'] at h
            cases h
        obtain ⟨off', m', ag', g1, g2, g3, g4⟩ := hget f fs[f] (Array.getElem?_eq_getElem hlt)
        simp only [tdSt] at h
        rw [h] at g1
        cases g1
        refine ⟨fs, fs[f], hu, Array.getElem?_eq_getElem hlt, g2, g3, g4, ?_⟩
        have := List.all_eq_true.1 hne _ (List.mem_of_getElem? h)
        simpa using this
      bld := fun _ => by
        refine ⟨fs, (fl.map fun x => (x.1, x.2.1)).toArray, hu, fun w => ?_, fun k => by simp [tdSt]⟩
        have key : ∀ (fl : List (Nat × Nat × Bool)) (l : List Field), (∀ (k : Nat) (fd : Field), l[k]? = some fd → ∃ off m ag, fl[k]? = some (off, m, ag) ∧ fd.offset = off ∧ (∀ w, (sizeOf fd.type).run P w = .ok m w)) → fl.length = l.length →
            (l.mapM fun f => (do pure (f.offset, ← sizeOf f.type) : Sem (Nat × Nat))).run P w = .ok (fl.map fun x => (x.1, x.2.1)) w := by
          intro fl l
          induction l generalizing fl with
          | nil => intro _ hl; cases fl with
            | nil => rfl
            | cons x fl => cases hl
          | cons f l ih =>
            intro hk hl
            cases fl with
            | nil => cases hl
            | cons x fl =>
              obtain ⟨off, m, ag, g1, g2, g3⟩ := hk 0 f rfl
              cases g1
              have hr := ih fl (fun k fd h => hk (k + 1) fd h) (by simpa using hl)
              simp only [List.mapM_cons, Sem.run_bind, g3, Sem.run_pure, Result.andThen_ok, hr, List.map_cons, g2]
        have := key fl fs.toList (fun k fd h => by
          obtain ⟨off, m, ag, g1, g2, g3, _⟩ := hget k fd (by rwa [Array.getElem?_toList] at h)
          exact ⟨off, m, ag, g1, g2, g3⟩) (by simpa using hlen)
        rw [Array.mapM_eq_mapM_toList, Sem.run_map, this]
        rfl }
  · cases hf

end

end Go.Proofs.Ytgbahgkfjghidaa.Fw
