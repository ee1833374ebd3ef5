/-
  Rows of the type table; small words of the plain functions. No condition.
-/
import Derived.Test.YtgbahgkfjghidaaFwR
namespace Go.Proofs.Ytgbahgkfjghidaa.Fw
open Go Go.RowKit

@[reducible] def w64 (n : Int) : Int := IntKind.i64.wrap n
def mkOk (n m : Int) : Bool := decide (0 ≤ n ∧ n ≤ m ∧ m ≤ (LIM : Int)) && true
def bodyOf (f : Func) : Code := match f.body with | some c => c | none => .skip

def tdNone : TD := { known := false, size := 0, agg := false, zero := [], elem := none, fields := [], kind := none }
def tdInt (k : IntKind) : TD := { known := true, size := 1, agg := false, zero := [.g (.int k) (0 : Int)], elem := none, fields := [], kind := some (.int k) }
def tdBool : TD := { known := true, size := 1, agg := false, zero := [.g .bool false], elem := none, fields := [], kind := some .bool }
def tdFlt (k : FloatKind) : TD := { known := true, size := 1, agg := false, zero := [.g (.flt k) (toF k 0)], elem := none, fields := [], kind := some (.flt k) }
def tdSl (s : Sh) (n : Nat) : TD := { known := true, size := 1, agg := false, zero := [.nil], elem := some (s, n), fields := [], kind := none }
def tdSt (n : Nat) (fs : List (Nat × Nat × Bool)) (z : List AV) : TD := { known := true, size := n, agg := true, zero := z, elem := none, fields := fs, kind := none }

section
variable {P : Program} {t : TypeId}

theorem info_of {b : Nat} {z : Option Value} {n : Nat} (h : (P.info? t).map (fun i => (i.zero, i.size, i.bytes)) = some (z, n, b)) : ∃ i, P.info? t = some i ∧ i.zero = z ∧ i.size = n ∧ i.bytes = b := by
  cases hi : P.info? t with
  | none => rw [hi] at h; cases h
  | some i =>
    rw [hi] at h
    simp only [Option.map_some, Option.some.injEq, Prod.mk.injEq] at h
    exact ⟨i, rfl, h.1, h.2.1, h.2.2⟩

theorem tdok_none : TDok P t tdNone where
  kint := fun k h => by cases h
  kbool := fun h => by cases h
  kflt := fun k h => by cases h
  kany := fun h => by cases h
  size := fun h => by cases h
  agg := fun h => by cases h
  zero := fun h => absurd rfl h
  elem := fun s n h => by cases h
  fields := fun f off n ag h => by simp [tdNone] at h

theorem run_isAgg_no {d : TypeDesc} (hu : P.underlying t = some d) (hd : (match d with | .struct _ | .array _ _ => true | _ => false) = false) (w : World) : (isAgg t).run P w = .ok false w := by
  unfold isAgg
  simp only [Sem.run_bind, run_underlying hu, Result.andThen_ok]
  cases d <;> simp_all

theorem zero_one {z : Value} {av : AV} (h1 : oneV z = true) (h2 : av = ofV0 z) : z.cells.size = [av].length ∧ (∀ v ∈ z.cells.toList, oneV v = true) ∧
    ∀ ok m O H (i : Nat) (a : AV) (v : Value), [av][i]? = some a → z.cells[i]? = some v → RV ok m O H a v := by
  have hc : z.cells = #[z] := by cases z <;> simp_all [oneV, Value.cells]
  rw [hc]
  refine ⟨rfl, fun v hv => by simp at hv; subst hv; exact h1, fun ok m O H i a v ha hv => ?_⟩
  cases i with
  | zero => cases ha; simp at hv; subst hv; subst h2; exact RV.ofV0 _
  | succ i => simp at ha

theorem run_zero {i : TypeInfo} {z : Value} (hi : P.info? t = some i) (hz : i.zero = some z) (w : World) : (zeroValue t).run P w = .ok z w := by
  unfold zeroValue
  simp [run_info hi, hz]

theorem tdok_int {k : IntKind} {b : Nat} (hu : P.underlying t = some (.int k)) (hi : (P.info? t).map (fun i => (i.zero, i.size, i.bytes)) = some (some (.int k 0), 1, b)) : TDok P t (tdInt k) := by
  obtain ⟨i, h1, h2, h3, h4⟩ := info_of hi
  exact {
    kint := fun q h => by simp only [tdInt, Option.some.injEq, Sh.int.injEq] at h; rw [← h]; exact hu
    kbool := fun h => by simp [tdInt] at h
    kflt := fun q h => by simp [tdInt] at h
    kany := fun _ => by rw [hu]; rfl
    size := fun _ w => by rw [run_size h1, h3]; rfl
    agg := fun _ w => run_isAgg_no hu rfl w
    zero := fun _ => ⟨.int k 0, fun w => run_zero h1 h2 w, zero_one rfl rfl⟩
    elem := fun s n h => by simp [tdInt] at h
    fields := fun f off n ag h => by simp [tdInt] at h }

theorem tdok_bool {b : Nat} (hu : P.underlying t = some .bool) (hi : (P.info? t).map (fun i => (i.zero, i.size, i.bytes)) = some (some (.bool false), 1, b)) : TDok P t tdBool := by
  obtain ⟨i, h1, h2, h3, h4⟩ := info_of hi
  exact {
    kint := fun q h => by simp [tdBool] at h
    kbool := fun _ => hu
    kflt := fun q h => by simp [tdBool] at h
    kany := fun _ => by rw [hu]; rfl
    size := fun _ w => by rw [run_size h1, h3]; rfl
    agg := fun _ w => run_isAgg_no hu rfl w
    zero := fun _ => ⟨.bool false, fun w => run_zero h1 h2 w, zero_one rfl rfl⟩
    elem := fun s n h => by simp [tdBool] at h
    fields := fun f off n ag h => by simp [tdBool] at h }

theorem tdok_flt {k : FloatKind} {b : Nat} (hu : P.underlying t = some (.float k)) (hi : (P.info? t).map (fun i => (i.zero, i.size, i.bytes)) = some (some (.float k 0), 1, b)) : TDok P t (tdFlt k) := by
  obtain ⟨i, h1, h2, h3, h4⟩ := info_of hi
  exact {
    kint := fun q h => by simp [tdFlt] at h
    kbool := fun h => by simp [tdFlt] at h
    kflt := fun q h => by simp only [tdFlt, Option.some.injEq, Sh.flt.injEq] at h; rw [← h]; exact hu
    kany := fun _ => by rw [hu]; rfl
    size := fun _ w => by rw [run_size h1, h3]; rfl
    agg := fun _ w => run_isAgg_no hu rfl w
    zero := fun _ => ⟨.float k 0, fun w => run_zero h1 h2 w, zero_one rfl rfl⟩
    elem := fun s n h => by simp [tdFlt] at h
    fields := fun f off n ag h => by simp [tdFlt] at h }

theorem tdok_sl {s : Sh} {n b : Nat} {e : TypeId} {z : Value} (hu : P.underlying t = some (.slice e)) (hi : (P.info? t).map (fun i => (i.zero, i.size, i.bytes)) = some (some (.slice none 0 0), 1, b))
    (he : (P.info? e).map (fun i => (i.zero, i.size, i.bytes)) = some (some z, s.size, n)) (hn : n ≤ 4096) (hz : s.zeroed = true → z.cells.toList = zcells s) : TDok P t (tdSl s n) := by
  obtain ⟨i, h1, h2, h3, h4⟩ := info_of hi
  obtain ⟨j, j1, j2, j3, j4⟩ := info_of he
  exact {
    kint := fun q h => by simp [tdSl] at h
    kbool := fun h => by simp [tdSl] at h
    kflt := fun q h => by simp [tdSl] at h
    kany := fun h => by simp [tdSl] at h
    size := fun _ w => by rw [run_size h1, h3]; rfl
    agg := fun _ w => run_isAgg_no hu rfl w
    zero := fun _ => ⟨.slice none 0 0, fun w => run_zero h1 h2 w, zero_one rfl rfl⟩
    elem := fun s' n' h => by
      simp only [tdSl, Option.some.injEq, Prod.mk.injEq] at h
      obtain ⟨rfl, rfl⟩ := h
      exact ⟨e, j, hu, j1, j3, j4, hn, fun hh => ⟨z, j2, hz hh⟩⟩
    fields := fun f off n ag h => by simp [tdSl] at h }

end

end Go.Proofs.Ytgbahgkfjghidaa.Fw
