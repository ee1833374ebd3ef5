/-
  Steps of the evaluator are steps of the model, third part: what memory operations do in the model. No condition.
-/
import Derived.Test.YtmdicmdodbndgaaFwE
namespace Go.Proofs.Ytmdicmdodbndgaa.Fw
open Go Go.RowKit

def zcells : Sh → List Value
  | .int k => [.int k 0]
  | .bool => [.bool false]
  | .flt k => [.float k 0]
  | .sl _ => [.slice none 0 0]
  | .pair a b => zcells a ++ zcells b
  | .nw s => zcells s
  | _ => []

/-- What a row of the type table says of the program. -/
structure TDok (P : Program) (t : Nat) (d : TD) : Prop where
  kint : ∀ k, d.kind = some (.int k) → P.underlying t = some (.int k)
  eqs : ∀ s, d.eqs = some s → EqsOk P t s
  kflt : ∀ k, d.kind = some (.flt k) → P.underlying t = some (.float k)
  kany : d.kind.isSome = true → (P.underlying t).isSome = true
  size : d.known = true → ∀ w, (sizeOf t).run P w = .ok d.size w
  agg : d.known = true → ∀ w, (isAgg t).run P w = .ok d.agg w
  zero : d.zero ≠ [] → ∃ z : Value, (∀ w, (zeroValue t).run P w = .ok z w) ∧ z.cells.size = d.zero.length ∧ (∀ v ∈ z.cells.toList, oneV v = true) ∧
    ∀ ok m O H (i : Nat) (a : AV) (v : Value), d.zero[i]? = some a → z.cells[i]? = some v → RV ok m O H a v
  elem : ∀ s n, d.elem = some (s, n) → ∃ e i, P.underlying t = some (.slice e) ∧ P.info? e = some i ∧ i.size = s.size ∧ i.bytes = n ∧ n ≤ 4096 ∧
    (s.zeroed = true → ∃ z : Value, i.zero = some z ∧ z.cells.toList = zcells s)
  fields : ∀ (f off n : Nat) (ag : Bool), d.fields[f]? = some (off, n, ag) → ∃ (fs : Array Field) (fd : Field), P.underlying t = some (.struct fs) ∧ fs[f]? = some fd ∧ fd.offset = off ∧
    (∀ w, (sizeOf fd.type).run P w = .ok n w) ∧ (∀ w, (isAgg fd.type).run P w = .ok ag w) ∧ n ≠ 0
  bld : d.agg = true → ∃ (fs : Array Field) (pl : Array (Nat × Nat)), P.underlying t = some (.struct fs) ∧
    (∀ w, (fs.mapM fun f => (do pure (f.offset, ← sizeOf f.type) : Sem (Nat × Nat))).run P w = .ok pl w) ∧ ∀ i : Nat, pl[i]? = (d.fields[i]?).map fun x => (x.1, x.2.1)

theorem add_mk (b o n : Nat) : (⟨b, o, none⟩ : Addr).add n = ⟨b, o + n, none⟩ := Addr.add_lit b o n

section
variable {P : Program}

theorem run_info {t : TypeId} {i : TypeInfo} (h : P.info? t = some i) (w : World) : (typeInfo t).run P w = .ok i w := by
  simp [typeInfo, h]

theorem run_size {t : TypeId} {i : TypeInfo} (h : P.info? t = some i) (w : World) : (sizeOf t).run P w = .ok i.size w := by
  simp [sizeOf, typeInfo, h]

theorem run_index {t e : TypeId} {i : TypeInfo} (hu : P.underlying t = some (.slice e)) (hi : P.info? e = some i) (b off len cap : Nat) (k : IntKind) (n : Int)
    (h0 : 0 ≤ n) (h1 : n < len) (w : World) :
    (Instr.indexAt t (.slice (some ⟨b, off, none⟩) len cap) (.int k n)).run P w = .ok (.pointer (some ⟨b, off + n.toNat * i.size, none⟩)) w := by
  simp [Instr.indexAt, run_underlying hu, asIntOf, h0, h1, run_size hi, add_mk]

theorem run_load_one {t : Nat} {d : TD} (hd : TDok P t d) (hk : d.known = true) (ha : d.agg = false) (b o : Nat) (v : Value) (w : World) (hc : cellH w.heap b o = some v) :
    (Instr.loadAt t (.pointer (some ⟨b, o, none⟩))).run P w = .ok v w := by
  have h1 := hd.agg hk w
  rw [ha] at h1
  simp [Instr.loadAt, Instr.sureAddr, loadVar, h1, cell_eq, hc]

theorem run_load_agg {t : Nat} {d : TD} (hd : TDok P t d) (hk : d.known = true) (ha : d.agg = true) (b o : Nat) (l : List Value) (hl : l.length = d.size) (w : World) (hr : Reads w.heap b o l) :
    (Instr.loadAt t (.pointer (some ⟨b, o, none⟩))).run P w = .ok (.agg l.toArray) w := by
  have h1 := hd.agg hk w
  have h2 := hd.size hk w
  rw [ha] at h1
  have h3 := run_loadCells_list (P := P) (w := w) ⟨b, o, none⟩ l (fun j v hj => by rw [add_mk, cell_eq]; exact hr j v hj)
  rw [hl] at h3
  simp [Instr.loadAt, Instr.sureAddr, loadVar, h1, h2, h3]

theorem run_field_addr {t : Nat} {d : TD} (hd : TDok P t d) {f off n : Nat} {ag : Bool} (hf : d.fields[f]? = some (off, n, ag)) (b o : Nat) (w : World) :
    (Instr.fieldAt t (.pointer (some ⟨b, o, none⟩)) f).run P w = .ok (.pointer (some ⟨b, o + off, none⟩)) w := by
  obtain ⟨fs, fd, h1, h2, h3, h4, _, h5⟩ := hd.fields f off n ag hf
  simp [Instr.fieldAt, Instr.sureAddr, run_underlying h1, h2, fieldPlace, h4 w, h5, add_mk, h3]

theorem run_field_one {t : Nat} {d : TD} (hd : TDok P t d) {f off n : Nat} (hf : d.fields[f]? = some (off, n, false)) (cs : Array Value) (v : Value) (hv : cs[off]? = some v) (w : World) :
    (Instr.field t (.agg cs) f).run P w = .ok v w := by
  obtain ⟨fs, fd, h1, h2, h3, _, h4, _⟩ := hd.fields f off n false hf
  simp [Instr.field, run_underlying h1, h2, part, asAgg, h4 w, h3, hv]

theorem run_field_agg {t : Nat} {d : TD} (hd : TDok P t d) {f off n : Nat} (hf : d.fields[f]? = some (off, n, true)) (cs : Array Value) (w : World) :
    (Instr.field t (.agg cs) f).run P w = .ok (.agg (cs.extract off (off + n))) w := by
  obtain ⟨fs, fd, h1, h2, h3, h5, h4, _⟩ := hd.fields f off n true hf
  simp [Instr.field, run_underlying h1, h2, part, asAgg, h4 w, h3, h5 w]

/-- Cells laid over an array from o on. -/
def lay (cs : Array Value) (o : Nat) : List Value → Array Value
  | [] => cs
  | v :: r => lay (cs.setIfInBounds o v) (o + 1) r

theorem lay_size (cs : Array Value) (o : Nat) (l : List Value) : (lay cs o l).size = cs.size := by
  induction l generalizing cs o with
  | nil => rfl
  | cons v r ih => simp [lay, ih]

theorem lay_get (cs : Array Value) (o : Nat) (l : List Value) (h : o + l.length ≤ cs.size) (j : Nat) :
    (lay cs o l)[j]? = if o ≤ j ∧ j < o + l.length then l[j - o]? else cs[j]? := by
  induction l generalizing cs o with
  | nil => simp [lay]; omega
  | cons v r ih =>
    simp only [lay]
    rw [ih _ _ (by simp at h ⊢; omega)]
    simp only [List.length_cons] at h ⊢
    by_cases h1 : j = o
    · subst h1
      rw [if_neg (by omega), if_pos (by omega)]
      simp [Array.getElem?_setIfInBounds_self_of_lt, show j < cs.size by omega]
    · by_cases h2 : o + 1 ≤ j ∧ j < o + 1 + r.length
      · rw [if_pos h2, if_pos (by omega)]
        obtain ⟨k, rfl⟩ : ∃ k, j = o + 1 + k := ⟨j - (o + 1), by omega⟩
        rw [show o + 1 + k - (o + 1) = k by omega, show o + 1 + k - o = k + 1 by omega]
        simp
      · rw [if_neg h2, if_neg (by omega)]
        rw [Array.getElem?_setIfInBounds_ne (by omega)]

/-- A block is replaced. -/
def setB (w : World) (b : Nat) (o : Obj) : World := { w with heap := w.heap.setIfInBounds b o }

theorem setCell_setB (w : World) (b o : Nat) (v : Value) (cs : Array Value) (e : TypeId) (h : w.heap[b]? = some (.cells cs e (0, 0))) :
    w.setCell ⟨b, o, none⟩ v = setB w b (.cells (cs.setIfInBounds o v) e (0, 0)) := by
  unfold World.setCell setB
  congr 1
  apply Array.ext_getElem?
  intro i
  rw [Array.getElem?_modify, Array.getElem?_setIfInBounds]
  by_cases hi : b = i
  · subst hi
    have hl : b < w.heap.size := by
      rcases Nat.lt_or_ge b w.heap.size with h' | h'
      · exact h'
      · rw [Array.getElem?_eq_none h'] at h; cases h
    have h' : w.heap[b] = .cells cs e (0, 0) := by rw [Array.getElem?_eq_getElem hl] at h; exact Option.some.inj h
    simp [hl, h']
  · simp [hi]

theorem run_store_one (b o : Nat) (v : Value) (hv : oneV v = true) (w : World) (cs : Array Value) (e : TypeId) (h : w.heap[b]? = some (.cells cs e (0, 0))) (ho : o < cs.size) :
    (store ⟨b, o, none⟩ v).run P w = .ok () (setB w b (.cells (cs.setIfInBounds o v) e (0, 0))) := by
  rw [run_store P w _ v _ (by cases v <;> simp_all [oneV, Value.oneCell'])]
  have hc : w.cell? ⟨b, o, none⟩ = some cs[o] := by rw [cell_eq]; simp [cellH, h, ho]
  have hf : w.frozen? ⟨b, o, none⟩ = false := by simp [World.frozen?, h]
  simp [stored, hc, hf, setCell_setB w b o v cs e h]

theorem setB_setB (w : World) (b : Nat) (o o' : Obj) : setB (setB w b o) b o' = setB w b o' := by
  simp [setB]

theorem lt_of_some {α : Type} {xs : Array α} {i : Nat} {x : α} (h : xs[i]? = some x) : i < xs.size := by
  rcases Nat.lt_or_ge i xs.size with h' | h'
  · exact h'
  · rw [Array.getElem?_eq_none h'] at h; cases h

theorem setB_get (w : World) (b : Nat) (o : Obj) (h : b < w.heap.size) : (setB w b o).heap[b]? = some o := by
  simp [setB, h]

theorem run_storeCells (b : Nat) (l : List Value) (hl : ∀ v ∈ l, oneV v = true) : ∀ (o i : Nat) (w : World) (cs : Array Value) (e : TypeId),
    w.heap[b]? = some (.cells cs e (0, 0)) → o + i + l.length ≤ cs.size →
    (storeCells ⟨b, o, none⟩ l i).run P w = .ok () (setB w b (.cells (lay cs (o + i) l) e (0, 0))) := by
  induction l with
  | nil =>
    intro o i w cs e h _
    simp only [storeCells, lay]
    have : setB w b (.cells cs e (0, 0)) = w := by
      unfold setB
      cases w
      congr 1
      apply Array.ext_getElem?
      intro j
      rw [Array.getElem?_setIfInBounds]
      split
      · rename_i hj
        subst hj
        split
        · exact h.symm
        · rename_i hn; exact absurd (lt_of_some h) hn
      · rfl
    rw [this]
    rfl
  | cons v r ih =>
    intro o i w cs e h ho
    simp only [List.length_cons] at ho
    simp only [storeCells, Sem.run_bind]
    rw [add_mk, run_store_one b (o + i) v (hl v (by simp)) w cs e h (by omega)]
    simp only [Result.andThen_ok]
    rw [ih (fun v hv => hl v (by simp [hv])) o (i + 1) _ (cs.setIfInBounds (o + i) v) e (setB_get _ _ _ (lt_of_some h)) (by simp; omega)]
    rw [setB_setB]
    rfl

theorem run_store_at {t : Nat} {d : TD} (hd : TDok P t d) (hk : d.known = true) (b o : Nat) (v : Value) (hs : v.cells.size = d.size) (h1 : ∀ u ∈ v.cells.toList, oneV u = true) (w : World) (cs : Array Value) (e : TypeId)
    (h : w.heap[b]? = some (.cells cs e (0, 0))) (ho : o + v.cells.size ≤ cs.size) :
    (Instr.storeAt t (.pointer (some ⟨b, o, none⟩)) v).run P w = .ok () (setB w b (.cells (lay cs o v.cells.toList) e (0, 0))) := by
  have h2 := hd.size hk w
  have h3 := run_storeCells (P := P) b v.cells.toList h1 o 0 w cs e h (by simpa using ho)
  simp only [Nat.add_zero] at h3
  simp [Instr.storeAt, Instr.sureAddr, storeVar, h2, hs, h3]

end

end Go.Proofs.Ytmdicmdodbndgaa.Fw
