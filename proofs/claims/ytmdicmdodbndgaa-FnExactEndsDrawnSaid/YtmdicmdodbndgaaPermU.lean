/-
  Blocks, rows and makes: for the walks by hand. No condition.
-/
import Derived.WalkKit
import Derived.OwnWalk
import Derived.Test.YtmdicmdodbndgaaChecked
import Derived.Test.YtmdicmdodbndgaaFwV
namespace Go.Proofs.Ytmdicmdodbndgaa
open Go Go.RowKit Go.Proofs.Ytmdicmdodbndgaa.Fw
set_option maxRecDepth 100000
set_option linter.unusedVariables false
set_option linter.unusedSimpArgs false

theorem perm_set {W : World} {b : Nat} {o : Obj} (h : W.heap[b]? = some o) (a : Addr) (hab : b ≠ a.block) (v : Value) : (W.setCell a v).heap[b]? = some o := (Below.heap_setCell _ _ _ _ hab).trans h
theorem perm_alloc {W : World} {b : Nat} {o : Obj} (h : W.heap[b]? = some o) (o' : Obj) : (W.alloc o').heap[b]? = some o := by
  have hlt := lt_of_block h
  show (W.heap.push o')[b]? = some o
  rw [Array.getElem?_push, if_neg (by omega)]
  exact h
theorem perm_grown {W W' : World} {b r : Nat} {o : Obj} (h : W.heap[b]? = some o) (hg : W.grownBy W' (some r)) (hbr : b ≠ r) : W'.heap[b]? = some o := (hg.block b (lt_of_block h) (fun e => hbr (by have := Option.some.inj e; omega))).trans h

theorem perm_row {w : World} {b i : Nat} {cs : Array Value} {t : TypeId} (h : w.heap[b]? = some (.cells cs t (0, 0))) (v : Value) : (w.setCell ⟨b, i, none⟩ v).heap[b]? = some (.cells (cs.setIfInBounds i v) t (0, 0)) := by
  have hlt := lt_of_block h
  have h' : w.heap[b] = .cells cs t (0, 0) := by simpa [Array.getElem?_eq_getElem hlt] using h
  show (w.heap.modify b _)[b]? = _
  rw [Array.getElem?_eq_getElem (by simpa using hlt), Array.getElem_modify_self, h']
  rfl

theorem perm_cell {w : World} {b i : Nat} {cs : Array Value} {t : TypeId} (h : w.heap[b]? = some (.cells cs t (0, 0))) : w.cell? ⟨b, i, none⟩ = cs[i]? := by simp [World.cell?, h]
theorem perm_free {w : World} {b i : Nat} {cs : Array Value} {t : TypeId} (h : w.heap[b]? = some (.cells cs t (0, 0))) : w.frozen? ⟨b, i, none⟩ = false := by simp [World.frozen?, h]

theorem grown_set (W : World) (b i : Nat) (v : Value) : W.grownBy (W.setCell ⟨b, i, none⟩ v) (some b) :=
  ⟨rfl, rfl, rfl, by simp, fun k hk hne => Below.heap_setCell _ _ _ _ (fun e => hne (by rw [e]))⟩

theorem perm_info_int : (Try.prog.info? 2).map (fun i => (i.zero, i.size, i.bytes)) = some (some (Value.int IntKind.i64 0), 1, 8) := by kernel_rfl
theorem perm_info_bool : (Try.prog.info? 4).map (fun i => (i.zero, i.size, i.bytes)) = some (some (Value.bool false), 1, 1) := by kernel_rfl

theorem perm_rep {n : Nat} {z : Value} (hz : z.cells = #[z]) : (Array.range (n * 1)).map (z.cells[· % z.cells.size]!) = Array.replicate n z := by
  rw [Nat.mul_one, hz]
  apply Array.ext
  · simp
  · intro i h1 h2
    simp [Nat.mod_one]

theorem perm_make {t e : TypeId} {z : Value} {by0 : Nat} (hu : Try.prog.underlying t = some (.slice e)) (hi : (Try.prog.info? e).map (fun i => (i.zero, i.size, i.bytes)) = some (some z, 1, by0)) (hb : by0 ≤ 8) (hz : z.cells = #[z]) (L n : Nat) (hL : L ≤ n) (hn : n ≤ 1000) (w : World) :
    (Instr.makeSlice t (.int .i64 (L : Int)) (.int .i64 (n : Int))).run Try.prog w = .ok (.slice (some ⟨w.heap.size, 0, none⟩) L n) (w.alloc (.cells (Array.replicate n z) e)) := by
  obtain ⟨i0, hi0, hz0, hz1, hz2⟩ := info_parts hi
  have hw1 : IntKind.i64.wrap (L : Int) = L := IntWalk.i64_in _ (by omega)
  have hw2 : IntKind.i64.wrap (n : Int) = n := IntWalk.i64_in _ (by omega)
  have hbytes : ¬ ((281474976710656 : Int) < (by0 : Int) * n) := by
    have h1 : (by0 : Int) * n ≤ 8 * n := Int.mul_le_mul_of_nonneg_right (by omega) (by omega)
    omega
  have hlt : ¬ ((n : Int) < 0) := by omega
  have hnk : ¬ ((L : Int) > n) := by omega
  have hn0 : ¬ ((L : Int) < 0) := by omega
  rw [← perm_rep hz]
  by_cases hk0 : n * 1 = 0
  · simp [Instr.makeSlice, run_underlying hu, asInt, asIntOf, run_info hi0, hw1, hw2, hz2, hbytes, hnk, hlt, hn0, run_size hi0, hz1, hk0, newRow, Array.range_zero']
  · simp [Instr.makeSlice, run_underlying hu, asInt, asIntOf, run_info hi0, hw1, hw2, hz2, hbytes, hnk, hlt, hn0, run_size hi0, hz1, hk0, newRow, zeroValue, hz0]
    intro h0
    exact absurd h0 (by omega)

theorem perm_new {W : World} {k : Nat} (h : W.heap.size = k) (o : Obj) : (W.alloc o).heap[k]? = some o := by
  rw [← h]
  exact heap_alloc_new W o

/-- A row that begins with a list. -/
def RowL (W : World) (b z : Nat) (l : List Int) : Prop := ∃ cs e, W.heap[b]? = some (.cells cs e (0, 0)) ∧ (l.length ≤ cs.size ∧ cs.size = z) ∧ ∀ (i : Nat) (x : Int), l[i]? = some x → cs[i]? = some (.int .i64 x)

theorem RowL.cell {W : World} {b z : Nat} {l : List Int} (h : RowL W b z l) {i : Nat} (hi : i < l.length) : W.cell? ⟨b, i, none⟩ = some (.int .i64 (l.getD i 0)) := by
  obtain ⟨cs, e, h1, h2, h3⟩ := h
  rw [perm_cell h1, h3 i (l.getD i 0)]
  rw [List.getD_eq_getElem?_getD, List.getElem?_eq_getElem hi]
  rfl
theorem RowL.free {W : World} {b z : Nat} {l : List Int} (h : RowL W b z l) (i : Nat) : W.frozen? ⟨b, i, none⟩ = false := by
  obtain ⟨cs, e, h1, h2, h3⟩ := h
  exact perm_free h1
theorem RowL.other {W : World} {b z : Nat} {l : List Int} (h : RowL W b z l) {a : Addr} (hab : b ≠ a.block) (v : Value) : RowL (W.setCell a v) b z l := by
  obtain ⟨cs, e, h1, h2, h3⟩ := h
  exact ⟨cs, e, perm_set h1 a hab v, h2, h3⟩
theorem RowL.set {W : World} {b z : Nat} {l : List Int} (h : RowL W b z l) {i : Nat} (hi : i < l.length) (v : Int) : RowL (W.setCell ⟨b, i, none⟩ (.int .i64 v)) b z (l.set i v) := by
  obtain ⟨cs, e, h1, h2, h3⟩ := h
  refine ⟨_, e, perm_row h1 _, by simpa using h2, fun j x hj => ?_⟩
  rw [List.getElem?_set] at hj
  rw [Array.getElem?_setIfInBounds]
  by_cases hij : i = j
  · subst hij
    rw [if_pos rfl, if_pos hi] at hj
    cases hj
    rw [if_pos rfl, if_pos (by have := h2.1; omega)]
  · rw [if_neg hij] at hj
    rw [if_neg hij]
    exact h3 j x hj
theorem RowL.alloc {W : World} {b z : Nat} {l : List Int} (h : RowL W b z l) (o : Obj) : RowL (W.alloc o) b z l := by
  obtain ⟨cs, e, h1, h2, h3⟩ := h
  exact ⟨cs, e, perm_alloc h1 o, h2, h3⟩
theorem RowL.new {W : World} {k n : Nat} (h : W.heap.size = k) : RowL (W.alloc (.cells (Array.replicate n (.int .i64 0)) 2)) k n (List.replicate n 0) := by
  refine ⟨_, 2, perm_new h _, by simp, fun i x hi => ?_⟩
  rw [List.getElem?_replicate] at hi
  split at hi
  · cases hi
    rw [Array.getElem?_replicate, if_pos (by assumption)]
  · cases hi

theorem row_new {W : World} {k n : Nat} {e : TypeId} (h : W.heap.size = k) : RowL (W.alloc (.cells (Array.replicate n (.int .i64 0)) e)) k n (List.replicate n 0) := by
  refine ⟨_, e, perm_new h _, by simp, fun i x hi => ?_⟩
  rw [List.getElem?_replicate] at hi
  split at hi
  · cases hi
    rw [Array.getElem?_replicate, if_pos (by assumption)]
  · cases hi

theorem perm_drew {W : World} {b : Nat} {o : Obj} (h : W.heap[b]? = some o) : W.drew.heap[b]? = some o := h
theorem RowL.drew {W : World} {b z : Nat} {l : List Int} (h : RowL W b z l) : RowL W.drew b z l := h

end Go.Proofs.Ytmdicmdodbndgaa
