/-
  impl.permute: its contract. No condition.
-/
import Derived.Laws.EntriesVeiled
import Derived.Test.YtnnfapnpijjbdaaPerm1
namespace Go.Proofs.Ytnnfapnpijjbdaa
open Go Go.RowKit Go.Proofs.Ytnnfapnpijjbdaa.Fw
set_option maxRecDepth 100000
set_option linter.unusedVariables false
set_option linter.unusedSimpArgs false

theorem perm_info_int : (Try.prog.info? 2).map (fun i => (i.zero, i.size, i.bytes)) = some (some (Value.int IntKind.i64 0), 1, 8) := by kernel_rfl
theorem perm_info_bool : (Try.prog.info? 4).map (fun i => (i.zero, i.size, i.bytes)) = some (some (Value.bool false), 1, 1) := by kernel_rfl

theorem perm_rep {n : Nat} {z : Value} (hz : z.cells = #[z]) : (Array.range (n * 1)).map (z.cells[· % z.cells.size]!) = Array.replicate n z := by
  rw [Nat.mul_one, hz]
  apply Array.ext
  · simp
  · intro i h1 h2
    simp [Nat.mod_one]

theorem perm_make {t e : TypeId} {z : Value} {by0 : Nat} (hu : Try.prog.underlying t = some (.slice e)) (hi : (Try.prog.info? e).map (fun i => (i.zero, i.size, i.bytes)) = some (some z, 1, by0)) (hb : by0 ≤ 8) (hz : z.cells = #[z]) (L n : Nat) (hL : L ≤ n) (hn : n ≤ 1000) (w : World) :
    (Instr.makeSlice t (.int .i64 (L : Int)) (.int .i64 (n : Int))).run Try.prog w = .ok (.slice (some ⟨w.heap.size, 0, none⟩) L n) (w.alloc (.cells (Array.replicate n z) e)) := by
  obtain ⟨i0, hi0, hz0, hz1, hz2⟩ := info_parts hi
  have hw1 : IntKind.i64.wrap (L : Int) = L := IntWalk.i64_in _ (by omega)
  have hw2 : IntKind.i64.wrap (n : Int) = n := IntWalk.i64_in _ (by omega)
  have hbytes : ¬ ((281474976710656 : Int) < (by0 : Int) * n) := by
    have h1 : (by0 : Int) * n ≤ 8 * n := Int.mul_le_mul_of_nonneg_right (by omega) (by omega)
    omega
  have hlt : ¬ ((n : Int) < 0) := by omega
  have hnk : ¬ ((L : Int) > n) := by omega
  have hn0 : ¬ ((L : Int) < 0) := by omega
  rw [← perm_rep hz]
  by_cases hk0 : n * 1 = 0
  · simp [Instr.makeSlice, run_underlying hu, asInt, asIntOf, run_info hi0, hw1, hw2, hz2, hbytes, hnk, hlt, hn0, run_size hi0, hz1, hk0, newRow, Array.range_zero']
  · simp [Instr.makeSlice, run_underlying hu, asInt, asIntOf, run_info hi0, hw1, hw2, hz2, hbytes, hnk, hlt, hn0, run_size hi0, hz1, hk0, newRow, zeroValue, hz0]
    intro h0
    exact absurd h0 (by omega)

theorem perm_new {W : World} {k : Nat} (h : W.heap.size = k) (o : Obj) : (W.alloc o).heap[k]? = some o := by
  rw [← h]
  exact heap_alloc_new W o

set_option maxHeartbeats 4000000 in
theorem permute_any {α : Type} {f : α → List Int → Option α} {J : α → World → Prop} {n : Nat} {DO : Value} {caps : Array Value} (hDO : DO = .func (.func 86) #[] caps) (hn : n ≤ 1000) (hn1 : 1 ≤ n) (w : World)
    (hJ : ∀ a W W' r, J a W → w.heap.size ≤ r → r < w.heap.size + 7 → W.grownBy W' (some r) → J a W')
    (hdo : ∀ (a a' : α) (W : World) (ord : List Int) (us : List Bool), J a W → PI n w.heap.size DO ord us W → ord.length = n → f a ord = some a' →
      Calls Try.prog 86 (#[.slice (some ⟨w.heap.size + 2, 0, none⟩) n n] ++ caps) W fun e W' => e = .returned (.tuple #[]) ∧ J a' W' ∧ ∀ k, w.heap.size ≤ k → k < w.heap.size + 7 → W'.heap[k]? = W.heap[k]?)
    {a a' : α} (hJ0 : J a w) (hr : runP f n n [] (List.replicate n false) a = some a') :
    Calls Try.prog 85 #[.int .i64 (n : Int), DO] w fun e W' => e = .returned (.tuple #[]) ∧ J a' W' := by
  have hmk1 : ∀ W : World, (Instr.makeSlice 22 (.int .i64 0) (.int .i64 (n : Int))).run Try.prog W = .ok (.slice (some ⟨W.heap.size, 0, none⟩) 0 n) (W.alloc (.cells (Array.replicate n (.int .i64 0)) 2)) := fun W => perm_make Try.underlying22 perm_info_int (by omega) rfl 0 n (by omega) hn W
  have hmk2 : ∀ W : World, (Instr.makeSlice 88 (.int .i64 (n : Int)) (.int .i64 (n : Int))).run Try.prog W = .ok (.slice (some ⟨W.heap.size, 0, none⟩) n n) (W.alloc (.cells (Array.replicate n (.bool false)) 4)) := fun W => perm_make Try.underlying88 perm_info_bool (by omega) rfl n n (by omega) hn W
  subst hDO
  obtain ⟨W6, hW6⟩ : ∃ W6, W6 = (((((w.alloc (.cells #[.int .i64 (n : Int)] 3)).alloc (.cells #[.func (.func 86) #[] caps] 102)).alloc (.cells (Array.replicate n (.int .i64 0)) 2)).alloc (.cells #[.slice (some ⟨w.heap.size + 1 + 1, 0, none⟩) 0 n] 22)).alloc (.cells (Array.replicate n (.bool false)) 4)).alloc (.cells #[.slice (some ⟨w.heap.size + 1 + 1 + 1 + 1, 0, none⟩) n n] 88) := ⟨_, rfl⟩
  have hs6 : W6.heap.size = w.heap.size + 1 + 1 + 1 + 1 + 1 + 1 := by rw [hW6]; simp
  obtain ⟨W8, hW8⟩ : ∃ W8, W8 = W6.alloc (.cells #[.func (.func 100) #[] (putPs w.heap.size).toArray] 1) := ⟨_, rfl⟩
  have hA : ∀ W o, J a W → J a (W.alloc o) := fun W o h => hJ a _ _ w.heap.size h (Nat.le_refl _) (by omega) (World.grownBy_alloc W o _)
  have hJ8 : J a W8 := by
    rw [hW8, hW6]
    exact hA _ _ (hA _ _ (hA _ _ (hA _ _ (hA _ _ (hA _ _ (hA _ _ hJ0))))))
  have hP8 : PI n w.heap.size (.func (.func 86) #[] caps) [] (List.replicate n false) W8 := by
    rw [hW8, hW6]
    refine ⟨perm_alloc (perm_alloc (perm_alloc (perm_alloc (perm_alloc (perm_alloc (perm_new rfl _) _) _) _) _) _) _,
      perm_alloc (perm_alloc (perm_alloc (perm_alloc (perm_alloc (perm_new (by simp) _) _) _) _) _) _,
      ⟨_, perm_alloc (perm_alloc (perm_alloc (perm_alloc (perm_new (by simp) _) _) _) _) _, by simp, by simp⟩,
      perm_alloc (perm_alloc (perm_alloc (perm_new (by simp) _) _) _) _,
      ?_,
      perm_alloc (perm_new (by simp) _) _,
      perm_new (by simp) _⟩
    rw [List.map_replicate, List.toArray_replicate]
    exact perm_alloc (perm_alloc (perm_new (by simp) _) _) _
  have hput := put_any (f := f) (J := J) (n := n) (b := w.heap.size) rfl hn hn1 hJ hdo n [] (List.replicate n false) a a' W8 (by simp) (by simp) hP8 hJ8 hr
  rw [hW8, hW6] at hput
  unfold putPs at hput
  go_enter Try.func85, Try.ntmps85
  go_wp2_with (go_at_call 100; refine hput.mono ?_; rintro e W5 ⟨rfl, hJ5, hP5⟩)
  go_end0
  exact ⟨rfl, hJ5⟩

end Go.Proofs.Ytnnfapnpijjbdaa
