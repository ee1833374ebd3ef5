/-
  slices.Chunk: what the iterator hands to a loop's body: the parts of a slice, one by one. No condition.
-/
import Derived.RangeFuncNested
import Derived.RangeFuncBound
import Derived.RangeFuncCalls
import Derived.RangeFuncLeaves
import Derived.RangeFuncFrom
import Derived.Shelf.Abstract
import Derived.Shelf.RegionOpen
import Derived.WalkKit
import Derived.OwnWalkIn
import Derived.TacticsInMore
import Derived.LoopNIn
import Derived.LoopIn
import Derived.Test.YtgcmklniacjcfaaChecked
import Derived.Test.YtgcmklniacjcfaaFwY
import Derived.Test.YtgcmklniacjcfaaFwR
namespace Go.Proofs.Ytgcmklniacjcfaa
open Go Go.RowKit Go.Shelf Go.Proofs.Ytgcmklniacjcfaa.Fw
attribute [local go_sem] Oper.semAt_some
set_option maxRecDepth 100000
set_option linter.unusedVariables false

theorem cell_of_box_l {W : World} {B : Nat} {v : Value} {t : TypeId} (h : W.heap[B]? = some (.cells #[v] t (0, 0))) : W.cell? ⟨B, 0, none⟩ = some v ∧ W.frozen? ⟨B, 0, none⟩ = false := by
  constructor <;> simp [World.cell?, World.frozen?, h]
theorem cell_new_l (W : World) (v : Value) (t : TypeId) : (W.alloc (.cells #[v] t)).cell? ⟨W.heap.size, 0, none⟩ = some v ∧ (W.alloc (.cells #[v] t)).frozen? ⟨W.heap.size, 0, none⟩ = false :=
  cell_of_box_l (World.alloc_heap_new W _)
theorem cell_alloc_l {W : World} {a : Addr} {v : Value} (o : Obj) (h : W.cell? a = some v) : (W.alloc o).cell? a = some v := cell_kept h (World.grownBy_alloc W o none) (fun r e => by cases e)
theorem frozen_alloc_l {W : World} {a : Addr} {v : Value} (o : Obj) (h : W.cell? a = some v) (hf : W.frozen? a = false) : (W.alloc o).frozen? a = false := (frozen_kept h (World.grownBy_alloc W o none) (fun r e => by cases e)).trans hf

/-- The part number k. -/
def partV (b off m k : Nat) : Value := .slice (some ⟨b, off + k * m, none⟩) m m

/-- Two boxes hold what they held. -/
def KpB (B1 B2 : Nat) (W W' : World) : Prop := ∀ b, b = B1 ∨ b = B2 → ∀ o v, W.cell? ⟨b, o, none⟩ = some v → W'.cell? ⟨b, o, none⟩ = some v

theorem take_fin {q k : Nat} (hk : k < q) : (List.finRange q).take (k + 1) = (List.finRange q).take k ++ [⟨k, hk⟩] := by
  rw [List.take_add_one, List.getElem?_eq_getElem (by simpa using hk), List.getElem_finRange]
  rfl

set_option maxHeartbeats 2000000 in
theorem chunk1_in (F : Fence) (n : Nat) (h7 : F.fn 90) (hro : F.round = none) (hn : 1 ≤ n) (l B1 B2 b off m q cap : Nat) (hm : 1 ≤ m) (hlen : q * m ≤ 4294967296) (hcap : q * m ≤ cap) (J Jx : List (Fin q) → World → Prop) (hJd : ∀ pre W, J pre W → J pre W.drew)
    (hY : ∀ pre (x : Fin q) W, J pre W → pre.length < q → YieldAt F (n - 1) Try.prog l #[partV b off m x.1] W fun e W' =>
      (e = .returned (.bool true) ∧ J (pre ++ [x]) W' ∧ KpB B1 B2 W W') ∨ (e = .returned (.bool false) ∧ Jx (pre ++ [x]) W'))
    (W : World) (h1 : W.cell? ⟨B1, 0, none⟩ = some (.slice (some ⟨b, off, none⟩) (q * m) cap)) (h2 : W.cell? ⟨B2, 0, none⟩ = some (.int .i64 m)) (h0 : J [] W) :
    CallsIn F n Try.prog 90 #[.func (.yield l) #[] #[], .pointer (some ⟨B1, 0, none⟩), .pointer (some ⟨B2, 0, none⟩)] W fun e W' => (∃ v, e = .returned v) ∧
      ((∃ ys, ys = List.finRange q ∧ J ys W') ∨ (∃ pre, pre <+: List.finRange q ∧ Jx pre W')) := by
  refine callsIn_of_wp Try.func90 rfl h7 ?_ hro
  simp only [Try.ntmps90, List.size_toArray, List.length_cons, List.length_nil, Nat.reduceAdd, Nat.reduceSub, Array.replicate_succ, Array.replicate_zero, List.push_toArray, List.append_toArray, List.nil_append, List.cons_append]
  gi_wp2
  gi_loopw [4] (fun i wr => ∃ k : Nat, k ≤ q ∧ i = .int .i64 ((k * m : Nat) : Int) ∧ J ((List.finRange q).take k) wr ∧ KpB B1 B2 W wr)
    (fun i _ => q * m - (intOf i).toNat)
  case atStart => exact ⟨0, Nat.zero_le _, by simp, h0, fun b hb o v h => h⟩
  case round =>
    obtain ⟨k, hk, rfl, hJs, hkp⟩ := hrel
    have c1 := hkp B1 (.inl rfl) _ _ h1
    have c2 := hkp B2 (.inr rfl) _ _ h2
    by_cases hlt : k < q
    · have hmul : (k + 1) * m ≤ q * m := Nat.mul_le_mul_right _ hlt
      have he : (k + 1) * m = k * m + m := by rw [Nat.add_mul, Nat.one_mul]
      obtain ⟨fn, tmps, assign, body, hy, hR⟩ := hY _ ⟨k, hlt⟩ wr.drew (hJd _ _ hJs) (by rw [List.length_take, List.length_finRange]; omega)
      dsimp only [partV] at hy
      have hkm : k * m ≤ q * m := by omega
      gi_wp2
      gi_region
      all_goals gi_wp2
      all_goals
        refine hR.mono ?_
        rintro e W3 (⟨rfl, hJ3, hk3⟩ | ⟨rfl, hJx3⟩)
        · have d2 : W3.cell? ⟨B2, 0, none⟩ = some (.int .i64 m) := hk3 B2 (.inr rfl) _ _ (by simpa using c2)
          gi_wp2
          go_roundw
          case rel => exact ⟨k + 1, by omega, by rw [he]; simp, by rw [take_fin hlt]; exact hJ3, fun b hb o v h => hk3 b hb o v (by simpa using hkp b hb o v h)⟩
          case measure => simp [intOf]; omega
        · gi_wp2
          refine bodyPost_ret (results_none rfl _ _ _) rfl ?_
          exact ⟨⟨_, rfl⟩, .inr ⟨_, by rw [← take_fin hlt]; exact List.take_prefix _ _, hJx3⟩⟩
    · obtain rfl : k = q := by omega
      gi_wp2
      go_end0
      exact ⟨⟨_, rfl⟩, .inl ⟨_, by rw [List.take_of_length_le (by simp)], hJs⟩⟩

set_option maxHeartbeats 1000000 in
/-- .. at an empty slice: no round. -/
theorem chunk0_in (F : Fence) (n : Nat) (h7 : F.fn 90) (hro : F.round = none) (l B1 B2 cap : Nat) (A : Option Addr) (J : List (Fin 0) → World → Prop) (W : World) (h1 : W.cell? ⟨B1, 0, none⟩ = some (.slice A 0 cap)) (h0 : J [] W) :
    CallsIn F n Try.prog 90 #[.func (.yield l) #[] #[], .pointer (some ⟨B1, 0, none⟩), .pointer (some ⟨B2, 0, none⟩)] W fun e W' => (∃ v, e = .returned v) ∧ J [] W' := by
  refine callsIn_of_wp Try.func90 rfl h7 ?_ hro
  simp only [Try.ntmps90, List.size_toArray, List.length_cons, List.length_nil, Nat.reduceAdd, Nat.reduceSub, Array.replicate_succ, Array.replicate_zero, List.push_toArray, List.append_toArray, List.nil_append, List.cons_append]
  gi_wp2
  gi_loopw [4] (fun i wr => i = .int .i64 0 ∧ J [] wr ∧ wr.cell? ⟨B1, 0, none⟩ = some (.slice A 0 cap)) (fun _ _ => 0)
  case atStart => exact ⟨rfl, h0, h1⟩
  case round =>
    obtain ⟨rfl, hJs, c1⟩ := hrel
    gi_wp2
    go_end0
    exact ⟨⟨_, rfl⟩, hJs⟩

set_option maxHeartbeats 1000000 in
theorem chunk_in (F : Fence) (n : Nat) (h5 : F.fn 84) (hro : F.round = none) (a : Option Addr) (len cap m : Nat) (hm : 1 ≤ m) (w : World) :
    CallsIn F n Try.prog 84 #[.slice a len cap, .int .i64 m] w fun e w' => e = .returned (.func (.func 90) #[] #[.pointer (some ⟨w.heap.size, 0, none⟩), .pointer (some ⟨w.heap.size + 1, 0, none⟩)]) ∧
      w' = (w.alloc (.cells #[.slice a len cap] 22)).alloc (.cells #[.int .i64 m] 3) := by
  refine callsIn_of_wp Try.func84 rfl h5 ?_ hro
  simp only [Try.ntmps84, List.size_toArray, List.length_cons, List.length_nil, Nat.reduceAdd, Nat.reduceSub, Array.replicate_succ, Array.replicate_zero, List.push_toArray, List.append_toArray, List.nil_append, List.cons_append]
  have c0 := cell_new_l w (.slice a len cap) 22
  have c1 := cell_new_l (w.alloc (.cells #[.slice a len cap] 22)) (.int .i64 m) 3
  simp only [World.size_alloc] at c1
  gi_wp2
  go_ret
  exact ⟨rfl, rfl⟩

/-- **slices.Chunk's value hands out the parts, all of them or the first of them.** -/
theorem chunk_stops (F : Fence) (n : Nat) (h7 : F.fn 90) (hro : F.round = none) (hn : 1 ≤ n) (B1 B2 : Nat) (A : Option Addr) (m q cap : Nat) (b off : Nat) (hA : q * m ≠ 0 → A = some ⟨b, off, none⟩) (hm : 1 ≤ m) (hlen : q * m ≤ 4294967296) (hcap : q * m ≤ cap) (w : World) (hB1 : B1 < w.heap.size) (hB2 : B2 < w.heap.size)
    (h1 : w.cell? ⟨B1, 0, none⟩ = some (.slice A (q * m) cap)) (h2 : w.cell? ⟨B2, 0, none⟩ = some (.int .i64 m)) :
    SeqStopsK F n Try.prog 90 #[.pointer (some ⟨B1, 0, none⟩), .pointer (some ⟨B2, 0, none⟩)] (fun x : Fin q => #[partV b off m x.1]) (KpB B1 B2) (fun ys => ys = List.finRange q) (fun pre => pre <+: List.finRange q) q w := fun l J Jx W hW hJ _ hY h0 => by
  have c1 := (hW.cell (p := ⟨B1, 0, none⟩) hB1).trans h1
  have c2 := (hW.cell (p := ⟨B2, 0, none⟩) hB2).trans h2
  by_cases hq : q = 0
  · subst hq
    simp only [Nat.zero_mul] at c1
    exact (chunk0_in F n h7 hro l B1 B2 cap A J W c1 h0).mono fun e W' ⟨he, hj⟩ => ⟨he, .inl ⟨_, rfl, hj⟩⟩
  · have hqm : q * m ≠ 0 := Nat.mul_ne_zero hq (by omega)
    rw [hA hqm] at c1
    exact chunk1_in F n h7 hro hn l B1 B2 b off m q cap hm hlen hcap J Jx (fun pre W1 h => hJ pre W1 W1.drew none h ⟨rfl, rfl, rfl, Nat.le_refl _, fun _ _ _ => rfl⟩ (fun r e => by cases e)) hY W c1 c2 h0

end Go.Proofs.Ytgcmklniacjcfaa
