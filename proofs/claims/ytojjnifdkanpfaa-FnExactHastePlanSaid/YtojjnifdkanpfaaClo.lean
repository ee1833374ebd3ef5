/-
  slices.Clone at []int64: a list without elements too, nil or not. No condition.
-/
import Derived.Test.YtojjnifdkanpfaaChecked
import Derived.Test.YtojjnifdkanpfaaFwV
import Derived.Shelf.RegionOpenPlain
import Derived.Lib.Walk
import Derived.Lib.SliceRun
import Derived.Lib.LazyBuf
set_option linter.unusedVariables false
set_option linter.unusedSimpArgs false
namespace Go.Proofs.Ytojjnifdkanpfaa
open Go Go.Shelf Go.RowKit Go.Lib Go.Proofs.Ytojjnifdkanpfaa.Fw

theorem clo_info : (Try.prog.info? 2).map (fun i => (i.zero, i.size, i.bytes)) = some (some (Value.int IntKind.i64 0), 1, 8) := by kernel_rfl

set_option maxRecDepth 100000 in
theorem clo_nil (c : Nat) (w : World) : Calls Try.prog 28 #[.slice none 0 c] w fun e w' => e = .returned (.slice none 0 0) ∧ w' = w := by
  have q22 : ∀ (w : World) (a : Option Addr) (n c n' c' : Nat), (binOp .eql 23 (.slice a n c) (.slice none n' c')).run Try.prog w = .ok (.bool a.isNone) w := fun w a n c n' c' => Lib.run_eql_slice_nil w _ _ a n c n' c' Try.underlying23
  go_enter Try.func28, Try.ntmps28
  go_wp2
  go_ret
  exact ⟨rfl, rfl⟩

set_option maxRecDepth 100000 in
theorem clo_emp (A : Addr) (c : Nat) (w : World) : Calls Try.prog 28 #[.slice (some A) 0 c] w fun e w' => e = .returned (.slice (some ⟨w.heap.size, 0, none⟩) 0 0) ∧ w' = w.alloc (.cells #[] 2) := by
  have q22 : ∀ (w : World) (a : Option Addr) (n c n' c' : Nat), (binOp .eql 23 (.slice a n c) (.slice none n' c')).run Try.prog w = .ok (.bool a.isNone) w := fun w a n c n' c' => Lib.run_eql_slice_nil w _ _ a n c n' c' Try.underlying23
  obtain ⟨i0, hi0, hz0, hzs, hzb⟩ := info_parts clo_info
  have hrun : ∀ (w' : World) ty (B : Nat), (Builtin.append_ #[23, 23] ty #[.slice (some ⟨B, 0, none⟩) 0 0, .slice (some A) 0 c]).run Try.prog w' = .ok (.slice (some ⟨B, 0, none⟩) 0 0) w' := fun w' ty B => by
    have hsrc : Src Try.prog 1 23 (.slice (some A) 0 c) 0 [] w' := Src.ofSlice w' Try.underlying23 A 0 c [] rfl (fun j u hj => by simp at hj) (fun u hu => by cases hu)
    have h1 := hsrc.len w'
    have h2 := hsrc.cells
    simp [Builtin.append_, run_underlying Try.underlying23, sizeOf, typeInfo, hi0, h1, hzs, h2, storeCells]
  go_enter Try.func28, Try.ntmps28
  go_wp2_with (at_builtin; refine Lib.wpList_append_run _ rfl _ _ _ _ rfl _ _ rfl rfl _ _ (hrun _ _ _) ?_)
  go_ret
  exact ⟨rfl, rfl⟩

theorem isEmpty_no {α : Type} {l : List α} (h : l ≠ []) : List.isEmpty l = false := by
  cases l with
  | nil => exact absurd rfl h
  | cons x l => rfl

set_option maxRecDepth 100000 in
theorem clone_sound {F : dens [Sh.sl (.int .i64)] → Option (dens ([RK.own (.int .i64)].map RK.sh))} (hne : SoundC Try.prog 28 { ins := [.sl (.int .i64)], outs := [.own (.int .i64)], F := F })
    (hF : ∀ x : dens [Sh.sl (.int .i64)], x.1 ≠ [] → appOk 0 (List.length x.1) = true → F x = some (x.1, ())) :
    SoundC Try.prog 28 { ins := [.sl (.int .i64)], outs := [.own (.int .i64)], F := fun x => cond (appOk 0 (List.length x.1)) (some (x.1, ())) none } := by
  intro p w vals x y hp hA hy
  obtain ⟨hok, hy⟩ := cond_some hy
  by_cases hx : x.1 = []
  · match vals, hA with
    | [v], hA =>
      obtain ⟨⟨hc, ha⟩, _⟩ := hA
      have ha : aggV v = false := ha
      rw [cells_one ha] at hc
      obtain ⟨A, cp, hv, hle, _⟩ := hc
      have hv : v = .slice A 0 cp := by
        have : v = .slice A (List.length x.1) cp := by simpa using hv
        rw [this, hx]
        rfl
      have hy' : y = ([], ()) := by
        have := (Option.some.inj hy).symm
        rw [this, hx]
      subst hv
      rw [hy']
      obtain ⟨code, hcode⟩ : ∃ code, Try.f28.body = some code := ⟨_, rfl⟩
      unfold CallOk
      rw [enter_of Try.func28 hcode (by kernel_rfl)]
      refine ⟨rfl, ?_⟩
      cases A with
      | none =>
        refine (clo_nil cp w).mono ?_
        rintro e w' ⟨rfl, rfl⟩
        exact ⟨_, rfl, [.slice none 0 0], [none], (rfl : Fw.valOf [Value.slice none 0 0] _), Below.refl _ _, by simp [Dist], ⟨rfl, rfl⟩, trivial⟩
      | some A =>
        refine (clo_emp A cp w).mono ?_
        rintro e w' ⟨rfl, rfl⟩
        refine ⟨_, rfl, [.slice (some ⟨w.heap.size, 0, none⟩) 0 0], [some w.heap.size], (rfl : Fw.valOf [Value.slice (some ⟨w.heap.size, 0, none⟩) 0 0] _), (Below.refl _ w).alloc (Nat.le_refl _) _, by simp [Dist], ⟨Nat.le_refl _, ⟨#[], 2, ?_, by simp, fun i x hx => by simp at hx⟩, 0, 0, rfl, Nat.le_refl _, fun _ => rfl, fun n _ => by simp⟩, trivial⟩
        show (w.heap.push _)[w.heap.size]? = _
        simp
  · exact hne p w vals x y hp hA ((hF x hx hok).trans hy)

end Go.Proofs.Ytojjnifdkanpfaa
