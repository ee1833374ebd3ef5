/-
  math.Sqrt: its contract. No condition.
-/
import Derived.Test.YtmdicmdodbndgaaChecked
import Derived.Test.YtmdicmdodbndgaaFwR
import Derived.Tactics2
namespace Go.Proofs.Ytmdicmdodbndgaa
open Go Go.RowKit Go.Proofs.Ytmdicmdodbndgaa.Fw
set_option maxRecDepth 100000
set_option linter.unusedVariables false

def rootBits (b : Nat) : Option Nat :=
  match FloatKind.f64.format.sqrt b with
  | some r => toF .f64 r
  | none => none

theorem sqrt_run (b : Nat) (w : World) : ∃ z w', (callFunc 51 #[Value.float .f64 b]).run Try.prog w = .ok (.value (.float .f64 z)) w' ∧ toF .f64 z = rootBits b ∧ Below w.heap.size w w' := by
  have hf : Try.prog.funcs[(51 : Nat)]? = some Try.f51 := Try.func51
  have hn : Extern.findNext Try.f51 = none := by kernel_rfl
  have he : Extern.find Try.f51 = some Extern.MathSqrt.sqrt := by kernel_rfl
  have hbody : Try.f51.body = none := by kernel_rfl
  have hname : (Try.f51.name == "runtime.NumGoroutine") = false := by kernel_rfl
  have hname : Try.f51.name ≠ "runtime.NumGoroutine" := by simpa using hname
  have e : Extern.MathSqrt.sqrt #[Value.float .f64 b] = (match FloatKind.f64.format.sqrt b with | some r => (pure (Value.float .f64 r) : Sem Value) | none => (do pure (Value.float .f64 (← choose (.nanBits .f64 b b))) : Sem Value)) := rfl
  cases hr : FloatKind.f64.format.sqrt b with
  | some r =>
    rw [hr] at e
    exact ⟨r, w, by simp [callFunc, hf, hn, he, hbody, hname, e], by unfold rootBits; rw [hr], Below.refl _ _⟩
  | none =>
    rw [hr] at e
    exact ⟨(Question.nanBits .f64 b b).cut (w.tape w.drawn (.nanBits .f64 b b)), w.drew, by simp [callFunc, hf, hn, he, hbody, hname, e, Question.forced, run_choose_drew], by unfold rootBits; rw [hr]; exact nan_choice .f64 b b _, below_drew_ w⟩

theorem sqrt_calls (b : Nat) (w : World) : Calls Try.prog 48 #[.float .f64 b] w fun en w' => ∃ z, en = .returned (.float .f64 z) ∧ toF .f64 z = rootBits b ∧ Below w.heap.size w w' := by
  obtain ⟨z, w', r1, r2, r3⟩ := sqrt_run b w
  go_enter Try.func48, Try.ntmps48
  go_wp2_with (simp only [r1])
  go_ret
  exact ⟨z, rfl, r2, r3⟩

theorem sqrt_sound : SoundC Try.prog 48 { ins := [.flt .f64], outs := [.val (.flt .f64)], F := fun x => some (fsqrtT x.1, ()) } := by
  intro p w vals x y hp hA hF
  match vals, hA with
  | [v], hA =>
    obtain ⟨⟨hc, ha⟩, _⟩ := hA
    have ha : aggV v = false := ha
    rw [cells_one ha] at hc
    obtain ⟨b, hb, hx⟩ := hc
    have hv : v = .float .f64 b := by simpa using hb
    subst hv
    have hy : y = (fsqrtT x.1, ()) := (Option.some.inj hF).symm
    have hT : fsqrtT x.1 = rootBits b := by
      unfold fsqrtT rootBits
      cases hx1 : x.1 with
      | some x' =>
        rw [hx1] at hx
        obtain rfl := fl_some hx.symm
        rfl
      | none =>
        rw [hx1] at hx
        obtain ⟨s, t, hn⟩ := fl_none hx.symm
        have : FloatKind.f64.format.sqrt b = none := by
          show ((FloatKind.f64.format.read b).root _).map _ = none
          rw [hn]
          rfl
        rw [this]
    obtain ⟨code, hcode⟩ : ∃ code, Try.f48.body = some code := ⟨_, rfl⟩
    unfold CallOk
    rw [enter_of Try.func48 hcode (by kernel_rfl)]
    refine ⟨rfl, (sqrt_calls b w).mono ?_⟩
    rintro en w' ⟨z, rfl, h1, h2⟩
    refine ⟨_, rfl, [.float .f64 z], [], (rfl : Fw.valOf [Value.float .f64 z] _), h2, trivial, ⟨⟨z, rfl, ?_⟩, rfl⟩, trivial⟩
    rw [hy, h1]
    exact hT

end Go.Proofs.Ytmdicmdodbndgaa
