/-
  spec.HastePlan: its contract. No condition.
-/
import Derived.Test.YtojjnifdkanpfaaHa6
namespace Go.Proofs.Ytojjnifdkanpfaa.Ha
open Go Go.RowKit Go.Proofs.Ytojjnifdkanpfaa Go.Proofs.Ytojjnifdkanpfaa.Fw
open Go.Proofs.Ytojjnifdkanpfaa.Arr hiding Tk goJ goJ_step
set_option maxRecDepth 100000
set_option linter.unusedVariables false
set_option linter.unusedSimpArgs false

theorem early2_of {p : Nat → Prop} {fE : List Tk → Option (List Int × Unit)} (hE : SoundC Try.prog 18 (eEarly fE)) : EarlyC2 p fE := fun W SB c ts v hv hl hne hT hc hp => by
  have h := hE (fun q => p q ∨ q = SB) W [.slice (some ⟨SB, 0, none⟩) ts.length c] (ts, ()) (v, ()) (fun q h => by rcases h with h | h; exact hp q h; rw [h]; exact hT.lt) ⟨hT.arg hc, trivial⟩ hv
  have h := shop_calls Try.func18 rfl (by kernel_rfl) h
  refine h.mono ?_
  rintro e W' ⟨v, rfl, vs, bs, e1, e2, e3, e4⟩
  obtain ⟨O, oc, oz, q1, q2, q3, q4, q5⟩ := own_res rfl e1 e4 (fun h => hne (List.eq_nil_of_length_eq_zero (by rw [← hl, h]; rfl)))
  rw [hl] at q1 q4
  exact ⟨e2, O, oc, oz, by rw [q1], q3, q4⟩

theorem last2_of {p : Nat → Prop} {fL : List Tk → List Int → Option (Int × Unit)} (hL : SoundC Try.prog 17 (eLast fL)) : LastC2 p fL := fun W SB c O oc oz ts s v hv hl hT hc hO hoc hp => by
  have harg := shop_arg (n := ts.length) (c := oc) hl hoc (p := fun q => (p q ∨ q = SB) ∨ q = O) (.inr rfl) hO
  have h := hL (fun q => (p q ∨ q = SB) ∨ q = O) W [.slice (some ⟨SB, 0, none⟩) ts.length c, .slice (some ⟨O, 0, none⟩) ts.length oc] (ts, s, ()) (v, ()) (fun q h => by rcases h with (h | h) | h; exact hp q h; rw [h]; exact hT.lt; rw [h]; exact hO.aLtE) ⟨⟨RC.mono_ (fun _ b hb => ⟨.inl hb, fun _ => rfl⟩) (hT.arg hc).1, rfl⟩, harg, trivial⟩ hv
  have h := shop_calls Try.func17 rfl (by kernel_rfl) h
  refine h.mono ?_
  rintro e W' ⟨v, rfl, vs, bs, e1, e2, e3, e4⟩
  exact ⟨e2, by rw [shop_int e4 e1]⟩

theorem min_of {fN : Int → Int → Option (Int × Unit)} (hN : SoundC Try.prog 19 { ins := [.int .i64, .int .i64], outs := [.val (.int .i64)], F := fun x => fN x.1 x.2.1 }) : MinC fN := fun W a b v hr => by
  have h := hN (fun _ => False) W [.int .i64 a, .int .i64 b] (a, b, ()) (v, ()) (fun _ h => h.elim) ⟨⟨rfl, rfl⟩, ⟨rfl, rfl⟩, trivial⟩ hr
  have h := shop_calls Try.func19 rfl (by kernel_rfl) h
  refine h.mono ?_
  rintro e W' ⟨v, rfl, vs, bs, e1, e2, e3, e4⟩
  exact ⟨e2, by rw [shop_int e4 e1]⟩

theorem in_of {fI : Int → Int → Int → Option (Bool × Unit)} (hI : SoundC Try.prog 16 { ins := [.int .i64, .int .i64, .int .i64], outs := [.val .bool], F := fun x => fI x.1 x.2.1 x.2.2.1 }) : InC fI := fun W a b c v hr => by
  have h := hI (fun _ => False) W [.int .i64 a, .int .i64 b, .int .i64 c] (a, b, c, ()) (v, ()) (fun _ h => h.elim) ⟨⟨rfl, rfl⟩, ⟨rfl, rfl⟩, ⟨rfl, rfl⟩, trivial⟩ hr
  have h := shop_calls Try.func16 rfl (by kernel_rfl) h
  refine h.mono ?_
  rintro e W' ⟨v, rfl, vs, bs, e1, e2, e3, e4⟩
  exact ⟨e2, by rw [shop_bool e4 e1]⟩

set_option maxHeartbeats 1000000 in
theorem hg_sound {fA : List Tk → Option (Bool × Unit)} {fI : Int → Int → Int → Option (Bool × Unit)} {fN : Int → Int → Option (Int × Unit)} {fY : List Tk → Option (List Int × Unit)} {fZ : List Tk → List Int → Option (Int × Unit)}
    (hA : SoundC Try.prog 15 { ins := [.sl tkS], outs := [.val .bool], F := fun x => fA x.1 })
    (hI : SoundC Try.prog 16 { ins := [.int .i64, .int .i64, .int .i64], outs := [.val .bool], F := fun x => fI x.1 x.2.1 x.2.2.1 })
    (hN : SoundC Try.prog 19 { ins := [.int .i64, .int .i64], outs := [.val (.int .i64)], F := fun x => fN x.1 x.2.1 })
    (hY : SoundC Try.prog 18 (eEarly fY)) (hZ : SoundC Try.prog 17 (eLast fZ)) :
    SoundC Try.prog 5 { ins := [.sl tkS, .sl (.int .i64), .sl (.int .i64), .int .i64], outs := [.own (.int .i64), .val (.int .i64), .val .bool], F := fun x => hgF fA fI fN fY fZ x.1 x.2.1 x.2.2.1 x.2.2.2.1 } := by
  rintro p w vals ⟨xs, ms, cs, fin, _⟩ ⟨yl, yv, yb, yu⟩ hp hArg hF
  match vals, hArg with
  | [v0, v1, v2, v3], hArg =>
    obtain ⟨⟨h0, a0⟩, ⟨h1, a1⟩, ⟨h2, a2⟩, ⟨h3, a3⟩, _⟩ := hArg
    have h3 : v3 = .int .i64 fin := shop_one h3 a3
    subst h3
    obtain ⟨A0, c0, hc0, hcap0, hx0⟩ := h0
    obtain rfl : v0 = .slice A0 xs.length c0 := shop_one hc0 a0
    obtain ⟨A1, c1, hc1, hcap1, hx1⟩ := h1
    obtain rfl : v1 = .slice A1 ms.length c1 := shop_one hc1 a1
    obtain ⟨A2, c2, hc2, hcap2, hx2⟩ := h2
    obtain rfl : v2 = .slice A2 cs.length c2 := shop_one hc2 a2
    have g0 : RC (fun _ => p) w.heap (.sl tkS) xs [.slice A0 xs.length c0] := ⟨A0, c0, rfl, hcap0, hx0⟩
    obtain ⟨⟨ok1, _⟩, hr1, hF⟩ := Option.bind_eq_some_iff.1 hF
    have hAC : ∀ W, Below w.heap.size w W → Calls Try.prog 15 #[.slice A0 xs.length c0] W fun e W' => Below W.heap.size W W' ∧ e = .returned (.bool ok1) := fun W hb => by
      have h := hA p W [.slice A0 xs.length c0] (xs, ()) (ok1, ()) (fun b h => Nat.lt_of_lt_of_le (hp b h) hb.size) ⟨⟨shop_mono hp hb g0, rfl⟩, trivial⟩ hr1
      have h := shop_calls Try.func15 rfl (by kernel_rfl) h
      refine h.mono ?_
      rintro e W' ⟨v, rfl, vs, bs, e1, e2, e3, e4⟩
      exact ⟨e2, by rw [shop_bool e4 e1]⟩
    have hno : ∀ {y : List Int × Int × Bool × Unit}, noH = some y → y = ([], 0, false, ()) := fun h => (Option.some.inj h).symm
    have hend : ∀ {e : Ending} {W' : World}, Below w.heap.size w W' ∧ e = .returned (.tuple #[.slice none 0 0, .int .i64 0, .bool false]) → ∃ v, e = .returned v ∧ ∃ vs bs, Fw.valOf vs v ∧ Below w.heap.size w W' ∧ Dist bs ∧ ResR (okRes p w.heap.size W'.heap bs) w.heap.size W'.heap [.own (.int .i64), .val (.int .i64), .val .bool] ([], 0, false, ()) vs bs := by
      rintro e W' ⟨hb, rfl⟩
      exact ⟨_, rfl, [.slice none 0 0, .int .i64 0, .bool false], [none], rfl, hb, by simp [Dist], ⟨rfl, rfl⟩, ⟨rfl, rfl⟩, ⟨rfl, rfl⟩, trivial⟩
    unfold CallOk
    rw [enter_of Try.func5 rfl (by kernel_rfl)]
    refine ⟨rfl, ?_⟩
    cases ok1 with
    | false =>
      cases hno hF
      exact (hg_false0 w hAC).mono fun e W' h => hend h
    | true =>
      simp only [cond_true] at hF
      by_cases hn5 : xs.length > 5
      · simp only [decide_eq_true hn5, cond_true] at hF
        cases hno hF
        exact (hg_false1 w hAC (decide_eq_true (by omega))).mono fun e W' h => hend h
      · simp only [decide_eq_false hn5, cond_false] at hF
        have hn : decide (((xs.length : Nat) : Int) > 5) = false := decide_eq_false (by omega)
        by_cases k2 : ms.length = xs.length
        · simp only [decide_eq_true k2, cond_true] at hF
          have e2 : (((ms.length : Nat) : Int) != ((xs.length : Nat) : Int)) = false := by rw [k2]; simp
          by_cases k3 : cs.length = xs.length
          · simp only [decide_eq_true k3, cond_true] at hF
            have e3 : (((cs.length : Nat) : Int) != ((xs.length : Nat) : Int)) = false := by rw [k3]; simp
            obtain ⟨⟨ok4, _⟩, hr4, hF⟩ := Option.bind_eq_some_iff.1 hF
            have hWC1 := fun W (_ : Below w.heap.size w W) => in_of hI W fin 0 100000 ok4 hr4
            cases ok4 with
            | false =>
              cases hno hF
              exact (hg_false4 w hAC hWC1 hn e2 e3).mono fun e W' h => hend h
            | true =>
              simp only [cond_true] at hF
              obtain ⟨hg, hF⟩ := cond_some hF
              have k1 := of_decide_eq_true hg
              have hne : ∀ {α : Type} {l : List α}, l.length = xs.length → l ≠ [] := fun h e => by
                rw [e] at h
                simp at h
                omega
              obtain ⟨B0, o0, rfl, hp0, hel0⟩ := hx0 (hne rfl)
              obtain ⟨B1, o1, rfl, hp1, hel1⟩ := hx1 (hne k2)
              obtain ⟨B2, o2, rfl, hp2, hel2⟩ := hx2 (hne k3)
              have hr0 := tk_reads hel0
              have hr1 := shop_reads hel1
              have hr2 := shop_reads hel2
              rw [k2] at hr1 ⊢
              rw [k3] at hr2 ⊢
              have hcall := hg_any (in_of hI) (min_of hN) (early2_of hY) (last2_of hZ) (list := xs) (most := ms) (costs := cs) (fin := fin) (n := xs.length) (LA := B0) (lo := o0) (lc := c0) (MA := B1) (mo := o1) (mc := c1) (CA := B2) (co := o2) (cc := c2) ⟨k1, by omega⟩ rfl w hp (hp B0 hp0) (hp B1 hp1) (hp B2 hp2) g0 hr0 hr1 hr2 hF hAC hWC1
              refine hcall.mono ?_
              rintro e W' ⟨hbe, v, rfl, hown⟩
              rcases hown with ⟨h, rfl⟩ | ⟨D, dc, dz, rfl, hrow, hD, hd1, hd2⟩
              · have h : yl = [] := h
                subst h
                exact ⟨_, rfl, [.slice none 0 0, .int .i64 yv, .bool yb], [none], rfl, hbe, by simp [Dist], ⟨rfl, rfl⟩, ⟨rfl, rfl⟩, ⟨rfl, rfl⟩, trivial⟩
              · exact ⟨_, rfl, [.slice (some ⟨D, 0, none⟩) (List.length yl) dc, .int .i64 yv, .bool yb], [some D], rfl, hbe, by simp [Dist], row_own hD hrow hd1 hd2, ⟨rfl, rfl⟩, ⟨rfl, rfl⟩, trivial⟩
          · simp only [decide_eq_false k3, cond_false] at hF
            cases hno hF
            exact (hg_false3 w hAC hn e2 (by simp; omega)).mono fun e W' h => hend h
        · simp only [decide_eq_false k2, cond_false] at hF
          cases hno hF
          exact (hg_false2 w hAC hn (by simp; omega)).mono fun e W' h => hend h

end Go.Proofs.Ytojjnifdkanpfaa.Ha
