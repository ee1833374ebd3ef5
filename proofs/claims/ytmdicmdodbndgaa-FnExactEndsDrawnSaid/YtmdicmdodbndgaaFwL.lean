/-
  Steps of the evaluator are steps of the model, ninth part: cuts of slices, lengths, literals. No condition.
-/
import Derived.Test.YtmdicmdodbndgaaFwK
namespace Go.Proofs.Ytmdicmdodbndgaa.Fw
open Go Go.RowKit

section
variable {P : Program} {tt : Nat → TD} {T : Nat → List EntX} {q : Bool} {c : Cx} {E : Env} {st : St} {m : Nat → Option Nat} {a : Act} {w : World} {ρ : Type} {K : St → Option ρ} {r : ρ} {o : Oper}

theorem and_true3 {x y z : Bool} (h : (x && y && z) = true) : x = true ∧ y = true ∧ z = true := by
  simp only [Bool.and_eq_true] at h
  exact ⟨h.1.1, h.1.2, h.2⟩

/-- A cut of a read-only slice. -/
theorem cut_ro (hS : SimM c E st m a w) {t : TypeId} {x : Operand} {lo hi : Option Operand} (hop : o.op = .slice t x lo hi none) {e : TypeId} {inf : TypeInfo} {s : Sh} (hu : P.underlying t = some (.slice e)) (hi' : P.info? e = some inf) (hsz : inf.size = s.size)
    {xs ys : List s.den} (hx : RVs c E st m w (.g (.sl s) xs) (a.eval x)) {i j : Nat}
    (hlo : (lo.map a.eval = none ∧ i = 0) ∨ ∃ k, lo.map a.eval = some (.int k (i : Int))) (hhi : (hi.map a.eval = none ∧ j = xs.length) ∨ ∃ k, hi.map a.eval = some (.int k (j : Int)))
    (h1 : i ≤ j) (h2 : j ≤ xs.length) (hy : ys = (xs.take j).drop i) (h : E.wr o.dst (.g (.sl s) ys) st K = some r) : DoneQ P c E K r o a w := by
  obtain ⟨hc, hag⟩ := hx.g_cells
  generalize hux : a.eval x = u at *
  rw [cells_one (by simpa [Sh.isAgg] using hag)] at hc
  simp only [RC, List.cons.injEq, and_true] at hc
  obtain ⟨A, cp, rfl, hcp, hrow⟩ := hc
  have hlen : ys.length = j - i := by rw [hy]; simp; omega
  have hrun := run_slice2 (P := P) hu hi' A xs.length cp i j (lo.map a.eval) (hi.map a.eval) hlo hhi h1 (by omega)
  refine done_v hS (u := .slice (if cp = i then A else A.map (·.add (i * inf.size))) (j - i) (cp - i)) (fun w' hb => by unfold execOp; simp only [hop, hux, Option.map_none, Sem.run_bind, hrun]; rfl) (.g (.sl s) ys _ ?_ rfl) h
  have hcl : (Value.slice (if cp = i then A else A.map (·.add (i * inf.size))) (j - i) (cp - i)).cells.toList = [Value.slice (if cp = i then A else A.map (·.add (i * inf.size))) (j - i) (cp - i)] := rfl
  rw [hcl]
  refine RC.row hlen.symm (by omega) (fun hne => ?_)
  have hpos : 0 < ys.length := List.length_pos_iff.2 hne
  obtain ⟨b, off, rfl, hok, hall⟩ := hrow (fun hn => by subst hn; simp at h2; omega)
  refine ⟨b, off + i * s.size, ?_, hok, fun k z hk => ?_⟩
  · rw [if_neg (by omega), hsz]
    simp only [Option.map_some, add_mk]
  · rw [hy, List.getElem?_drop, List.getElem?_take] at hk
    split at hk
    · obtain ⟨l, l1, l2, l3⟩ := hall _ _ hk
      refine ⟨l, l1, ?_, l3⟩
      rw [Nat.add_assoc, ← Nat.add_mul]
      exact l2
    · cases hk

/-- A cut of an own slice. -/
theorem cut_own (hS : SimM c E st m a w) {t : TypeId} {x : Operand} {lo hi : Option Operand} (hop : o.op = .slice t x lo hi none) {e : TypeId} {inf : TypeInfo} {s : Sh} (hu : P.underlying t = some (.slice e)) (hi' : P.info? e = some inf) (hsz : inf.size = s.size)
    {hh off len : Nat} {xs : List s.den} (ho : E.ob st hh = some (.arr s xs)) (hv : SlV m w.heap hh s.size off len (a.eval x)) (hle : off + len ≤ xs.length) {i j : Nat}
    (hlo : (lo.map a.eval = none ∧ i = 0) ∨ ∃ k, lo.map a.eval = some (.int k (i : Int))) (hhi : (hi.map a.eval = none ∧ j = len) ∨ ∃ k, hi.map a.eval = some (.int k (j : Int)))
    (h1 : i ≤ j) (h2 : j ≤ len) (h : E.wr o.dst (.slc hh (off + i) (j - i)) st K = some r) : DoneQ P c E K r o a w := by
  generalize hux : a.eval x = u at *
  unfold SlV at hv
  cases hm : m hh with
  | none =>
    rw [hm] at hv
    obtain ⟨rfl, rfl⟩ := hv
    have hj : j = 0 := by omega
    have hi0 : i = 0 := by omega
    subst hj hi0
    have hrun := run_slice2 (P := P) hu hi' none 0 0 0 0 (lo.map a.eval) (hi.map a.eval) hlo hhi h1 (by omega)
    refine done_v hS (u := .slice none 0 0) (fun w' hb => by unfold execOp; simp only [hop, hux, Option.map_none, Sem.run_bind, hrun]; rfl) (.slc hh _ _ _ (fun s' xs' ho' => ?_) rfl) h
    rw [ho] at ho'
    cases ho'
    refine ⟨?_, by omega⟩
    unfold SlV
    rw [hm]
    exact ⟨rfl, rfl⟩
  | some b =>
    rw [hm] at hv
    obtain ⟨o0, cp, rfl, h3, h4, h5⟩ := hv
    have hrun := run_slice2 (P := P) hu hi' (some ⟨b, o0, none⟩) len cp i j (lo.map a.eval) (hi.map a.eval) hlo hhi h1 (by omega)
    refine done_v hS (u := .slice (if cp = i then some ⟨b, o0, none⟩ else (some (⟨b, o0, none⟩ : Addr)).map (·.add (i * inf.size))) (j - i) (cp - i)) (fun w' hb => by unfold execOp; simp only [hop, hux, Option.map_none, Sem.run_bind, hrun]; rfl) (.slc hh _ _ _ (fun s' xs' ho' => ?_) rfl) h
    rw [ho] at ho'
    cases ho'
    refine ⟨?_, by omega⟩
    unfold SlV
    rw [hm]
    by_cases hci : cp = i
    · rw [if_pos hci]
      refine ⟨o0, cp - i, rfl, by omega, fun hne => absurd (by omega) hne, fun n hn => ?_⟩
      rw [show off + i + (cp - i) = off + cp by omega]
      exact h5 n hn
    · rw [if_neg hci]
      refine ⟨o0 + i * inf.size, cp - i, by simp only [Option.map_some, add_mk], by omega, fun _ => by rw [h4 (by omega), hsz, ← Nat.add_mul], fun n hn => ?_⟩
      rw [show off + i + (cp - i) = off + cp by omega]
      exact h5 n hn

theorem s_slice {t : TypeId} {x : Operand} {lo hi : Option Operand} (hP : ∀ t, TDok P t (tt t)) (hS : SimM c E st m a w) (hop : o.op = .slice t x lo hi none) (h : aop tt T E q o st K = some r) : DoneQ P c E K r o a w := by
  simp only [aop, hop] at h
  have hx := hS.ev x
  have opt : ∀ (y : Operand) (n : Int), intA (E.ev st y) = some n → 0 ≤ n → ∃ k, a.eval y = .int k ((n.toNat : Nat) : Int) := fun y n hy hn => by
    obtain ⟨k, hk⟩ := intA_sound (hS.ev y) hy
    exact ⟨k, by rw [hk, Int.toNat_of_nonneg hn]⟩
  split at h
  · rename_i s0 by0 s xs he hxs
    obtain ⟨hss, h'⟩ := cond_some h
    obtain ⟨e, inf, hu, hinf, hsz, _⟩ := (hP t).elem _ _ he
    have hsz : inf.size = s.size := hsz.trans (Nat.eq_of_beq_eq_true hss).symm
    rw [hxs] at hx
    cases lo with
    | none =>
      cases hi with
      | none =>
        simp only [Option.map_none] at h'
        exact cut_ro hS hop hu hinf hsz hx (.inl ⟨rfl, rfl⟩) (.inl ⟨rfl, rfl⟩) (Nat.zero_le _) (Nat.le_refl _) (by simp) h'
      | some y =>
        simp only [Option.map_none, Option.map_some] at h'
        split at h'
        · rename_i heq; cases heq
        · rename_i heq; cases heq
        · rename_i b _ heq
          have heq := Option.some.inj heq
          obtain ⟨hc, h''⟩ := cond_some h'
          simp only [Bool.and_eq_true, decide_eq_true_eq] at hc
          obtain ⟨k, hk⟩ := opt y b heq hc.1
          exact cut_ro hS hop hu hinf hsz hx (i := 0) (j := b.toNat) (.inl ⟨rfl, rfl⟩) (.inr ⟨k, by simp only [Option.map_some, hk]⟩) (Nat.zero_le _) (by omega) (by simp) h''
        · rename_i heq _; cases heq
        · cases h'
    | some z =>
      cases hi with
      | none =>
        simp only [Option.map_none, Option.map_some] at h'
        split at h'
        · rename_i heq _; cases heq
        · rename_i b heq _
          have heq := Option.some.inj heq
          obtain ⟨hc, h''⟩ := cond_some h'
          simp only [Bool.and_eq_true, decide_eq_true_eq] at hc
          obtain ⟨k, hk⟩ := opt z b heq hc.1
          exact cut_ro hS hop hu hinf hsz hx (i := b.toNat) (j := xs.length) (.inr ⟨k, by simp only [Option.map_some, hk]⟩) (.inl ⟨rfl, rfl⟩) (by omega) (Nat.le_refl _) (by simp) h''
        · rename_i heq _; cases heq
        · rename_i _ heq; cases heq
        · cases h'
      | some y =>
        simp only [Option.map_some] at h'
        split at h'
        · rename_i heq _; cases heq
        · rename_i _ heq; cases heq
        · rename_i heq _; cases heq
        · rename_i b1 b2 heq1 heq2
          have heq1 := Option.some.inj heq1
          have heq2 := Option.some.inj heq2
          obtain ⟨hc, h''⟩ := cond_some h'
          obtain ⟨hc1, hc2, hc3⟩ := and_true3 hc
          simp only [decide_eq_true_eq] at hc1 hc2 hc3
          obtain ⟨k1, hk1⟩ := opt z b1 heq1 hc1
          obtain ⟨k2, hk2⟩ := opt y b2 heq2 (by omega)
          exact cut_ro hS hop hu hinf hsz hx (i := b1.toNat) (j := b2.toNat) (.inr ⟨k1, by simp only [Option.map_some, hk1]⟩) (.inr ⟨k2, by simp only [Option.map_some, hk2]⟩) (by omega) (by omega) rfl h''
        · cases h'
  · rename_i s0 by0 hh he hxs
    split at h
    · rename_i s xs ho
      obtain ⟨hss, h'⟩ := cond_some h
      obtain ⟨e, inf, hu, hinf, hsz, _⟩ := (hP t).elem _ _ he
      have hsz : inf.size = s.size := hsz.trans (Nat.eq_of_beq_eq_true hss).symm
      rw [hxs] at hx
      have hsl : SlV m w.heap hh s.size 0 xs.length (a.eval x) := by
        cases hx with
        | full _ _ hsl _ => exact hsl _ _ ho
      split at h'
      · rename_i i j hi1 hj1
        obtain ⟨hc, h''⟩ := cond_some h'
        obtain ⟨hc1, hc2, hc3⟩ := and_true3 hc
        simp only [decide_eq_true_eq] at hc1 hc2 hc3
        refine cut_own hS hop hu hinf hsz ho hsl (by omega) (i := i.toNat) (j := j.toNat) ?_ ?_ (by omega) (by omega) (by simpa using h'')
        · cases lo with
          | none => simp only [Option.some.injEq] at hi1; exact .inl ⟨rfl, by omega⟩
          | some z =>
            obtain ⟨k, hk⟩ := opt z i hi1 hc1
            exact .inr ⟨k, by simp only [Option.map_some, hk]⟩
        · cases hi with
          | none => simp only [Option.some.injEq] at hj1; exact .inl ⟨rfl, by omega⟩
          | some z =>
            obtain ⟨k, hk⟩ := opt z j hj1 (by omega)
            exact .inr ⟨k, by simp only [Option.map_some, hk]⟩
      · cases h'
    · cases h
  · rename_i s0 by0 hh off len he hxs
    split at h
    · rename_i s xs ho
      obtain ⟨hss, h'⟩ := cond_some h
      obtain ⟨e, inf, hu, hinf, hsz, _⟩ := (hP t).elem _ _ he
      have hsz : inf.size = s.size := hsz.trans (Nat.eq_of_beq_eq_true hss).symm
      rw [hxs] at hx
      have hsl : SlV m w.heap hh s.size off len (a.eval x) ∧ off + len ≤ xs.length := by
        cases hx with
        | slc _ _ _ _ hsl _ => exact hsl _ _ ho
      split at h'
      · rename_i i j hi1 hj1
        obtain ⟨hc, h''⟩ := cond_some h'
        obtain ⟨hc1, hc2, hc3⟩ := and_true3 hc
        simp only [decide_eq_true_eq] at hc1 hc2 hc3
        refine cut_own hS hop hu hinf hsz ho hsl.1 hsl.2 (i := i.toNat) (j := j.toNat) ?_ ?_ (by omega) (by omega) h''
        · cases lo with
          | none => simp only [Option.some.injEq] at hi1; exact .inl ⟨rfl, by omega⟩
          | some z =>
            obtain ⟨k, hk⟩ := opt z i hi1 hc1
            exact .inr ⟨k, by simp only [Option.map_some, hk]⟩
        · cases hi with
          | none => simp only [Option.some.injEq] at hj1; exact .inl ⟨rfl, by omega⟩
          | some z =>
            obtain ⟨k, hk⟩ := opt z j hj1 (by omega)
            exact .inr ⟨k, by simp only [Option.map_some, hk]⟩
      · cases h'
    · cases h
  · cases h

/-- The length of a slice. -/
theorem lenOf_sound (hS : SimM c E st m a w) {av : AV} {v : Value} {n : Nat} (hv : RVs c E st m w av v) (h : lenOfA (E.ob st) av = some n) : ∃ A cp, v = .slice A n cp := by
  unfold lenOfA at h
  split at h
  · cases h
    obtain ⟨hc, hag⟩ := hv.g_cells
    rw [cells_one (by simpa [Sh.isAgg] using hag)] at hc
    simp only [RC, List.cons.injEq, and_true] at hc
    obtain ⟨A, cp, rfl, _⟩ := hc
    exact ⟨A, cp, rfl⟩
  · rename_i hh
    split at h
    · rename_i s xs ho
      cases h
      cases hv with
      | full _ _ hsl _ =>
        have := hsl _ _ ho
        unfold SlV at this
        cases hm : m hh with
        | none => rw [hm] at this; exact ⟨none, 0, by rw [this.1, this.2]⟩
        | some b =>
          rw [hm] at this
          obtain ⟨o0, cp, rfl, _⟩ := this
          exact ⟨_, _, rfl⟩
    · cases h
  · rename_i hh off len
    split at h
    · rename_i s xs ho
      cases h
      cases hv with
      | slc _ _ _ _ hsl _ =>
        have := (hsl _ _ ho).1
        unfold SlV at this
        cases hm : m hh with
        | none => rw [hm] at this; exact ⟨none, 0, by rw [this.1, this.2]⟩
        | some b =>
          rw [hm] at this
          obtain ⟨o0, cp, rfl, _⟩ := this
          exact ⟨_, _, rfl⟩
    · cases h
  · cases h
    cases hv
    exact ⟨none, 0, rfl⟩
  · cases h

end

end Go.Proofs.Ytmdicmdodbndgaa.Fw
