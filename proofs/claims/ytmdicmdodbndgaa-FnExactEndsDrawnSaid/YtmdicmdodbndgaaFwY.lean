/-
  Steps of the evaluator are steps of the model: copy. No condition.
-/
import Derived.Test.YtmdicmdodbndgaaFwX
namespace Go.Proofs.Ytmdicmdodbndgaa.Fw
open Go Go.RowKit

theorem RC.take {ok : Bool → Nat → Prop} {H : Array Obj} {s : Sh} {ys : List s.den} {A : Option Addr} {cp n : Nat} (h : RC ok H (.sl s) ys [.slice A ys.length cp]) (hn : n ≤ ys.length) : RC ok H (.sl s) (ys.take n) [.slice A (ys.take n).length cp] := by
  simp only [RC] at h ⊢
  obtain ⟨A', c, h1, h2, h3⟩ := h
  simp only [List.cons.injEq, Value.slice.injEq, and_true, true_and] at h1
  obtain ⟨rfl, rfl⟩ := h1
  refine ⟨A, cp, rfl, by rw [List.length_take]; omega, fun hne => ?_⟩
  obtain ⟨b, off, g1, g2, g3⟩ := h3 (fun he => hne (by rw [he]; simp))
  refine ⟨b, off, g1, g2, fun i x hx => g3 i x ?_⟩
  rw [List.getElem?_take] at hx
  split at hx
  · exact hx
  · cases hx

theorem copyL_len {α : Type} {xs ys : List α} {off n : Nat} (h : off + n ≤ xs.length) (hn : n ≤ ys.length) : (copyL xs off n ys).length = xs.length := by
  unfold copyL
  simp only [List.length_append, List.length_take, List.length_drop]
  omega

theorem copyL_get {α : Type} {xs ys : List α} {off n : Nat} (h : off + n ≤ xs.length) (hn : n ≤ ys.length) (i : Nat) :
    (copyL xs off n ys)[i]? = if off ≤ i ∧ i < off + n then ys[i - off]? else xs[i]? := by
  unfold copyL
  rw [List.getElem?_append]
  simp only [List.length_take]
  by_cases h1 : i < off
  · rw [if_pos (by omega), if_neg (by omega), List.getElem?_take, if_pos h1]
  · rw [if_neg (by omega), List.getElem?_append]
    simp only [List.length_take]
    by_cases h2 : i < off + n
    · rw [if_pos (by omega), if_pos (by omega), List.getElem?_take, if_pos (by omega)]
      congr 1
      omega
    · rw [if_neg (by omega), if_neg (by omega), List.getElem?_drop]
      congr 1
      omega

section
variable {P : Program} {tt : Nat → TD} {T : Nat → List EntX} {q : Bool} {c : Cx} {E : Env} {st : St} {m : Nat → Option Nat} {a : Act} {w : World} {ρ : Type} {K : St → Option ρ} {r : ρ} {o : Oper}

theorem dst_sound {s : Sh} {av : AV} {h off len : Nat} {xs : List s.den} {u : Value} (hv : RVs c E st m w av u) (hd : dstOf (look st.objs) s av = some (h, off, len, xs)) :
    look st.objs h = some (.arr s xs) ∧ SlV m w.heap h s.size off len u ∧ off + len ≤ xs.length := by
  unfold dstOf at hd
  split at hd
  · rename_i k
    split at hd
    · rename_i s' zs hl
      split at hd
      · rename_i ys hc
        obtain ⟨e1, rfl⟩ := castSh_some hc
        cases e1
        simp only [Option.some.injEq, Prod.mk.injEq] at hd
        obtain ⟨rfl, rfl, rfl, rfl⟩ := hd
        cases hv with
        | full _ _ hs _ => exact ⟨hl, hs _ _ (ob_of_look hl), by omega⟩
      · cases hd
    · cases hd
  · rename_i k o1 l1
    split at hd
    · rename_i s' zs hl
      split at hd
      · rename_i ys hc
        obtain ⟨e1, rfl⟩ := castSh_some hc
        cases e1
        simp only [Option.some.injEq, Prod.mk.injEq] at hd
        obtain ⟨rfl, rfl, rfl, rfl⟩ := hd
        cases hv with
        | slc _ _ _ _ hs _ => exact ⟨hl, (hs _ _ (ob_of_look hl)).1, (hs _ _ (ob_of_look hl)).2⟩
      · cases hd
    · cases hd
  · cases hd

theorem below_setB (w : World) {b : Nat} {S : Nat → Prop} (hS : S b) {cs cs' : Array Value} {e : TypeId} (h0 : w.heap[b]? = some (.cells cs e (0, 0))) (hs : cs'.size = cs.size) :
    BelowX w.heap.size S w (setB w b (.cells cs' e (0, 0))) := by
  refine ⟨rfl, rfl, rfl, by rw [setB_size]; exact Nat.le_refl _, fun k hk hn => setB_heap_ne _ _ (fun h => hn (by rw [← h]; exact hS)), fun k hk => ?_⟩
  by_cases hkb : b = k
  · subst hkb
    unfold Fw.bsz
    rw [setB_get _ _ _ (lt_of_some h0), h0]
    simp [hs]
  · exact bsz_congr (setB_heap_ne _ _ hkb)

theorem s_copy {args : Array Operand} {ats : Array TypeId} (hP : ∀ t, TDok P t (tt t)) (hS : SimM c E st m a w) (hop : o.op = .call { callee := .builtin .copy, args := args, argTypes := ats })
    (h : aop tt T E q o st K = some r) : Done P c E K r o a w := by
  simp only [aop, hop] at h
  split at h
  · rename_i hb _; cases hb
  · rename_i hb _; cases hb
  · rename_i hb _; cases hb
  · rename_i hb _; cases hb
  · rename_i x y _ hxy
    split at h
    · rename_i t ht
      split at h
      · rename_i s by0 he
        split at h
        · rename_i hh off len xs ys hdst hys
          obtain ⟨hc, h'⟩ := cond_some h
          simp only [Bool.and_eq_true, Bool.not_eq_true'] at hc
          obtain ⟨⟨_, hsz1⟩, href⟩ := hc
          have hsz1 : s.size = 1 := Nat.eq_of_beq_eq_true hsz1
          clear h
          obtain ⟨e, inf, hu, hinf, hsz, hby, hby', hzz⟩ := (hP t).elem _ _ he
          obtain ⟨p1, p2, hargs, hp1, hp2⟩ : ∃ p1 p2, args.toList = [p1, p2] ∧ E.ev st p1 = x ∧ E.ev st p2 = y := by
            match hl : args.toList, hxy with
            | [p1, p2], hxy =>
              simp only [List.map_cons, List.map_nil, List.cons.injEq, and_true] at hxy
              exact ⟨p1, p2, rfl, hxy.1, hxy.2⟩
          have hx := hS.ev p1
          have hy := hS.ev p2
          rw [hp1] at hx
          rw [hp2] at hy
          generalize hu1 : a.eval p1 = u at hx
          generalize hu2 : a.eval p2 = v at hy
          have hone2 : oneV v = true := by
            cases hy with
            | top => simp [gnd] at hys
            | g s' x' v hc ha =>
              simp only [gnd] at hys
              have h1 := (castW_some (ok := c.ok m (E.ob st) w.heap) (H := w.heap) (hw := fun b hb => Cx.ok_any hb) hys).1
              have h2 : aggV v = false := by rw [ha, h1]; rfl
              rw [cells_one h2] at hc
              exact hc.one v (by simp)
            | full _ _ _ ho => exact ho
            | slc _ _ _ _ _ ho => exact ho
            | ptr _ _ _ _ ho => exact ho
            | el _ _ _ _ ho => exact ho
            | rp => rfl
            | nil => rfl
            | agg => simp [gnd] at hys
            | tup => simp [gnd] at hys
            | fn => rfl
          have hR2 := gnd_sound (m := m) (ok := c.ok m (E.ob st) w.heap) (okA := fun _ b => b < w.heap.size) (mt := c.mt) (vs := [v]) (fun i b hb => hb.1) (fun b hb => Cx.ok_any hb) (fun h o ho => ho) hS.objs (fun i k o b ho hb => by
            obtain ⟨_, cs, e, hh⟩ := (hS.objs k o ho).block hb
            exact lt_of_some hh) hys rfl (fun i av u h1 h2 => by
              cases i with
              | zero => cases h1; cases h2; exact hy
              | succ i => simp at h1) (by simp [hone2])
          obtain ⟨A2, cp2, _, rfl, _⟩ := run_first (P := P) hR2
          have hn1 : copyN len ys ≤ ys.length := Nat.min_le_left _ _
          have hn2 : copyN len ys ≤ len := Nat.min_le_right _ _
          obtain ⟨A3, cp3, news, hv3, n1, n2, n3, n4⟩ := run_first (P := P) (hR2.take hn1)
          cases hv3
          have hnl : (ys.take (copyN len ys)).length = copyN len ys := by rw [List.length_take]; omega
          rw [hsz1, Nat.mul_one, hnl] at n1
          obtain ⟨hlk, hsl, hfit⟩ := dst_sound hx hdst
          have hcells : ∀ l' c', (Builtin.firstCells 1 (copyN len ys) (.slice A2 l' c')).run P w = .ok news.toArray w := fun l' c' => by
            have := n4 w rfl
            rw [hsz1, hnl] at this
            cases A2 with
            | none => simpa [Builtin.firstCells] using this
            | some A => simpa [Builtin.firstCells] using this
          -- what the operation does, base aside
          have hrunO : ∀ {base : Option Addr} {l c : Nat} {w' : World}, u = .slice base l c → l = len → (∀ w1 : World, True → (match base with | some a => storeCells a news | none => (pure () : Sem Unit)).run P w = .ok () w') →
              (execOp a.eval o).run P w = .ok (.value (.int .i64 (copyN len ys : Nat))) w' := by
            intro base l c0 w' hu0 hl0 hst
            subst hl0
            have ha : args = #[p1, p2] := Array.toList_inj.1 hargs
            subst ha
            have h1 := hst w trivial
            have hsize : (sizeOf e).run P w = .ok 1 w := by rw [run_size hinf, hsz, hsz1]
            unfold execOp
            simp only [hop, resolve, invoke, builtin, Sem.run_bind, Sem.run_pure, Result.andThen_ok, List.map_toArray, List.map_cons, List.map_nil, hu1, hu2, hu0]
            unfold Builtin.copy_
            cases base with
            | none =>
              simp only [ht, run_underlying hu, Builtin.lenOf, Sem.run_bind, Sem.run_pure, Result.andThen_ok, hsize, List.getElem?_toArray, List.getElem?_cons_zero, List.getElem?_cons_succ]
              have hn := hcells ys.length cp2
              unfold copyN at hn
              simp only [hn, Result.andThen_ok]
              simp at h1
              subst h1
              rfl
            | some ad =>
              simp only [ht, run_underlying hu, Builtin.lenOf, Sem.run_bind, Sem.run_pure, Result.andThen_ok, hsize, List.getElem?_toArray, List.getElem?_cons_zero, List.getElem?_cons_succ]
              have hn := hcells ys.length cp2
              unfold copyN at hn
              simp only [hn, Result.andThen_ok]
              simp only at h1
              simp only [h1, Result.andThen_ok]
              rfl
          have hro := hS.objs hh _ (ob_of_look hlk)
          unfold SlV at hsl
          simp only [RO] at hro
          have hlen := copyL_len (xs := xs) (ys := ys) (off := off) (n := copyN len ys) (by omega) hn1
          cases hm : m hh with
          | none =>
            rw [hm] at hsl hro
            obtain ⟨hu0, hl0⟩ := hsl
            have hnil : copyL xs off (copyN len ys) ys = [] := List.eq_nil_of_length_eq_zero (by rw [hlen, hro]; rfl)
            have hS' := hS.mutate (ys := copyL xs off (copyN len ys) ys) hlk hlen href (w' := w) ⟨rfl, rfl, rfl, Nat.le_refl _, fun _ _ _ => rfl, fun _ _ => rfl⟩ (by rw [hm]; exact hnil)
            exact .inr (op_value (hrunO hu0 hl0.symm (fun _ _ => by simp)) (wr_post hS' o.dst mk_int h'))
          | some b =>
            rw [hm] at hsl hro
            obtain ⟨o0, cp, hu0, hcp, ho0, hbs⟩ := hsl
            obtain ⟨hmt, cs, e', hg, hrow, hel⟩ := hro
            rw [hsz1, Nat.mul_one] at hrow
            by_cases hz : copyN len ys = 0
            · have hnews : news = [] := List.eq_nil_of_length_eq_zero (by omega)
              have hid : copyL xs off (copyN len ys) ys = xs := by
                rw [hz]
                unfold copyL
                simp
              have hS' := hS.mutate (ys := copyL xs off (copyN len ys) ys) hlk hlen href (w' := w) ⟨rfl, rfl, rfl, Nat.le_refl _, fun _ _ _ => rfl, fun _ _ => rfl⟩ (by
                rw [hm, hid]
                exact ⟨_, cs, e', hg, by rw [hsz1, Nat.mul_one]; exact hrow, hel⟩)
              exact .inr (op_value (hrunO hu0 rfl (fun _ _ => by subst hnews; simp [storeCells])) (wr_post hS' o.dst mk_int h'))
            · have hoff : o0 = off := by
                have := ho0 (by omega)
                rw [hsz1, Nat.mul_one] at this
                exact this
              subst hoff
              have hle : o0 + news.length ≤ cs.size := by omega
              have hst := run_storeCells (P := P) b news n2 o0 0 w cs e' hg (by simpa using hle)
              simp only [Nat.add_zero] at hst
              have hS' := hS.mutate (ys := copyL xs o0 (copyN len ys) ys) hlk hlen href (w' := setB w b (.cells (lay cs o0 news) e' (0, 0))) (below_setB w hm hg (lay_size _ _ _)) (by
                rw [hm]
                refine ⟨fun _ _ => True, lay cs o0 news, e', setB_get _ _ _ (lt_of_some hg), by rw [lay_size, hsz1, Nat.mul_one, hlen]; exact hrow, fun i x hx => ?_⟩
                rw [copyL_get (by omega) hn1] at hx
                split at hx
                · rename_i hi
                  have hx' : (ys.take (copyN len ys))[i - o0]? = some x := by rw [List.getElem?_take, if_pos (by omega)]; exact hx
                  obtain ⟨l, l1, l2, l3⟩ := n3 _ _ hx'
                  refine ⟨l, l1, fun j z hj => ?_, RC.noref href l3⟩
                  have hj1 := lt_of_getl hj
                  have := l2 j z hj
                  rw [hsz1, Nat.mul_one] at this
                  unfold cellH
                  rw [setB_get _ _ _ (lt_of_some hg)]
                  simp only
                  rw [lay_get _ _ _ hle, if_pos (by rw [hsz1]; omega), ← this]
                  congr 1
                  rw [hsz1]
                  omega
                · rename_i hi
                  obtain ⟨l, l1, l2, l3⟩ := hel i x hx
                  refine ⟨l, l1, fun j z hj => ?_, RC.noref href l3⟩
                  have hj1 := lt_of_getl hj
                  have := l2 j z hj
                  unfold cellH at this ⊢
                  rw [hg] at this
                  rw [setB_get _ _ _ (lt_of_some hg)]
                  simp only at this ⊢
                  rw [lay_get _ _ _ hle, if_neg (by rw [hsz1]; omega)]
                  exact this)
              exact .inr (op_value (hrunO hu0 rfl (fun _ _ => hst)) (wr_post hS' o.dst mk_int h'))
        · cases h
      · cases h
    · cases h
  · rename_i hne1 hne2 hne3 hne4 hne5
    cases h

end

end Go.Proofs.Ytmdicmdodbndgaa.Fw
