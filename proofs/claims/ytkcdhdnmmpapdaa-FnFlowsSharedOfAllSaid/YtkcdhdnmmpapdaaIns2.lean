/-
  slices.Insert at []int64: its contract, where one number is put in. No condition.
-/
import Derived.Test.YtkcdhdnmmpapdaaIns1
namespace Go.Proofs.Ytkcdhdnmmpapdaa
open Go Go.RowKit Go.Proofs.Ytkcdhdnmmpapdaa.Fw
set_option maxRecDepth 100000
set_option linter.unusedVariables false

theorem setCells_setB (b : Nat) : ∀ (l : List Value) (o : Nat) (w : World) (cs : Array Value) (e : TypeId), w.heap[b]? = some (.cells cs e (0, 0)) → w.setCells b o l = setB w b (.cells (Fw.lay cs o l) e (0, 0)) := by
  intro l
  induction l with
  | nil =>
    intro o w cs e h
    have he : w.heap.setIfInBounds b (.cells cs e (0, 0)) = w.heap := by
      apply Array.ext_getElem?
      intro i
      rw [Array.getElem?_setIfInBounds]
      split
      · rename_i hi
        subst hi
        have := (Array.getElem?_eq_some_iff.1 h).1
        rw [if_pos this, h]
      · rfl
    unfold World.setCells Fw.lay setB
    rw [he]
  | cons v r ih =>
    intro o w cs e h
    have hlt : b < w.heap.size := (Array.getElem?_eq_some_iff.1 h).1
    show (w.setCell ⟨b, o, none⟩ v).setCells b (o + 1) r = _
    rw [setCell_setB w b o v cs e h, ih (o + 1) _ (cs.setIfInBounds o v) e (setB_get w b _ hlt), setB_setB]
    rfl

theorem row_vals {H : Array Obj} {b : Nat} {xs : List Int} {w : World} (h : RowAt (fun _ _ => False) w.heap (.int .i64) xs b) : ∀ (j : Nat) (v : Value), (xs.map (Value.int .i64))[j]? = some v → w.cell? ⟨b, j, none⟩ = some v := by
  obtain ⟨cs, e, h1, h2, h3⟩ := h
  intro j v hj
  rw [List.getElem?_map] at hj
  cases hx : xs[j]? with
  | none => rw [hx] at hj; cases hj
  | some x =>
    rw [hx] at hj
    obtain ⟨l, l1, l2, l3⟩ := h3 j x hx
    have l3 : l = [.int .i64 x] := l3
    subst l3
    have := l2 0 (.int .i64 x) rfl
    rw [cell_eq]
    cases hj
    simpa [Sh.size] using this

theorem callOk_of {P : Program} {f : FuncId} {fn : Func} {code : Code} {vals : Array Value} {w : World} {R : Value → World → Prop} (hf : P.funcs[f]? = some fn) (hb : fn.body = some code) (hn : (fn.name == "runtime.NumGoroutine") = false)
    (h : Calls P f vals w fun e w' => ∃ r, e = .returned r ∧ R r w') : CallOk P f vals w R := by
  unfold CallOk
  rw [enter_of hf hb hn]
  exact ⟨rfl, h⟩

/-- The list with one number put in, element for element. -/
theorem put_get {xs ys : List Int} {k i : Nat} (hk : k ≤ xs.length) (hy : ys.length = 1) : (xs.take k ++ (ys ++ xs.drop k))[i]? = if i < k then xs[i]? else if i < k + 1 then ys[i - k]? else xs[i - 1]? := by
  have ht : (xs.take k).length = k := by simp; omega
  rw [List.getElem?_append, ht]
  split
  · rename_i h
    rw [List.getElem?_take, if_pos h]
  · rename_i h
    rw [List.getElem?_append, hy]
    by_cases h2 : i < k + 1
    · rw [if_pos (by omega), if_pos h2]
    · rw [if_neg (by omega), if_neg h2, List.getElem?_drop, show k + (i - k - 1) = i - 1 by omega]

theorem put_len {xs ys : List Int} {k : Nat} (hk : k ≤ xs.length) (hy : ys.length = 1) : (xs.take k ++ (ys ++ xs.drop k)).length = xs.length + 1 := by
  simp
  omega

set_option maxHeartbeats 1000000 in
theorem ins_calls (w : World) (v u : Value) (ob : Option Nat) (k : Nat) (xs ys : List Int) (vb : Nat) (hM : MutR (fun _ _ => False) w.heap (.int .i64) xs v ob) (hK : MutR (fun _ _ => False) w.heap (.int .i64) ys u (some vb)) (hne : ob ≠ some vb)
    (hk : k ≤ xs.length) (hbig : xs.length ≤ 1000000) (hy : ys.length = 1) :
    Calls Try.prog 97 #[v, .int .i64 (k : Int), u] w fun e w' => ∃ r, e = .returned r ∧ AppR w w' (xs.take k ++ (ys ++ xs.drop k)) r ob := by
  obtain ⟨hrow, oo, vc, rfl, hvl, hvo, hvcap⟩ := hK
  rw [hy] at hvl
  have hvo : oo = 0 := hvo (by omega)
  subst hvo
  obtain ⟨vcs, ve, hvh, hvs, _⟩ := id hrow
  have hvv := row_vals (H := w.heap) hrow
  have hvm : (ys.map (Value.int .i64)).length = 1 := by simpa using hy
  have one : ∀ (l : List Int), ∀ x ∈ l.map (Value.int .i64), x.oneCell' = true := fun l x hx => by
    obtain ⟨n, _, rfl⟩ := List.mem_map.1 hx
    rfl
  have hzl := put_len hk hy
  -- a row of its own, that holds xs and then ys
  have endg : ∀ {base : Option Addr} {n c : Nat} {w' : World} {e : Ending}, n = xs.length → k = n → (e = .returned (.slice (some ⟨w.heap.size, 0, none⟩) (n + 1) (grownCap w (n + 1) c 2)) ∧
      w' = w.drew.alloc (.cells ((xs.map (Value.int .i64) ++ ys.map (Value.int .i64)).toArray ++ Builtin.zeroCells (Value.int .i64 0).cells (grownCap w (n + 1) c 2 - (n + 1))) 2)) →
      ∃ r, e = .returned r ∧ AppR w w' (xs.take k ++ (ys ++ xs.drop k)) r ob := by
    rintro base n c w' e hn rfl ⟨rfl, rfl⟩
    have hge := grownCap_ge w (k + 1) c 2
    refine ⟨_, rfl, .inr ⟨_, 2, grownCap w (k + 1) c 2, ⟨rfl, rfl, rfl, rfl⟩, fun i x hx => ?_, by rw [hzl, ← hn], by rw [hzl, ← hn]; exact hge, ?_⟩⟩
    · rw [hn] at hx
      have e2 : xs.take xs.length ++ (ys ++ xs.drop xs.length) = xs ++ ys := by simp
      rw [e2] at hx
      have hlt := (List.getElem?_eq_some_iff.1 hx).1
      rw [Array.getElem?_append_left (by simpa using hlt)]
      rw [List.getElem?_toArray, ← List.map_append, List.getElem?_map, hx]
      rfl
    · simp [Builtin.zeroCells, Value.cells, hy]
      omega
  cases ob with
  | none =>
    obtain ⟨rfl, rfl⟩ := hM
    have hk0 : k = 0 := by simpa using hk
    subst hk0
    rw [hy]
    refine (ins_end_grow none 0 0 vb 0 1 vc [] (ys.map (Value.int .i64)) w (by omega) (by omega) (by omega) (by omega) rfl hvm (fun _ => rfl) (fun a ha => by cases ha) (fun j x hj => by rw [Nat.zero_add]; exact hvv j x hj) (one ys)).mono ?_
    intro e w' h
    exact endg (base := none) (n := 0) (c := 0) rfl rfl h
  | some b =>
    obtain ⟨hrx, o, c, rfl, hcl, ho, hcap⟩ := hM
    obtain ⟨cs, e0, hh, hs, _⟩ := id hrx
    have hxv := row_vals (H := w.heap) hrx
    have hbb : vb ≠ b := fun h => hne (by rw [h])
    have hcs : c ≤ cs.size := by
      have := hcap cs.size (by simp [Fw.bsz, hh])
      simpa [Sh.size] using this
    have hx1 : (xs.map (Value.int .i64)).length = xs.length := by simp
    have hfz : ∀ j, w.frozen? ⟨b, j, none⟩ = false := fun j => by simp [World.frozen?, hh]
    have hvz : ∀ j, w.frozen? ⟨vb, j, none⟩ = false := fun j => by simp [World.frozen?, hvh]
    have hsome : ∀ j, j < c → (w.cell? ⟨b, j, none⟩).isSome = true := fun j hj => by
      rw [cell_eq]
      unfold cellH
      rw [hh]
      simp only
      rw [Array.getElem?_eq_getElem (by omega)]
      rfl
    have hel : ∀ (i : Nat) (x : Int) (l : List Int), l[i]? = some x → (l.map (Value.int .i64))[i]? = some (.int .i64 x) := fun i x l hx => by
      rw [List.getElem?_map, hx]
      rfl
    have hcx : ∀ (i : Nat) (x : Int), xs[i]? = some x → cs[i]? = some (.int .i64 x) := fun i x hx => by
      have := hxv i _ (hel i x xs hx)
      rw [cell_eq] at this
      unfold cellH at this
      rw [hh] at this
      exact this
    by_cases hroom : xs.length + 1 ≤ c
    · have ho : o = 0 := ho (by omega)
      subst ho
      by_cases hke : k = xs.length
      · rw [hy]
        have h0 := ins_end_room b 0 xs.length c vb 0 1 vc (ys.map (Value.int .i64)) w (by omega) hroom (by omega) hvm (fun j hj => by rw [Nat.zero_add]; exact hsome _ (by omega)) (fun j hj => hfz _) (fun j x hj => by rw [Nat.zero_add]; exact hvv j x hj) (one ys)
        rw [← hke] at h0 ⊢
        refine h0.mono ?_
        rintro e w' ⟨rfl, rfl⟩
        rw [Nat.zero_add, setCells_setB b _ _ w cs e0 hh]
        refine ⟨_, rfl, .inl ⟨b, cs, _, e0, 0, c, rfl, hh, lay_size _ _ _, SameW.refl _, fun i x hx => ?_, by rw [hzl, ← hke], by rw [hzl]; exact hroom, fun _ => rfl, hcs⟩⟩
        rw [put_get hk hy] at hx
        rw [lay_get _ _ _ (by rw [hvm]; omega), hvm]
        by_cases h1 : i < k
        · rw [if_pos h1] at hx
          rw [if_neg (by omega)]
          exact hcx i x hx
        · rw [if_neg h1] at hx
          by_cases h2 : i < k + 1
          · rw [if_pos h2] at hx
            rw [if_pos (by omega)]
            exact hel _ _ _ hx
          · rw [if_neg h2] at hx
            have := (List.getElem?_eq_some_iff.1 hx).1
            omega
      · rw [hy]
        refine (ins_shift b 0 xs.length c k vb 0 1 vc (xs.map (Value.int .i64)) (ys.map (Value.int .i64)) w (by omega) (by omega) hroom (by omega) hbb hx1 hvm (fun j x hj => by rw [Nat.zero_add]; exact hxv j x hj) (fun j hj => by rw [Nat.zero_add]; exact hsome _ (by omega)) (fun j hj => hfz _)
          (fun j x hj => by rw [Nat.zero_add]; exact hvv j x hj) (one xs) (one ys) ve e0 vcs.size cs.size (by simp [World.shape?, hvh]) (by simp [World.shape?, hh]) (by omega) (hvz _) (hvz _)).mono ?_
        rintro e w' ⟨rfl, rfl⟩
        have hd : w.drew.heap[b]? = some (.cells cs e0 (0, 0)) := hh
        have hlt : b < w.drew.heap.size := (Array.getElem?_eq_some_iff.1 hd).1
        rw [Nat.zero_add, Nat.zero_add, setCells_setB b _ _ w.drew cs e0 hd, setCells_setB b _ _ _ _ e0 (setB_get _ _ _ hlt), setB_setB]
        have hdl : ((xs.map (Value.int .i64)).drop k).length = xs.length - k := by simp
        refine ⟨_, rfl, .inl ⟨b, cs, _, e0, 0, c, rfl, hh, by rw [lay_size, lay_size], ⟨rfl, rfl, rfl, rfl⟩, fun i x hx => ?_, by rw [hzl], by rw [hzl]; exact hroom, fun _ => rfl, hcs⟩⟩
        rw [put_get hk hy] at hx
        rw [lay_get _ _ _ (by rw [lay_size, hvm]; omega), hvm, lay_get _ _ _ (by rw [hdl]; omega), hdl]
        by_cases h1 : i < k
        · rw [if_pos h1] at hx
          rw [if_neg (by omega), if_neg (by omega)]
          exact hcx i x hx
        · rw [if_neg h1] at hx
          by_cases h2 : i < k + 1
          · rw [if_pos h2] at hx
            rw [if_pos (by omega)]
            exact hel _ _ _ hx
          · rw [if_neg h2] at hx
            have := (List.getElem?_eq_some_iff.1 hx).1
            rw [if_neg (by omega), if_pos (by omega), List.getElem?_drop, show k + (i - (k + 1)) = i - 1 by omega]
            exact hel _ _ _ hx
    · by_cases hke : k = xs.length
      · rw [hy]
        refine (ins_end_grow (some ⟨b, o, none⟩) xs.length c vb 0 1 vc (xs.map (Value.int .i64)) (ys.map (Value.int .i64)) w (by omega) hcl (by omega) (by omega) hx1 hvm (fun h => by cases h) (fun a ha j x hj => ?_) (fun j x hj => by rw [Nat.zero_add]; exact hvv j x hj) (one ys)).mono ?_ |> fun h => by rw [← hke] at h ⊢; exact h
        · cases ha
          have hlt := (List.getElem?_eq_some_iff.1 hj).1
          have ho : o = 0 := ho (by rw [hx1] at hlt; omega)
          rw [add_mk, ho, Nat.zero_add]
          exact hxv j x hj
        · intro e w' h
          exact endg (base := some ⟨b, o, none⟩) (n := xs.length) (c := c) rfl hke h
      · have ho : o = 0 := ho (by omega)
        subst ho
        rw [hy]
        refine (ins_grow b 0 xs.length c k vb 0 1 vc (xs.map (Value.int .i64)) (ys.map (Value.int .i64)) w (by omega) (by omega) hcl (by omega) (by omega) hx1 hvm (fun j x hj => by rw [Nat.zero_add]; exact hxv j x hj) (fun j x hj => by rw [Nat.zero_add]; exact hvv j x hj) (one xs) (one ys)).mono ?_
        rintro e w' ⟨rfl, rfl⟩
        have hge := grownCap_ge w (xs.length + 1) c 2
        generalize hG : grownCap w (xs.length + 1) c 2 = G at hge ⊢
        generalize hR : (((xs.map (Value.int .i64)).take k).toArray ++ Builtin.zeroCells (Value.int .i64 0).cells (xs.length + 1 - k) ++ Builtin.zeroCells (Value.int .i64 0).cells (G - (xs.length + 1))) = R
        have hRs : R.size = G := by
          rw [← hR]
          simp [Builtin.zeroCells, Value.cells]
          omega
        have hRg : ∀ i, i < k → R[i]? = (xs.map (Value.int .i64))[i]? := fun i hi => by
          rw [← hR, Array.append_assoc, Array.getElem?_append_left (by simp; omega), List.getElem?_toArray, List.getElem?_take, if_pos hi]
        have h1 : ((w.alloc (.cells R 2)).drew).heap[w.heap.size]? = some (.cells R 2 (0, 0)) := by
          show (w.heap.push _)[w.heap.size]? = _
          simp
        have hlt : w.heap.size < ((w.alloc (.cells R 2)).drew).heap.size := (Array.getElem?_eq_some_iff.1 h1).1
        rw [setCells_setB w.heap.size _ _ _ R 2 h1]
        have h2 : (setB ((w.alloc (.cells R 2)).drew) w.heap.size (.cells (Fw.lay R k (ys.map (Value.int .i64))) 2 (0, 0))).drew.heap[w.heap.size]? = some (.cells (Fw.lay R k (ys.map (Value.int .i64))) 2 (0, 0)) := setB_get _ _ _ hlt
        rw [setCells_setB w.heap.size _ _ _ _ 2 h2]
        have hdl : ((xs.map (Value.int .i64)).drop k).length = xs.length - k := by simp
        refine ⟨_, rfl, .inr ⟨Fw.lay (Fw.lay R k (ys.map (Value.int .i64))) (k + 1) ((xs.map (Value.int .i64)).drop k), 2, G, ⟨?_, rfl, rfl, rfl⟩, fun i x hx => ?_, by rw [hzl], by rw [hzl]; exact hge, by rw [lay_size, lay_size, hRs]; exact Nat.le_refl _⟩⟩
        · show ((w.heap.push _).setIfInBounds w.heap.size _).setIfInBounds w.heap.size _ = w.heap.push _
          apply Array.ext_getElem?
          intro i
          rw [Array.getElem?_setIfInBounds, Array.getElem?_setIfInBounds, Array.getElem?_push, Array.getElem?_push]
          by_cases hi : w.heap.size = i
          · subst hi
            simp
          · rw [if_neg hi, if_neg hi, if_neg (Ne.symm hi), if_neg (Ne.symm hi)]
        · rw [put_get hk hy] at hx
          rw [lay_get _ _ _ (by rw [lay_size, hRs, hdl]; omega), hdl, lay_get _ _ _ (by rw [hRs, hvm]; omega), hvm]
          by_cases h1 : i < k
          · rw [if_pos h1] at hx
            rw [if_neg (by omega), if_neg (by omega), hRg i h1]
            exact hel _ _ _ hx
          · rw [if_neg h1] at hx
            by_cases h2 : i < k + 1
            · rw [if_pos h2] at hx
              rw [if_neg (by omega), if_pos (by omega)]
              exact hel _ _ _ hx
            · rw [if_neg h2] at hx
              have := (List.getElem?_eq_some_iff.1 hx).1
              rw [if_pos (by omega), List.getElem?_drop, show k + (i - (k + 1)) = i - 1 by omega]
              exact hel _ _ _ hx

theorem ins_sound : SoundA Try.prog 97 { F := fun xs i y => insF xs i y } := by
  intro w v u ob i xs y z hM h3 hF
  have hF : insF xs i y = some z := hF
  obtain ⟨code, hcode⟩ : ∃ code, Try.f97.body = some code := ⟨_, rfl⟩
  refine callOk_of Try.func97 hcode (by kernel_rfl) ?_
  cases y with
  | inl ys =>
    unfold insF at hF
    dsimp only at hF
    obtain ⟨hc, hz⟩ := cond_some hF
    simp only [Bool.and_eq_true, decide_eq_true_eq] at hc
    obtain ⟨⟨⟨h0, h1⟩, hbig⟩, hlen⟩ := hc
    have hlen := Nat.eq_of_beq_eq_true hlen
    obtain ⟨k, rfl⟩ := Int.eq_ofNat_of_zero_le h0
    obtain ⟨kb, hK, hne⟩ := h3
    cases kb with
    | none =>
      obtain ⟨_, rfl⟩ := hK
      cases hlen
    | some vb =>
      have hz : z = xs.take k ++ (ys ++ xs.drop k) := by
        rw [Int.toNat_natCast] at hz
        exact (Option.some.inj hz).symm
      rw [hz]
      exact ins_calls w v u ob k xs ys vb hM hK (hne vb rfl) (by omega) hbig hlen
  | inr j => cases hF

end Go.Proofs.Ytkcdhdnmmpapdaa
