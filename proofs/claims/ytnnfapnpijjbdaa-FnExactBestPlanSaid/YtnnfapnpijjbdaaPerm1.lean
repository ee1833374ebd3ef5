/-
  impl.permute: the closure that puts one more in. No condition.
-/
import Derived.WalkKit
import Derived.OwnWalk
import Derived.Test.YtnnfapnpijjbdaaChecked
import Derived.Test.YtnnfapnpijjbdaaPermF
namespace Go.Proofs.Ytnnfapnpijjbdaa
open Go Go.RowKit Go.Proofs.Ytnnfapnpijjbdaa.Fw
set_option maxRecDepth 100000
set_option linter.unusedVariables false
set_option linter.unusedSimpArgs false

theorem perm_set {W : World} {b : Nat} {o : Obj} (h : W.heap[b]? = some o) (a : Addr) (hab : b ≠ a.block) (v : Value) : (W.setCell a v).heap[b]? = some o := (Below.heap_setCell _ _ _ _ hab).trans h
theorem perm_alloc {W : World} {b : Nat} {o : Obj} (h : W.heap[b]? = some o) (o' : Obj) : (W.alloc o').heap[b]? = some o := by
  have hlt := lt_of_block h
  show (W.heap.push o')[b]? = some o
  rw [Array.getElem?_push, if_neg (by omega)]
  exact h
theorem perm_grown {W W' : World} {b r : Nat} {o : Obj} (h : W.heap[b]? = some o) (hg : W.grownBy W' (some r)) (hbr : b ≠ r) : W'.heap[b]? = some o := (hg.block b (lt_of_block h) (fun e => hbr (by have := Option.some.inj e; omega))).trans h

theorem perm_row {w : World} {b i : Nat} {cs : Array Value} {t : TypeId} (h : w.heap[b]? = some (.cells cs t (0, 0))) (v : Value) : (w.setCell ⟨b, i, none⟩ v).heap[b]? = some (.cells (cs.setIfInBounds i v) t (0, 0)) := by
  have hlt := lt_of_block h
  have h' : w.heap[b] = .cells cs t (0, 0) := by simpa [Array.getElem?_eq_getElem hlt] using h
  show (w.heap.modify b _)[b]? = _
  rw [Array.getElem?_eq_getElem (by simpa using hlt), Array.getElem_modify_self, h']
  rfl

theorem perm_cell {w : World} {b i : Nat} {cs : Array Value} {t : TypeId} (h : w.heap[b]? = some (.cells cs t (0, 0))) : w.cell? ⟨b, i, none⟩ = cs[i]? := by simp [World.cell?, h]
theorem perm_free {w : World} {b i : Nat} {cs : Array Value} {t : TypeId} (h : w.heap[b]? = some (.cells cs t (0, 0))) : w.frozen? ⟨b, i, none⟩ = false := by simp [World.frozen?, h]

theorem grown_set (W : World) (b i : Nat) (v : Value) : W.grownBy (W.setCell ⟨b, i, none⟩ v) (some b) :=
  ⟨rfl, rfl, rfl, by simp, fun k hk hne => Below.heap_setCell _ _ _ _ (fun e => hne (by rw [e]))⟩

/-- The captured variables' cells, in the order in which impl.permute makes them. -/
def putPs (b : Nat) : List Value := [.pointer (some ⟨b + 3, 0, none⟩), .pointer (some ⟨b, 0, none⟩), .pointer (some ⟨b + 1, 0, none⟩), .pointer (some ⟨b + 5, 0, none⟩), .pointer (some ⟨b + 6, 0, none⟩)]

/-- What the closure finds: n, the function, the order, the marks, itself. -/
structure PI (n b : Nat) (DO : Value) (ord : List Int) (us : List Bool) (W : World) : Prop where
  nb : W.heap[b]? = some (.cells #[.int .i64 n] 3 (0, 0))
  db : W.heap[b + 1]? = some (.cells #[DO] 102 (0, 0))
  ar : ∃ cur, W.heap[b + 2]? = some (.cells cur 2 (0, 0)) ∧ cur.size = n ∧ cur.toList.take ord.length = ord.map (fun x => Value.int .i64 x)
  ob : W.heap[b + 3]? = some (.cells #[.slice (some ⟨b + 2, 0, none⟩) ord.length n] 22 (0, 0))
  us : W.heap[b + 4]? = some (.cells (us.map Value.bool).toArray 4 (0, 0))
  ub : W.heap[b + 5]? = some (.cells #[.slice (some ⟨b + 4, 0, none⟩) n n] 88 (0, 0))
  pb : W.heap[b + 6]? = some (.cells #[.func (.func 100) #[] (putPs b).toArray] 1 (0, 0))

theorem PI.other {n b : Nat} {DO : Value} {ord : List Int} {us : List Bool} {W W' : World} (h : PI n b DO ord us W) (hk : ∀ k, b ≤ k → k < b + 7 → W'.heap[k]? = W.heap[k]?) : PI n b DO ord us W' := by
  obtain ⟨h1, h2, h3, h4, h5, h6, h7⟩ := h
  refine ⟨(hk _ (by omega) (by omega)).trans h1, (hk _ (by omega) (by omega)).trans h2, ?_, (hk _ (by omega) (by omega)).trans h4, (hk _ (by omega) (by omega)).trans h5, (hk _ (by omega) (by omega)).trans h6, (hk _ (by omega) (by omega)).trans h7⟩
  obtain ⟨cur, c1, c2⟩ := h3
  exact ⟨cur, (hk _ (by omega) (by omega)).trans c1, c2⟩

set_option maxHeartbeats 4000000 in
theorem put_any {α : Type} {f : α → List Int → Option α} {J : α → World → Prop} {n b : Nat} {DO : Value} {caps : Array Value} (hDO : DO = .func (.func 86) #[] caps) (hn : n ≤ 1000) (hn1 : 1 ≤ n)
    (hJ : ∀ a W W' r, J a W → b ≤ r → r < b + 7 → W.grownBy W' (some r) → J a W')
    (hdo : ∀ (a a' : α) (W : World) (ord : List Int) (us : List Bool), J a W → PI n b DO ord us W → ord.length = n → f a ord = some a' →
      Calls Try.prog 86 (#[.slice (some ⟨b + 2, 0, none⟩) n n] ++ caps) W fun e W' => e = .returned (.tuple #[]) ∧ J a' W' ∧ ∀ k, b ≤ k → k < b + 7 → W'.heap[k]? = W.heap[k]?) :
    ∀ (r : Nat) (ord : List Int) (us : List Bool) (a a' : α) (W : World), ord.length + r = n → us.length = n → PI n b DO ord us W → J a W → runP f n r ord us a = some a' →
      Calls Try.prog 100 (putPs b).toArray W fun e W' => e = .returned (.tuple #[]) ∧ J a' W' ∧ PI n b DO ord us W' := by
  intro r
  induction r with
  | zero =>
    intro ord us a a' W hlen hus hP hJ0 hr
    have c1 := cell_of_one hP.nb
    have c2 := cell_of_one hP.db
    have c3 := cell_of_one hP.ob
    rw [show ord.length = n by omega] at c3
    rw [hDO] at c2
    have hcall := hdo a a' W ord us hJ0 hP (by omega) hr
    unfold putPs
    go_enter Try.func100, Try.ntmps100
    go_wp2_with (go_at_call 86; refine hcall.mono ?_; rintro e W' ⟨rfl, hJ', hk'⟩)
    refine bodyPost_ret (results_none rfl _ _ _) rfl ?_
    exact ⟨rfl, hJ', hP.other hk'⟩
  | succ r ih =>
    intro ord us a a' W hlen hus hP hJ0 hr
    have c1 := cell_of_one hP.nb
    have c3 := cell_of_one hP.ob
    have hdf : ord.length < n := by omega
    have hne : ((ord.length : Int) == (n : Int)) = false := by
      simp only [beq_eq_false_iff_ne]
      omega
    unfold putPs
    go_enter Try.func100, Try.ntmps100
    go_wp2_with fail
    go_loopw [14] (fun i wr => ∃ k : Nat, k ≤ n ∧ i = .int .i64 (k : Int) ∧ PI n b DO ord us wr ∧ ∃ ak, J ak wr ∧ ((List.range n).drop k).foldlM (fun a i => cond (us.getD i false) (some a) (runP f n r (ord ++ [(i : Int)]) (us.set i true) a)) ak = some a')
      (fun i _ => n - (intOf i).toNat)
    case atStart => exact ⟨0, Nat.zero_le _, rfl, hP, a, hJ0, hr⟩
    case round =>
      obtain ⟨k, hk, rfl, hPk, ak, hJk, hfk⟩ := hrel
      by_cases hlt : k < n
      · have hdr : (List.range n).drop k = k :: (List.range n).drop (k + 1) := by
          rw [List.drop_eq_getElem_cons (show k < (List.range n).length by simpa using hlt), List.getElem_range]
        rw [hdr, List.foldlM_cons] at hfk
        have cUB := cell_of_one hPk.ub
        have cU : wr.cell? ⟨b + 4, k, none⟩ = some (.bool (us.getD k false)) := by
          rw [perm_cell hPk.us]
          simp [List.getD_eq_getElem?_getD, show k < us.length by omega]
        have fU := perm_free (i := k) hPk.us
        cases hu : us.getD k false with
        | true =>
          rw [hu] at hfk cU
          go_wp2_with fail
          go_roundw
          case rel => exact ⟨k + 1, hlt, by simp, hPk, ak, hJk, hfk⟩
          case measure => simp [intOf]; omega
        | false =>
          rw [hu] at hfk cU
          obtain ⟨ak', hrk, hfk'⟩ := Option.bind_eq_some_iff.1 hfk
          simp only [cond_false] at hrk
          -- the mark
          have hJ1 := hJ _ _ _ (b + 4) hJk (by omega) (by omega) (grown_set wr (b + 4) k (.bool true))
          have hP1 : PI n b DO ord (us.set k true) (wr.setCell ⟨b + 4, k, none⟩ (.bool true)) := by
            obtain ⟨cur, a1, a2⟩ := hPk.ar
            refine ⟨perm_set hPk.nb _ (by simp) _, perm_set hPk.db _ (by simp) _, ⟨cur, perm_set a1 _ (by simp) _, a2⟩, perm_set hPk.ob _ (by simp) _, ?_, perm_set hPk.ub _ (by simp) _, perm_set hPk.pb _ (by simp) _⟩
            rw [perm_row hPk.us, List.setIfInBounds_toArray, ← List.map_set]
          have c31 := cell_of_one hP1.ob
          have c11 := cell_of_one hP1.nb
          -- the new list of one
          obtain ⟨W2, hW2⟩ : ∃ W2, W2 = (wr.setCell ⟨b + 4, k, none⟩ (.bool true)).alloc (.cells #[.int .i64 (k : Int)] 2) := ⟨_, rfl⟩
          have hP2 : PI n b DO ord (us.set k true) W2 := by
            rw [hW2]
            exact hP1.other fun q _ hq => by
              have := lt_of_block hP1.pb
              show (Array.push _ _)[q]? = _
              rw [Array.getElem?_push, if_neg (by omega)]
          have hJ2 : J ak W2 := hJ _ _ _ b hJ1 (by omega) (by omega) (by rw [hW2]; exact World.grownBy_alloc _ _ _)
          -- the order grows
          obtain ⟨cur, a1, a2, a3⟩ := hP2.ar
          have c22 : W2.cell? ⟨b + 2, ord.length, none⟩ = some (cur[ord.length]'(by omega)) := by
            rw [perm_cell a1, Array.getElem?_eq_getElem]
          have f22 := perm_free (i := ord.length) a1
          have c32 := cell_of_one hP2.ob
          obtain ⟨W3, hW3⟩ : ∃ W3, W3 = W2.setCell ⟨b + 2, ord.length, none⟩ (.int .i64 (k : Int)) := ⟨_, rfl⟩
          have f33 : W3.frozen? ⟨b + 3, 0, none⟩ = false := by
            rw [hW3]
            exact free_of_one (perm_set hP2.ob _ (by simp) _)
          have hJ3 : J ak W3 := hJ _ _ _ (b + 2) hJ2 (by omega) (by omega) (by rw [hW3]; exact grown_set _ _ _ _)
          obtain ⟨W4, hW4⟩ : ∃ W4, W4 = W3.setCell ⟨b + 3, 0, none⟩ (.slice (some ⟨b + 2, 0, none⟩) (ord.length + 1) n) := ⟨_, rfl⟩
          have hJ4 : J ak W4 := hJ _ _ _ (b + 3) hJ3 (by omega) (by omega) (by rw [hW4]; exact grown_set _ _ _ _)
          have hP4 : PI n b DO (ord ++ [(k : Int)]) (us.set k true) W4 := by
            rw [hW4, hW3]
            refine ⟨perm_set (perm_set hP2.nb _ (by simp) _) _ (by simp) _, perm_set (perm_set hP2.db _ (by simp) _) _ (by simp) _, ⟨_, perm_set (perm_row a1 _) _ (by simp) _, by simpa using a2, ?_⟩, ?_, perm_set (perm_set hP2.us _ (by simp) _) _ (by simp) _, perm_set (perm_set hP2.ub _ (by simp) _) _ (by simp) _, perm_set (perm_set hP2.pb _ (by simp) _) _ (by simp) _⟩
            · rw [List.length_append, List.length_singleton, List.map_append, ← a3, Array.toList_setIfInBounds]
              rw [List.take_add_one, List.take_set_of_le (by omega), List.getElem?_set_self (by simpa using (by omega : ord.length < cur.size))]
              rfl
            · rw [List.length_append, List.length_singleton]
              exact one_setCell (perm_set hP2.ob _ (by simp) _)
          have c64 := cell_of_one hP4.pb
          have hput := ih (ord ++ [(k : Int)]) (us.set k true) ak ak' W4 (by rw [List.length_append, List.length_singleton]; omega) (by rw [List.length_set]; exact hus) hP4 hJ4 hrk
          rw [hW4, hW3, hW2] at c64 hput
          rw [hW3, hW2] at f33
          rw [hW2] at c22 f22 c32
          unfold putPs at c64 hput
          go_wp2_with (go_at_call 100; refine hput.mono ?_; rintro e W5 ⟨rfl, hJ5, hP5⟩; have c35 := cell_of_one hP5.ob; have f35 := free_of_one hP5.ob; simp only [List.length_append, List.length_singleton] at c35; have c55 := cell_of_one hP5.ub; have f45 := perm_free (i := k) hP5.us; have c45 := perm_cell (i := k) hP5.us; rw [List.getElem?_toArray, List.getElem?_map, List.getElem?_set_self (by omega)] at c45; simp only [Option.map_some] at c45)
          go_roundw
          case rel =>
            have hJ6 := hJ _ _ _ (b + 3) hJ5 (by omega) (by omega) (grown_set W5 (b + 3) 0 (.slice (some ⟨b + 2, 0, none⟩) ord.length n))
            have hJ7 := hJ _ _ _ (b + 4) hJ6 (by omega) (by omega) (grown_set _ (b + 4) k (.bool false))
            refine ⟨k + 1, hlt, by simp, ?_, ak', hJ7, hfk'⟩
            obtain ⟨cur5, d1, d2, d3⟩ := hP5.ar
            refine ⟨perm_set (perm_set hP5.nb _ (by simp) _) _ (by simp) _, perm_set (perm_set hP5.db _ (by simp) _) _ (by simp) _, ⟨cur5, perm_set (perm_set d1 _ (by simp) _) _ (by simp) _, d2, ?_⟩, perm_set (one_setCell hP5.ob) _ (by simp) _, ?_, perm_set (perm_set hP5.ub _ (by simp) _) _ (by simp) _, perm_set (perm_set hP5.pb _ (by simp) _) _ (by simp) _⟩
            · have := congrArg (List.take ord.length) d3
              rw [List.take_take, List.length_append, List.length_singleton, Nat.min_eq_left (by omega), List.map_append, List.take_left' (by simp)] at this
              exact this
            · rw [perm_row (perm_set hP5.us _ (by simp) _), List.setIfInBounds_toArray, ← List.map_set, List.set_set]
              congr 4
              refine List.ext_getElem? fun q => ?_
              rw [List.getElem?_set]
              split
              · rename_i hq
                subst hq
                rw [if_pos (by omega), List.getElem?_eq_getElem (by omega)]
                rw [List.getD_eq_getElem?_getD, List.getElem?_eq_getElem (by omega)] at hu
                simp only [Option.getD_some] at hu
                rw [hu]
              · rfl
          case measure => simp [intOf]; omega
      · obtain rfl : k = n := by omega
        rw [List.drop_eq_nil_of_le (by simp)] at hfk
        obtain rfl : ak = a' := Option.some.inj hfk
        go_wp2_with fail
        go_end0
        exact ⟨rfl, hJk, hPk⟩

end Go.Proofs.Ytnnfapnpijjbdaa
