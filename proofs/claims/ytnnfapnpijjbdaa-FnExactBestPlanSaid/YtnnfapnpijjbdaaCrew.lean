/-
  Plans of an order with a crew: the plain laws. No condition.
-/
import Derived.Test.YtnnfapnpijjbdaaProj3
import Derived.Test.YtnnfapnpijjbdaaPShop
import Derived.Test.YtnnfapnpijjbdaaRep
namespace Go.Proofs.Ytnnfapnpijjbdaa
open Go Go.Proofs.Ytnnfapnpijjbdaa.Fw
set_option linter.unusedVariables false
set_option linter.unusedSimpArgs false

/-- Is a crew enough from s on? -/
def okB (u : Int → Int) (c D T s : Int) : Bool := (List.range T.toNat).all fun j => decide (u (s + (j : Int)) + D ≤ c)

theorem okB_iff {u : Int → Int} {c D T s : Int} : okB u c D T s = true ↔ ∀ t, s ≤ t → t < s + T → u t + D ≤ c := by
  unfold okB
  rw [List.all_eq_true]
  constructor
  · intro h t h1 h2
    have := h (t - s).toNat (List.mem_range.2 (by omega))
    rw [decide_eq_true_eq, show s + ((t - s).toNat : Int) = t by omega] at this
    exact this
  · intro h j hj
    have := List.mem_range.1 hj
    exact decide_eq_true (h _ (by omega) (by omega))

theorem okB_not {u : Int → Int} {c D T s q : Int} (h1 : s ≤ q) (h2 : q < s + T) (h3 : u q + D > c) : okB u c D T s = false := by
  rw [Bool.eq_false_iff]
  intro h
  have := okB_iff.1 h q h1 h2
  omega

/-- The first such time. -/
def lsF (u : Int → Int) (c D T : Int) : Nat → Int → Int
  | 0, a => a
  | f + 1, a => cond (okB u c D T a) a (lsF u c D T f (a + 1))

theorem lsF_spec {u : Int → Int} {c D T : Int} : ∀ (f : Nat) (a : Int), (∃ k : Nat, k ≤ f ∧ okB u c D T (a + (k : Int)) = true) →
    okB u c D T (lsF u c D T f a) = true ∧ a ≤ lsF u c D T f a ∧ (∀ j, a ≤ j → j < lsF u c D T f a → okB u c D T j = false) ∧ ∀ k : Nat, okB u c D T (a + (k : Int)) = true → lsF u c D T f a ≤ a + (k : Int) := by
  intro f
  induction f with
  | zero =>
    rintro a ⟨k, hk, h⟩
    obtain rfl : k = 0 := by omega
    refine ⟨by simpa [lsF] using h, Int.le_refl _, fun j h1 h2 => ?_, fun k _ => ?_⟩
    · simp only [lsF] at h2; omega
    · simp only [lsF]; omega
  | succ f ih =>
    rintro a ⟨k, hk, h⟩
    unfold lsF
    cases ha : okB u c D T a with
    | true =>
      simp only [cond_true]
      exact ⟨ha, Int.le_refl _, fun j h1 h2 => by omega, fun k _ => by omega⟩
    | false =>
      simp only [cond_false]
      cases k with
      | zero =>
        rw [show a + ((0 : Nat) : Int) = a by omega, ha] at h
        cases h
      | succ k =>
        obtain ⟨g1, g2, g3, g4⟩ := ih (a + 1) ⟨k, by omega, by rw [show a + 1 + (k : Int) = a + ((k + 1 : Nat) : Int) by omega]; exact h⟩
        refine ⟨g1, by omega, fun j h1 h2 => ?_, fun q hq => ?_⟩
        · by_cases hj : j = a
          · rw [hj]; exact ha
          · exact g3 j (by omega) h2
        · cases q with
          | zero =>
            rw [show a + ((0 : Nat) : Int) = a by omega, ha] at hq
            cases hq
          | succ q =>
            have := g4 q (by rw [show a + 1 + (q : Int) = a + ((q + 1 : Nat) : Int) by omega]; exact hq)
            omega

/-- What a task needs at a time. -/
def uF (xs : List Tk) (tk : List Bool) (st : List Int) (t : Int) (k : Nat) : Int :=
  if tk.getD k false = true ∧ st.getD k 0 ≤ t ∧ t < st.getD k 0 + (xs.getD k NL).1 then (xs.getD k NL).2.1 else 0

def uP (xs : List Tk) (tk : List Bool) (st : List Int) (t : Int) : Nat → Int
  | 0 => 0
  | k + 1 => uP xs tk st t k + uF xs tk st t k

/-- What all taken tasks need at a time. -/
def uS (xs : List Tk) (tk : List Bool) (st : List Int) (t : Int) : Int := uP xs tk st t xs.length

theorem uF_bound {xs : List Tk} (ht : tasksOk xs = true) {tk : List Bool} {st : List Int} {t : Int} {k : Nat} (hk : k < xs.length) : 0 ≤ uF xs tk st t k ∧ uF xs tk st t k ≤ 20 := by
  obtain ⟨_, _, f3⟩ := task_facts ht
  have := f3 k hk
  unfold uF
  split <;> omega

theorem uP_bound {xs : List Tk} (ht : tasksOk xs = true) {tk : List Bool} {st : List Int} {t : Int} : ∀ k, k ≤ xs.length → 0 ≤ uP xs tk st t k ∧ uP xs tk st t k ≤ 20 * (k : Int)
  | 0, _ => by simp [uP]
  | k + 1, h => by
    have h1 := uP_bound ht (tk := tk) (st := st) (t := t) k (by omega)
    have h2 := uF_bound ht (tk := tk) (st := st) (t := t) (show k < xs.length by omega)
    unfold uP
    omega

theorem getB_set {xs : List Bool} {i j : Nat} (hi : i < xs.length) : (xs.set i true).getD j false = if i = j then true else xs.getD j false := by
  rw [List.getD_eq_getElem?_getD, List.getElem?_set]
  split
  · rename_i h
    subst h
    simp [hi]
  · rw [List.getD_eq_getElem?_getD]

theorem uS_set {xs : List Tk} {tk : List Bool} {st : List Int} (hl : st.length = xs.length) (hk : tk.length = xs.length) {i : Nat} (hi : i < xs.length) (hf : tk.getD i false = false) (s t : Int) :
    uS xs (tk.set i true) (st.set i s) t = uS xs tk st t + (if s ≤ t ∧ t < s + (xs.getD i NL).1 then (xs.getD i NL).2.1 else 0) := by
  have key : ∀ k, k ≤ xs.length → uP xs (tk.set i true) (st.set i s) t k = uP xs tk st t k + (if i < k then (if s ≤ t ∧ t < s + (xs.getD i NL).1 then (xs.getD i NL).2.1 else 0) else 0) := by
    intro k
    induction k with
    | zero => intro _; simp [uP]
    | succ k ih =>
      intro hk2
      have h1 := ih (by omega)
      unfold uP
      rw [h1]
      by_cases hik : i = k
      · subst hik
        have e1 : uF xs (tk.set i true) (st.set i s) t i = if s ≤ t ∧ t < s + (xs.getD i NL).1 then (xs.getD i NL).2.1 else 0 := by
          unfold uF
          rw [getB_set (show i < tk.length by omega), getD_set (show i < st.length by omega), if_pos rfl, if_pos rfl]
          simp
        have e2 : uF xs tk st t i = 0 := by
          unfold uF
          rw [hf]
          simp
        rw [e1, e2, if_neg (Nat.lt_irrefl i), if_pos (Nat.lt_succ_self i)]
      · have e1 : uF xs (tk.set i true) (st.set i s) t k = uF xs tk st t k := by
          unfold uF
          rw [getB_set (show i < tk.length by omega), getD_set (show i < st.length by omega), if_neg hik, if_neg hik]
        rw [e1]
        by_cases h2 : i < k
        · rw [if_pos h2, if_pos (show i < k + 1 by omega)]; omega
        · rw [if_neg h2, if_neg (show ¬ i < k + 1 by omega)]; omega
  unfold uS
  rw [key _ (Nat.le_refl _), if_pos hi]

/-- One task is taken. -/
def stepT (xs : List Tk) (c : Int) (p : List Int × List Bool) (x : Int) : List Int × List Bool :=
  (p.1.set x.toNat (lsF (uS xs p.2 p.1) c (xs.getD x.toNat NL).2.1 (xs.getD x.toNat NL).1 100000 (leastW xs p.1 x.toNat)), p.2.set x.toNat true)

def takeM (xs : List Tk) (c : Int) (O : List Int) : List Int × List Bool := O.foldl (stepT xs c) (List.replicate xs.length 0, List.replicate xs.length false)

theorem takeM_succ {xs : List Tk} {c : Int} {O : List Int} {i : Nat} (hi : i < O.length) : takeM xs c (O.take (i + 1)) = stepT xs c (takeM xs c (O.take i)) (O.getD i 0) := by
  unfold takeM
  rw [List.take_add_one, show O[i]? = some (O.getD i 0) from get_getD 0 hi]
  simp

/-- An order's tasks are such, and none stands twice. -/
def OrdOk (n : Nat) (O : List Int) : Prop := (∀ v ∈ O, 0 ≤ v ∧ v < (n : Int)) ∧ O.Nodup

theorem OrdOk.new {n : Nat} {O : List Int} (h : OrdOk n O) {i : Nat} (hi : i < O.length) : O.getD i 0 ∉ O.take i := by
  intro hm
  have e := get_getD 0 hi
  have h1 : O = O.take i ++ O.drop i := (List.take_append_drop i O).symm
  have h2 : O.getD i 0 ∈ O.drop i := by
    rw [List.drop_eq_getElem_cons hi]
    rw [List.getElem?_eq_getElem hi] at e
    rw [← Option.some.inj e]
    exact List.mem_cons_self
  have hn := h.2
  rw [h1] at hn
  exact (List.nodup_append.1 hn).2.2 _ hm _ h2 rfl

theorem least_le {xs : List Tk} (ht : tasksOk xs = true) {st : List Int} {i : Nat} (hi : i < xs.length) {B : Int} (hB : 0 ≤ B) (hb : B ≤ 1000000) (hs : ∀ j, j < xs.length → 0 ≤ st.getD j 0 ∧ st.getD j 0 + (xs.getD j NL).1 ≤ B + 100) : 0 ≤ leastW xs st i ∧ leastW xs st i ≤ B + 200 := by
  obtain ⟨f1, f2, f3⟩ := task_facts ht
  obtain ⟨_, _, _, _, g5, g6, g7⟩ := f3 i hi
  unfold leastW
  refine ⟨(foldmax_ge _ _ _).1, foldmax_le _ _ _ (by omega) (fun k hk => ?_)⟩
  have hk := List.mem_range.1 hk
  have hb1 := g6 k hk
  have hb2 := g7 k (by omega)
  have hs1 := hs ((xs.getD i NL).2.2.1.getD k 0).toNat (by omega)
  have hf := f3 ((xs.getD i NL).2.2.1.getD k 0).toNat (by omega)
  rw [w64_in (n := st.getD _ 0 + _) (by omega), w64_in (by omega)]
  omega

theorem least_congr {xs : List Tk} {st st' : List Int} {i : Nat} (h : ∀ k, k < (xs.getD i NL).2.2.1.length → st.getD ((xs.getD i NL).2.2.1.getD k 0).toNat 0 = st'.getD ((xs.getD i NL).2.2.1.getD k 0).toNat 0) : leastW xs st i = leastW xs st' i := by
  unfold leastW
  have key : ∀ (l : List Nat) (m : Int), (∀ k ∈ l, k < (xs.getD i NL).2.2.1.length) →
      l.foldl (fun m k => imax m (w64 (w64 (st.getD ((xs.getD i NL).2.2.1.getD k 0).toNat 0 + (xs.getD ((xs.getD i NL).2.2.1.getD k 0).toNat NL).1) + (xs.getD i NL).2.2.2.getD k 0))) m =
      l.foldl (fun m k => imax m (w64 (w64 (st'.getD ((xs.getD i NL).2.2.1.getD k 0).toNat 0 + (xs.getD ((xs.getD i NL).2.2.1.getD k 0).toNat NL).1) + (xs.getD i NL).2.2.2.getD k 0))) m := by
    intro l
    induction l with
    | nil => intro m _; rfl
    | cons k l ih =>
      intro m hl
      rw [List.foldl_cons, List.foldl_cons, h k (hl k List.mem_cons_self)]
      exact ih _ fun q hq => hl q (List.mem_cons_of_mem _ hq)
  exact key _ _ fun k hk => List.mem_range.1 hk

/-- What holds when m tasks are taken. -/
structure TInv (xs : List Tk) (st : List Int) (tk : List Bool) (pre : List Int) (m : Int) : Prop where
  l1 : st.length = xs.length
  l2 : tk.length = xs.length
  mem : ∀ j : Nat, j < xs.length → (tk.getD j false = true ↔ (j : Int) ∈ pre)
  bnd : ∀ j : Nat, j < xs.length → 0 ≤ st.getD j 0 ∧ (tk.getD j false = true → st.getD j 0 + (xs.getD j NL).1 ≤ 300 * m) ∧ (tk.getD j false = false → st.getD j 0 = 0)

theorem TInv.far {xs : List Tk} {st : List Int} {tk : List Bool} {pre : List Int} {m : Int} (h : TInv xs st tk pre m) {t : Int} (htm : 300 * m ≤ t) : uS xs tk st t = 0 := by
  have key : ∀ k, k ≤ xs.length → uP xs tk st t k = 0 := by
    intro k
    induction k with
    | zero => intro _; rfl
    | succ k ih =>
      intro hk
      unfold uP
      rw [ih (by omega)]
      unfold uF
      rw [if_neg]
      · rfl
      · rintro ⟨h1, h2, h3⟩
        have := (h.bnd k (by omega)).2.1 h1
        omega
  exact key _ (Nat.le_refl _)

theorem TInv.far0 {xs : List Tk} {st : List Int} {tk : List Bool} (h : TInv xs st tk [] ((0 : Nat) : Int)) (t : Int) : uS xs tk st t = 0 := by
  have key : ∀ k, k ≤ xs.length → uP xs tk st t k = 0 := by
    intro k
    induction k with
    | zero => intro _; rfl
    | succ k ih =>
      intro hk
      unfold uP
      rw [ih (by omega)]
      unfold uF
      rw [if_neg]
      · rfl
      · rintro ⟨h1, h2, h3⟩
        have := (h.mem k (by omega)).1 h1
        cases this
  exact key _ (Nat.le_refl _)

/-- Where the next task goes. -/
theorem TInv.next {xs : List Tk} (ht : tasksOk xs = true) {st : List Int} {tk : List Bool} {pre : List Int} {m : Int} (h : TInv xs st tk pre m) (hm : 0 ≤ m ∧ m ≤ 16) {i : Nat} (hi : i < xs.length) {c : Int} (hc : (xs.getD i NL).2.1 ≤ c) :
    0 ≤ leastW xs st i ∧ leastW xs st i ≤ 300 * m + 200 ∧ ∃ s, lsF (uS xs tk st) c (xs.getD i NL).2.1 (xs.getD i NL).1 100000 (leastW xs st i) = s ∧ okB (uS xs tk st) c (xs.getD i NL).2.1 (xs.getD i NL).1 s = true ∧
      leastW xs st i ≤ s ∧ (∀ j, leastW xs st i ≤ j → j < s → okB (uS xs tk st) c (xs.getD i NL).2.1 (xs.getD i NL).1 j = false) ∧ s ≤ 300 * m + 200 := by
  obtain ⟨f1, f2, f3⟩ := task_facts ht
  have hl := least_le ht (st := st) hi (B := 300 * m) (by omega) (by omega) (fun j hj => by
    have hb := h.bnd j hj
    have hf := f3 j hj
    refine ⟨hb.1, ?_⟩
    cases hq : tk.getD j false with
    | true => have := hb.2.1 hq; omega
    | false => have := hb.2.2 hq; omega)
  refine ⟨hl.1, hl.2, _, rfl, ?_⟩
  generalize leastW xs st i = a at hl ⊢
  have hfar : ∀ p, 300 * m ≤ p → okB (uS xs tk st) c (xs.getD i NL).2.1 (xs.getD i NL).1 p = true := fun p hp => okB_iff.2 fun t h1 _ => by
    rw [h.far (by omega)]
    omega
  obtain ⟨p, hp1, hp2, hp3⟩ : ∃ p : Nat, 300 * m ≤ a + (p : Int) ∧ a + (p : Int) ≤ 300 * m + 200 ∧ p ≤ 100000 := by
    by_cases h1 : 300 * m ≤ a
    · exact ⟨0, by omega, by omega, by omega⟩
    · exact ⟨(300 * m - a).toNat, by omega, by omega, by omega⟩
  obtain ⟨g1, g2, g3, g4⟩ := lsF_spec 100000 a ⟨p, hp3, hfar _ hp1⟩
  exact ⟨g1, g2, g3, Int.le_trans (g4 p (hfar _ hp1)) hp2⟩

theorem TInv.step {xs : List Tk} (ht : tasksOk xs = true) {st : List Int} {tk : List Bool} {pre : List Int} {m : Int} (h : TInv xs st tk pre m) (hm : 0 ≤ m ∧ m ≤ 16) {i : Nat} (hi : i < xs.length) {s : Int} (h0 : 0 ≤ s) (hs : s ≤ 300 * m + 200) :
    TInv xs (st.set i s) (tk.set i true) (pre ++ [(i : Int)]) (m + 1) := by
  obtain ⟨f1, f2, f3⟩ := task_facts ht
  refine ⟨by rw [List.length_set]; exact h.l1, by rw [List.length_set]; exact h.l2, fun j hj => ?_, fun j hj => ?_⟩
  · rw [getB_set (by rw [h.l2]; exact hi)]
    by_cases hij : i = j
    · subst hij
      simp
    · rw [if_neg hij, h.mem j hj]
      simp
      omega
  · rw [getB_set (by rw [h.l2]; exact hi), getD_set (by rw [h.l1]; exact hi)]
    have hb := h.bnd j hj
    have hf := f3 j hj
    by_cases hij : i = j
    · subst hij
      rw [if_pos rfl, if_pos rfl]
      exact ⟨h0, fun _ => by omega, fun hc => by cases hc⟩
    · rw [if_neg hij, if_neg hij]
      exact ⟨hb.1, fun hq => by have := hb.2.1 hq; omega, hb.2.2⟩

theorem getB_rep (n j : Nat) : (List.replicate n false).getD j false = false := by
  rw [List.getD_eq_getElem?_getD, List.getElem?_replicate]
  split <;> rfl

theorem takeM_inv {xs : List Tk} (ht : tasksOk xs = true) {c : Int} (hc : ∀ j, j < xs.length → (xs.getD j NL).2.1 ≤ c) {O : List Int} (hO : OrdOk xs.length O) (hlen : O.length ≤ 16) : ∀ i, i ≤ O.length → TInv xs (takeM xs c (O.take i)).1 (takeM xs c (O.take i)).2 (O.take i) (i : Int) := by
  intro i
  induction i with
  | zero =>
    intro _
    refine ⟨by simp [takeM], by simp [takeM], fun j hj => ?_, fun j hj => ?_⟩
    · show (List.replicate xs.length false).getD j false = true ↔ _
      rw [getB_rep]
      simp
    · show 0 ≤ (List.replicate xs.length (0 : Int)).getD j 0 ∧ ((List.replicate xs.length false).getD j false = true → _) ∧ (_ → (List.replicate xs.length (0 : Int)).getD j 0 = 0)
      rw [getD_rep, getB_rep]
      exact ⟨Int.le_refl _, (fun h => (by cases h)), (fun _ => rfl)⟩
  | succ i ih =>
    intro hi
    have h := ih (by omega)
    have hv := hO.1 _ (getD_mem (xs := O) (n := i) (by omega))
    obtain ⟨k, hk⟩ : ∃ k : Nat, O.getD i 0 = (k : Int) := ⟨(O.getD i 0).toNat, by omega⟩
    rw [hk] at hv
    obtain ⟨l1, l2, s, hs, _, l3, _, l4⟩ := h.next ht (by omega) (i := k) (by omega) (hc k (by omega))
    rw [takeM_succ (by omega)]
    unfold stepT
    simp only [hk, Int.toNat_natCast]
    rw [hs]
    have := h.step ht (by omega) (i := k) (by omega) (s := s) (by omega) l4
    rw [show O.take (i + 1) = O.take i ++ [(k : Int)] by rw [List.take_add_one, show O[i]? = some (O.getD i 0) from get_getD 0 (by omega), hk]; rfl]
    exact this

/-- The elements that stand for what is needed at each time. -/
def UOk (u : Int → Int) (U : List Int) : Prop := (∀ j : Nat, j < U.length → U.getD j 0 = u (j : Int)) ∧ ∀ t : Int, (U.length : Int) ≤ t → u t = 0

theorem getD_app {U : List Int} {j : Nat} {v : Int} (hj : j < U.length + 1) : (U ++ [v]).getD j 0 = if j < U.length then U.getD j 0 else v := by
  rw [List.getD_eq_getElem?_getD, List.getElem?_append]
  split
  · rw [List.getD_eq_getElem?_getD]
  · obtain rfl : j = U.length := by omega
    simp

theorem list_ext {a b : List Int} (hl : a.length = b.length) (h : ∀ j, j < a.length → a.getD j 0 = b.getD j 0) : a = b := by
  refine List.ext_getElem hl fun j h1 h2 => ?_
  have := h j h1
  rw [List.getD_eq_getElem?_getD, List.getD_eq_getElem?_getD, List.getElem?_eq_getElem h1, List.getElem?_eq_getElem h2] at this
  simpa using this

theorem pig1 : ∀ (l m : List Int), l.Nodup → (∀ v ∈ l, v ∈ m) → l.length ≤ m.length := by
  intro l
  induction l with
  | nil => intro m _ _; exact Nat.zero_le _
  | cons x l ih =>
    intro m hn hm
    obtain ⟨hx, hn'⟩ := List.nodup_cons.1 hn
    have h1 := ih (m.erase x) hn' (fun v hv => (List.mem_erase_of_ne (fun e => hx (by rw [← e]; exact hv))).2 (hm v (List.mem_cons_of_mem _ hv)))
    have h2 : x ∈ m := hm x List.mem_cons_self
    rw [List.length_erase_of_mem h2] at h1
    have h3 := List.length_pos_of_mem h2
    rw [List.length_cons]
    omega

/-- An order of all has each. -/
theorem all_in {n : Nat} {O : List Int} (hO : OrdOk n O) (hl : O.length = n) {j : Nat} (hj : j < n) : (j : Int) ∈ O := by
  by_cases hin : (j : Int) ∈ O
  · exact hin
  · exfalso
    have h1 := pig1 ((j : Int) :: O) ((List.range n).map (fun k : Nat => (k : Int))) (List.nodup_cons.2 ⟨hin, hO.2⟩) (fun v hv => by
      have hv' : 0 ≤ v ∧ v < (n : Int) := by
        rcases List.mem_cons.1 hv with rfl | hv
        · omega
        · exact hO.1 v hv
      exact List.mem_map.2 ⟨v.toNat, List.mem_range.2 (by omega), by omega⟩)
    simp at h1
    omega

theorem crew_facts {xs : List Tk} {c : Int} (h : (tasksOk xs && (within 0 20 c && (List.range xs.length).all fun k => !decide ((xs.getD k NL).2.1 > c))) = true) : tasksOk xs = true ∧ ∀ j, j < xs.length → (xs.getD j NL).2.1 ≤ c := by
  simp only [Bool.and_eq_true] at h
  refine ⟨h.1, fun j hj => ?_⟩
  have := List.all_eq_true.1 h.2.2 j (List.mem_range.2 hj)
  rw [Bool.not_eq_true', decide_eq_false_iff_not] at this
  omega

/-- Before each task of an order stand all that it waits for. -/
def befG (xs : List Tk) : List Int → List Int → Bool
  | _, [] => true
  | pre, v :: r => (xs.getD v.toNat NL).2.2.1.all (fun b => pre.contains b) && befG xs (pre ++ [v]) r

def chkG (xs : List Tk) : List Int → List Int → Bool
  | _, [] => true
  | pre, v :: r => within 0 ((xs.length : Int) - 1) v && (!(pre.contains v) && ((xs.getD v.toNat NL).2.2.1.all (fun b => pre.contains b) && chkG xs (pre ++ [v]) r))

theorem chkG_eq {xs : List Tk} : ∀ (l pre : List Int), chkG xs pre l = (ordG ((xs.length : Int) - 1) pre l && befG xs pre l) := by
  intro l
  induction l with
  | nil => intro pre; rfl
  | cons v l ih =>
    intro pre
    unfold chkG ordG befG
    rw [ih]
    cases within 0 ((xs.length : Int) - 1) v <;> cases pre.contains v <;> cases (xs.getD v.toNat NL).2.2.1.all (fun b => pre.contains b) <;> cases ordG ((xs.length : Int) - 1) (pre ++ [v]) l <;> rfl

theorem ordG_snoc {hi v : Int} : ∀ (l pre : List Int), ordG hi pre (l ++ [v]) = (ordG hi pre l && (within 0 hi v && !((pre ++ l).contains v))) := by
  intro l
  induction l with
  | nil =>
    intro pre
    show (within 0 hi v && (!(pre.contains v) && true)) = (true && (within 0 hi v && !((pre ++ []).contains v)))
    rw [List.append_nil, Bool.and_true, Bool.true_and]
  | cons x l ih =>
    intro pre
    show (within 0 hi x && (!(pre.contains x) && ordG hi (pre ++ [x]) (l ++ [v]))) = _
    rw [ih, show pre ++ [x] ++ l = pre ++ x :: l by simp]
    show _ = (within 0 hi x && (!(pre.contains x) && ordG hi (pre ++ [x]) l) && (within 0 hi v && !((pre ++ x :: l).contains v)))
    cases within 0 hi x <;> cases pre.contains x <;> cases ordG hi (pre ++ [x]) l <;> rfl

theorem befG_snoc {xs : List Tk} {v : Int} : ∀ (l pre : List Int), befG xs pre (l ++ [v]) = (befG xs pre l && (xs.getD v.toNat NL).2.2.1.all (fun b => (pre ++ l).contains b)) := by
  intro l
  induction l with
  | nil =>
    intro pre
    show ((xs.getD v.toNat NL).2.2.1.all (fun b => pre.contains b) && true) = (true && (xs.getD v.toNat NL).2.2.1.all (fun b => (pre ++ []).contains b))
    rw [List.append_nil, Bool.and_true, Bool.true_and]
  | cons x l ih =>
    intro pre
    show ((xs.getD x.toNat NL).2.2.1.all (fun b => pre.contains b) && befG xs (pre ++ [x]) (l ++ [v])) = _
    rw [ih, show pre ++ [x] ++ l = pre ++ x :: l by simp]
    show _ = (((xs.getD x.toNat NL).2.2.1.all (fun b => pre.contains b) && befG xs (pre ++ [x]) l) && (xs.getD v.toNat NL).2.2.1.all (fun b => (pre ++ x :: l).contains b))
    rw [Bool.and_assoc]

/-- The next task by a rule. -/
def freeB (xs : List Tk) (O : List Int) (j : Nat) : Bool := !(O.contains (j : Int)) && (xs.getD j NL).2.2.1.all (fun b => O.contains b)

def pickF (xs : List Tk) (key : Nat → Int) (O : List Int) : Nat → Int
  | 0 => -1
  | j + 1 => cond (freeB xs O j) (cond (decide (pickF xs key O j < 0)) (j : Int) (cond (decide (key j < key (pickF xs key O j).toNat)) (j : Int) (pickF xs key O j))) (pickF xs key O j)

theorem pickF_spec {xs : List Tk} {key : Nat → Int} {O : List Int} : ∀ m, (pickF xs key O m = -1 ∧ ∀ j, j < m → freeB xs O j = false) ∨ ∃ k : Nat, k < m ∧ pickF xs key O m = (k : Int) ∧ freeB xs O k = true := by
  intro m
  induction m with
  | zero => exact .inl ⟨rfl, fun j h => by omega⟩
  | succ m ih =>
    unfold pickF
    cases hf : freeB xs O m with
    | false =>
      rw [cond_false]
      rcases ih with ⟨h1, h2⟩ | ⟨k, h1, h2, h3⟩
      · refine .inl ⟨h1, fun j hj => ?_⟩
        by_cases hjm : j = m
        · rw [hjm]; exact hf
        · exact h2 j (by omega)
      · exact .inr ⟨k, by omega, h2, h3⟩
    | true =>
      rw [cond_true]
      rcases ih with ⟨h1, h2⟩ | ⟨k, h1, h2, h3⟩
      · rw [h1]
        exact .inr ⟨m, by omega, rfl, hf⟩
      · rw [h2, decide_eq_false (show ¬ (k : Int) < 0 by omega), cond_false]
        cases decide (key m < key ((k : Int)).toNat) with
        | true => exact .inr ⟨m, by omega, rfl, hf⟩
        | false => exact .inr ⟨k, by omega, rfl, h3⟩

def ordM (xs : List Tk) (key : Nat → Int) : Nat → List Int
  | 0 => []
  | m + 1 => ordM xs key m ++ [pickF xs key (ordM xs key m) xs.length]

theorem free_some {xs : List Tk} (ht : tasksOk xs = true) {O : List Int} (hl : O.length < xs.length) : ∃ j, j < xs.length ∧ freeB xs O j = true := by
  obtain ⟨f1, f2, f3⟩ := task_facts ht
  by_cases hex : ∃ j, j < xs.length ∧ freeB xs O j = true
  · exact hex
  · exfalso
    have hno : ∀ j, j < xs.length → freeB xs O j = false := fun j hj => by
      rw [Bool.eq_false_iff]
      exact fun hc => hex ⟨j, hj, hc⟩
    have key : ∀ m j : Nat, j < m → j < xs.length → O.contains (j : Int) = true := by
      intro m
      induction m with
      | zero => intro j h; omega
      | succ m ih =>
        intro j h hj
        obtain ⟨_, _, _, _, g5, g6, g7⟩ := f3 j hj
        have h1 := hno j hj
        unfold freeB at h1
        have h2 : (xs.getD j NL).2.2.1.all (fun b => O.contains b) = true := by
          rw [← all_range (fun b => O.contains b), List.all_eq_true]
          intro k hk
          have hk := List.mem_range.1 hk
          have hb := g6 k hk
          have := ih ((xs.getD j NL).2.2.1.getD k 0).toNat (by omega) (by omega)
          rw [show ((((xs.getD j NL).2.2.1.getD k 0).toNat : Nat) : Int) = (xs.getD j NL).2.2.1.getD k 0 by omega] at this
          exact this
        rw [h2, Bool.and_true] at h1
        cases hc : O.contains (j : Int) with
        | true => rfl
        | false => rw [hc] at h1; cases h1
    have h1 := pig1 ((List.range xs.length).map (fun k : Nat => (k : Int))) O (by
      rw [List.Nodup, List.pairwise_map]
      exact List.nodup_range.imp fun hab e => hab (by omega)) (fun v hv => by
      obtain ⟨k, hk, rfl⟩ := List.mem_map.1 hv
      have := key (k + 1) k (by omega) (List.mem_range.1 hk)
      simpa using this)
    simp at h1
    omega

theorem ordM_inv {xs : List Tk} (ht : tasksOk xs = true) {key : Nat → Int} : ∀ m, m ≤ xs.length → (ordM xs key m).length = m ∧ ordG ((xs.length : Int) - 1) [] (ordM xs key m) = true ∧ befG xs [] (ordM xs key m) = true := by
  intro m
  induction m with
  | zero => intro _; exact ⟨rfl, rfl, rfl⟩
  | succ m ih =>
    intro hm
    obtain ⟨h1, h2, h3⟩ := ih (by omega)
    unfold ordM
    obtain ⟨j, hj, hf⟩ := free_some ht (O := ordM xs key m) (by omega)
    rcases pickF_spec (xs := xs) (key := key) (O := ordM xs key m) xs.length with ⟨_, p2⟩ | ⟨k, p1, p2, p3⟩
    · rw [p2 j hj] at hf
      cases hf
    · rw [p2]
      unfold freeB at p3
      rw [Bool.and_eq_true] at p3
      refine ⟨by simp [h1], ?_, ?_⟩
      · rw [ordG_snoc, h2, List.nil_append, p3.1, within_iff.2 (by omega)]
        rfl
      · rw [befG_snoc, h3, List.nil_append, Int.toNat_natCast, p3.2]
        rfl

/-- The number by which a rule takes the next task. -/
def keyF (xs : List Tk) (ls sl : List Int) (r : Int) (j : Nat) : Int :=
  if r = 1 then IntKind.wrap .i64 (0 - (xs.getD j NL).1) else if r = 2 then sl.getD j 0 else if r = 3 then w64 (IntKind.wrap .i64 (0 - (xs.getD j NL).1) * (xs.getD j NL).2.1) else ls.getD j 0

theorem take_all {l : List Int} {p : Int → Bool} {q : Nat} (hq : q < l.length) : (l.take (q + 1)).all p = ((l.take q).all p && p (l.getD q 0)) := by
  rw [List.take_add_one, show l[q]? = some (l.getD q 0) from get_getD 0 hq, List.all_append]
  simp

section
variable {N : Nat} (hN : 9223372036854775808 ≤ N)
include hN

theorem fit_eq {u : Int → Int} {U : List Int} {c : Int} {tk : Tk} {a s : Int} (h1 : 0 ≤ tk.1 ∧ tk.1 ≤ 100) (h2 : 0 ≤ tk.2.1 ∧ tk.2.1 ≤ 20) (hu : ∀ t, 0 ≤ u t ∧ u t ≤ 320) (hU : UOk u U) (hl : U.length ≤ 10000) (ha : 0 ≤ a) (has : a ≤ s) (hs : s ≤ 10000)
    (hok : okB u c tk.2.1 tk.1 s = true) (hmin : ∀ j, a ≤ j → j < s → okB u c tk.2.1 tk.1 j = false) :
    ∃ U', impl_crewTimes_fit N U c tk a = some ((U', c), (s, ())) ∧ (U'.length : Int) ≤ max (U.length : Int) (s + tk.1) ∧ UOk (fun t => u t + (if s ≤ t ∧ t < s + tk.1 then tk.2.1 else 0)) U' := by
  obtain ⟨M, hM⟩ : ∃ M : Int, M = max (U.length : Int) (s + tk.1) := ⟨_, rfl⟩
  have hM1 : (U.length : Int) ≤ M := by rw [hM]; exact Int.le_max_left _ _
  have hM2 : s + tk.1 ≤ M := by rw [hM]; exact Int.le_max_right _ _
  have hM3 : M ≤ 10100 := by rw [hM]; exact Int.max_le.2 ⟨by omega, by omega⟩
  rw [← hM]
  unfold impl_crewTimes_fit
  refine loop_inv (Q := fun o : Option ((List Int × Int) × (Int × Unit)) => ∃ U', o = some ((U', c), (s, ())) ∧ (U'.length : Int) ≤ M ∧ UOk (fun t => u t + (if s ≤ t ∧ t < s + tk.1 then tk.2.1 else 0)) U')
    (inv := fun s1 : (List Int × Int) × Int × Unit => s1.1.2 = c ∧ a ≤ s1.2.1 ∧ s1.2.1 ≤ s ∧ UOk u s1.1.1 ∧ (s1.1.1.length : Int) ≤ M) (μ := fun s1 => (s - s1.2.1).toNat) ?_ N _ ⟨rfl, Int.le_refl _, has, hU, hM1⟩ (by simp only; omega)
  rintro ⟨⟨U1, c1⟩, a1, u1⟩ next2 ⟨g0, b1, b2, b3, b4⟩ hn2
  simp only at g0 b1 b2 b3 b4 hn2 ⊢
  subst g0
  refine loop_inv (Q := fun o : Option ((List Int × Int) × (Int × Unit)) => ∃ U', o = some ((U', c1), (s, ())) ∧ (U'.length : Int) ≤ M ∧ UOk (fun t => u t + (if s ≤ t ∧ t < s + tk.1 then tk.2.1 else 0)) U')
    (inv := fun s3 : (List Int × Int) × Unit => s3.1.2 = c1 ∧ UOk u s3.1.1 ∧ (s3.1.1.length : Int) ≤ M) (μ := fun s3 => (a1 + tk.1 - s3.1.1.length).toNat) ?_ N _ ⟨rfl, b3, b4⟩ (by simp only; omega)
  rintro ⟨⟨U3, c3⟩, u3⟩ next4 ⟨g0, d1, d2⟩ hn4
  simp only at g0 d1 d2 hn4 ⊢
  subst g0
  rw [w64_in (n := a1 + tk.1) (by omega)]
  by_cases hlen : (U3.length : Int) < a1 + tk.1
  · rw [decide_eq_true hlen, cond_true, appOk_of (by simp; omega), cond_true]
    refine hn4 _ ⟨rfl, ⟨fun j hj => ?_, fun t htl => d1.2 t (by simp at htl; omega)⟩, by simp; omega⟩ (by simp; omega)
    have hj : j < U3.length + 1 := by simpa using hj
    simp only
    rw [getD_app hj]
    split
    · rename_i hlt
      exact d1.1 j hlt
    · exact (d1.2 j (by omega)).symm
  · rw [decide_eq_false hlen, cond_false]
    refine loop_inv (Q := fun o : Option ((List Int × Int) × (Int × Unit)) => ∃ U', o = some ((U', c3), (s, ())) ∧ (U'.length : Int) ≤ M ∧ UOk (fun t => u t + (if s ≤ t ∧ t < s + tk.1 then tk.2.1 else 0)) U')
      (inv := fun s6 : Int × Int × Unit => a1 ≤ s6.2.1 ∧ s6.2.1 ≤ a1 + tk.1 ∧ ((s6.1 = -1 ∧ ∀ t, a1 ≤ t → t < s6.2.1 → u t + tk.2.1 ≤ c3) ∨ (a1 ≤ s6.1 ∧ s6.1 < a1 + tk.1 ∧ u s6.1 + tk.2.1 > c3))) (μ := fun s6 => (a1 + tk.1 - s6.2.1).toNat) ?_ N _
      ⟨Int.le_refl _, by simp only; omega, .inl ⟨rfl, fun t h1 h2 => by simp only at h2; omega⟩⟩ (by simp only; omega)
    rintro ⟨busy, k, u6⟩ next7 ⟨e1, e2, e3⟩ hn7
    simp only at e1 e2 e3 hn7 ⊢
    by_cases hk : k < a1 + tk.1
    · have hkl : k.toNat < U3.length := by omega
      have hg := d1.1 k.toNat hkl
      rw [show ((k.toNat : Nat) : Int) = k by omega] at hg
      have huk := hu k
      rw [decide_eq_true hk, cond_true, inB_of (n := k) (len := U3.length) (by omega), cond_true, get_getD 0 hkl]
      simp only [Option.bind_some]
      rw [hg, w64_in (n := u k + tk.2.1) (by omega), w64_in (n := k + 1) (by omega)]
      by_cases hbad : u k + tk.2.1 > c3
      · rw [decide_eq_true hbad, cond_true]
        exact hn7 _ ⟨by simp only; omega, by simp only; omega, .inr ⟨e1, hk, hbad⟩⟩ (by simp only; omega)
      · rw [decide_eq_false hbad, cond_false]
        refine hn7 _ ⟨by simp only; omega, by simp only; omega, ?_⟩ (by simp only; omega)
        rcases e3 with ⟨g1, g2⟩ | g
        · refine .inl ⟨g1, fun t q1 q2 => ?_⟩
          simp only at q2
          by_cases htk : t = k
          · subst htk; omega
          · exact g2 t q1 (by omega)
        · exact .inr g
    · rw [decide_eq_false hk, cond_false]
      rcases e3 with ⟨g1, g2⟩ | ⟨g1, g2, g3⟩
      · -- enough
        have hok1 : okB u c3 tk.2.1 tk.1 a1 = true := okB_iff.2 fun t q1 q2 => g2 t q1 (by omega)
        have hsa : a1 = s := by
          by_cases hlt : a1 < s
          · rw [hmin a1 b1 hlt] at hok1
            cases hok1
          · omega
        subst hsa
        rw [g1, show decide ((-1 : Int) < 0) = true by decide, cond_true]
        refine loop_inv (Q := fun o : Option ((List Int × Int) × (Int × Unit)) => ∃ U', o = some ((U', c3), (a1, ())) ∧ (U'.length : Int) ≤ M ∧ UOk (fun t => u t + (if a1 ≤ t ∧ t < a1 + tk.1 then tk.2.1 else 0)) U')
          (inv := fun s9 : (List Int × Int) × Int × Unit => s9.1.2 = c3 ∧ a1 ≤ s9.2.1 ∧ s9.2.1 ≤ a1 + tk.1 ∧ s9.1.1.length = U3.length ∧ ∀ j : Nat, j < U3.length → s9.1.1.getD j 0 = u (j : Int) + (if a1 ≤ (j : Int) ∧ (j : Int) < s9.2.1 then tk.2.1 else 0))
          (μ := fun s9 => (a1 + tk.1 - s9.2.1).toNat) ?_ N _ ⟨rfl, Int.le_refl _, by simp only; omega, rfl, fun j hj => by
            simp only
            rw [if_neg (by omega), d1.1 j hj]
            omega⟩ (by simp only; omega)
        rintro ⟨⟨U9, c9⟩, k9, u9⟩ next10 ⟨g0, q1, q2, q3, q4⟩ hn10
        simp only at g0 q1 q2 q3 q4 hn10 ⊢
        subst g0
        by_cases hk9 : k9 < a1 + tk.1
        · have hkl9 : k9.toNat < U9.length := by omega
          have hg9 := q4 k9.toNat (by omega)
          rw [show ((k9.toNat : Nat) : Int) = k9 by omega, if_neg (by omega)] at hg9
          have huk9 := hu k9
          rw [decide_eq_true hk9, cond_true, inB_of (n := k9) (len := U9.length) (by omega), cond_true, get_getD 0 hkl9]
          simp only [Option.bind_some, cond_true]
          rw [hg9, w64_in (n := u k9 + 0 + tk.2.1) (by omega), w64_in (n := k9 + 1) (by omega)]
          refine hn10 _ ⟨rfl, by simp only; omega, by simp only; omega, by simp only [List.length_set]; exact q3, fun j hj => ?_⟩ (by simp only; omega)
          simp only
          rw [getD_set hkl9]
          by_cases hjk : k9.toNat = j
          · rw [if_pos hjk, show ((j : Nat) : Int) = k9 by omega, if_pos (by omega)]
            omega
          · rw [if_neg hjk, q4 j hj]
            by_cases hin : a1 ≤ (j : Int) ∧ (j : Int) < k9
            · rw [if_pos hin, if_pos (by omega)]
            · rw [if_neg hin, if_neg (by omega)]
        · rw [decide_eq_false hk9, cond_false]
          refine ⟨U9, rfl, by omega, fun j hj => ?_, fun t htl => ?_⟩
          · rw [q4 j (by omega)]
            obtain rfl : k9 = a1 + tk.1 := by omega
            rfl
          · have := d1.2 t (by omega)
            simp only
            rw [this, if_neg (by omega)]
            rfl
      · rw [decide_eq_false (show ¬ busy < 0 by omega), cond_false, w64_in (n := busy + 1) (by omega)]
        have hbs : busy + 1 ≤ s := by
          by_cases hlt : s ≤ busy
          · have := okB_iff.1 hok busy hlt (by omega)
            omega
          · omega
        exact hn2 _ ⟨rfl, by simp only; omega, by simp only; omega, d1, d2⟩ (by simp only; omega)

/-- The reference's search for the first time at which the crew is enough. -/
theorem start_loop {ρ : Type} {xs : List Tk} (ht : tasksOk xs = true) {st : List Int} {tk : List Bool} (hl : st.length = xs.length) (hk : tk.length = xs.length) (hb : ∀ j, j < xs.length → 0 ≤ st.getD j 0 ∧ st.getD j 0 ≤ 100000) {i : Nat} (hi : i < xs.length) {c a s : Int} (ha : 0 ≤ a) (has : a ≤ s) (hs : s ≤ 100000)
    (hok : okB (uS xs tk st) c (xs.getD i NL).2.1 (xs.getD i NL).1 s = true) (hmin : ∀ j, a ≤ j → j < s → okB (uS xs tk st) c (xs.getD i NL).2.1 (xs.getD i NL).1 j = false) (K : Int → Option ρ) :
    loopN (fun (s7 : Int × Unit) next8 =>
            loopN (fun (s9 : Int × Int × Unit) next10 =>
              Option.bind (idx xs (i : Int)) fun v11 =>
              cond (decide (s9.2.1 < (w64 (s7.1 + v11.1))))
                (cond (decide (s9.1 < 0))
                  (Option.bind (idx xs (i : Int)) fun v12 =>
                  loopN (fun (s13 : Int × Int × Unit) next14 =>
                    cond (decide (s13.2.1 < (List.length xs : Int)))
                      (cond (inB s13.2.1 (List.length tk))
                        (Option.bind (tk[(Int.toNat s13.2.1)]?) fun v15 =>
                        cond v15
                          (cond (inB s13.2.1 (List.length st))
                            (Option.bind (st[(Int.toNat s13.2.1)]?) fun v16 =>
                            cond (decide (v16 ≤ s9.2.1))
                              (cond (inB s13.2.1 (List.length st))
                                (Option.bind (st[(Int.toNat s13.2.1)]?) fun v17 =>
                                Option.bind (idx xs s13.2.1) fun v18 =>
                                cond (decide (s9.2.1 < (w64 (v17 + v18.1))))
                                  (Option.bind (idx xs s13.2.1) fun v19 =>
                                  next14 ((w64 (s13.1 + v19.2.1)), (w64 (s13.2.1 + 1)), ()))
                                  (next14 (s13.1, (w64 (s13.2.1 + 1)), ()))) none)
                              (next14 (s13.1, (w64 (s13.2.1 + 1)), ()))) none)
                          (next14 (s13.1, (w64 (s13.2.1 + 1)), ()))) none)
                      (cond (decide (s13.1 > c))
                        (next10 (s9.2.1, (w64 (s9.2.1 + 1)), ()))
                        (next10 (s9.1, (w64 (s9.2.1 + 1)), ())))) N (v12.2.1, 0, ()))
                  (cond (decide (s9.1 < 0))
                    (K s7.1)
                    (next8 ((w64 (s9.1 + 1)), ()))))
                (cond (decide (s9.1 < 0))
                  (K s7.1)
                  (next8 ((w64 (s9.1 + 1)), ())))) N ((-1), s7.1, ())) N (a, ()) = K s := by
  obtain ⟨f1, f2, f3⟩ := task_facts ht
  have hfi := f3 i hi
  refine loop_eq (inv := fun s7 : Int × Unit => a ≤ s7.1 ∧ s7.1 ≤ s) (μ := fun s7 => (s - s7.1).toNat) (R := fun _ => K s) ?_ N _ ⟨Int.le_refl _, has⟩ (by simp only; omega)
  rintro ⟨b, u7⟩ next8 ⟨g1, g2⟩ hn8
  simp only at g1 g2 hn8 ⊢
  refine loop_inv (Q := fun o : Option ρ => o = K s) (inv := fun s9 : Int × Int × Unit => b ≤ s9.2.1 ∧ s9.2.1 ≤ b + (xs.getD i NL).1 ∧ ((s9.1 = -1 ∧ ∀ t, b ≤ t → t < s9.2.1 → uS xs tk st t + (xs.getD i NL).2.1 ≤ c) ∨ (b ≤ s9.1 ∧ s9.1 < b + (xs.getD i NL).1 ∧ uS xs tk st s9.1 + (xs.getD i NL).2.1 > c)))
    (μ := fun s9 => (b + (xs.getD i NL).1 - s9.2.1).toNat) ?_ N _ ⟨Int.le_refl _, by simp only; omega, .inl ⟨rfl, fun t h1 h2 => by simp only at h2; omega⟩⟩ (by simp only; omega)
  rintro ⟨clash, t, u9⟩ next10 ⟨e1, e2, e3⟩ hn10
  simp only at e1 e2 e3 hn10 ⊢
  rw [idx_at hi]
  simp only [Option.bind_some]
  rw [w64_in (n := b + (xs.getD i NL).1) (by omega)]
  have bad : (b ≤ clash ∧ clash < b + (xs.getD i NL).1 ∧ uS xs tk st clash + (xs.getD i NL).2.1 > c) → cond (decide (clash < 0)) (K b) (next8 (w64 (clash + 1), ())) = K s := fun ⟨q1, q2, q3⟩ => by
    rw [decide_eq_false (show ¬ clash < 0 by omega), cond_false, w64_in (n := clash + 1) (by omega)]
    have : clash + 1 ≤ s := by
      by_cases hlt : s ≤ clash
      · have := okB_iff.1 hok clash hlt (by omega)
        omega
      · omega
    exact hn8 _ ⟨by simp only; omega, by simp only; omega⟩ (by simp only; omega)
  by_cases hlt : t < b + (xs.getD i NL).1
  · rw [decide_eq_true hlt, cond_true]
    rcases e3 with ⟨q1, q2⟩ | q
    · subst q1
      rw [show decide ((-1 : Int) < 0) = true by decide, cond_true]
      have hub := uP_bound ht (tk := tk) (st := st) (t := t)
      refine loop_inv (Q := fun o : Option ρ => o = K s) (inv := fun s13 : Int × Int × Unit => ∃ k : Nat, k ≤ xs.length ∧ s13 = ((xs.getD i NL).2.1 + uP xs tk st t k, (k : Int), ())) (μ := fun s13 => (xs.length - s13.2.1).toNat) ?_ N _
        ⟨0, Nat.zero_le _, by simp [uP]⟩ (by simp only; omega)
      rintro _ next14 ⟨k, hkl, rfl⟩ hn14
      simp only at hn14 ⊢
      by_cases hkx : k < xs.length
      · have hbk := hb k hkx
        have hfk := f3 k hkx
        have huk := hub k (by omega)
        rw [decide_eq_true (show (k : Int) < (xs.length : Int) by omega), cond_true, inB_of (n := (k : Int)) (len := tk.length) (by omega), cond_true, Int.toNat_natCast, get_getD false (show k < tk.length by omega)]
        simp only [Option.bind_some]
        rw [w64_in (n := (k : Int) + 1) (by omega)]
        have fin : ∀ w : Int, w = (xs.getD i NL).2.1 + uP xs tk st t (k + 1) → next14 (w, (k : Int) + 1, ()) = K s := fun w hw => hn14 _ ⟨k + 1, hkx, by rw [hw]; rfl⟩ (by simp only; omega)
        cases htk : tk.getD k false with
        | false =>
          simp only [cond_false]
          refine fin _ ?_
          have : uF xs tk st t k = 0 := if_neg (fun h => by rw [htk] at h; cases h.1)
          show _ = (xs.getD i NL).2.1 + (uP xs tk st t k + uF xs tk st t k)
          rw [this]
          omega
        | true =>
          simp only [cond_true]
          rw [inB_of (n := (k : Int)) (len := st.length) (by omega), cond_true, get_getD 0 (show k < st.length by omega)]
          simp only [Option.bind_some]
          by_cases c1 : st.getD k 0 ≤ t
          · rw [decide_eq_true c1, cond_true, cond_true]
            rw [idx_at hkx]
            simp only [Option.bind_some]
            rw [w64_in (n := st.getD k 0 + (xs.getD k NL).1) (by omega)]
            by_cases c2 : t < st.getD k 0 + (xs.getD k NL).1
            · rw [decide_eq_true c2, cond_true, w64_in (n := (xs.getD i NL).2.1 + uP xs tk st t k + (xs.getD k NL).2.1) (by omega)]
              refine fin _ ?_
              have : uF xs tk st t k = (xs.getD k NL).2.1 := if_pos ⟨htk, c1, c2⟩
              show _ = (xs.getD i NL).2.1 + (uP xs tk st t k + uF xs tk st t k)
              rw [this]
              omega
            · rw [decide_eq_false c2, cond_false]
              refine fin _ ?_
              have : uF xs tk st t k = 0 := if_neg (fun h => c2 h.2.2)
              show _ = (xs.getD i NL).2.1 + (uP xs tk st t k + uF xs tk st t k)
              rw [this]
              omega
          · rw [decide_eq_false c1, cond_false]
            refine fin _ ?_
            have : uF xs tk st t k = 0 := if_neg (fun h => c1 h.2.1)
            show _ = (xs.getD i NL).2.1 + (uP xs tk st t k + uF xs tk st t k)
            rw [this]
            omega
      · obtain rfl : k = xs.length := by omega
        rw [decide_eq_false (show ¬ (xs.length : Int) < (xs.length : Int) by omega), cond_false, w64_in (n := t + 1) (by omega)]
        have hus : uP xs tk st t xs.length = uS xs tk st t := rfl
        rw [hus]
        by_cases hbad : (xs.getD i NL).2.1 + uS xs tk st t > c
        · rw [decide_eq_true hbad, cond_true]
          exact hn10 _ ⟨by simp only; omega, by simp only; omega, .inr ⟨by simp only; omega, by simp only; omega, by simp only; omega⟩⟩ (by simp only; omega)
        · rw [decide_eq_false hbad, cond_false]
          refine hn10 _ ⟨by simp only; omega, by simp only; omega, .inl ⟨rfl, fun t' q3 q4 => ?_⟩⟩ (by simp only; omega)
          simp only at q4
          by_cases htt : t' = t
          · subst htt; omega
          · exact q2 t' q3 (by omega)
    · have hneg : ¬ clash < 0 := by omega
      have := bad q
      rw [decide_eq_false hneg, cond_false] at this
      rw [decide_eq_false hneg, cond_false, cond_false]
      exact this
  · rw [decide_eq_false hlt, cond_false]
    rcases e3 with ⟨q1, q2⟩ | q
    · subst q1
      rw [show decide ((-1 : Int) < 0) = true by decide, cond_true]
      have hokb : okB (uS xs tk st) c (xs.getD i NL).2.1 (xs.getD i NL).1 b = true := okB_iff.2 fun t' q3 q4 => q2 t' q3 (by omega)
      have : b = s := by
        by_cases hbs : b < s
        · rw [hmin b g1 hbs] at hokb
          cases hokb
        · omega
      rw [this]
    · exact bad q

theorem take_eq {xs : List Tk} (h : Small 1048576 xs) (ht : tasksOk xs = true) {c : Int} (hc : ∀ j, j < xs.length → (xs.getD j NL).2.1 ≤ c) {O : List Int} (hO : OrdOk xs.length O) (hlen : O.length ≤ 16) :
    spec_l03Take N xs O c = some ((takeM xs c O).1, ()) := by
  obtain ⟨f1, f2, f3⟩ := task_facts ht
  unfold spec_l03Take
  rw [mkOk_of (by omega), cond_true, cond_true, show Int.toNat (xs.length : Int) = xs.length from Int.toNat_natCast _]
  refine loop_eq (inv := fun s3 : List Int × List Bool × Int × Unit => ∃ i : Nat, i ≤ O.length ∧ s3 = ((takeM xs c (O.take i)).1, (takeM xs c (O.take i)).2, (i : Int), ())) (μ := fun s3 => (O.length - s3.2.2.1).toNat) (R := fun _ => some ((takeM xs c O).1, ())) ?_ N _
    ⟨0, Nat.zero_le _, rfl⟩ (by simp only; omega)
  rintro _ next4 ⟨i, hi, rfl⟩ hn
  have hT := takeM_inv ht hc hO hlen i hi
  by_cases hlt : i < O.length
  · have hs' := takeM_succ (xs := xs) (c := c) hlt
    have hv := hO.1 _ (getD_mem (xs := O) (n := i) hlt)
    obtain ⟨k, hk⟩ : ∃ k : Nat, O.getD i 0 = (k : Int) := ⟨(O.getD i 0).toNat, by omega⟩
    rw [hk] at hv hs'
    unfold stepT at hs'
    rw [Int.toNat_natCast] at hs'
    generalize (takeM xs c (O.take i)).1 = st at hT hs' ⊢
    generalize (takeM xs c (O.take i)).2 = tk at hT hs' ⊢
    have hkx : k < xs.length := by omega
    obtain ⟨l1, l2, s, hs, hok, l3, hmin, l4⟩ := hT.next ht (by omega) hkx (hc k hkx)
    rw [hs] at hs'
    simp only at hn ⊢
    rw [decide_eq_true (show (i : Int) < (O.length : Int) by omega), cond_true, idx_int hlt, hk]
    simp only [Option.bind_some]
    rw [l03Least_eq hN h ht hT.l1 hkx]
    simp only [Option.bind_some]
    rw [start_loop hN ht hT.l1 hT.l2 (fun j hj => by
      have hb := hT.bnd j hj
      have hf := f3 j hj
      refine ⟨hb.1, ?_⟩
      cases hq : tk.getD j false with
      | true => have := hb.2.1 hq; omega
      | false => have := hb.2.2 hq; omega) hkx l1 l3 (by omega) hok hmin (fun start => cond (inB (k : Int) (List.length st))
                      (let xs20 := (List.set st (Int.toNat (k : Int)) start)
                      cond (inB (k : Int) (List.length tk))
                        (let xs21 := (List.set tk (Int.toNat (k : Int)) true)
                        next4 (xs20, xs21, (w64 ((i : Int) + 1)), ())) none) none)]
    rw [inB_of (n := (k : Int)) (len := st.length) (by have := hT.l1; omega), inB_of (n := (k : Int)) (len := tk.length) (by have := hT.l2; omega), Int.toNat_natCast, w64_in (n := (i : Int) + 1) (by omega)]
    simp only [cond_true]
    refine hn _ ⟨i + 1, hlt, ?_⟩ (by simp only; omega)
    rw [hs']
    rfl
  · obtain rfl : i = O.length := by omega
    rw [List.take_length]
    simp only
    rw [decide_eq_false (show ¬ (O.length : Int) < (O.length : Int) by omega), cond_false]


/-- A search for the first element of a kind. -/
theorem indexf_loop {α : Type} {xs : List α} (d : α) (hx : xs.length ≤ 4294967296) (p : α → Bool) {body : Int × Unit → (Int × Unit → Option (Int × Unit)) → Option (Int × Unit)}
    (h0 : ∀ (s : Int × Unit) next, s.1 = (xs.length : Int) → body s next = some (-1, ()))
    (h1 : ∀ (k : Nat) (s : Int × Unit) next, s.1 = (k : Int) → k < xs.length → w64 ((k : Int) + 1) = (k : Int) + 1 → body s next = cond (p (xs.getD k d)) (some ((k : Int), ())) (next ((k : Int) + 1, ()))) :
    ∃ r : Int, loopN body N (0, ()) = some (r, ()) ∧ decide (r ≥ 0) = xs.any p := by
  refine loop_inv (Q := fun o : Option (Int × Unit) => ∃ r : Int, o = some (r, ()) ∧ decide (r ≥ 0) = xs.any p) (inv := fun s : Int × Unit => ∃ k : Nat, k ≤ xs.length ∧ s.1 = (k : Int) ∧ ∀ j, j < k → p (xs.getD j d) = false) (μ := fun s => (xs.length - s.1).toNat) ?_ N _ ⟨0, Nat.zero_le _, rfl, fun j h => by omega⟩ (by simp only; omega)
  rintro s next ⟨k, hk, e, hf⟩ hn
  by_cases hlt : k < xs.length
  · rw [h1 k s next e hlt (w64_in (by omega))]
    cases hp : p (xs.getD k d) with
    | true =>
      refine ⟨(k : Int), rfl, ?_⟩
      rw [decide_eq_true (show (k : Int) ≥ 0 by omega)]
      refine (List.any_eq_true.2 ⟨xs.getD k d, ?_, hp⟩).symm
      have := get_getD d hlt
      exact List.mem_of_getElem? this
    | false =>
      refine hn _ ⟨k + 1, hlt, rfl, fun j hj => ?_⟩ (by simp only; omega)
      by_cases hjk : j = k
      · rw [hjk]; exact hp
      · exact hf j (by omega)
  · obtain rfl : k = xs.length := by omega
    rw [h0 s next e]
    refine ⟨-1, rfl, ?_⟩
    rw [decide_eq_false (by omega)]
    refine (List.any_eq_false.2 fun v hv => ?_).symm
    obtain ⟨j, hj, rfl⟩ := List.getElem_of_mem hv
    have := hf j hj
    rw [List.getD_eq_getElem?_getD, List.getElem?_eq_getElem hj] at this
    simpa using this

theorem fitsCrew_eq {xs : List Tk} {c : Int} (h : Small 1048576 xs) : impl_fitsCrew N xs c = some (tasksOk xs && (within 0 20 c && (List.range xs.length).all fun k => !decide ((xs.getD k NL).2.1 > c)), ()) := by
  unfold impl_fitsCrew impl_areCrew slices_ContainsFunc_impl_Task_impl_Task_impl_fitsCrew_1 slices_IndexFunc_impl_Task_impl_Task_impl_fitsCrew_1
  have hl := h.1
  simp only [AreTasks_eq hN h, within_eq, Option.bind_some]
  cases ht : tasksOk xs
  · rfl
  cases within 0 20 c
  · rfl
  obtain ⟨r, e1, e2⟩ := indexf_loop hN (xs := xs) NL (by omega) (fun t => decide (t.2.1 > c)) (body := fun (s1 : Int × Unit) next2 =>
    cond (decide (s1.1 < (List.length xs : Int)))
      (Option.bind (idx xs s1.1) fun v3 =>
      Option.bind (impl_fitsCrew_1_c0 N v3 c) fun r4 =>
      cond r4.1
        (some (s1.1, ()))
        (next2 ((w64 (s1.1 + 1)), ())))
      (some ((-1), ()))) (fun s next e => by simp only [e, Int.lt_irrefl, decide_false, cond_false])
    (fun k s next e hk e2 => by simp only [e, show decide ((k : Int) < (xs.length : Int)) = true from by simpa using hk, cond_true, idx_at hk, Option.bind_some, e2, impl_fitsCrew_1_c0])
  simp only [cond_true, Bool.true_and]
  rw [e1]
  simp only [Option.bind_some]
  rw [e2]
  have hr : ((List.range xs.length).all fun k => !decide ((xs.getD k NL).2.1 > c)) = !(xs.any fun t => decide (t.2.1 > c)) := by
    rw [List.not_any_eq_all_not, Bool.eq_iff_iff, List.all_eq_true, List.all_eq_true]
    constructor
    · intro hall t hm
      obtain ⟨j, hj, rfl⟩ := List.getElem_of_mem hm
      have := hall j (List.mem_range.2 hj)
      rw [List.getD_eq_getElem?_getD, List.getElem?_eq_getElem hj] at this
      simpa using this
    · intro hall k hk
      have hk := List.mem_range.1 hk
      have := hall (xs.getD k NL) (List.mem_of_getElem? (get_getD NL hk))
      simpa using this
  rw [hr]

theorem orderPlan_eq {xs : List Tk} (h : Small 1048576 xs) (ht : tasksOk xs = true) {c : Int} (hc : ∀ j, j < xs.length → (xs.getD j NL).2.1 ≤ c) {O : List Int} (hO : ordB (xs.length : Int) O = true) :
    impl_orderPlan N xs O c = some (cond (befG xs [] O) ((takeM xs c O).1, endW xs (takeM xs c O).1, true, ()) ([], 0, false, ())) := by
  obtain ⟨f1, f2, f3⟩ := task_facts ht
  obtain ⟨o1, o2⟩ := ord_facts hO
  have hnd : O.Nodup := by
    simp only [ordB, Bool.and_eq_true] at hO
    exact (ordG_nodup hO.2).1
  have hOk : OrdOk xs.length O := ⟨o2, hnd⟩
  have hlen : O.length ≤ 16 := by omega
  have hinv := takeM_inv ht hc hOk hlen
  unfold impl_orderPlan
  rw [none_eq hN (n := xs.length) (by omega)]
  simp only [Option.bind_some]
  refine loop_eq (inv := fun s : List Int × (List Int × Int) × Int × Unit => ∃ i : Nat, i ≤ O.length ∧ s.2.2.1 = (i : Int) ∧ s.2.1.2 = c ∧ s.1.length = xs.length ∧
      (∀ j, j < xs.length → s.1.getD j 0 = if (takeM xs c (O.take i)).2.getD j false = true then (takeM xs c (O.take i)).1.getD j 0 else -1) ∧ UOk (uS xs (takeM xs c (O.take i)).2 (takeM xs c (O.take i)).1) s.2.1.1 ∧ (s.2.1.1.length : Int) ≤ 300 * (i : Int))
    (μ := fun s => (O.length - s.2.2.1).toNat) (R := fun s => some (cond (befG xs (O.take s.2.2.1.toNat) (O.drop s.2.2.1.toNat)) ((takeM xs c O).1, endW xs (takeM xs c O).1, true, ()) ([], 0, false, ()))) ?_ N _
    ⟨0, Nat.zero_le _, rfl, rfl, by simp, fun j hj => ?_, ⟨fun j hj => by simp at hj, fun t _ => (hinv 0 (Nat.zero_le _)).far0 t⟩, by simp⟩ (by simp only; omega)
  · rintro ⟨st', ⟨U, c'⟩, i', u⟩ next ⟨i, hi, q1, q2, q3, q4, q5, q6⟩ hn
    simp only at q1 q2 q3 q4 q5 q6 hn ⊢
    subst q1 q2
    have hT := hinv i hi
    rw [Int.toNat_natCast]
    by_cases hlt : i < O.length
    · have hs' := takeM_succ (xs := xs) (c := c') hlt
      have hv := o2 _ (getD_mem (xs := O) (n := i) hlt)
      have hnew := hOk.new hlt
      have hdrop : O.drop i = O.getD i 0 :: O.drop (i + 1) := by
        rw [List.drop_eq_getElem_cons hlt, List.getD_eq_getElem?_getD, List.getElem?_eq_getElem hlt]
        rfl
      have htk1 : O.take (i + 1) = O.take i ++ [O.getD i 0] := by
        rw [List.take_add_one, show O[i]? = some (O.getD i 0) from get_getD 0 hlt]
        rfl
      obtain ⟨k, hk⟩ : ∃ k : Nat, O.getD i 0 = (k : Int) := ⟨(O.getD i 0).toNat, by omega⟩
      have hkx : k < xs.length := by omega
      rw [hdrop]
      rw [hk] at hv hs' hnew htk1 ⊢
      unfold stepT at hs'
      rw [Int.toNat_natCast] at hs'
      have hn' := fun a b c => hn (a, b, c)
      generalize (takeM xs c' (O.take i)).1 = st at hT hs' q4 q5
      generalize (takeM xs c' (O.take i)).2 = tk at hT hs' q4 q5
      obtain ⟨_, _, _, _, g5, g6, g7⟩ := f3 k hkx
      have hfk := f3 k hkx
      obtain ⟨l1, l2, s, hs, hok, l3, hmin, l4⟩ := hT.next ht (by omega) hkx (hc k hkx)
      rw [hs] at hs'
      have hcon : ∀ j : Nat, j < xs.length → ((O.take i).contains (j : Int) = true ↔ tk.getD j false = true) := fun j hj => by
        rw [hT.mem j hj]
        simp
      rw [decide_eq_true (show (i : Int) < (O.length : Int) by omega), cond_true, idx_int hlt, hk]
      simp only [Option.bind_some]
      rw [idx_at hkx]
      simp only [Option.bind_some]
      rw [range_loop hN (n := (xs.getD k NL).2.2.1.length) (by have := (h.get k).1; omega) (fun b => (O.take i).contains ((xs.getD k NL).2.2.1.getD b 0)) (some ([], 0, false, ()))
        (Option.bind (impl_earliest N xs st' (k : Int)) fun r11 =>
          Option.bind (impl_crewTimes_fit N U c' (xs.getD k NL) r11.1) fun r12 =>
          cond (inB (k : Int) (List.length st'))
            (let xs13 := (List.set st' (Int.toNat (k : Int)) r12.2.1)
            next (xs13, (r12.1.1, r12.1.2), (w64 ((i : Int) + 1)), ())) none)
        (fun s' next' e => by simp only [e, Int.lt_irrefl, decide_false, cond_false])
        (fun b s' next' e hb e2 => by
          have hb1 := g6 b hb
          have hg2 := q4 ((xs.getD k NL).2.2.1.getD b 0).toNat (by omega)
          have hg3 := hcon ((xs.getD k NL).2.2.1.getD b 0).toNat (by omega)
          have hg4 := (hT.bnd ((xs.getD k NL).2.2.1.getD b 0).toNat (by omega)).1
          rw [show ((((xs.getD k NL).2.2.1.getD b 0).toNat : Nat) : Int) = (xs.getD k NL).2.2.1.getD b 0 by omega] at hg3
          simp only [e, show decide ((b : Int) < ((xs.getD k NL).2.2.1.length : Int)) = true from by simpa using hb, cond_true, idx_int hb, Option.bind_some, inB_of (n := (xs.getD k NL).2.2.1.getD b 0) (len := st'.length) (by omega), get_getD 0 (show ((xs.getD k NL).2.2.1.getD b 0).toNat < st'.length by omega), hg2, e2]
          cases hcc : (O.take i).contains ((xs.getD k NL).2.2.1.getD b 0) with
          | true => rw [if_pos (hg3.1 hcc), decide_eq_false (by omega)]; rfl
          | false =>
            rw [if_neg (fun hq => by rw [hg3.2 hq] at hcc; cases hcc)]
            rfl), all_range (fun b => (O.take i).contains b)]
      unfold befG
      rw [Int.toNat_natCast]
      cases hb : (xs.getD k NL).2.2.1.all (fun b => (O.take i).contains b) with
      | false => rfl
      | true =>
        have hbe : ∀ b, b < (xs.getD k NL).2.2.1.length → tk.getD ((xs.getD k NL).2.2.1.getD b 0).toNat false = true := fun b hbl => by
          have hb1 := g6 b hbl
          rw [← all_range (fun b => (O.take i).contains b), List.all_eq_true] at hb
          have := hb b (List.mem_range.2 hbl)
          refine (hcon _ (by omega)).1 ?_
          rw [show ((((xs.getD k NL).2.2.1.getD b 0).toNat : Nat) : Int) = (xs.getD k NL).2.2.1.getD b 0 by omega]
          exact this
        have hle : leastW xs st' k = leastW xs st k := least_congr fun b hbl => by
          have hb1 := g6 b hbl
          rw [q4 _ (by omega), if_pos (hbe b hbl)]
        rw [cond_true, earliest_eq hN h ht q3 hkx]
        simp only [Option.bind_some]
        rw [hle]
        obtain ⟨U', e1, e2, e3⟩ := fit_eq hN (tk := xs.getD k NL) (U := U) ⟨hfk.1, hfk.2.1⟩ ⟨hfk.2.2.1, hfk.2.2.2.1⟩ (fun t => by
          have := uP_bound ht (tk := tk) (st := st) (t := t) xs.length (Nat.le_refl _)
          unfold uS
          omega) q5 (by omega) l1 l3 (by omega) hok hmin
        rw [e1]
        simp only [Option.bind_some]
        rw [inB_of (n := (k : Int)) (len := st'.length) (by omega), cond_true, w64_in (n := (i : Int) + 1) (by omega), Bool.true_and, ← htk1]
        have hnot : tk.getD k false = false := by
          rw [Bool.eq_false_iff]
          intro hq
          exact hnew ((hT.mem k hkx).1 hq)
        have e4 : (U'.length : Int) ≤ 300 * ((i + 1 : Nat) : Int) := by
          have : max (U.length : Int) (s + (xs.getD k NL).1) ≤ 300 * ((i + 1 : Nat) : Int) := Int.max_le.2 ⟨by omega, by omega⟩
          omega
        have hA : ∀ j, j < xs.length → (st'.set k s).getD j 0 = if (takeM xs c' (O.take (i + 1))).2.getD j false = true then (takeM xs c' (O.take (i + 1))).1.getD j 0 else -1 := fun j hj => by
          rw [hs']
          simp only
          rw [getD_set (show k < st'.length by omega), getD_set (show k < st.length by have := hT.l1; omega), getB_set (show k < tk.length by have := hT.l2; omega)]
          by_cases hjk : k = j
          · rw [if_pos hjk, if_pos hjk, if_pos hjk, if_pos rfl]
          · rw [if_neg hjk, if_neg hjk, if_neg hjk]
            exact q4 j hj
        have hB : UOk (uS xs (takeM xs c' (O.take (i + 1))).2 (takeM xs c' (O.take (i + 1))).1) U' := by
          rw [hs']
          simp only
          refine ⟨fun j hj => ?_, fun t htl => ?_⟩
          · rw [uS_set hT.l1 hT.l2 hkx hnot]
            exact e3.1 j hj
          · rw [uS_set hT.l1 hT.l2 hkx hnot]
            exact e3.2 t htl
        have := hn' (st'.set k s) (U', c') ((i : Int) + 1, ()) ⟨i + 1, hlt, by simp only; omega, rfl, by rw [List.length_set]; exact q3, hA, hB, e4⟩ (by simp only; omega)
        rw [this]
        simp only
        rw [show ((i : Int) + 1).toNat = i + 1 by omega]
    · obtain rfl : i = O.length := by omega
      rw [decide_eq_false (show ¬ (O.length : Int) < (O.length : Int) by omega), cond_false, List.take_length, List.drop_length]
      rw [List.take_length] at hT q4
      have hst : st' = (takeM xs c' O).1 := list_ext (by rw [q3, hT.l1]) fun j hj => by
        rw [q4 j (by omega), if_pos ((hT.mem j (by omega)).2 (all_in hOk (by omega) (by omega)))]
      rw [hst, lastEnd_eq hN (xs := xs) (by omega) hT.l1]
      rfl
  · simp only
    rw [List.take_zero]
    show (List.replicate xs.length (-1 : Int)).getD j 0 = if (List.replicate xs.length false).getD j false = true then _ else -1
    rw [getB_rep, if_neg (by simp), List.getD_eq_getElem?_getD, List.getElem?_replicate, if_pos hj]
    rfl







end

end Go.Proofs.Ytnnfapnpijjbdaa
