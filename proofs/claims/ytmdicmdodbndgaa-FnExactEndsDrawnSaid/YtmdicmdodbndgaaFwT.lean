/-
  From a function's contract to a row: the arguments read as plain values, and as they did behind the call. No condition.
-/
import Derived.Test.YtmdicmdodbndgaaFwS
import Derived.WalkKit
import Derived.ProofKit
import Derived.OpenShut
import Derived.WideKeyArgs
import Derived.Deep.Slices
namespace Go.Proofs.Ytmdicmdodbndgaa.Fw
open Go Go.RowKit Go.ChangeShapes Go.WideShapes Go.ChangeAt

def intsB (P : Program) : List Field → Nat → List IntKind → Bool
  | [], _, [] => true
  | f :: r, i, k :: ks => decide (f.offset = i) && decide (P.cellsOf f.type = 1) && (match P.underlying f.type with | some (.int k') => decide (k' = k) | _ => false) && intsB P r (i + 1) ks
  | _, _, _ => false

/-- The shape of a struct. -/
def stS : List Sh → Sh
  | [] => .un
  | [s] => s
  | s :: ss => .pair s (stS ss)

def fieldsB (P : Program) : List Field → Nat → List Sh → Bool
  | [], _, [] => true
  | f :: r, i, s :: ss => decide (f.offset = i) && decide (P.cellsOf f.type = s.size) && fieldsB P r (i + s.size) ss
  | _, _, _ => false

def sumSz : List Sh → Nat
  | [] => 0
  | s :: ss => s.size + sumSz ss

/-- A type's values read as plain values of a shape. -/
inductive HasSh (P : Program) : TypeId → Sh → Prop
  | int {t : TypeId} {k : IntKind} (h : P.underlying t = some (.int k)) : HasSh P t (.int k)
  | bool {t : TypeId} (h : P.underlying t = some .bool) : HasSh P t .bool
  | flt {t : TypeId} {k : FloatKind} (h : P.underlying t = some (.float k)) : HasSh P t (.flt k)
  | sl {t e : TypeId} {s : Sh} (h : P.underlying t = some (.slice e)) (hc : P.cellsOf e = s.size) (hp : 0 < s.size) (he : HasSh P e s) : HasSh P t (.sl s)
  | st {t : TypeId} {ks : List IntKind} (h : (match P.underlying t with | some (.struct fs) => intsB P fs.toList 0 ks && decide (P.cellsOf t = ks.length) | _ => false) = true) (hl : 2 ≤ ks.length) : HasSh P t (stI ks)
  | ss {t : TypeId} {ts : List TypeId} {ss : List Sh} (h : (match P.underlying t with | some (.struct fs) => fieldsB P fs.toList 0 ss && decide (P.cellsOf t = sumSz ss) | _ => false) = true) (hl : 2 ≤ ss.length)
      (hts : (match P.underlying t with | some (.struct fs) => fs.toList.map (·.type) | _ => []) = ts) (he : ∀ (i : Nat) (ft : TypeId) (s : Sh), ts[i]? = some ft → ss[i]? = some s → HasSh P ft s) : HasSh P t (stS ss)

/-- A plain value as a row's argument gives it: numbers in their kind. -/
def Wf : (s : Sh) → s.den → Prop
  | .int k, n => k.min ≤ n ∧ n ≤ k.max
  | .sl s, xs => xs.length ≤ 9223372036854775807 ∧ ∀ x ∈ xs, Wf s x
  | .pair a b, x => Wf a x.1 ∧ Wf b x.2
  | .bx s, x => Wf s x
  | .clo _ s, x => Wf s x
  | .bool, _ => True
  | .flt k, x => ∃ b, x = toF k b
  | .un, _ => True
  | .nw s, x => Wf s x

def WfA : (ins : List Sh) → dens ins → Prop
  | [], _ => True
  | s :: r, x => Wf s x.1 ∧ WfA r x.2

def HasAll (P : Program) : List TypeId → List Sh → Prop
  | [], [] => True
  | t :: ts, s :: ss => HasSh P t s ∧ HasAll P ts ss
  | _, _ => False

theorem hasAll_get {P : Program} : ∀ {ts : List TypeId} {ss : List Sh}, HasAll P ts ss → ∀ (i : Nat) (ft : TypeId) (s : Sh), ts[i]? = some ft → ss[i]? = some s → HasSh P ft s := by
  intro ts
  induction ts with
  | nil => intro ss _ i ft s h; simp at h
  | cons t ts ih =>
    intro ss h i ft s h1 h2
    cases ss with
    | nil => cases h
    | cons s0 ss =>
      cases i with
      | zero => cases h1; cases h2; exact h.1
      | succ i => exact ih h.2 i ft s (by simpa using h1) (by simpa using h2)

section
variable {H : Type} {enc : TypeId × Value → H} {P : Program} {w : World} {base : Nat} {spare : Nat → Bool} {held : Bool}

theorem ints_RC {ok : Bool → Nat → Prop} {Hp : Array Obj} : ∀ {ks : List IntKind} {cs : List Value}, 1 ≤ ks.length → cs.length = ks.length → (∀ (i : Nat) (k : IntKind), ks[i]? = some k → ∃ n, (cs.drop i).take 1 = [.int k n] ∧ (Lit.int k n).wf = true) →
    ∃ y : (stI ks).den, RC ok Hp (stI ks) y cs ∧ Wf (stI ks) y := by
  intro ks
  induction ks with
  | nil => intro cs h; simp at h
  | cons k ks ih =>
    intro cs _ hl h
    cases cs with
    | nil => cases hl
    | cons v cs =>
      obtain ⟨n, h0, hw⟩ := h 0 k rfl
      simp only [List.drop_zero, List.take_succ_cons, List.take_zero, List.cons.injEq, and_true] at h0
      subst h0
      have hw' : k.min ≤ n ∧ n ≤ k.max := by simpa [Lit.wf] using hw
      cases ks with
      | nil =>
        cases cs with
        | nil => exact ⟨n, rfl, hw'⟩
        | cons _ _ => cases hl
      | cons k2 ks =>
        obtain ⟨y, hy, hwy⟩ := ih (cs := cs) (by simp) (by simpa using hl) (fun i k' hk => by simpa using h (i + 1) k' hk)
        exact ⟨(n, y), ⟨[.int k n], cs, rfl, rfl, hy⟩, hw', hwy⟩

theorem intsB_get : ∀ {fs : List Field} {o : Nat} {ks : List IntKind}, intsB P fs o ks = true → ∀ (i : Nat) (k : IntKind), ks[i]? = some k → ∃ f, fs[i]? = some f ∧ f.offset = o + i ∧ P.cellsOf f.type = 1 ∧ P.underlying f.type = some (.int k) := by
  intro fs
  induction fs with
  | nil => intro o ks h i k hk; cases ks with
    | nil => cases hk
    | cons _ _ => cases h
  | cons f fs ih =>
    intro o ks h i k hk
    cases ks with
    | nil => cases hk
    | cons k0 ks =>
      simp only [intsB, Bool.and_eq_true, decide_eq_true_eq] at h
      obtain ⟨⟨⟨h1, h2⟩, h3⟩, h4⟩ := h
      cases i with
      | zero =>
        cases hk
        refine ⟨f, rfl, h1, h2, ?_⟩
        split at h3
        · rename_i k' hk'
          rw [hk', of_decide_eq_true h3]
        · cases h3
      | succ i =>
        obtain ⟨g, g1, g2, g3⟩ := ih h4 i k hk
        exact ⟨g, g1, by omega, g3⟩

theorem fieldsB_get : ∀ {fs : List Field} {o : Nat} {ss : List Sh}, fieldsB P fs o ss = true → ∀ (i : Nat) (s : Sh), ss[i]? = some s → ∃ f, fs[i]? = some f ∧ f.offset = o + sumSz (ss.take i) ∧ P.cellsOf f.type = s.size := by
  intro fs
  induction fs with
  | nil => intro o ss h i s hs; cases ss with
    | nil => cases hs
    | cons _ _ => cases h
  | cons f fs ih =>
    intro o ss h i s hs
    cases ss with
    | nil => cases hs
    | cons s0 ss =>
      simp only [fieldsB, Bool.and_eq_true, decide_eq_true_eq] at h
      obtain ⟨⟨h1, h2⟩, h3⟩ := h
      cases i with
      | zero => cases hs; exact ⟨f, rfl, by simp [sumSz, h1], h2⟩
      | succ i =>
        obtain ⟨g, g1, g2, g3⟩ := ih h3 i s (by simpa using hs)
        exact ⟨g, g1, by rw [g2]; simp [sumSz]; omega, g3⟩

theorem structs_RC {ok : Bool → Nat → Prop} {Hp : Array Obj} : ∀ {ss : List Sh} {cs : List Value}, 1 ≤ ss.length → cs.length = sumSz ss →
    (∀ (i : Nat) (s : Sh), ss[i]? = some s → ∃ y : s.den, RC ok Hp s y ((cs.drop (sumSz (ss.take i))).take s.size) ∧ Wf s y) → ∃ y : (stS ss).den, RC ok Hp (stS ss) y cs ∧ Wf (stS ss) y := by
  intro ss
  induction ss with
  | nil => intro cs h; simp at h
  | cons s ss ih =>
    intro cs _ hl h
    obtain ⟨y0, h0, hw0⟩ := h 0 s rfl
    simp only [List.take_zero, sumSz, List.drop_zero] at h0
    simp only [sumSz] at hl
    cases ss with
    | nil =>
      refine ⟨y0, ?_, hw0⟩
      rw [List.take_of_length_le (by simp only [sumSz] at hl; omega)] at h0
      exact h0
    | cons s2 ss =>
      obtain ⟨y, hy, hwy⟩ := ih (cs := cs.drop s.size) (by simp) (by rw [List.length_drop, hl]; omega) (fun i s' hs' => by
        obtain ⟨z, hz, hwz⟩ := h (i + 1) s' (by simpa using hs')
        refine ⟨z, ?_, hwz⟩
        rw [List.drop_drop]
        simpa [sumSz] using hz)
      exact ⟨(y0, y), ⟨cs.take s.size, cs.drop s.size, (List.take_append_drop _ _).symm, h0, hy⟩, hw0, hwy⟩

theorem trod_RC {t : TypeId} {s : Sh} (hs : HasSh P t s) : ∀ {fuel : Nat} {cs : List Value} {x : DataW H × List MemPlace}, DataW.trod enc P w base spare held fuel t cs = some x →
    ∃ y : s.den, RC (fun _ => (· < w.heap.size)) w.heap s y cs ∧ Wf s y := by
  induction hs with
  | int h =>
    intro fuel cs x hx
    obtain ⟨n, rfl, _, hw⟩ := DataW.trod_int h hx
    exact ⟨n, rfl, by simpa [Lit.wf, Wf] using hw⟩
  | bool h =>
    intro fuel cs x hx
    obtain ⟨b, rfl, _⟩ := DataW.trod_bool h hx
    exact ⟨b, rfl, trivial⟩
  | flt h =>
    intro fuel cs x hx
    rename_i t k
    cases fuel with
    | zero => simp [DataW.trod] at hx
    | succ n =>
      unfold DataW.trod at hx
      rw [h] at hx
      split at hx <;> simp_all
      rename_i h'
      subst h'
      exact ⟨_, ⟨_, rfl, rfl⟩, ⟨_, rfl⟩⟩
  | @sl t e s h hc hp he ih =>
    intro fuel cs x hx
    rcases Deep.open_slice h hx with ⟨rfl, _⟩ | ⟨a, len, cap, m, n, D, Pl, rfl, hb, hl, hm, hmm, _, hel⟩
    · exact ⟨[], ⟨none, 0, rfl, Nat.le_refl _, fun h => absurd rfl h⟩, by simp, fun x hx => by cases hx⟩
    · have hle : len ≤ m := by rw [hmm]; split <;> omega
      have hget : ∀ i, i < len → ∃ z : s.den × List Value, (∀ j, j < s.size → w.cell? ((a.add (i * s.size)).add j) = z.2[j]?) ∧ z.2.length = s.size ∧ RC (fun _ => (· < w.heap.size)) w.heap s z.1 z.2 ∧ Wf s z.1 := by
        intro i hi
        obtain ⟨cs', h1, h2⟩ := hel i (by omega)
        obtain ⟨y, hy, hw⟩ := ih h2
        rw [hc] at h1
        obtain ⟨_, k2, k3⟩ := World.cells?_some h1
        exact ⟨⟨y, cs'⟩, k3, k2, hy, hw⟩
      haveI : Inhabited (s.den × List Value) := ⟨⟨s.zero, []⟩⟩
      obtain ⟨f, hf⟩ := Deep.choose_lt hget
      have hlen : ((List.range len).map fun i => (f i).1).length = len := by simp
      refine ⟨(List.range len).map fun i => (f i).1, ⟨some a, cap, by rw [hlen], by rw [hlen]; exact hl, fun hne => ?_⟩, by rw [hlen]; unfold maxLen at hm; omega, fun y hy => ?_⟩
      · have h0 : 0 < len := by
          rcases Nat.eq_zero_or_pos len with h0 | h0
          · subst h0; exact absurd rfl hne
          · exact h0
        obtain ⟨k1, k2, _, _⟩ := hf 0 h0
        have hc0 := k1 0 hp
        rw [Nat.zero_mul] at hc0
        have ha : (a.add 0).add 0 = a := by simp [Addr.add]
        rw [ha, List.getElem?_eq_getElem (by omega)] at hc0
        have hspot := World.cell?_spot hc0
        obtain ⟨b, off, spot⟩ := a
        simp only at hspot
        subst hspot
        refine ⟨b, off, rfl, ?_, fun i x hi => ?_⟩
        · rw [cell_eq] at hc0
          unfold cellH at hc0
          split at hc0
          · rename_i hh; exact lt_of_some hh
          · cases hc0
        · rw [List.getElem?_map] at hi
          obtain ⟨i', hi', rfl⟩ := Option.map_eq_some_iff.1 hi
          have hlt : i < len := by
            rcases Nat.lt_or_ge i len with h' | h'
            · exact h'
            · rw [List.getElem?_eq_none (by simpa using h')] at hi'; cases hi'
          rw [List.getElem?_range hlt] at hi'
          cases hi'
          obtain ⟨k1, k2, k3, _⟩ := hf i hlt
          refine ⟨(f i).2, k2, fun j v hj => ?_, k3⟩
          have hjl : j < s.size := by
            rcases Nat.lt_or_ge j s.size with h' | h'
            · exact h'
            · rw [List.getElem?_eq_none (by omega)] at hj; cases hj
          have := k1 j hjl
          rw [hj] at this
          rw [← cell_eq, ← this]
          congr 1
          by_cases q1 : i * s.size = 0 <;> by_cases q2 : j = 0 <;> simp [Addr.add, q1, q2]
      · obtain ⟨i, hi, rfl⟩ := List.mem_map.1 hy
        exact (hf i (List.mem_range.1 hi)).2.2.2
  | st h hl =>
    intro fuel cs x hx
    split at h
    · rename_i fs hu
      simp only [Bool.and_eq_true, decide_eq_true_eq] at h
      obtain ⟨h1, h2⟩ := h
      obtain ⟨xs, n, rfl, rfl, k1, k2, k3⟩ := DataW.trod_struct hu hx
      refine ints_RC (by omega) (by rw [k1, h2]) fun i k hk => ?_
      obtain ⟨f, f1, f2, f3, f4⟩ := intsB_get h1 i k hk
      have f1' : fs[i]? = some f := by rwa [Array.getElem?_toList] at f1
      have hx' := k3 i f f1'
      have hlt : i < xs.length := by rw [k2]; exact lt_of_some f1'
      rw [f3, f2, Nat.zero_add, List.getElem?_eq_getElem hlt] at hx'
      obtain ⟨m, m1, _, m2⟩ := DataW.trod_int f4 hx'
      exact ⟨m, m1, m2⟩
    · cases h
  | @ss t ts ss h hl hts he ih =>
    intro fuel cs x hx
    split at h
    · rename_i fs hu
      simp only [hu] at hts
      simp only [Bool.and_eq_true, decide_eq_true_eq] at h
      obtain ⟨h1, h2⟩ := h
      obtain ⟨xs, n, rfl, rfl, k1, k2, k3⟩ := DataW.trod_struct hu hx
      refine structs_RC (by omega) (by rw [k1, h2]) fun i s hs => ?_
      obtain ⟨f, f1, f2, f3⟩ := fieldsB_get h1 i s hs
      have f1' : fs[i]? = some f := by rwa [Array.getElem?_toList] at f1
      have hx' := k3 i f f1'
      have hlt : i < xs.length := by rw [k2]; exact lt_of_some f1'
      rw [f3, f2, Nat.zero_add, List.getElem?_eq_getElem hlt] at hx'
      exact ih i f.type s (by rw [← hts, List.getElem?_map, f1]; rfl) hs hx'
    · cases h

theorem agg_st {ks : List IntKind} (hl : 2 ≤ ks.length) : (stI ks).isAgg = true := by
  match ks, hl with
  | _ :: _ :: _, _ => rfl

theorem agg_ss {ss : List Sh} (hl : 2 ≤ ss.length) : (stS ss).isAgg = true := by
  match ss, hl with
  | _ :: _ :: _, _ => rfl

theorem agg_of {t : TypeId} {s : Sh} (hs : HasSh P t s) {r : Reach} {b : Nat} {v : Value} (h : Value.okWide P w r b t v) : aggV v = s.isAgg := by
  cases hs with
  | int h1 => obtain ⟨n, rfl⟩ := okWide_int h1 h; rfl
  | bool h1 => obtain ⟨n, rfl⟩ := okWide_bool h1 h; rfl
  | flt h1 => obtain ⟨n, rfl⟩ := okWide_float h1 h; rfl
  | sl h1 => obtain ⟨a, l, c, rfl⟩ := okWide_slice h1 h; rfl
  | st h1 hl =>
    split at h1
    · rename_i fs hu
      obtain ⟨cs, rfl, _⟩ := okWide_struct hu h
      rw [agg_st hl]
      rfl
    · cases h1
  | ss h1 hl hts he =>
    split at h1
    · rename_i fs hu
      obtain ⟨cs, rfl, _⟩ := okWide_struct hu h
      rw [agg_ss hl]
      rfl
    · cases h1

theorem args_in : ∀ {ts : List TypeId} {ins : List Sh}, HasAll P ts ins → ∀ {vs : List Value} {ds : List (DataW H)} {ps : List MemPlace} {r : Reach} {b : Nat},
    DataW.TrodAll enc P w base spare held ts vs ds ps → (∀ (j : Nat) (t : TypeId) (v : Value), ts[j]? = some t → vs[j]? = some v → Value.okWide P w r b t v) →
    ∃ x : dens ins, ArgR (fun _ => (· < w.heap.size)) w.heap ins x vs ∧ WfA ins x := by
  intro ts
  induction ts with
  | nil =>
    intro ins hh vs ds ps r b h _
    cases ins with
    | nil =>
      obtain ⟨rfl, rfl, rfl⟩ := trodAll_nil h
      exact ⟨(), trivial, trivial⟩
    | cons s ss => cases hh
  | cons t ts ih =>
    intro ins hh vs ds ps r b h hv
    cases ins with
    | nil => cases hh
    | cons s ss =>
      obtain ⟨v, vs', d, ds', p, q, rfl, rfl, rfl, h0, h1⟩ := trodAll_cons h
      obtain ⟨x, hx, hw⟩ := ih hh.2 h1 (fun j t v h2 h3 => hv (j + 1) t v h2 h3)
      obtain ⟨fuel, h0⟩ := h0
      obtain ⟨y, hy, hyw⟩ := trod_RC hh.1 h0
      exact ⟨(y, x), ⟨⟨hy, agg_of hh.1 (hv 0 t v rfl rfl)⟩, hx⟩, hyw, hw⟩

theorem trodAll_stays {W W' : World} (hl : laidOutB P = true) (hb : Below W.heap.size W W') {sp : Nat → Bool} : ∀ {ts : List TypeId}, (∀ t ∈ ts, P.readableRec t = true ∧ t < P.types.size) →
    ∀ {vs : List Value} {ds : List (DataW H)} {ps : List MemPlace}, DataW.TrodAll enc P W base (fun _ => true) true ts vs ds ps → (∀ p ∈ ps, p.block < W.heap.size) → (∀ p ∈ ps, sp p.block = true) →
    DataW.TrodAll enc P W' base sp true ts vs ds ps := by
  intro ts
  induction ts with
  | nil =>
    intro _ vs ds ps h _ _
    obtain ⟨rfl, rfl, rfl⟩ := trodAll_nil h
    exact trodAll_mk0
  | cons t ts ih =>
    intro hr vs ds ps h h1 h2
    obtain ⟨v, vs', d, ds', p, q, rfl, rfl, rfl, k0, k1⟩ := trodAll_cons h
    refine trodAll_cons_mk (WideElems.Trod_stays hl (hr t List.mem_cons_self).1 (hr t List.mem_cons_self).2 k0 (fun x hx => hb.same (h1 x (List.mem_append_left _ hx))) (fun x hx => h2 x (List.mem_append_left _ hx))) ?_
    exact ih (fun t ht => hr t (List.mem_cons_of_mem _ ht)) k1 (fun x hx => h1 x (List.mem_append_right _ hx)) (fun x hx => h2 x (List.mem_append_right _ hx))

theorem post_below {f : Func} {s : ChangeSpec} {apart fresh handsOn again : Bool} {W W' : World} {args : Array Value} {v : Value} {ds gs : List (DataW H)} {before pa pv : List MemPlace}
    (hW : DataW.Whole enc P f.params.toList s.vars apart W args.toList ds gs before)
    (hres : ∀ (b : Nat) (sp : Nat → Bool) (hd : Bool), DataW.TrodAll enc P W' b sp hd f.resultTypes.toList (v.resultList f.resultTypes.size) (s.fn H (ds ++ gs)).results [])
    (hargs : ∀ sp : Nat → Bool, (∀ p ∈ before, sp p.block = true) → DataW.TrodAll enc P W' 0 sp true f.params.toList args.toList (s.fn H (ds ++ gs)).args pa)
    (hvars : ∀ sp : Nat → Bool, (∀ p ∈ before, sp p.block = true) → DataW.TrodVars enc P W' sp s.vars (s.fn H (ds ++ gs)).vars pv)
    (hps : before = pa ++ pv) (hb : Below W.heap.size W W')
    (hok : ∀ (j : Nat) (t : TypeId) (r : Value), f.resultTypes[j]? = some t → (v.resultList f.resultTypes.size)[j]? = some r → Value.okWide P W' .any 0 t r) :
    s.post enc P f apart fresh handsOn again W args v W' := by
  have hlt : ∀ p ∈ before, p.block < W.heap.size := fun p hp => hW.lt p hp
  have hold : ∀ p ∈ before, (fun b => decide (b < W.heap.size)) p.block = true := fun p hp => by simpa using hlt p hp
  refine ⟨ds, gs, before, [], pa, pv, hW, hres _ _ _, hargs _ hold, hvars _ hold, World.keptBut_mono (fun p hp => ⟨hp, ?_⟩) (hb.frame (· ∈ before)), fun _ => ?_⟩
  · rw [hps, List.mem_append] at hp
    exact Or.inr hp
  · obtain ⟨_, _, _, _, _, hz, hn⟩ := hW
    refine ⟨hok, _, _, ([] ++ pa) ++ pv, ⟨[] ++ pa, pv, trodAll_append (hargs _ (fun _ _ => rfl)) (hres _ _ _), hvars _ (fun _ _ => rfl), rfl, ?_, ?_⟩, ?_⟩
    · intro b off hp
      have hin : MemPlace.cell b off ∈ before := by rw [hps]; simpa using hp
      rw [hb.frozen (hlt _ hin)]
      exact hz b off hin
    · intro ha
      have := hn ha
      rw [hps] at this
      simpa using this
    · intro p hp _
      rw [hps]
      simpa using hp

/-- A law whose plain function answers true at every well-formed argument keeps its row's contract. -/
theorem law_post {f : FuncId} {fn : Func} {s : ChangeSpec} {apart fresh handsOn again : Bool} {ins : List Sh} {F : dens ins → Option (dens ([RK.val .bool].map RK.sh))} {tb : TypeId}
    (hS : SoundC P f { ins := ins, outs := [.val .bool], F := F }) (hF : ∀ x, WfA ins x → F x = some (true, ()))
    (hfn : P.funcs[f]? = some fn) (hbody : fn.body.isSome = true) (hname : (fn.name == "runtime.NumGoroutine") = false)
    (hh : HasAll P fn.params.toList ins) (hl : laidOutB P = true) (hr : ∀ t ∈ fn.params.toList, P.readableRec t = true ∧ t < P.types.size)
    (hres : fn.resultTypes = #[tb]) (htb : P.underlying tb = some .bool) (hvars : s.vars = [])
    (hspec : ∀ ds : List (DataW H), ds.length = fn.params.size → s.fn H ds = { results := [.lit (.bool true)], args := ds })
    {W : World} {bs : Nat} {args : Array Value} {ds gs : List (DataW H)} {before : List MemPlace}
    (hval : ∀ (j : Nat) (t : TypeId) (v : Value), fn.params[j]? = some t → args[j]? = some v → Value.okWide P W .any bs t v)
    (hW : DataW.Whole enc P fn.params.toList s.vars apart W args.toList ds gs before) :
    Calls P f args W fun e W' => ∃ v, e = .returned v ∧ s.post enc P fn apart fresh handsOn again W args v W' := by
  have hW' := hW
  obtain ⟨p, q, hA, hV, rfl, hfz, hnd⟩ := hW
  rw [hvars] at hV
  obtain ⟨rfl, rfl⟩ := trodVars_none hV
  have hlen : ds.length = fn.params.size := by
    have : ∀ {ts : List TypeId} {vs : List Value} {ds : List (DataW H)} {ps : List MemPlace}, DataW.TrodAll enc P W 0 (fun _ => true) true ts vs ds ps → ds.length = ts.length := by
      intro ts
      induction ts with
      | nil => intro vs ds ps h; obtain ⟨rfl, rfl, rfl⟩ := trodAll_nil h; rfl
      | cons t ts ih => intro vs ds ps h; obtain ⟨v, vs', d, ds', p, q, rfl, rfl, rfl, k0, k1⟩ := trodAll_cons h; simp [ih k1]
    simpa using this hA
  obtain ⟨x, hx, hw⟩ := args_in hh hA (r := .any) (b := bs) (fun j t v h1 h2 => hval j t v (by simpa using h1) (by simpa using h2))
  have hc := hS (· < W.heap.size) W args.toList x _ (fun b hb => hb) hx (hF x hw)
  have hcall : (callFunc f args).run P W = .ok (.enter f args) W := by
    have h1 : fn.name ≠ "runtime.NumGoroutine" := by simpa using hname
    obtain ⟨c, h2⟩ := Option.isSome_iff_exists.1 hbody
    simp [callFunc, hfn, h1, h2]
  unfold CallOk at hc
  rw [Array.toArray_toList, hcall] at hc
  refine hc.2.mono fun e W' ⟨v, he, vs, bs, hv, hb, _, hR⟩ => ⟨v, he, ?_⟩
  -- the one answer
  have hv1 : v = .bool true := by
    match vs, hR with
    | [u], hR =>
      have h1 : v = u := hv
      obtain ⟨⟨hc, ha⟩, _⟩ := hR
      simp only [RC] at hc
      subst h1
      cases v <;> simp_all [Value.cells, aggV, Sh.isAgg]
    | _ :: _ :: _, hR => simp [ResR] at hR
  subst hv1
  simp only [List.append_nil] at hW'
  have hsp := hspec ds hlen
  refine post_below (pa := p) (pv := []) hW' (fun b sp hd => ?_) (fun sp hsp' => ?_) (fun sp _ => ?_) (List.append_nil _).symm hb (ok_one hres rfl (okWide_bool_mk htb true))
  · rw [List.append_nil, hsp, hres]
    exact trodAll_mk1 (shut_bool htb true)
  · rw [List.append_nil, hsp]
    exact trodAll_stays hl hb hr hA (fun p hp => hW'.lt p hp) hsp'
  · rw [List.append_nil, hsp, hvars]
    exact rfl
end

end Go.Proofs.Ytmdicmdodbndgaa.Fw
