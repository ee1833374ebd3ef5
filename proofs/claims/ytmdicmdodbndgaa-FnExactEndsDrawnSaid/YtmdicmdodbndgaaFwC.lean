/-
  How plain values stand to memory: the relations, and that they are kept. No condition.
-/
import Derived.Test.YtmdicmdodbndgaaFwB
namespace Go.Proofs.Ytmdicmdodbndgaa.Fw
open Go Go.RowKit

def cellH (H : Array Obj) (b o : Nat) : Option Value :=
  match H[b]? with
  | some (.cells c _ _) => c[o]?
  | _ => none

def bsz (H : Array Obj) (b : Nat) : Option Nat :=
  match H[b]? with
  | some (.cells c _ _) => some c.size
  | _ => none

theorem cell_eq (w : World) (b o : Nat) : w.cell? ⟨b, o, none⟩ = cellH w.heap b o := by
  unfold World.cell? cellH
  cases h : w.heap[b]? with
  | none => rfl
  | some x => cases x <;> rfl

def Reads (H : Array Obj) (b o : Nat) (l : List Value) : Prop := ∀ j v, l[j]? = some v → cellH H b (o + j) = some v

/-- A list of cells reads as a plain value. -/
def RC (ok : Bool → Nat → Prop) (H : Array Obj) : (s : Sh) → s.den → List Value → Prop
  | .int k, n, cs => cs = [.int k n]
  | .bool, b, cs => cs = [.bool b]
  | .flt k, x, cs => ∃ b, cs = [.float k b] ∧ x = toF k b
  | .sl s, xs, cs => ∃ A c, cs = [.slice A xs.length c] ∧ xs.length ≤ c ∧ (xs ≠ [] → ∃ b off, A = some ⟨b, off, none⟩ ∧ ok false b ∧
      ∀ i x, xs[i]? = some x → ∃ l, l.length = s.size ∧ Reads H b (off + i * s.size) l ∧ RC ok H s x l)
  | .pair a b, x, cs => ∃ c1 c2, cs = c1 ++ c2 ∧ RC ok H a x.1 c1 ∧ RC ok H b x.2 c2
  | .bx s, x, cs => ∃ b off l, cs = [.pointer (some ⟨b, off, none⟩)] ∧ ok false b ∧ l.length = s.size ∧ Reads H b off l ∧ RC ok H s x l
  | .clo f s, x, cs => ∃ caps : Array Value, cs = [.func (.func f) #[] caps] ∧ RC ok H s x caps.toList
  | .un, _, cs => cs = []
  | .nw s, x, cs => RC (fun _ => ok true) H s x cs

theorem RC.len {H : Array Obj} : ∀ {s : Sh} {ok : Bool → Nat → Prop} {x : s.den} {cs : List Value}, RC ok H s x cs → cs.length = s.size := by
  intro s
  induction s with
  | int k => intro ok x cs h; simp only [RC] at h; subst h; rfl
  | bool => intro ok x cs h; simp only [RC] at h; subst h; rfl
  | flt k => intro ok x cs h; simp only [RC] at h; obtain ⟨b, rfl, _⟩ := h; rfl
  | sl s ih => intro ok x cs h; simp only [RC] at h; obtain ⟨A, c, rfl, _⟩ := h; rfl
  | pair a b iha ihb =>
    intro ok x cs h
    simp only [RC] at h
    obtain ⟨c1, c2, rfl, h1, h2⟩ := h
    simp [Sh.size, iha h1, ihb h2]
  | bx s ih => intro ok x cs h; simp only [RC] at h; obtain ⟨b, off, l, rfl, _⟩ := h; rfl
  | clo f s ih => intro ok x cs h; simp only [RC] at h; obtain ⟨caps, rfl, _⟩ := h; rfl
  | un => intro ok x cs h; simp only [RC] at h; subst h; rfl
  | nw s ih => intro ok x cs h; simp only [RC] at h; exact ih h

theorem RC.mono_ {H H' : Array Obj} :
    ∀ {s : Sh} {ok ok' : Bool → Nat → Prop} (_ : ∀ i b, ok i b → ok' i b ∧ ∀ o, cellH H' b o = cellH H b o) {x : s.den} {cs : List Value}, RC ok H s x cs → RC ok' H' s x cs := by
  intro s
  induction s with
  | int k => intro ok ok' hok x cs h; exact h
  | bool => intro ok ok' hok x cs h; exact h
  | flt k => intro ok ok' hok x cs h; exact h
  | sl s ih =>
    intro ok ok' hok x cs h
    simp only [RC] at h ⊢
    obtain ⟨A, c, rfl, hc, hx⟩ := h
    refine ⟨A, c, rfl, hc, fun hne => ?_⟩
    obtain ⟨b, off, rfl, hb, hi⟩ := hx hne
    refine ⟨b, off, rfl, (hok false b hb).1, fun i y hy => ?_⟩
    obtain ⟨l, hl, hr, hR⟩ := hi i y hy
    exact ⟨l, hl, fun j v hv => by rw [(hok false b hb).2]; exact hr j v hv, ih hok hR⟩
  | pair a b iha ihb =>
    intro ok ok' hok x cs h
    simp only [RC] at h ⊢
    obtain ⟨c1, c2, rfl, h1, h2⟩ := h
    exact ⟨c1, c2, rfl, iha hok h1, ihb hok h2⟩
  | bx s ih =>
    intro ok ok' hok x cs h
    simp only [RC] at h ⊢
    obtain ⟨b, off, l, rfl, hb, hl, hr, hR⟩ := h
    exact ⟨b, off, l, rfl, (hok false b hb).1, hl, fun j v hv => by rw [(hok false b hb).2]; exact hr j v hv, ih hok hR⟩
  | clo f s ih =>
    intro ok ok' hok x cs h
    simp only [RC] at h ⊢
    obtain ⟨caps, rfl, h⟩ := h
    exact ⟨caps, rfl, ih hok h⟩
  | un => intro ok ok' hok x cs h; exact h
  | nw s ih =>
    intro ok ok' hok x cs h
    simp only [RC] at h ⊢
    exact ih (fun _ b hb => hok true b hb) h

theorem RC.mono {ok ok' : Bool → Nat → Prop} {H H' : Array Obj} (hok : ∀ i b, ok i b → ok' i b ∧ ∀ o, cellH H' b o = cellH H b o) :
    ∀ {s : Sh} {x : s.den} {cs : List Value}, RC ok H s x cs → RC ok' H' s x cs := RC.mono_ hok

/-- What is new may be taken for what need not be. -/
theorem RC.weak {ok : Bool → Nat → Prop} {H : Array Obj} (hok : ∀ b, ok true b → ok false b) {s : Sh} {x : s.den} {cs : List Value} (h : RC ok H (.nw s) x cs) : RC ok H s x cs := by
  simp only [RC] at h
  refine RC.mono (ok := fun _ => ok true) (fun i b hb => ⟨?_, fun _ => rfl⟩) h
  cases i with
  | false => exact hok b hb
  | true => exact hb

theorem RC.plain_ {H H' : Array Obj} :
    ∀ {s : Sh} {ok ok' : Bool → Nat → Prop}, s.plain = true → (∀ b, ok false b → ok' false b ∧ ∀ o, cellH H' b o = cellH H b o) → ∀ {x : s.den} {cs : List Value}, RC ok H s x cs → RC ok' H' s x cs := by
  intro s
  induction s with
  | int k => intro ok ok' _ hok x cs h; exact h
  | bool => intro ok ok' _ hok x cs h; exact h
  | flt k => intro ok ok' _ hok x cs h; exact h
  | sl s ih =>
    intro ok ok' hp hok x cs h
    simp only [RC] at h ⊢
    obtain ⟨A, c, rfl, hc, hx⟩ := h
    refine ⟨A, c, rfl, hc, fun hne => ?_⟩
    obtain ⟨b, off, rfl, hb, hi⟩ := hx hne
    refine ⟨b, off, rfl, (hok b hb).1, fun i y hy => ?_⟩
    obtain ⟨l, hl, hr, hR⟩ := hi i y hy
    exact ⟨l, hl, fun j v hv => by rw [(hok b hb).2]; exact hr j v hv, ih hp hok hR⟩
  | pair a b iha ihb =>
    intro ok ok' hp hok x cs h
    simp only [Sh.plain, Bool.and_eq_true] at hp
    simp only [RC] at h ⊢
    obtain ⟨c1, c2, rfl, h1, h2⟩ := h
    exact ⟨c1, c2, rfl, iha hp.1 hok h1, ihb hp.2 hok h2⟩
  | bx s ih =>
    intro ok ok' hp hok x cs h
    simp only [RC] at h ⊢
    obtain ⟨b, off, l, rfl, hb, hl, hr, hR⟩ := h
    exact ⟨b, off, l, rfl, (hok b hb).1, hl, fun j v hv => by rw [(hok b hb).2]; exact hr j v hv, ih hp hok hR⟩
  | clo f s ih =>
    intro ok ok' hp hok x cs h
    simp only [RC] at h ⊢
    obtain ⟨caps, rfl, h⟩ := h
    exact ⟨caps, rfl, ih hp hok h⟩
  | un => intro ok ok' _ hok x cs h; exact h
  | nw s ih => intro ok ok' hp; cases hp

def aggV : Value → Bool
  | .agg _ => true
  | _ => false

theorem RC.one {H : Array Obj} : ∀ {s : Sh} {ok : Bool → Nat → Prop} {x : s.den} {cs : List Value}, RC ok H s x cs → ∀ v ∈ cs, oneV v = true := by
  intro s
  induction s with
  | int k => intro ok x cs h; simp only [RC] at h; subst h; simp [oneV]
  | bool => intro ok x cs h; simp only [RC] at h; subst h; simp [oneV]
  | flt k => intro ok x cs h; simp only [RC] at h; obtain ⟨b, rfl, _⟩ := h; simp [oneV]
  | sl s ih => intro ok x cs h; simp only [RC] at h; obtain ⟨A, c, rfl, _⟩ := h; simp [oneV]
  | pair a b iha ihb =>
    intro ok x cs h
    simp only [RC] at h
    obtain ⟨c1, c2, rfl, h1, h2⟩ := h
    intro v hv
    rcases List.mem_append.1 hv with hv | hv
    · exact iha h1 v hv
    · exact ihb h2 v hv
  | bx s ih => intro ok x cs h; simp only [RC] at h; obtain ⟨b, off, l, rfl, _⟩ := h; simp [oneV]
  | clo f s ih => intro ok x cs h; simp only [RC] at h; obtain ⟨caps, rfl, _⟩ := h; simp [oneV]
  | un => intro ok x cs h; simp only [RC] at h; subst h; simp
  | nw s ih => intro ok x cs h; simp only [RC] at h; exact ih h

theorem RC.noref {H H' : Array Obj} : ∀ {s : Sh} {ok ok' : Bool → Nat → Prop} {x : s.den} {cs : List Value}, s.ref = false → RC ok H s x cs → RC ok' H' s x cs := by
  intro s
  induction s with
  | int k => intro ok ok' x cs _ h; exact h
  | bool => intro ok ok' x cs _ h; exact h
  | flt k => intro ok ok' x cs _ h; exact h
  | sl s _ => intro ok ok' x cs hr; simp [Sh.ref] at hr
  | bx s _ => intro ok ok' x cs hr; simp [Sh.ref] at hr
  | clo f s _ => intro ok ok' x cs hr; simp [Sh.ref] at hr
  | pair a b iha ihb =>
    intro ok ok' x cs hr h
    simp only [Sh.ref, Bool.or_eq_false_iff] at hr
    simp only [RC] at h ⊢
    obtain ⟨c1, c2, rfl, h1, h2⟩ := h
    exact ⟨c1, c2, rfl, iha hr.1 h1, ihb hr.2 h2⟩
  | un => intro ok ok' x cs _ h; exact h
  | nw s ih => intro ok ok' x cs hr h; simp only [RC] at h ⊢; exact ih hr h

/-- A slice of an own array: len of its elements from off on. -/
def SlV (m : Nat → Option Nat) (H : Array Obj) (h size off len : Nat) (v : Value) : Prop :=
  match m h with
  | none => v = .slice none 0 0 ∧ len = 0
  | some b => ∃ o c, v = .slice (some ⟨b, o, none⟩) len c ∧ len ≤ c ∧ (c ≠ 0 → o = off * size) ∧ ∀ n, bsz H b = some n → (off + c) * size ≤ n

/-- A value as the evaluator has it, and as the model has it. -/
inductive RV (ok : Bool → Nat → Prop) (m : Nat → Option Nat) (O : Nat → Option AO) (H : Array Obj) : AV → Value → Prop
  | top (v : Value) : RV ok m O H .top v
  | g (s : Sh) (x : s.den) (v : Value) (hc : RC ok H s x v.cells.toList) (ha : aggV v = s.isAgg) : RV ok m O H (.g s x) v
  | full (h : Nat) (v : Value) (hv : ∀ s xs, O h = some (.arr s xs) → SlV m H h s.size 0 xs.length v) (ho : oneV v = true) : RV ok m O H (.full h) v
  | slc (h off len : Nat) (v : Value) (hv : ∀ s xs, O h = some (.arr s xs) → SlV m H h s.size off len v ∧ off + len ≤ xs.length) (ho : oneV v = true) : RV ok m O H (.slc h off len) v
  | ptr (h off : Nat) (v : Value) (hv : ∀ cells, O h = some (.box cells) → ∃ b, m h = some b ∧ v = .pointer (some ⟨b, off, none⟩)) (ho : oneV v = true) : RV ok m O H (.ptr h off) v
  | el (h i : Nat) (v : Value) (hv : ∀ s xs, O h = some (.arr s xs) → i < xs.length ∧ ∃ b, m h = some b ∧ v = .pointer (some ⟨b, i * s.size, none⟩)) (ho : oneV v = true) : RV ok m O H (.el h i) v
  | rp (s : Sh) (x : s.den) (b off : Nat) (l : List Value) (hb : ok false b) (hl : l.length = s.size) (hr : Reads H b off l) (hc : RC ok H s x l) : RV ok m O H (.rp s x) (.pointer (some ⟨b, off, none⟩))
  | nil : RV ok m O H .nil (.slice none 0 0)
  | agg (l : List AV) (vs : Array Value) (hs : vs.size = l.length) (hv : ∀ (i : Nat) (a : AV) (v : Value), l[i]? = some a → vs[i]? = some v → RV ok m O H a v) (ho : ∀ v ∈ vs.toList, oneV v = true) : RV ok m O H (.agg l) (.agg vs)
  | tup (l : List AV) (vs : Array Value) (hs : vs.size = l.length) (hv : ∀ (i : Nat) (a : AV) (v : Value), l[i]? = some a → vs[i]? = some v → RV ok m O H a v) : RV ok m O H (.tup l) (.tuple vs)
  | fn (f : Nat) (l : List AV) (vs : Array Value) (hs : vs.size = l.length) (hv : ∀ (i : Nat) (a : AV) (v : Value), l[i]? = some a → vs[i]? = some v → RV ok m O H a v) (ho : ∀ v ∈ vs.toList, oneV v = true) : RV ok m O H (.fn f l) (.func (.func f) #[] vs)

/-- A value names an object. -/
inductive Mn (d : Nat) : AV → Prop
  | full : Mn d (.full d)
  | slc (off len : Nat) : Mn d (.slc d off len)
  | ptr (off : Nat) : Mn d (.ptr d off)
  | el (i : Nat) : Mn d (.el d i)
  | agg (l : List AV) (a : AV) (ha : a ∈ l) (hm : Mn d a) : Mn d (.agg l)
  | tup (l : List AV) (a : AV) (ha : a ∈ l) (hm : Mn d a) : Mn d (.tup l)
  | fn (f : Nat) (l : List AV) (a : AV) (ha : a ∈ l) (hm : Mn d a) : Mn d (.fn f l)

theorem ment_of_Mn {d : Nat} : ∀ (n : Nat) {a : AV}, Mn d a → ment d n a = true := by
  intro n
  induction n with
  | zero => intro a _; rfl
  | succ n ih =>
    intro a h
    cases h with
    | full => simp [ment]
    | slc off len => simp [ment]
    | ptr off => simp [ment]
    | el i => simp [ment]
    | agg l a ha hm => simp only [ment]; exact List.any_eq_true.2 ⟨a, ha, ih hm⟩
    | tup l a ha hm => simp only [ment]; exact List.any_eq_true.2 ⟨a, ha, ih hm⟩
    | fn f l a ha hm => simp only [ment]; exact List.any_eq_true.2 ⟨a, ha, ih hm⟩

theorem not_Mn {d n : Nat} {a : AV} (h : ment d n a = false) : ¬ Mn d a := fun hm => by
  rw [ment_of_Mn n hm] at h
  cases h

def AO.like : AO → AO → Prop
  | .arr s xs, .arr s' ys => s = s' ∧ xs.length = ys.length
  | .box a, .box b => a.length = b.length
  | _, _ => False

theorem AO.like_refl (o : AO) : o.like o := by cases o <;> simp [AO.like]

/-- From one state of the objects to a later one: what is not dead is as it was. -/
structure Tr (ok : Bool → Nat → Prop) (m : Nat → Option Nat) (O : Nat → Option AO) (H : Array Obj) (ok' : Bool → Nat → Prop) (m' : Nat → Option Nat) (O' : Nat → Option AO) (H' : Array Obj) (dead : Nat → Prop) : Prop where
  okc : ∀ i b, ok i b → ok' i b ∧ ∀ o, cellH H' b o = cellH H b o
  obc : ∀ h o, O' h = some o → ¬ dead h → ∃ o', O h = some o' ∧ o'.like o ∧ m' h = m h ∧ ∀ b, m h = some b → bsz H' b = bsz H b

theorem SlV.mono {m m' : Nat → Option Nat} {H H' : Array Obj} {h size off len : Nat} {v : Value} (hm : m' h = m h) (hb : ∀ b, m h = some b → bsz H' b = bsz H b)
    (hs : SlV m H h size off len v) : SlV m' H' h size off len v := by
  unfold SlV at *
  rw [hm]
  cases hmh : m h with
  | none => rw [hmh] at hs; exact hs
  | some b =>
    rw [hmh] at hs
    obtain ⟨o, c, h1, h2, h3, h4⟩ := hs
    exact ⟨o, c, h1, h2, h3, fun n hn => h4 n (by rw [← hb b hmh]; exact hn)⟩

theorem RV.mono {ok ok' : Bool → Nat → Prop} {m m' : Nat → Option Nat} {O O' : Nat → Option AO} {H H' : Array Obj} {dead : Nat → Prop} (T : Tr ok m O H ok' m' O' H' dead)
    {a : AV} {v : Value} (h : RV ok m O H a v) (hd : ∀ d, dead d → ¬ Mn d a) : RV ok' m' O' H' a v := by
  induction h with
  | top v => exact .top v
  | g s x v hc ha => exact .g s x v (RC.mono T.okc hc) ha
  | full h v hv ho =>
    refine .full h v (fun s xs hO => ?_) ho
    obtain ⟨o', h1, h2, h3, h4⟩ := T.obc h _ hO (fun hh => hd h hh .full)
    cases o' with
    | box c => simp [AO.like] at h2
    | arr s' xs' =>
      obtain ⟨rfl, hl⟩ := h2
      rw [← hl]
      exact (hv _ _ h1).mono h3 h4
  | slc h off len v hv ho =>
    refine .slc h off len v (fun s xs hO => ?_) ho
    obtain ⟨o', h1, h2, h3, h4⟩ := T.obc h _ hO (fun hh => hd h hh (.slc off len))
    cases o' with
    | box c => simp [AO.like] at h2
    | arr s' xs' =>
      obtain ⟨rfl, hl⟩ := h2
      rw [← hl]
      exact ⟨(hv _ _ h1).1.mono h3 h4, (hv _ _ h1).2⟩
  | ptr h off v hv ho =>
    refine .ptr h off v (fun cells hO => ?_) ho
    obtain ⟨o', h1, h2, h3, h4⟩ := T.obc h _ hO (fun hh => hd h hh (.ptr off))
    cases o' with
    | arr s' xs' => simp [AO.like] at h2
    | box c =>
      obtain ⟨b, hb, hv⟩ := hv _ h1
      exact ⟨b, by rw [h3]; exact hb, hv⟩
  | el h i v hv ho =>
    refine .el h i v (fun s xs hO => ?_) ho
    obtain ⟨o', h1, h2, h3, h4⟩ := T.obc h _ hO (fun hh => hd h hh (.el i))
    cases o' with
    | box c => simp [AO.like] at h2
    | arr s' xs' =>
      obtain ⟨rfl, hl⟩ := h2
      obtain ⟨hi, b, hb, hv⟩ := hv _ _ h1
      exact ⟨by omega, b, by rw [h3]; exact hb, hv⟩
  | rp s x b off l hb hl hr hc => exact .rp s x b off l (T.okc false b hb).1 hl (fun j v hv => by rw [(T.okc false b hb).2]; exact hr j v hv) (RC.mono T.okc hc)
  | nil => exact .nil
  | agg l vs hs hv ho ih => exact .agg l vs hs (fun i a v h1 h2 => ih i a v h1 h2 fun d hd' hm => hd d hd' (.agg l a (List.mem_of_getElem? h1) hm)) ho
  | tup l vs hs hv ih => exact .tup l vs hs fun i a v h1 h2 => ih i a v h1 h2 fun d hd' hm => hd d hd' (.tup l a (List.mem_of_getElem? h1) hm)
  | fn f l vs hs hv ho ih => exact .fn f l vs hs (fun i a v h1 h2 => ih i a v h1 h2 fun d hd' hm => hd d hd' (.fn f l a (List.mem_of_getElem? h1) hm)) ho

/-- An object as the evaluator has it, and as the model has it. -/
def RO (ok : Bool → Nat → Prop) (m : Nat → Option Nat) (O : Nat → Option AO) (H : Array Obj) (mt : Nat → Prop) (h : Nat) : AO → Prop
  | .arr s xs => match m h with
    | none => xs = []
    | some b => mt b ∧ ∃ cs e, H[b]? = some (.cells cs e (0, 0)) ∧ xs.length * s.size ≤ cs.size ∧
      ∀ i x, xs[i]? = some x → ∃ l, l.length = s.size ∧ Reads H b (i * s.size) l ∧ RC ok H s x l
  | .box cells => ∃ b cs e, m h = some b ∧ mt b ∧ H[b]? = some (.cells cs e (0, 0)) ∧ cs.size = cells.length ∧ (∀ v ∈ cs.toList, oneV v = true) ∧
      ∀ (i : Nat) (a : AV) (v : Value), cells[i]? = some a → cs[i]? = some v → RV ok m O H a v

/-- A block of cells that may be changed. -/
def Unf (H : Array Obj) (b : Nat) : Prop := ∃ cs e, H[b]? = some (.cells cs e (0, 0))

theorem unf_congr {H H' : Array Obj} {b : Nat} (h : H'[b]? = H[b]?) (hu : Unf H b) : Unf H' b := by
  obtain ⟨cs, e, he⟩ := hu
  exact ⟨cs, e, by rw [h]; exact he⟩

/-- The call's own situation: where its own memory begins, what it may read and what it may change below, what is lost, and the values that it was handed. -/
structure Cx where
  n : Nat
  w0 : World
  p : Nat → Prop
  mu : Nat → Prop
  D : Nat → Prop
  v0 : Nat → Value

def Cx.B (c : Cx) : Nat := c.w0.heap.size

def Cx.mt (c : Cx) (b : Nat) : Prop := c.B ≤ b ∨ c.mu b

def Cx.ok (c : Cx) (m : Nat → Option Nat) (O : Nat → Option AO) (H : Array Obj) (i : Bool) (b : Nat) : Prop :=
  b < H.size ∧ (b < c.B → c.p b) ∧ (∀ h o, O h = some o → m h ≠ some b) ∧ ¬ c.D b ∧ (i = true → c.B ≤ b ∧ Unf H b)

theorem Cx.ok_any {c : Cx} {m : Nat → Option Nat} {O : Nat → Option AO} {H : Array Obj} {i : Bool} {b : Nat} (h : c.ok m O H i b) : c.ok m O H false b := ⟨h.1, h.2.1, h.2.2.1, h.2.2.2.1, fun h => by cases h⟩

/-- What was there before the call, but for what it may change, is as it was. -/
structure Cx.kept (c : Cx) (w : World) : Prop where
  os : w.os = c.w0.os
  tape : w.tape = c.w0.tape
  output : w.output = c.w0.output
  size : c.w0.heap.size ≤ w.heap.size
  block : ∀ k, k < c.w0.heap.size → ¬ c.mu k → w.heap[k]? = c.w0.heap[k]?
  bsz : ∀ k, k < c.w0.heap.size → bsz w.heap k = bsz c.w0.heap k

/-- What holds of the values that the call was handed, as it was then. -/
def ArgsOk (p : Nat → Prop) (H : Array Obj) (v0 : Nat → Value) (args : List AV) : Prop :=
  (∀ b, p b → b < H.size) ∧ ∀ t s x, args[t]? = some (.g s x) → RC (fun _ => p) H s x (v0 t).cells.toList ∧ aggV (v0 t) = s.isAgg ∧ s.plain = true

structure SimM (c : Cx) (E : Env) (st : St) (m : Nat → Option Nat) (a : Act) (w : World) : Prop where
  defers : a.defers = []
  size : a.tmps.size = st.slots.length
  num : st.slots.length = c.n
  kept : c.kept w
  slots : ∀ t av, st.slots[t]? = some av → RV (c.ok m (E.ob st) w.heap) m (E.ob st) w.heap av (a.tmps.getD t undef)
  eslots : ∀ t av, E.slots[t]? = some av → RV (c.ok m (E.ob st) w.heap) m (E.ob st) w.heap av (a.tmps.getD t undef)
  objs : ∀ h o, E.ob st h = some o → RO (c.ok m (E.ob st) w.heap) m (E.ob st) w.heap c.mt h o
  inj : ∀ h h' o o' b, E.ob st h = some o → E.ob st h' = some o' → m h = some b → m h' = some b → h = h'
  disj : ∀ h o, look st.objs h = some o → look E.objs h = none
  fix : ∀ t av, E.args[t]? = some av → av.isTop = false → a.tmps.getD t undef = c.v0 t
  nomu : E.mutb = false → ∀ b, ¬ c.mu b
  old : ArgsOk c.p c.w0.heap c.v0 E.args
  alive : ∀ b, c.D b → c.B ≤ b ∧ b < w.heap.size ∧ ∀ h o, E.ob st h = some o → m h ≠ some b

def Cx.die (c : Cx) (D : Nat → Prop) : Cx := { c with D := D }

def Sim (c : Cx) (E : Env) (st : St) (a : Act) (w : World) : Prop := ∃ m D, SimM (c.die D) E st m a w

end Go.Proofs.Ytmdicmdodbndgaa.Fw
