/-
  HastePlan: the plain law. No condition.
-/
import Derived.Test.YtojjnifdkanpfaaProj
namespace Go.Proofs.Ytojjnifdkanpfaa
open Go Go.Proofs.Ytojjnifdkanpfaa.Fw
set_option linter.unusedVariables false
set_option linter.unusedSimpArgs false

namespace HaP

/-- One after another. -/
def goF {α : Type} (f : Nat → α → α) : Nat → Nat → α → α
  | 0, _, a => a
  | d + 1, j, a => goF f d (j + 1) (f j a)

def stepB (n : Nat) (cs : List Int) (fin : Int) (en : List Int → Int) (c : List Int) (b : Ha.HS) : Ha.HS :=
  cond (decide (en c ≤ fin) && (b.1.isNone || decide (Ha.costT c cs n < b.2))) (some c, Ha.costT c cs n) b

def mx (xs : List Ha.Tk) (ms : List Int) (i : Nat) : Int := imin (ms.getD i 0) (xs.getD i Ha.tkD).1

/-- All cuts that begin so, in their order. -/
def foldB (xs : List Ha.Tk) (ms cs : List Int) (fin : Int) (en : List Int → Int) : Nat → List Int → Ha.HS → Ha.HS
  | 0, pre, b => stepB xs.length cs fin en pre b
  | r + 1, pre, b => goF (fun by_ b => foldB xs ms cs fin en r (pre ++ [(by_ : Int)]) b) (mx xs ms (xs.length - (r + 1)) + 1).toNat 0 b

/-- A cut's beginning. -/
def PreOk (xs : List Ha.Tk) (ms : List Int) (pre : List Int) : Prop := ∀ j, j < pre.length → 0 ≤ pre.getD j 0 ∧ pre.getD j 0 ≤ mx xs ms j

structure HOk (xs : List Ha.Tk) (ms cs : List Int) : Prop where
  n1 : 1 ≤ xs.length ∧ xs.length ≤ 5
  mb : ∀ i, i < xs.length → 0 ≤ ms.getD i 0 ∧ ms.getD i 0 ≤ 3
  cb : ∀ i, i < xs.length → 0 ≤ cs.getD i 0 ∧ cs.getD i 0 ≤ 1000
  tb : ∀ i, i < xs.length → 0 ≤ (xs.getD i Ha.tkD).1 ∧ (xs.getD i Ha.tkD).1 ≤ 100

theorem HOk.mx {xs : List Ha.Tk} {ms cs : List Int} (H : HOk xs ms cs) {i : Nat} (hi : i < xs.length) : 0 ≤ mx xs ms i ∧ mx xs ms i ≤ 3 ∧ mx xs ms i ≤ (xs.getD i Ha.tkD).1 := by
  have h1 := H.mb i hi
  have h2 := H.tb i hi
  unfold HaP.mx imin
  split <;> omega

theorem getD_app_left {l r : List Int} {j : Nat} (h : j < l.length) : (l ++ r).getD j 0 = l.getD j 0 := by
  rw [List.getD_eq_getElem?_getD, List.getElem?_append_left h, List.getD_eq_getElem?_getD]
theorem getD_app_at {l r : List Int} {v : Int} : (l ++ v :: r).getD l.length 0 = v := by
  rw [List.getD_eq_getElem?_getD, List.getElem?_append_right (Nat.le_refl _), Nat.sub_self]
  rfl
theorem set_app_at {l r : List Int} {v u : Int} : (l ++ v :: r).set l.length u = l ++ u :: r := by
  rw [List.set_append_right _ _ (Nat.le_refl _), Nat.sub_self]
  rfl

theorem PreOk.snoc {xs : List Ha.Tk} {ms pre : List Int} (h : PreOk xs ms pre) {v : Int} (hv : 0 ≤ v ∧ v ≤ mx xs ms pre.length) : PreOk xs ms (pre ++ [v]) := fun j hj => by
  rcases Nat.lt_or_ge j pre.length with h1 | h1
  · rw [getD_app_left h1]
    exact h j h1
  · have : j = pre.length := by simp at hj; omega
    subst this
    rw [getD_app_at]
    exact hv

theorem costT_congr {c d cs : List Int} : ∀ k, (∀ j, j < k → c.getD j 0 = d.getD j 0) → Ha.costT c cs k = Ha.costT d cs k
  | 0, _ => rfl
  | k + 1, h => by rw [Ha.costT, Ha.costT, costT_congr k (fun j hj => h j (by omega)), h k (by omega)]

theorem costT_pre {xs : List Ha.Tk} {ms cs pre : List Int} (H : HOk xs ms cs) (h : PreOk xs ms pre) : ∀ k, k ≤ pre.length → pre.length ≤ xs.length → 0 ≤ Ha.costT pre cs k ∧ Ha.costT pre cs k ≤ 3000 * (k : Int)
  | 0, _, _ => by simp [Ha.costT]
  | k + 1, h1, h2 => by
    obtain ⟨a1, a2⟩ := costT_pre H h k (by omega) h2
    obtain ⟨b1, b2⟩ := h k (by omega)
    obtain ⟨_, m2, _⟩ := H.mx (i := k) (by omega)
    obtain ⟨c1, c2⟩ := H.cb k (by omega)
    have e1 : 0 ≤ pre.getD k 0 * cs.getD k 0 := Int.mul_nonneg b1 c1
    have e2 : pre.getD k 0 * cs.getD k 0 ≤ 3 * cs.getD k 0 := Int.mul_le_mul_of_nonneg_right (by omega) c1
    rw [Ha.costT]
    omega

theorem nowT_getD (xs : List Ha.Tk) (c : List Int) : ∀ k j, j < xs.length → (Ha.nowT xs c k).getD j Ha.tkD = if j < k then ((xs.getD j Ha.tkD).1 - c.getD j 0, (xs.getD j Ha.tkD).2) else xs.getD j Ha.tkD
  | 0, j, h => by simp [Ha.nowT]
  | k + 1, j, h => by
    rw [Ha.nowT, List.getD_eq_getElem?_getD, List.getElem?_set]
    by_cases e : k = j
    · subst e
      rw [if_pos rfl, if_pos (by rw [Ha.nowT_length]; exact h), if_pos (by omega)]
      rfl
    · rw [if_neg e, ← List.getD_eq_getElem?_getD, nowT_getD xs c k j h]
      by_cases h2 : j < k
      · rw [if_pos h2, if_pos (by omega)]
      · rw [if_neg h2, if_neg (by omega)]

theorem ext_getD {α : Type} {l r : List α} (d : α) (h : l.length = r.length) (hj : ∀ j, j < l.length → l.getD j d = r.getD j d) : l = r := by
  refine List.ext_getElem h fun j h1 h2 => ?_
  have := hj j h1
  rwa [List.getD_eq_getElem?_getD, List.getElem?_eq_getElem h1, List.getD_eq_getElem?_getD, List.getElem?_eq_getElem h2] at this

/-- What the best so far is like. -/
structure Good (b : Ha.HS) : Prop where
  no : b.1 = none → b.2 = 0
  yes : ∀ l, b.1 = some l → 0 ≤ b.2 ∧ l.length ≤ 5

section
variable {xs : List Ha.Tk} {ms cs : List Int} {fin : Int} {en : List Int → Int}

theorem step_good (H : HOk xs ms cs) {pre : List Int} (hp : PreOk xs ms pre) (hl : pre.length = xs.length) {b : Ha.HS} (hb : Good b) : Good (stepB xs.length cs fin en pre b) := by
  unfold stepB
  cases decide (en pre ≤ fin) && (b.1.isNone || decide (Ha.costT pre cs xs.length < b.2)) with
  | false => exact hb
  | true => exact ⟨fun h => (by cases h), fun l h => by cases h; exact ⟨(costT_pre H hp xs.length (by omega) (by omega)).1, by have := H.n1; omega⟩⟩

theorem goF_good {f : Nat → Ha.HS → Ha.HS} : ∀ d j b, Good b → (∀ k b, j ≤ k → k < j + d → Good b → Good (f k b)) → Good (goF f d j b)
  | 0, _, b, hb, _ => hb
  | d + 1, j, b, hb, h => goF_good d (j + 1) _ (h j b (Nat.le_refl _) (by omega) hb) fun k b h1 h2 => h k b (by omega) (by omega)

theorem fold_good (H : HOk xs ms cs) : ∀ r pre b, r + pre.length = xs.length → PreOk xs ms pre → Good b → Good (foldB xs ms cs fin en r pre b)
  | 0, pre, b, hr, hp, hb => step_good H hp (by omega) hb
  | r + 1, pre, b, hr, hp, hb => by
    unfold foldB
    have hi : xs.length - (r + 1) = pre.length := by omega
    rw [hi]
    obtain ⟨m1, m2, m3⟩ := H.mx (i := pre.length) (by omega)
    refine goF_good _ _ _ hb fun k b h1 h2 hb => fold_good H r (pre ++ [(k : Int)]) b (by simp; omega) (hp.snoc ⟨by omega, by omega⟩) hb

/-- The program's way. -/
theorem put_eq {fE : List Ha.Tk → Option (List Int × Unit)} {fL : List Ha.Tk → List Int → Option (Int × Unit)} {fC : List Int → Option (List Int × Unit)} (H : HOk xs ms cs)
    (hen : ∀ c, c.length = xs.length → PreOk xs ms c → ∃ es, fE (Ha.nowT xs c xs.length) = some (es, ()) ∧ es.length = xs.length ∧ fL (Ha.nowT xs c xs.length) es = some (en c, ())) (hC : ∀ c, c.length ≤ 5 → fC c = some (c, ())) :
    ∀ r pre cost sh cu hs, r + pre.length = xs.length → PreOk xs ms pre → cost = Ha.costT pre cs pre.length → cu.length = xs.length → (∀ j, j < pre.length → cu.getD j 0 = pre.getD j 0) → sh.length = xs.length → (∀ j, j < xs.length → (sh.getD j Ha.tkD).2 = (xs.getD j Ha.tkD).2) → (∀ j, j < pre.length → (sh.getD j Ha.tkD).1 = (xs.getD j Ha.tkD).1 - pre.getD j 0) →
      ∃ sh' cu', Ha.putH fE fL fC xs ms cs fin r cost (sh, cu, hs) = some (sh', cu', foldB xs ms cs fin en r pre hs) ∧ cu'.length = xs.length ∧ (∀ j, j < pre.length → cu'.getD j 0 = pre.getD j 0) ∧ sh'.length = xs.length ∧ (∀ j, j < xs.length → (sh'.getD j Ha.tkD).2 = (xs.getD j Ha.tkD).2) ∧ (∀ j, j < pre.length → (sh'.getD j Ha.tkD).1 = (xs.getD j Ha.tkD).1 - pre.getD j 0) := by
  intro r
  induction r with
  | zero =>
    intro pre cost sh cu hs hr hp hc h1 h2 h3 h4 h5
    have hl : pre.length = xs.length := by omega
    have e1 : cu = pre := ext_getD 0 (by omega) fun j hj => h2 j (by omega)
    have e2 : sh = Ha.nowT xs pre xs.length := ext_getD Ha.tkD (by rw [Ha.nowT_length, h3]) fun j hj => by
      rw [nowT_getD xs pre _ j (by omega), if_pos (by omega), ← h5 j (by omega), ← h4 j (by omega)]
    obtain ⟨es, g1, g2, g3⟩ := hen pre hl hp
    refine ⟨sh, cu, ?_, h1, h2, h3, h4, h5⟩
    unfold Ha.putH Ha.leafH foldB stepB
    simp only
    rw [e2, g1, Option.bind_some]
    simp only
    rw [g2, Ha.nowT_length, decide_eq_true rfl, cond_true, g3, Option.bind_some, e1, hC pre (by have := H.n1; omega), decide_eq_true rfl, cond_true, hc, hl]
    cases decide (en pre ≤ fin) && (hs.1.isNone || decide (Ha.costT pre cs xs.length < hs.2)) <;> rfl
  | succ r ih =>
    intro pre cost sh cu hs hr hp hc h1 h2 h3 h4 h5
    have hi : xs.length - (r + 1) = pre.length := by omega
    have hin : pre.length < xs.length := by omega
    obtain ⟨m1, m2, m3⟩ := H.mx hin
    obtain ⟨t1, t2⟩ := H.tb _ hin
    obtain ⟨b1, b2⟩ := H.mb _ hin
    obtain ⟨c1, c2⟩ := H.cb _ hin
    obtain ⟨k1, k2⟩ := costT_pre H hp pre.length (Nat.le_refl _) (by omega)
    have hn5 := H.n1.2
    unfold Ha.putH foldB
    rw [hi]
    have hok : Ha.okH (xs.getD pre.length Ha.tkD).1 (ms.getD pre.length 0) (cs.getD pre.length 0) cost = true := by
      unfold Ha.okH
      simp only [Bool.and_eq_true, decide_eq_true_eq]
      omega
    have hm : Ha.minI (ms.getD pre.length 0) (xs.getD pre.length Ha.tkD).1 = mx xs ms pre.length := rfl
    rw [hok, cond_true, hm]
    have key : ∀ d k sh cu hs, d + k = (mx xs ms pre.length + 1).toNat → cu.length = xs.length → (∀ j, j < pre.length → cu.getD j 0 = pre.getD j 0) → sh.length = xs.length → (∀ j, j < xs.length → (sh.getD j Ha.tkD).2 = (xs.getD j Ha.tkD).2) → (∀ j, j < pre.length → (sh.getD j Ha.tkD).1 = (xs.getD j Ha.tkD).1 - pre.getD j 0) →
        ∃ sh' cu', Ha.goH (fun (by_ : Nat) (S : Ha.HT) => Ha.putH fE fL fC xs ms cs fin r (cost + (by_ : Int) * cs.getD pre.length 0) (S.1.set pre.length ((xs.getD pre.length Ha.tkD).1 - (by_ : Int), (S.1.getD pre.length Ha.tkD).2), S.2.1.set pre.length (by_ : Int), S.2.2)) d k (sh, cu, hs) = some (sh', cu', goF (fun by_ b => foldB xs ms cs fin en r (pre ++ [(by_ : Int)]) b) d k hs) ∧ cu'.length = xs.length ∧ (∀ j, j < pre.length → cu'.getD j 0 = pre.getD j 0) ∧ sh'.length = xs.length ∧ (∀ j, j < xs.length → (sh'.getD j Ha.tkD).2 = (xs.getD j Ha.tkD).2) ∧ (∀ j, j < pre.length → (sh'.getD j Ha.tkD).1 = (xs.getD j Ha.tkD).1 - pre.getD j 0) := by
      intro d
      induction d with
      | zero => intro k sh cu hs hd h1 h2 h3 h4 h5; exact ⟨sh, cu, rfl, h1, h2, h3, h4, h5⟩
      | succ d ihd =>
        intro k sh cu hs hd h1 h2 h3 h4 h5
        unfold Ha.goH goF
        simp only
        obtain ⟨sh1, cu1, e1, g1, g2, g3, g4, g5⟩ := ih (pre ++ [(k : Int)]) (cost + (k : Int) * cs.getD pre.length 0) (sh.set pre.length ((xs.getD pre.length Ha.tkD).1 - (k : Int), (sh.getD pre.length Ha.tkD).2)) (cu.set pre.length (k : Int)) hs (by simp; omega) (hp.snoc ⟨by omega, by omega⟩)
          (by
            rw [List.length_append, List.length_singleton, Ha.costT, getD_app_at, hc]
            rw [costT_congr pre.length (c := pre ++ [(k : Int)]) (d := pre) fun j hj => getD_app_left hj])
          (by simpa using h1)
          (fun j hj => by
            rw [getD_set (by omega)]
            rcases Nat.lt_or_ge j pre.length with h | h
            · rw [if_neg (by omega), h2 j h, getD_app_left h]
            · have : j = pre.length := by simp at hj; omega
              subst this
              rw [if_pos rfl, getD_app_at])
          (by simpa using h3)
          (fun j hj => by
            rw [List.getD_eq_getElem?_getD, List.getElem?_set]
            by_cases e : pre.length = j
            · subst e
              rw [if_pos rfl, if_pos (by omega)]
              exact h4 _ hin
            · rw [if_neg e, ← List.getD_eq_getElem?_getD]
              exact h4 j hj)
          (fun j hj => by
            rw [List.getD_eq_getElem?_getD, List.getElem?_set]
            rcases Nat.lt_or_ge j pre.length with h | h
            · rw [if_neg (by omega), ← List.getD_eq_getElem?_getD, getD_app_left h]
              exact h5 j h
            · have : j = pre.length := by simp at hj; omega
              subst this
              rw [if_pos rfl, if_pos (by omega), getD_app_at]
              rfl)
        rw [e1, Option.bind_some]
        exact ihd (k + 1) sh1 cu1 _ (by omega) g1 (fun j hj => by rw [g2 j (by simp; omega), getD_app_left hj]) g3 g4 (fun j hj => by rw [g5 j (by simp; omega), getD_app_left hj])
    exact key _ 0 sh cu hs (by omega) h1 h2 h3 h4 h5

/-- The best so far, as the reference holds it. -/
def conv (b : Ha.HS) : List Int × Int := match b.1 with
  | none => ([], -1)
  | some l => (l, b.2)

theorem try_eq {fY : List Ha.Tk → Option (List Int × Unit)} {fZ : List Ha.Tk → List Int → Option (Int × Unit)} (H : HOk xs ms cs)
    (hen : ∀ c, c.length = xs.length → PreOk xs ms c → ∃ es, fY (Ha.nowT xs c xs.length) = some (es, ()) ∧ es.length = xs.length ∧ fZ (Ha.nowT xs c xs.length) es = some (en c, ()))
    {c : List Int} (hl : c.length = xs.length) (hp : PreOk xs ms c) {b : Ha.HS} (hb : Good b) : Ha.tryT fY fZ fin xs cs c (conv b) = some (conv (stepB xs.length cs fin en c b)) := by
  obtain ⟨es, g1, g2, g3⟩ := hen c hl hp
  have hok : Ha.okT xs c cs = true := by
    refine List.all_eq_true.2 fun i hi => ?_
    have hi := List.mem_range.1 hi
    obtain ⟨m1, m2, m3⟩ := H.mx hi
    obtain ⟨t1, t2⟩ := H.tb _ hi
    obtain ⟨c1, c2⟩ := H.cb _ hi
    obtain ⟨p1, p2⟩ := hp i (by omega)
    simp only [Bool.and_eq_true, decide_eq_true_eq]
    omega
  unfold Ha.tryT stepB
  rw [hok, cond_true, g1, Option.bind_some]
  simp only
  rw [g2, decide_eq_true rfl, cond_true, g3, Option.bind_some]
  obtain ⟨o, k⟩ := b
  cases o with
  | none =>
    rw [show conv (none, k) = (([], -1) : List Int × Int) from rfl]
    simp only [Option.isNone_none, Bool.true_or, show decide ((-1 : Int) < 0) = true by decide]
    cases decide (en c ≤ fin) <;> rfl
  | some l =>
    have hk := (hb.yes l rfl).1
    have hk0 : decide (k < 0) = false := decide_eq_false (by have : 0 ≤ k := hk; omega)
    rw [show conv (some l, k) = (l, k) from rfl]
    simp only [Option.isNone_some, Bool.false_or, hk0]
    cases decide (en c ≤ fin) <;> cases decide (Ha.costT c cs xs.length < k) <;> rfl

/-- The reference's way. -/
theorem out_eq {fN : Int → Int → Option (Int × Unit)} {fY : List Ha.Tk → Option (List Int × Unit)} {fZ : List Ha.Tk → List Int → Option (Int × Unit)} (H : HOk xs ms cs) (hN : ∀ a b, fN a b = some (imin a b, ()))
    (hen : ∀ c, c.length = xs.length → PreOk xs ms c → ∃ es, fY (Ha.nowT xs c xs.length) = some (es, ()) ∧ es.length = xs.length ∧ fZ (Ha.nowT xs c xs.length) es = some (en c, ())) :
    ∀ r pre b, r + pre.length = xs.length → PreOk xs ms pre → Good b → ∃ k, k ≤ 4 ^ r ∧ ∀ f, Ha.outT fN fY fZ fin xs ms cs (f + k) (pre ++ List.replicate r 0) (conv b) =
      Option.bind (Ha.incT fN xs ms pre.length (pre ++ List.replicate r 0)) fun q => cond q.2 (Ha.outT fN fY fZ fin xs ms cs f q.1 (conv (foldB xs ms cs fin en r pre b))) (some (conv (foldB xs ms cs fin en r pre b))) := by
  intro r
  induction r with
  | zero =>
    intro pre b hr hp hb
    have hl : pre.length = xs.length := by omega
    refine ⟨1, Nat.le_refl _, fun f => ?_⟩
    rw [List.replicate_zero, List.append_nil]
    show Ha.outT fN fY fZ fin xs ms cs (f + 1) pre (conv b) = _
    rw [Ha.outT, try_eq H hen hl hp hb, Option.bind_some, hl]
    rfl
  | succ r ih =>
    intro pre b hr hp hb
    have hi : xs.length - (r + 1) = pre.length := by omega
    have hin : pre.length < xs.length := by omega
    obtain ⟨m1, m2, m3⟩ := H.mx hin
    obtain ⟨M, hM⟩ : ∃ M : Nat, mx xs ms pre.length = (M : Int) := ⟨(mx xs ms pre.length).toNat, by omega⟩
    have key : ∀ d k b, k + d = M → Good b → ∃ q, q ≤ (d + 1) * 4 ^ r ∧ ∀ f, Ha.outT fN fY fZ fin xs ms cs (f + q) (pre ++ (k : Int) :: List.replicate r 0) (conv b) =
        Option.bind (Ha.incT fN xs ms pre.length (pre ++ 0 :: List.replicate r 0)) fun q => cond q.2 (Ha.outT fN fY fZ fin xs ms cs f q.1 (conv (goF (fun by_ b => foldB xs ms cs fin en r (pre ++ [(by_ : Int)]) b) (d + 1) k b))) (some (conv (goF (fun by_ b => foldB xs ms cs fin en r (pre ++ [(by_ : Int)]) b) (d + 1) k b))) := by
      intro d
      induction d with
      | zero =>
        intro k b hk hb
        obtain ⟨q, hq, hf⟩ := ih (pre ++ [(k : Int)]) b (by simp; omega) (hp.snoc ⟨by omega, by omega⟩) hb
        refine ⟨q, by omega, fun f => ?_⟩
        have h := hf f
        rw [List.append_assoc, List.singleton_append, List.length_append, List.length_singleton, Ha.incT, hN, Option.bind_some, getD_app_at] at h
        simp only at h
        rw [show imin (ms.getD pre.length 0) (xs.getD pre.length Ha.tkD).1 = (M : Int) from hM, decide_eq_false (show ¬ (k : Int) + 1 ≤ (M : Int) by omega), cond_false, set_app_at] at h
        rw [h]
        rfl
      | succ d ihd =>
        intro k b hk hb
        have hpk := hp.snoc (v := (k : Int)) ⟨by omega, by omega⟩
        obtain ⟨q1, hq1, hf1⟩ := ih (pre ++ [(k : Int)]) b (by simp; omega) hpk hb
        obtain ⟨q2, hq2, hf2⟩ := ihd (k + 1) (foldB xs ms cs fin en r (pre ++ [(k : Int)]) b) (by omega) (fold_good H r _ b (by simp; omega) hpk hb)
        refine ⟨q2 + q1, by
          rw [show (d + 1 + 1) * 4 ^ r = (d + 1) * 4 ^ r + 4 ^ r by rw [Nat.add_mul (d + 1) 1, Nat.one_mul]]
          omega, fun f => ?_⟩
        have h := hf1 (f + q2)
        rw [List.append_assoc, List.singleton_append, List.length_append, List.length_singleton, Ha.incT, hN, Option.bind_some, getD_app_at] at h
        simp only at h
        rw [show imin (ms.getD pre.length 0) (xs.getD pre.length Ha.tkD).1 = (M : Int) from hM, decide_eq_true (show (k : Int) + 1 ≤ (M : Int) by omega), cond_true, set_app_at, Option.bind_some] at h
        simp only [cond_true] at h
        rw [← Nat.add_assoc, h]
        exact hf2 f
    obtain ⟨q, hq, hf⟩ := key M 0 b (by omega) hb
    refine ⟨q, by
      have : (M + 1) * 4 ^ r ≤ 4 * 4 ^ r := Nat.mul_le_mul_right _ (by omega)
      rw [Nat.pow_succ, Nat.mul_comm (4 ^ r) 4]
      omega, fun f => ?_⟩
    have h := hf f
    unfold foldB
    rw [hi, hM, show ((M : Int) + 1).toNat = M + 1 by omega]
    exact h
end

theorem chk_eq {fI : Int → Int → Int → Option (Bool × Unit)} (hI : ∀ v lo hi, fI v lo hi = some (within lo hi v, ())) (ms cs : List Int) : ∀ d i, ∃ b, Ha.chkT fI ms cs d i = some b ∧ (b = true ↔ ∀ j, i ≤ j → j < i + d → within 0 3 (ms.getD j 0) = true ∧ within 0 1000 (cs.getD j 0) = true)
  | 0, i => ⟨true, rfl, by simp; intro j h1 h2; omega⟩
  | d + 1, i => by
    obtain ⟨b, h1, h2⟩ := chk_eq hI ms cs d (i + 1)
    unfold Ha.chkT
    rw [hI, Option.bind_some, hI]
    simp only [Option.bind_some]
    cases e1 : within 0 3 (ms.getD i 0) with
    | false => exact ⟨false, rfl, by simp; exact ⟨i, Nat.le_refl _, by omega, fun h => by rw [← List.getD_eq_getElem?_getD, e1] at h; cases h⟩⟩
    | true =>
      cases e2 : within 0 1000 (cs.getD i 0) with
      | false => exact ⟨false, rfl, by simp; exact ⟨i, Nat.le_refl _, by omega, fun _ => by rw [← List.getD_eq_getElem?_getD]; exact e2⟩⟩
      | true =>
        refine ⟨b, h1, h2.trans ⟨fun h j g1 g2 => ?_, fun h j g1 g2 => h j (by omega) (by omega)⟩⟩
        rcases Nat.lt_or_ge i j with g | g
        · exact h j (by omega) (by omega)
        · have : j = i := by omega
          subst this
          exact ⟨e1, e2⟩

end HaP

section
variable {N : Nat} (hN : 9223372036854775808 ≤ N)
include hN

omit hN in
/-- Tasks made shorter are tasks. -/
theorem now_ok {xs : List Ha.Tk} {ms cs : List Int} (H : HaP.HOk xs ms cs) (h : Small 1048576 xs) (ht : tasksOk xs = true) {c : List Int} (hl : c.length = xs.length) (hp : HaP.PreOk xs ms c) :
    Small 1048576 (Ha.nowT xs c xs.length) ∧ tasksOk (Ha.nowT xs c xs.length) = true := by
  have hg : ∀ j, j < xs.length → (Ha.nowT xs c xs.length).getD j NL = ((xs.getD j NL).1 - c.getD j 0, (xs.getD j NL).2) := fun j hj => by
    have := HaP.nowT_getD xs c xs.length j hj
    rw [if_pos hj] at this
    exact this
  have hlen := Ha.nowT_length xs c xs.length
  refine ⟨⟨by rw [hlen]; exact h.1, fun t ht => ?_⟩, ?_⟩
  · obtain ⟨j, hj, rfl⟩ := List.getElem_of_mem ht
    have h1 := hg j (by omega)
    rw [List.getD_eq_getElem?_getD, List.getElem?_eq_getElem hj] at h1
    have h1 : (Ha.nowT xs c xs.length)[j] = _ := h1
    rw [h1]
    exact h.get j
  · unfold tasksOk at ht ⊢
    simp only [Bool.and_eq_true, decide_eq_true_eq] at ht ⊢
    rw [hlen]
    refine ⟨List.all_eq_true.2 fun j hj => ?_, ht.2⟩
    have hj' := List.mem_range.1 hj
    have h1 := List.all_eq_true.1 ht.1 j hj
    rw [hg j hj']
    obtain ⟨m1, m2, m3⟩ := H.mx hj'
    obtain ⟨p1, p2⟩ := hp j (by omega)
    have m3 : HaP.mx xs ms j ≤ (xs.getD j NL).1 := m3
    revert h1 m3
    generalize xs.getD j NL = t
    intro h1 m3
    unfold taskOk at h1 ⊢
    simp only [Bool.and_eq_true, within_iff] at h1 ⊢
    exact ⟨⟨by omega, by omega⟩, h1.2⟩

theorem HastePlan_law {xs : List Ha.Tk} {ms cs : List Int} {fin : Int} (h : Small 1048576 xs) (hm : ms.length ≤ 1048576) (hc : cs.length ≤ 1048576) : ∃ l k b, spec_HastePlan N xs ms cs fin = some (l, k, b, ()) ∧ impl_HastePlan N xs ms cs fin = some (l, k, b, ()) ∧ l.length ≤ 1048576 := by
  have hno : ∀ {a b : Option (List Int × Int × Bool × Unit)}, a = Ha.noH → b = Ha.noH → ∃ l k b', a = some (l, k, b', ()) ∧ b = some (l, k, b', ()) ∧ l.length ≤ 1048576 := fun h1 h2 => ⟨[], 0, false, h1, h2, by simp⟩
  unfold spec_HastePlan impl_HastePlan Ha.hgF Ha.haF
  rw [l03Are_eq hN h, AreTasks_eq hN h, Option.bind_some, Option.bind_some]
  cases ht : tasksOk xs with
  | false => exact hno rfl rfl
  | true =>
    simp only [cond_true]
    by_cases h5 : xs.length > 5
    · rw [decide_eq_true h5]
      exact hno rfl rfl
    · rw [decide_eq_false h5, cond_false, cond_false]
      rw [areMany_eq hN (xs := ms) (by omega), areMany_eq hN (xs := cs) (by omega)]
      simp only [Option.bind_some, l00In_eq, within_eq]
      by_cases e1 : ms.length = xs.length
      · rw [decide_eq_true e1, cond_true, show within (xs.length : Int) xs.length ms.length = true from within_iff.2 (by omega), Bool.true_and]
        by_cases e2 : cs.length = xs.length
        · rw [decide_eq_true e2, cond_true, show within (xs.length : Int) xs.length cs.length = true from within_iff.2 (by omega), Bool.true_and]
          obtain ⟨f1, f2, f3⟩ := task_facts ht
          rw [decide_eq_true (show 1 ≤ xs.length by omega), cond_true]
          obtain ⟨ok, g1, g2⟩ := HaP.chk_eq (fI := spec_l00In N) (fun v lo hi => l00In_eq v lo hi) ms cs xs.length 0
          rw [g1, Option.bind_some]
          have hb : (ms.all (within 0 3) && cs.all (within 0 1000)) = ok := by
            rw [Bool.eq_iff_iff, g2]
            simp only [Bool.and_eq_true]
            constructor
            · rintro ⟨a1, a2⟩ j _ hj
              exact ⟨List.all_eq_true.1 a1 _ (getD_mem (by omega)), List.all_eq_true.1 a2 _ (getD_mem (by omega))⟩
            · intro hh
              exact ⟨List.all_eq_true.2 (all_of_getD (p := fun v => within 0 3 v = true) fun j hj => (hh j (by omega) (by omega)).1), List.all_eq_true.2 (all_of_getD (p := fun v => within 0 1000 v = true) fun j hj => (hh j (by omega) (by omega)).2)⟩
          cases hf : within 0 100000 fin with
          | false =>
            simp only [cond_false]
            refine hno rfl ?_
            cases ms.all (within 0 3) <;> cases cs.all (within 0 1000) <;> rfl
          | true =>
            simp only [cond_true]
            cases ok with
            | false =>
              refine hno rfl ?_
              revert hb
              cases ms.all (within 0 3) <;> cases cs.all (within 0 1000) <;> simp
            | true =>
              simp only [Bool.and_eq_true] at hb
              rw [hb.1, hb.2]
              simp only [cond_true]
              simp only [Bool.and_self, cond_true]
              have H : HaP.HOk xs ms cs := ⟨by omega, fun i hi => all_getD hb.1 (by omega), fun i hi => all_getD hb.2 (by omega), fun i hi => by
                have := f3 i hi
                exact ⟨this.1, this.2.1⟩⟩
              -- the end of shortened tasks
              have hen : ∃ en : List Int → Int, (∀ c, c.length = xs.length → HaP.PreOk xs ms c → ∃ es, spec_l03Early N (Ha.nowT xs c xs.length) = some (es, ()) ∧ es.length = xs.length ∧ spec_l03End N (Ha.nowT xs c xs.length) es = some (en c, ())) ∧
                  (∀ c, c.length = xs.length → HaP.PreOk xs ms c → ∃ es, impl_earlyStarts N (Ha.nowT xs c xs.length) = some (es, ()) ∧ es.length = xs.length ∧ impl_lastEnd N (Ha.nowT xs c xs.length) es = some (en c, ())) := by
                refine ⟨fun c => endW (Ha.nowT xs c xs.length) ((spec_l03Early N (Ha.nowT xs c xs.length)).getD ([], ())).1, fun c hl hp => ?_, fun c hl hp => ?_⟩
                all_goals
                  obtain ⟨k1, k2⟩ := now_ok H h ht hl hp
                  obtain ⟨es, s1, s2, s3, _⟩ := early_eq hN k1 k2
                  have hlen := Ha.nowT_length xs c xs.length
                · refine ⟨es, s1, by omega, ?_⟩
                  simp only [s1, Option.getD_some]
                  exact l03End_eq hN (by omega) s3
                · refine ⟨es, s2, by omega, ?_⟩
                  simp only [s1, Option.getD_some]
                  exact lastEnd_eq hN (by omega) s3
              obtain ⟨en, hen1, hen2⟩ := hen
              have hp0 : HaP.PreOk xs ms [] := fun j hj => by simp at hj
              have hg0 : HaP.Good ((none, 0) : Ha.HS) := ⟨fun _ => rfl, fun l h => by cases h⟩
              obtain ⟨q, hq, hout⟩ := HaP.out_eq (fin := fin) (fN := spec_l00Min N) H (fun a b => l00Min_eq a b) hen1 xs.length [] (none, 0) (by simp) hp0 hg0
              obtain ⟨sh', cu', hput, _⟩ := HaP.put_eq (fin := fin) (fC := slices_Clone_int64_int64 N) H hen2 (fun c hc => by
                unfold slices_Clone_int64_int64
                rw [appOk_of (by omega)]
                rfl) xs.length [] 0 xs (List.replicate xs.length 0) (none, 0) (by simp) hp0 rfl (by simp) (fun j hj => by simp at hj) rfl (fun j hj => rfl) (fun j hj => by simp at hj)
              have hgood := HaP.fold_good (fin := fin) (en := en) H xs.length [] (none, 0) (by simp) hp0 hg0
              have hout := hout (4 ^ xs.length - q)
              rw [Nat.sub_add_cancel hq] at hout
              simp only [List.nil_append, List.length_nil, Ha.incT, Option.bind_some, cond_false] at hout
              have hout : Ha.outT (spec_l00Min N) (spec_l03Early N) (spec_l03End N) fin xs ms cs (4 ^ xs.length) (List.replicate xs.length 0) ([], -1) = _ := hout
              rw [hout, hput, Option.bind_some, Option.bind_some]
              revert hgood
              generalize HaP.foldB xs ms cs fin en xs.length [] (none, 0) = b
              intro hgood
              obtain ⟨o, k⟩ := b
              cases o with
              | none =>
                have hk : k = 0 := hgood.no rfl
                subst hk
                exact hno rfl rfl
              | some l =>
                obtain ⟨k1, k2⟩ := hgood.yes l rfl
                have k1 : 0 ≤ k := k1
                refine ⟨l, k, true, ?_, rfl, by omega⟩
                rw [show HaP.conv (some l, k) = (l, k) from rfl]
                have hk0 : decide (k < 0) = false := decide_eq_false (by omega)
                simp only [hk0, cond_false]
        · rw [decide_eq_false e2, cond_false, show within (xs.length : Int) xs.length cs.length = false by
            rw [Bool.eq_false_iff]
            intro hh
            have := within_iff.1 hh
            omega, Bool.false_and]
          refine hno rfl ?_
          cases ms.all (within 0 3) <;> rfl
      · rw [decide_eq_false e1, cond_false, show within (xs.length : Int) xs.length ms.length = false by
          rw [Bool.eq_false_iff]
          intro hh
          have := within_iff.1 hh
          omega, Bool.false_and]
        exact hno rfl rfl

theorem FnExactHastePlan_eq (xs : List Ha.Tk) (ms cs : List Int) (fin : Int) (hx : Small 9223372036854775807 xs) : laws_FnExactHastePlan N xs ms cs fin = some (true, ()) := by
  unfold laws_FnExactHastePlan
  by_cases hm : (List.length ms : Int) > 1048576
  · simp [hm]
  by_cases hc : (List.length cs : Int) > 1048576
  · simp [hm, hc]
  rcases szTaskS_eq hN (k := 1048576) hx (by omega) with e | ⟨r, e, h1, h2, h3⟩
  · simp [hm, hc, e]
  obtain ⟨a0, a1, a2, e1, e2, l0⟩ := HastePlan_law hN (fin := fin) h3 (ms := ms) (cs := cs) (by omega) (by omega)
  simp only [hm, hc, decide_false, cond_false, e, Option.bind_some, show decide (r < 0) = false from by simp; omega, toTaskS_eq hN h3, toInt64S_eq hN (xs := ms) (by omega), toInt64S_eq hN (xs := cs) (by omega), e1, e2, eqTaskS_eq hN h3, eqInt64S_eq hN (xs := ms) (by omega), eqInt64S_eq hN (xs := cs) (by omega), eqInt64S_eq hN (xs := a0) (by omega), bne_self_eq_false, BEq.rfl, Bool.not_true,
    markTS_eq h3, Nat.beq_refl, cond_true, markInt64S_eq hN (xs := ms) (k := 1 + tksLen xs) (by omega) (by have := tksLen_nonneg xs; have := tksLen_le xs h3.2; have := h3.1; omega), markInt64S_eq hN (xs := cs) (k := 1 + tksLen xs + ms.length) (by omega) (by have := tksLen_nonneg xs; have := tksLen_le xs h3.2; have := h3.1; omega),
    decide_eq_false (show ¬ ((1 : Int) + tksLen xs + ms.length + cs.length < 0) by have := tksLen_nonneg xs; omega), markInt64S_eq hN (xs := a0) (k := 1) (by omega) (by omega), heldInt64S_eq hN (xs := a0) (k := 1) (by omega) (by omega), decide_eq_false (show ¬ ((1 + a0.length : Int) < 0) by omega), counted_len]
end

end Go.Proofs.Ytojjnifdkanpfaa
