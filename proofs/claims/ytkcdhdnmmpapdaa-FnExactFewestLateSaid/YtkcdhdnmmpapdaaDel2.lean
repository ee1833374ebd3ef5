/-
  slices.Delete at []int64: its contract. No condition.
-/
import Derived.Test.YtkcdhdnmmpapdaaDel1
namespace Go.Proofs.Ytkcdhdnmmpapdaa
open Go Go.RowKit Go.Proofs.Ytkcdhdnmmpapdaa.Fw
set_option maxRecDepth 100000
set_option linter.unusedVariables false

theorem setCells_setBd (b : Nat) : ∀ (l : List Value) (o : Nat) (w : World) (cs : Array Value) (e : TypeId), w.heap[b]? = some (.cells cs e (0, 0)) → w.setCells b o l = setB w b (.cells (Fw.lay cs o l) e (0, 0)) := by
  intro l
  induction l with
  | nil =>
    intro o w cs e h
    have he : w.heap.setIfInBounds b (.cells cs e (0, 0)) = w.heap := by
      apply Array.ext_getElem?
      intro i
      rw [Array.getElem?_setIfInBounds]
      split
      · rename_i hi
        subst hi
        have := (Array.getElem?_eq_some_iff.1 h).1
        rw [if_pos this, h]
      · rfl
    unfold World.setCells Fw.lay setB
    rw [he]
  | cons v r ih =>
    intro o w cs e h
    have hlt : b < w.heap.size := (Array.getElem?_eq_some_iff.1 h).1
    show (w.setCell ⟨b, o, none⟩ v).setCells b (o + 1) r = _
    rw [setCell_setB w b o v cs e h, ih (o + 1) _ (cs.setIfInBounds o v) e (setB_get w b _ hlt), setB_setB]
    rfl

theorem cut_get {xs : List Int} {k j i : Nat} (hk : k < j) (hj : j ≤ xs.length) : (xs.take k ++ xs.drop j)[i]? = if i < k then xs[i]? else xs[j + (i - k)]? := by
  have ht : (xs.take k).length = k := by simp; omega
  rw [List.getElem?_append, ht]
  split
  · rename_i h
    rw [List.getElem?_take, if_pos h]
  · rw [List.getElem?_drop]

set_option maxHeartbeats 1000000 in
theorem del_sound : SoundA Try.prog 70 { F := fun xs i y => delF xs i y } := by
  intro w v u ob i xs y z hM h3 hF
  have hF : delF xs i y = some z := hF
  obtain ⟨code, hcode⟩ : ∃ code, Try.f70.body = some code := ⟨_, rfl⟩
  unfold CallOk
  rw [enter_of Try.func70 hcode (by kernel_rfl)]
  refine ⟨rfl, ?_⟩
  cases y with
  | inl ys => cases hF
  | inr j =>
    have h3 : u = .int .i64 j := h3
    subst h3
    unfold delF at hF
    dsimp only at hF
    obtain ⟨hc, hz⟩ := cond_some hF
    simp only [Bool.and_eq_true, decide_eq_true_eq] at hc
    obtain ⟨⟨⟨h0, h1⟩, h2⟩, hbig⟩ := hc
    obtain ⟨k, rfl⟩ := Int.eq_ofNat_of_zero_le h0
    obtain ⟨q, rfl⟩ := Int.eq_ofNat_of_zero_le (show 0 ≤ j by omega)
    have hz : z = xs.take k ++ xs.drop q := by
      rw [Int.toNat_natCast, Int.toNat_natCast] at hz
      exact (Option.some.inj hz).symm
    have hkq : k < q := by omega
    have hq : q ≤ xs.length := by omega
    have hzl : z.length = xs.length - (q - k) := by
      rw [hz]
      simp
      omega
    cases ob with
    | none =>
      obtain ⟨_, rfl⟩ := hM
      simp at hq
      omega
    | some b =>
      obtain ⟨⟨cs, e0, hh, hs, hrow⟩, o, c, rfl, hcl, ho, hcap⟩ := hM
      have ho : o = 0 := ho (by omega)
      subst ho
      have hcs : c ≤ cs.size := by
        have := hcap cs.size (by simp [Fw.bsz, hh])
        simpa [Sh.size] using this
      have hcx : ∀ (i : Nat) (x : Int), xs[i]? = some x → cs[i]? = some (.int .i64 x) := fun i x hx => by
        obtain ⟨l, l1, l2, l3⟩ := hrow i x hx
        have l3 : l = [.int .i64 x] := l3
        subst l3
        have := l2 0 (.int .i64 x) rfl
        unfold cellH at this
        rw [hh] at this
        simpa [Sh.size] using this
      have hH : Go.Sort.Holds (fun x : Int => Value.int .i64 x) w b 0 xs.toArray := fun t ht => by
        have ht : t < xs.length := by simpa using ht
        refine ⟨?_, by simp [World.frozen?, hh]⟩
        rw [cell_eq]
        unfold cellH
        rw [hh, Nat.zero_add]
        dsimp only
        rw [hcx t xs[t] (List.getElem?_eq_getElem ht)]
        simp [ht]
      have h := del_walk b 0 c k q xs.toArray w hH (by simpa using hcl) (by simpa using hbig) hkq (by simpa using hq)
      have e1 : xs.toArray.size = xs.length := by simp
      rw [e1] at h
      refine h.mono ?_
      rintro e w' ⟨rfl, rfl⟩
      have hd : w.drew.heap[b]? = some (.cells cs e0 (0, 0)) := hh
      have hlt : b < w.drew.heap.size := (Array.getElem?_eq_some_iff.1 hd).1
      rw [Nat.zero_add, Nat.zero_add, setCells_setBd b _ _ w.drew cs e0 hd, setCells_setBd b _ _ _ _ e0 (setB_get _ _ _ hlt), setB_setB]
      have hdl : ((xs.toArray.toList.drop q).map (fun x : Int => Value.int .i64 x)).length = xs.length - q := by simp
      refine ⟨_, rfl, .inl ⟨b, cs, _, e0, 0, c, rfl, hh, by rw [lay_size, lay_size], ⟨rfl, rfl, rfl, rfl⟩, fun i x hx => ?_, by rw [hzl], by rw [hzl]; omega, fun _ => rfl, hcs⟩⟩
      have hlen := (List.getElem?_eq_some_iff.1 hx).1
      rw [hzl] at hlen
      rw [hz, cut_get hkq hq] at hx
      rw [lay_get _ _ _ (by rw [lay_size, List.length_replicate]; omega), if_neg (by omega), lay_get _ _ _ (by rw [hdl]; omega), hdl]
      by_cases hik : i < k
      · rw [if_pos hik] at hx
        rw [if_neg (by omega)]
        exact hcx i x hx
      · rw [if_neg hik] at hx
        rw [if_pos (by omega), List.getElem?_map, List.getElem?_drop]
        simp only [List.toList_toArray]
        rw [hx]
        rfl

end Go.Proofs.Ytkcdhdnmmpapdaa
