/-
  What marking does to memory: rules for the walks of the functions that mark. No condition.
-/
import Derived.Test.YtmdicmdodbndgaaFwX
import Derived.Test.YtmdicmdodbndgaaFwP
namespace Go.Proofs.Ytmdicmdodbndgaa.Fw
open Go Go.RowKit

theorem BelowX.refl (n : Nat) (S : Nat → Prop) (w : World) : BelowX n S w w := ⟨rfl, rfl, rfl, Nat.le_refl _, fun _ _ _ => rfl, fun _ _ => rfl⟩

theorem BelowX.trans {n : Nat} {S : Nat → Prop} {w w' w'' : World} (h : BelowX n S w w') (h' : BelowX n S w' w'') : BelowX n S w w'' :=
  ⟨h'.os.trans h.os, h'.tape.trans h.tape, h'.output.trans h.output, Nat.le_trans h.size h'.size, fun k hk hs => (h'.block k hk hs).trans (h.block k hk hs), fun k hk => (h'.bsz k hk).trans (h.bsz k hk)⟩

theorem BelowX.wide {n m : Nat} {S S' : Nat → Prop} {w w' : World} (h : BelowX n S w w') (hm : m ≤ n) (hs : ∀ b, S b → S' b) : BelowX m S' w w' :=
  ⟨h.os, h.tape, h.output, h.size, fun k hk hn => h.block k (by omega) (fun h' => hn (hs k h')), fun k hk => h.bsz k (by omega)⟩

/-- A block whose cells may be changed, with room. -/
def Room (H : Array Obj) (b n : Nat) : Prop := ∃ cs e, H[b]? = some (.cells cs e (0, 0)) ∧ n ≤ cs.size

theorem Room.cell {w : World} {b n o : Nat} (h : Room w.heap b n) (ho : o < n) : ∃ v, w.cell? ⟨b, o, none⟩ = some v := by
  obtain ⟨cs, e, h1, h2⟩ := h
  rw [cell_eq]
  unfold cellH
  rw [h1]
  exact ⟨cs[o]'(by omega), by simp⟩

theorem Room.frozen {w : World} {b n o : Nat} (h : Room w.heap b n) : w.frozen? ⟨b, o, none⟩ = false := by
  obtain ⟨cs, e, h1, h2⟩ := h
  simp [World.frozen?, h1]

/-- Setting one cell. -/
theorem set_cell {n b m : Nat} {S : Nat → Prop} {w w' : World} (hX : BelowX n S w w') (hS : S b) (hr : Room w'.heap b m) (o : Nat) (v : Value) :
    BelowX n S w (w'.setCell ⟨b, o, none⟩ v) ∧ (∀ c k, Room w'.heap c k → Room (w'.setCell ⟨b, o, none⟩ v).heap c k) ∧
      ∀ c k, (c ≠ b ∨ k ≠ o) → cellH (w'.setCell ⟨b, o, none⟩ v).heap c k = cellH w'.heap c k := by
  obtain ⟨cs, e, h1, h2⟩ := hr
  have hlt : b < w'.heap.size := lt_of_some h1
  rw [setCell_setB _ _ _ _ _ _ h1]
  refine ⟨⟨hX.os, hX.tape, hX.output, by rw [setB_size]; exact hX.size, fun k hk hn => ?_, fun k hk => ?_⟩, fun c k hc => ?_, fun c k hc => ?_⟩
  · rw [setB_heap_ne _ _ (fun h => hn (by rw [← h]; exact hS))]
    exact hX.block k hk hn
  · rw [← hX.bsz k hk]
    by_cases hkb : b = k
    · subst hkb
      unfold Fw.bsz
      rw [setB_get _ _ _ hlt, h1]
      simp
    · exact bsz_congr (setB_heap_ne _ _ hkb)
  · by_cases hkb : b = c
    · subst hkb
      obtain ⟨cs', e', g1, g2⟩ := hc
      rw [h1] at g1
      cases g1
      exact ⟨_, _, setB_get _ _ _ hlt, by simpa using g2⟩
    · obtain ⟨cs', e', g1, g2⟩ := hc
      exact ⟨cs', e', by rw [setB_heap_ne _ _ hkb]; exact g1, g2⟩
  · by_cases hkb : b = c
    · subst hkb
      unfold cellH
      rw [setB_get _ _ _ hlt, h1]
      simp only
      rw [Array.getElem?_setIfInBounds_ne (fun h => by rcases hc with hc | hc; exact hc rfl; exact hc h.symm)]
    · exact cellH_congr (setB_heap_ne _ _ hkb) k

end Go.Proofs.Ytmdicmdodbndgaa.Fw
