/-
  Regions that draw their order, walked in the text's order by hand: calls that leave a world of a class, loads, the rest. No condition.
-/
import Derived.Test.YtmdicmdodbndgaaArr
namespace Go.Proofs.Ytmdicmdodbndgaa.Arr
open Go Go.RowKit Go.Proofs.Ytmdicmdodbndgaa Go.Proofs.Ytmdicmdodbndgaa.Fw
set_option maxRecDepth 100000
set_option linter.unusedVariables false
set_option linter.unusedSimpArgs false

/-- The calls of functions. -/
def callOp (o : Oper) : Bool :=
  match o.op with
  | .call { callee := .value (.func _), .. } => true
  | _ => false

abbrev mixW (P : Program) (ops : Array Oper) (Q : Exit → Act → World → Prop) : List Oper → Act → (World → Prop) → Prop := wpMix P callOp callOp (fun _ => false) ops Q

section
variable {P : Program} {ops : Array Oper} {Q : Exit → Act → World → Prop} {o : Oper} {rest : List Oper} {a : Act} {C : World → Prop}

/-- May the operations be run in the order that a list gives? -/
def mixOrd (Wd Gr Dr : Oper → Bool) (ops : Array Oper) : List Nat → Array Bool → Bool
  | [], listed => (Region.ready .any ops listed).isEmpty
  | k :: ks, listed => (Region.ready .any ops listed).contains k && mixFree Wd Gr Dr ops listed k && mixOrd Wd Gr Dr ops ks (listed.setIfInBounds k true)

theorem wpAnyM_ord (hs : Region.noSelect ops = true) : ∀ (l : List Oper) (ks : List Nat) (listed : Array Bool) (a : Act) (C : World → Prop), l.map some = ks.map (fun k => ops[k]?) →
    Closed ops listed → mixOrd callOp callOp (fun _ => false) ops ks listed = true → (∃ w, C w) → mixW P ops Q l a C → wpAnyM P callOp callOp (fun _ => false) ops Q l.length listed a C
  | [], [], _, _, _, _, _, hB, _, h => ⟨by simpa [mixOrd] using hB, h⟩
  | [], _ :: _, _, _, _, hl, _, _, _, _ => by cases hl
  | _ :: _, [], _, _, _, hl, _, _, _, _ => by cases hl
  | o :: l, k :: ks, listed, a, C, hl, hcl, hB, hne, h => by
    simp only [List.map_cons, List.cons.injEq] at hl
    have h0 : ops[k]? = some o := hl.1.symm
    simp only [mixOrd, Bool.and_eq_true] at hB
    obtain ⟨⟨hr, hf⟩, hB'⟩ := hB
    have hr' : k ∈ Region.ready .any ops listed := by simpa using hr
    exact wpAnyM_first h0 (Region.noSelect_spec hs) l.length listed a C hcl (fun j oj hj hji hun hd => mixFree_spec hf j oj o h0 hj hji hun hd) hr' hne
      (stepM.mono hne (fun a' C' hne' hk => wpAnyM_ord hs l ks _ _ _ hl.2 (hcl.set hr') hB' hne' hk) h)

/-- A region that draws its order, run in the order 'ks'. -/
theorem mix_region (ks : List Nat) {id : Nat} {l r : List Oper} {w : World} (hm : P.follows .mixedOrders = true) (hs : Region.noSelect l.toArray = true) (hB : mixOrd callOp callOp (fun _ => false) l.toArray ks (Array.replicate l.length false) = true) (hn : l.length = ks.length) (hl : r.map some = ks.map (fun k => l[k]?)) (hC : C w.drew) (h : mixW P l.toArray Q r a C) : (Code.region id l.toArray true).wp P Q a w := by
  refine wp_region_any hm (wpAny_of_M (Wd := callOp) (Gr := callOp) (Dr := fun _ => false) _ _ _ C _ hC ?_)
  have := wpAnyM_ord (P := P) (Q := Q) hs r ks (Array.replicate l.length false) a C (by simpa using hl) (fun j oj _ hl => by
    rw [Array.getD_eq_getD_getElem?, Array.getElem?_replicate] at hl
    split at hl <;> simp at hl) hB ⟨_, hC⟩ h
  have hr : r.length = l.length := by
    have := congrArg List.length hl
    simp only [List.length_map] at this
    omega
  rw [hr] at this
  simpa using this

/-- Passed over. -/
theorem mix_skip (hw : Region.wanted o (yielded ops a.tmps) = false) (h : mixW P ops Q rest (a.put o.dst undef) C) : mixW P ops Q (o :: rest) a C := .inr (.inr (.inl ⟨hw, h⟩))

/-- No memory. -/
theorem mix_val {v : Value} (hw : Region.wanted o (yielded ops a.tmps) = true) (hc : callOp o = false) (hm : memOp o = false) (hv : ∀ w, (execOp a.eval o).run P w = .ok (.value v) w) (h : mixW P ops Q rest (a.put o.dst v) C) : mixW P ops Q (o :: rest) a C :=
  .inr (.inl ⟨hw, hc, v, fun w _ => hv w, fun w _ => by unfold Oper.quietAt; rw [hv w]; exact ⟨rfl, rfl⟩, h⟩)

/-- A load. -/
theorem mix_load {v : Value} (hw : Region.wanted o (yielded ops a.tmps) = true) (hc : callOp o = false) (hm : loadOp o = true) (hm2 : memOp o = true) (hv : ∀ w, C w → (execOp a.eval o).run P w = .ok (.value v) w) (h : mixW P ops Q rest (a.put o.dst v) C) : mixW P ops Q (o :: rest) a C :=
  .inr (.inl ⟨hw, hc, v, fun w hh => by rcases hh with hh | hh; exact absurd (hm2.symm.trans hh) (by decide); exact hv w hh.2, fun w hh => by unfold Oper.quietAt; rw [hv w hh]; exact ⟨rfl, rfl⟩, h⟩)

/-- A call. -/
theorem mix_call (hw : Region.wanted o (yielded ops a.tmps) = true) (hc : callOp o = true) (h : ∀ w, C w → ∀ K : Act → World → Prop, (∀ a' w' (C' : World → Prop), C' w' → (∀ x, C' x → C x) → mixW P ops Q rest a' C' → K a' w') → Oper.wp P o a w K (fun _ _ _ => False)) : mixW P ops Q (o :: rest) a C :=
  .inl ⟨hw, hc, fun w hC => h w hC _ fun a' w' C' h1 h2 h3 => ⟨C', h1, fun _ => h2, h3⟩⟩

theorem mix_nil (h : ∀ w, C w → Q .normal a w) : mixW P ops Q [] a C := h
end

end Go.Proofs.Ytmdicmdodbndgaa.Arr
