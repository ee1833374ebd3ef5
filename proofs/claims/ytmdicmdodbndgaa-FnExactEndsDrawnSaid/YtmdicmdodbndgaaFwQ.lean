/-
  What the evaluator answers of a body, the model does: code and functions. No condition.
-/
import Derived.Test.YtmdicmdodbndgaaFwP
namespace Go.Proofs.Ytmdicmdodbndgaa.Fw
open Go Go.RowKit

def Ex.out : Ex → Exit
  | .normal => .normal
  | .exit id => .exit id
  | .ret => .ret

section
variable {P : Program} {c : Cx} {m : Nat → Option Nat} {a : Act} {w : World}

/-- The state behind a loop. -/
theorem exit_sim {E : Env} {st st' : St} {ds hs ks : List Nat} {E' : Env} (he : E' = { slots := mergeSlots E.slots (keepSlots ds ks 0 st.slots), objs := E.objs ++ delAll st.objs hs, args := E.args, mutb := E.mutb })
    (hx : excl E.slots st.slots = true) (hd : ∀ h o, look st.objs h = some o → look E.objs h = none) (hn : st.slots.length = c.n) (hS : SimM c E' st' m a w) :
    SimM c E { slots := mergeSlots st'.slots (keepSlots ds ks 0 st.slots), objs := st'.objs ++ delAll st.objs hs } m a w := by
  have hdel : ∀ h o, look (delAll st.objs hs) h = some o → look E.objs h = none := fun h o ho => by
    by_cases hh : h ∈ hs
    · rw [look_delAll_mem hh] at ho; cases ho
    · rw [look_delAll_ne hh] at ho; exact hd h o ho
  have hO : E.ob { slots := mergeSlots st'.slots (keepSlots ds ks 0 st.slots), objs := st'.objs ++ delAll st.objs hs } = E'.ob st' := by
    funext h
    simp only [Env.ob, look_append, he]
    cases h1 : look st'.objs h with
    | some o => simp
    | none =>
      cases h2 : look (delAll st.objs hs) h with
      | some o => rw [hdel h o h2]; simp
      | none => simp
  have hlen : (mergeSlots st'.slots (keepSlots ds ks 0 st.slots)).length = st'.slots.length := mergeSlots_len (by rw [keepSlots_len, hn, hS.num])
  have heE : ∀ (t : Nat) (av : AV), E.slots[t]? = some av → av = .top ∨ E'.slots[t]? = some av := fun t av h => by
    by_cases hv : av = .top
    · exact .inl hv
    · exact .inr (by rw [he]; exact mergeSlots_l h hv)
  have hkE : ∀ (t : Nat) (av : AV), (keepSlots ds ks 0 st.slots)[t]? = some av → av = .top ∨ E'.slots[t]? = some av := fun t av h => by
    rcases keepSlots_get ds ks _ _ t h with h1 | ⟨h1, _⟩
    · exact .inl h1
    · by_cases hv : av = .top
      · exact .inl hv
      · refine .inr ?_
        rw [he]
        exact mergeSlots_r h fun u hu => (excl_spec hx t u av hu h1).resolve_right hv
  exact {
    defers := hS.defers
    size := by rw [hlen]; exact hS.size
    num := by rw [hlen]; exact hS.num
    kept := hS.kept
    slots := fun t av h => by
      rw [hO]
      rcases mergeSlots_get h with h1 | h1
      · exact hS.slots t av h1
      · rcases hkE t av h1 with rfl | h2
        · exact .top _
        · exact hS.eslots t av h2
    eslots := fun t av h => by
      rw [hO]
      rcases heE t av h with rfl | h2
      · exact .top _
      · exact hS.eslots t av h2
    objs := by rw [hO]; exact hS.objs
    inj := by rw [hO]; exact hS.inj
    disj := fun h o ho => by
      simp only [look_append] at ho
      cases h1 : look st'.objs h with
      | some o' =>
        have := hS.disj h o' h1
        rw [he] at this
        simp only [look_append] at this
        cases h2 : look E.objs h with
        | none => rfl
        | some o2 => rw [h2] at this; simp at this
      | none =>
        rw [h1] at ho
        exact hdel h o (by simpa using ho)
    fix := by rw [show E.args = E'.args by rw [he]]; exact hS.fix
    nomu := by rw [show E.mutb = E'.mutb by rw [he]]; exact hS.nomu
    old := by rw [show E.args = E'.args by rw [he]]; exact hS.old
    alive := by rw [hO]; exact hS.alive }

/-- What the evaluator answers of code, the model does. -/
theorem ex_sound {ρ : Type} {N : Nat} {tt : Nat → TD} {T : Nat → List EntX} {L : Nat → List (Nat × TK)} (hM : P.follows .mixedOrders = true) (hP : ∀ t, TDok P t (tt t)) (hT : ∀ f, ∀ e ∈ T f, SoundX P f e) (code : Code) :
    ∀ {E : Env} {st : St} {a : Act} {w : World} {K : Ex → St → Option ρ} {r : ρ} {Q : Exit → Act → World → Prop}, Sim c E st a w → ex N tt T L E code st K = some r →
      (∀ e st' a' w', Sim c E st' a' w' → K e st' = some r → Q e.out a' w') → code.wp P Q a w := by
  induction code with
  | skip => intro E st a w K r Q hS h hQ; exact wp_skip (hQ .normal st a w hS h)
  | exit id => intro E st a w K r Q hS h hQ; exact wp_exit (hQ (.exit id) st a w hS h)
  | ret => intro E st a w K r Q hS h hQ; exact wp_ret (hQ .ret st a w hS h)
  | region id ops draw =>
    intro E st a w K r Q ⟨m, D, hS⟩ h hQ
    simp only [ex] at h
    obtain ⟨hd, h'⟩ := cond_some h
    cases draw with
    | false =>
      refine wp_region_list ?_
      have := aops_sound (Q := Q) hP hT ops.toList hS h' (fun st' a' w' h1 h2 => hQ .normal st' a' w' h1 h2)
      simpa using this
    | true =>
      simp only [Bool.not_true, Bool.false_or, Bool.or_eq_true] at hd
      have hS' : SimM (c.die D) E st m a { w with drawn := w.drawn + 1 } := hS.same ⟨rfl, rfl, rfl, rfl⟩
      rcases hd with hd | hd
      · simp only [drawOk, Bool.and_eq_true] at hd
        refine wp_region_quiet (C := Below w.heap.size { w with drawn := w.drawn + 1 }) hM hd.1 (Below.refl _ _) ?_
        have := aops_draw (Q := Q) hP hT ops.toList (fun o ho => by
          have := List.all_eq_true.1 hd.2 o ho
          simp only [Bool.and_eq_true, Bool.not_eq_true'] at this
          exact ⟨this.1, by simp [this.2]⟩) hS' h' (fun st' a' w' h1 h2 => hQ .normal st' a' w' h1 h2)
        simpa using this
      · simp only [drawMix, Bool.and_eq_true] at hd
        refine wp_region_mix (C := Below w.heap.size { w with drawn := w.drawn + 1 }) hM hd.1 (Below.refl _ _) ?_
        have := aops_mix (Q := Q) (Wd := wideOp T) hP hT ops.toList (fun o ho => by
          have h0 := List.all_eq_true.1 hd.2 o ho
          by_cases hwd : wideOp T o = true
          · exact .inl hwd
          · have hwd' : wideOp T o = false := by simpa using hwd
            rw [hwd'] at h0
            by_cases hfd : fltDr tt o = true
            · exact .inr (.inl ⟨hwd', hfd⟩)
            · have hfd' : fltDr tt o = false := by simpa using hfd
              exact .inr (.inr ⟨hwd', by simpa using h0, by simp [hwd', hfd']⟩)) hS' h' (fun st' a' w' h1 h2 => hQ .normal st' a' w' h1 h2)
        simpa using this
  | seq x y ihx ihy =>
    intro E st a w K r Q hS h hQ
    simp only [ex] at h
    refine wp_seq (ihx hS h fun e st' a' w' h1 h2 => ?_)
    cases e with
    | normal => exact ihy h1 h2 hQ
    | exit id => exact hQ (.exit id) st' a' w' h1 h2
    | ret => exact hQ .ret st' a' w' h1 h2
  | cond op x y ihx ihy =>
    intro E st a w K r Q hS h hQ
    obtain ⟨m, D, hS'⟩ := hS
    simp only [ex] at h
    split at h
    · rename_i t ht
      have hv := hS'.ev op
      rw [ht] at hv
      have hv := g_bool hv
      cases t with
      | true => exact wp_cond_true hv (ihx ⟨m, D, hS'⟩ h hQ)
      | false => exact wp_cond_false hv (ihy ⟨m, D, hS'⟩ h hQ)
    · cases h
  | block id x ihx =>
    intro E st a w K r Q hS h hQ
    simp only [ex] at h
    refine wp_block (ihx hS h fun e st' a' w' h1 h2 => ?_)
    cases e with
    | normal => exact hQ .normal st' a' w' h1 h2
    | exit j =>
      simp only [Ex.out, Exit.inBlock]
      by_cases hj : j = id
      · subst hj
        simp only [Nat.beq_refl, cond_true] at h2
        rw [if_pos rfl]
        exact hQ .normal st' a' w' h1 h2
      · rw [if_neg hj]
        simp only [beq_false hj, cond_false] at h2
        exact hQ (.exit j) st' a' w' h1 h2
    | ret => exact hQ .ret st' a' w' h1 h2
  | loop x ihx =>
    intro E st a w K r Q hS h hQ
    obtain ⟨m, D, hS⟩ := hS
    simp only [ex] at h
    obtain ⟨hc, h'⟩ := cond_some h
    simp only [Bool.and_eq_true] at hc
    obtain ⟨⟨⟨⟨⟨hx, hnh⟩, _⟩, hown⟩, _⟩, hlt⟩ := hc
    have hlt : ∀ p ∈ L (firstId x), p.1 < 500000 := fun p hp => by simpa using List.all_eq_true.1 hlt p hp
    clear h
    obtain ⟨hne0, h'⟩ := tmNe_some h'
    split at h'
    · cases h'
    · rename_i x0 hx0
      generalize htm : L (firstId x) = tm at *
      generalize hhs : tmHs E st tm = hs at *
      generalize hE' : ({ slots := mergeSlots E.slots (keepSlots (dsts x ++ tm.map (·.1)) (hs ++ ownNames tm) 0 st.slots), objs := E.objs ++ delAll st.objs hs, args := E.args, mutb := E.mutb } : Env) = E' at *
      have hE'' := hE'.symm
      have H3 : ∀ n ∈ ownNames tm, look E'.objs n = none ∧ (∀ (t : Nat) (av : AV), E'.slots[t]? = some av → ¬ Mn n av) ∧ ∀ k cells, look E'.objs k = some (.box cells) → ∀ b ∈ cells, ¬ Mn n b := by
        intro n hn
        have h1 := List.all_eq_true.1 hown n hn
        simp only [Bool.and_eq_true, Bool.not_eq_true'] at h1
        obtain ⟨q1, q2⟩ := mentO_spec h1.2
        rw [hE'']
        exact ⟨q1, any_ment h1.1, q2⟩
      have hargs : E'.args = E.args := by rw [hE'']
      have hmutb : E'.mutb = E.mutb := by rw [hE'']
      have head : ∀ {E1 : Env} {st1 : St} {m1 : Nat → Option Nat} {D1 : Nat → Prop} {a1 : Act} {w1 : World} {s : dens (tm.map fun p => p.2.sh)}, E'.args = E1.args → E'.mutb = E1.mutb → SimM (c.die D1) E1 st1 m1 a1 w1 → tmOut E1 st1 tm = some s → nodup (tmHs E1 st1 tm) = true → NeOk E1 st1 tm →
          (∀ h o, look E'.objs h = some o → E1.ob st1 h = some o ∧ h ∉ tmHs E1 st1 tm) → (∀ (t : Nat) (av : AV), E'.slots[t]? = some av → RVs (c.die D1) E1 st1 m1 w1 av (a1.tmps.getD t undef)) →
          ∀ bs, AskAll (fun _ _ y => y = []) tm s bs → Sim c E' (tmIn tm s bs { slots := List.replicate st.slots.length .top, objs := [] }) a1 w1 := fun {_ _ _ D1 _ _ _} ha1 ha2 h1 h2 h3 hne h4 h5 bs hbs => by
        obtain ⟨m', hm'⟩ := head_sim (st0 := { slots := List.replicate st.slots.length .top, objs := [] }) h1 h2 h3 ha1 ha2 rfl (fun t av h => by
          rw [List.getElem?_replicate] at h
          split at h
          · cases h; rfl
          · cases h) (by rw [List.length_replicate, hS.num, h1.num]; rfl) h4 h5 hlt hne hbs H3
        exact ⟨m', D1, hm'⟩
      refine wp_loop_n (fun n a w => ∃ s, loopN (fun s next => tmAsk tm s fun bs => ex N tt T L E' x (tmIn tm s bs { slots := List.replicate st.slots.length .top, objs := [] }) fun e st' => match e with
          | .normal => cond (nodup (tmHs E' st' tm)) (tmNe E' st' (match tmOut E' st' tm with
            | some y => next y
            | none => none) tm) none
          | e => K e { slots := mergeSlots st'.slots (keepSlots (dsts x ++ tm.map (·.1)) (hs ++ ownNames tm) 0 st.slots), objs := st'.objs ++ delAll st.objs hs }) n s = some r ∧
          ∀ bs, AskAll (fun _ _ y => y = []) tm s bs → Sim c E' (tmIn tm s bs { slots := List.replicate st.slots.length .top, objs := [] }) a w) ?_ N a w ⟨x0, h', ?_⟩
      · rintro n a1 w1 ⟨s, h1, h2⟩
        cases n with
        | zero => cases h1
        | succ n =>
          simp only [loopN] at h1
          obtain ⟨bs, hbs, h1⟩ := tmAsk_some h1
          refine ihx (h2 bs hbs) h1 fun e st' a' w' h3 h4 => ?_
          obtain ⟨m3, D3, h3⟩ := h3
          have out : ∀ {e : Ex}, K e { slots := mergeSlots st'.slots (keepSlots (dsts x ++ tm.map (·.1)) (hs ++ ownNames tm) 0 st.slots), objs := st'.objs ++ delAll st.objs hs } = some r → Q e.out a' w' := fun hk =>
            hQ _ _ a' w' ⟨m3, D3, exit_sim hE'' hx hS.disj hS.num h3⟩ hk
          cases e with
          | normal =>
            simp only at h4
            obtain ⟨h5, h6⟩ := cond_some h4
            obtain ⟨hne, h6⟩ := tmNe_some h6
            split at h6
            · rename_i y hy
              refine ⟨n, Nat.lt_succ_self n, y, h6, head rfl rfl h3 hy h5 hne (fun h o ho => ?_) h3.eslots⟩
              have hno : look st'.objs h = none := by
                cases hl : look st'.objs h with
                | none => rfl
                | some o' => rw [h3.disj h o' hl] at ho; cases ho
              refine ⟨by simp [Env.ob, hno, ho], fun hh => ?_⟩
              obtain ⟨o', hl⟩ := tmHs_look hy h hh
              rw [hno] at hl
              cases hl
            · cases h6
          | exit id => exact out h4
          | ret => exact out h4
      · refine head hargs hmutb hS hx0 (by rw [hhs]; exact hnh) hne0 (fun h o ho => ?_) (fun t av h => ?_)
        · rw [hE''] at ho
          simp only [look_append] at ho
          cases h1 : look E.objs h with
          | some o' =>
            rw [h1] at ho
            have ho : o' = o := by simpa using ho
            subst ho
            have hno : look st.objs h = none := by
              cases hl : look st.objs h with
              | none => rfl
              | some o2 => rw [hS.disj h o2 hl] at h1; cases h1
            refine ⟨by simp [Env.ob, hno, h1], fun hh => ?_⟩
            obtain ⟨o2, hl⟩ := tmHs_look hx0 h hh
            rw [hno] at hl
            cases hl
          | none =>
            rw [h1] at ho
            have ho : look (delAll st.objs hs) h = some o := by simpa using ho
            by_cases hh : h ∈ hs
            · rw [look_delAll_mem hh] at ho; cases ho
            · rw [look_delAll_ne hh] at ho
              exact ⟨ob_of_look ho, by rw [hhs]; exact hh⟩
        · rw [hE''] at h
          rcases mergeSlots_get h with h1 | h1
          · exact hS.eslots t av h1
          · rcases keepSlots_get _ _ _ _ t h1 with rfl | ⟨h2, _⟩
            · exact .top _
            · exact hS.slots t av h2
  | rangeFunc _ _ _ _ => intro E st a w K r Q hS h hQ; simp [ex] at h
  | scope _ _ => intro E st a w K r Q hS h hQ; simp [ex] at h
  | label _ => intro E st a w K r Q hS h hQ; simp [ex] at h
  | goto _ => intro E st a w K r Q hS h hQ; simp [ex] at h
  | refuse _ => intro E st a w K r Q hS h hQ; simp [ex] at h

end

end Go.Proofs.Ytmdicmdodbndgaa.Fw
