/-
  impl.HastePlan: the closure, by recursion. No condition.
-/
import Derived.StillTailTactics
import Derived.Test.YtojjnifdkanpfaaHa1
namespace Go.Proofs.Ytojjnifdkanpfaa.Ha
open Go Go.RowKit Go.Proofs.Ytojjnifdkanpfaa Go.Proofs.Ytojjnifdkanpfaa.Fw
open Go.Proofs.Ytojjnifdkanpfaa.Arr hiding Tk goJ goJ_step
set_option maxRecDepth 100000
set_option linter.unusedVariables false
set_option linter.unusedSimpArgs false

set_option maxHeartbeats 16000000 in
theorem put_any {p : Nat → Prop} {fE : List Tk → Option (List Int × Unit)} {fL : List Tk → List Int → Option (Int × Unit)} {fC : List Int → Option (List Int × Unit)} (hE : EarlyC p fE) (hL : LastC p fL) (hC : CloneC fC)
    {a b e LA lo lc MA mo mc CA co cc SB sc cz n : Nat} {list : List Tk} {most costs : List Int} {fin : Int} (hn : 1 ≤ n ∧ n ≤ 5) (hll : list.length = n) :
    ∀ (r i : Nat) (S S' : HT) (cost : Int) (W : World), i + r = n → HI p a b e LA lo lc MA mo mc CA co cc SB sc cz n list most costs fin S W → putH fE fL fC list most costs fin r cost S = some S' →
      Calls Try.prog 25 (.int .i64 (i : Int) :: .int .i64 cost :: haPs a b e).toArray W fun ed W' => ed = .returned (.tuple #[]) ∧ HI p a b e LA lo lc MA mo mc CA co cc SB sc cz n list most costs fin S' W' ∧ Chg (fun k => k = b ∨ k = b + 1 ∨ k = SB ∨ k = e + 1) W W' := by
  intro r
  induction r with
  | zero =>
    intro i S S' cost W hir hI hr
    obtain ⟨a', h1, h2⟩ := Option.bind_eq_some_iff.1 hr
    cases h2
    have hi : i = n := by omega
    rw [hi]
    exact put_leaf hE hL hC hn.1 hI h1
  | succ r ih =>
    intro i S S' cost W hir hI hr
    have hlt := hI.lt
    have hsl := hI.sl
    have hpl := lt_of_block hI.pb
    have cn := perm_cell (i := 0) hI.nb
    simp only [List.getElem?_toArray, List.getElem?_cons_zero] at cn
    have heq : ((i : Int) == (n : Int)) = false := by
      simp only [beq_eq_false_iff_ne]
      omega
    have hi : list.length - (r + 1) = i := by omega
    unfold putH at hr
    rw [hi] at hr
    obtain ⟨hok, hr⟩ := cond_some hr
    unfold okH at hok
    simp only [Bool.and_eq_true, decide_eq_true_eq] at hok
    obtain ⟨t, ht⟩ : ∃ v : Int, v = (list.getD i tkD).1 := ⟨_, rfl⟩
    obtain ⟨m, hm⟩ : ∃ v : Int, v = most.getD i 0 := ⟨_, rfl⟩
    obtain ⟨c, hc⟩ : ∃ v : Int, v = costs.getD i 0 := ⟨_, rfl⟩
    rw [← ht, ← hm, ← hc] at hr hok
    obtain ⟨q1, q2, q3, q4, q5, q6, q7, q8⟩ := hok
    have HX : Hid (t = (list.getD i tkD).1 ∧ m = most.getD i 0 ∧ c = costs.getD i 0) := ⟨ht, hm, hc⟩
    obtain ⟨M, hM⟩ : ∃ M : Nat, minI m t + 1 = (M : Int) := ⟨(minI m t + 1).toNat, by unfold minI; split <;> omega⟩
    rw [hM, Int.toNat_natCast] at hr
    have hM2 : (M : Int) ≤ 100001 := by
      rw [← hM]
      unfold minI
      split <;> omega
    have HM : Hid (minI m t + 1 = (M : Int)) := hM
    have HR : Hid (goH (fun by_ S => putH fE fL fC list most costs fin r (cost + (by_ : Int) * c) (S.1.set i (t - (by_ : Int), (S.1.getD i tkD).2), S.2.1.set i (by_ : Int), S.2.2)) M 0 S = some S') := hr
    have cm : ∀ V, Ext W V → V.cell? ⟨a + 1, 0, none⟩ = some (.slice (some ⟨MA, mo, none⟩) n mc) ∧ V.cell? ⟨a, 0, none⟩ = some (.slice (some ⟨LA, lo, none⟩) n lc) ∧ V.cell? ⟨MA, mo + i, none⟩ = some (.int .i64 m) ∧ V.cell? ⟨LA, lo + i * 4, none⟩ = some (.int .i64 t) := fun V hV => by
      have h := hI.below (W' := V) fun z hz => hV.block z hz id
      exact ⟨perm_cell h.mb, perm_cell h.lb, by rw [HX.out.2.1]; exact h.ma i (by omega), by rw [HX.out.1]; exact h.la i (by omega)⟩
    clear hr ht hm hc hM hi
    unfold haPs
    go_enter Try.func25, Try.ntmps25
    go_upto_region 3 with (fail)
    have hE0 : Ext W W.drew := (Chg.refl _ _).drew
    obtain ⟨c01, c02, c03, c04⟩ := cm _ hE0
    go_cut [46, 47] (fun v u wx => v = .int .i64 (M : Int) ∧ u = .int .i64 0 ∧ Ext W wx)
    case first =>
      go_region
      all_goals go_wp2_with fail
      all_goals go_meet
      · exact ⟨by rw [← HM.out]; unfold minI; rw [if_pos (by omega)], rfl, hE0⟩
      · exact ⟨by rw [← HM.out]; unfold minI; rw [if_neg (by omega)], rfl, hE0⟩
    case rest =>
      obtain ⟨rfl, rfl, hEx⟩ := hcut
      obtain ⟨V3, rfl⟩ : ∃ V, V = wc := ⟨_, rfl⟩
      clear c01 c02 c03 c04 hE0 cm cn heq hpl
      go_wp2_with fail
      go_loopw [47] (fun u wr => ∃ k : Nat, k ≤ M ∧ u = .int .i64 (k : Int) ∧ ∃ Sk : HT, Hid (goH (fun by_ S => putH fE fL fC list most costs fin r (cost + (by_ : Int) * c) (S.1.set i (t - (by_ : Int), (S.1.getD i tkD).2), S.2.1.set i (by_ : Int), S.2.2)) (M - k) k Sk = some S') ∧ HI p a b e LA lo lc MA mo mc CA co cc SB sc cz n list most costs fin Sk wr ∧ Chg (fun k => k = b ∨ k = b + 1 ∨ k = SB ∨ k = e + 1) W wr) (fun u _ => M - (intOf u).toNat)
      case atStart => exact ⟨0, Nat.zero_le _, rfl, S, HR, hI.below fun z hz => hEx.block z hz id, hEx.weak _⟩
      case round =>
        obtain ⟨k, hkM, rfl, Sk, HG, hIk, hCk⟩ := hrel
        have hsk := hCk.size
        have hslk := hIk.sl
        by_cases hkm : k < M
        · have hg := HG.out
          rw [show M - k = (M - (k + 1)) + 1 by omega] at hg
          obtain ⟨S1, hf1, hg1⟩ := goH_step hg
          have HG1 : Hid (goH (fun by_ S => putH fE fL fC list most costs fin r (cost + (by_ : Int) * c) (S.1.set i (t - (by_ : Int), (S.1.getD i tkD).2), S.2.1.set i (by_ : Int), S.2.2)) (M - (k + 1)) (k + 1) S1 = some S') := hg1
          have HF1 : Hid (putH fE fL fC list most costs fin r (cost + (k : Int) * c) (Sk.1.set i (t - (k : Int), (Sk.1.getD i tkD).2), Sk.2.1.set i (k : Int), Sk.2.2) = some S1) := hf1
          clear hg hg1 hf1 HG
          have cck := perm_cell (i := 0) hIk.cb
          simp only [List.getElem?_toArray, List.getElem?_cons_zero] at cck
          have cek := hIk.crow.cell (i := i) (by omega)
          have fek := hIk.crow.free i
          have hI1 := hIk.setC (i := i) (by omega) (k : Int)
          have hC1 := hCk.set (a := ⟨e + 1, i, none⟩) (.inr (.inr (.inr rfl))) (.int .i64 (k : Int))
          go_upto_region 7 with (fail)
          obtain ⟨V4, hV4⟩ : ∃ V, V = wr.setCell ⟨e + 1, i, none⟩ (.int .i64 (k : Int)) := ⟨_, rfl⟩
          rw [← hV4] at hI1 hC1
          rw [← hV4]
          clear hV4 cck cek fek
          -- the time
          have hget : Sk.1[i]? = some (Sk.1.getD i tkD) := by
            rw [List.getD_eq_getElem?_getD, List.getElem?_eq_getElem (by omega)]
            rfl
          have c41 := perm_cell (i := 0) hI1.sb
          have c42 := perm_cell (i := 0) hI1.lb
          simp only [List.getElem?_toArray, List.getElem?_cons_zero] at c41 c42
          have c43 : V4.cell? ⟨LA, lo + i * 4, none⟩ = some (.int .i64 t) := by rw [HX.out.1]; exact hI1.la i (by omega)
          obtain ⟨c44, c45⟩ := hI1.srow.time hget
          obtain ⟨tv, htv⟩ : ∃ v : Int, v = (Sk.1.getD i tkD).1 := ⟨_, rfl⟩
          rw [← htv] at c44
          have HTV : Hid (tv = (Sk.1.getD i tkD).1) := htv
          clear htv hget
          have hs4 := hC1.size
          have hd := hI1.below (W' := V4.drew) fun _ _ => rfl
          have hI2 := hd.setT (i := i) (by omega) (t - (k : Int))
          have hC2 := hC1.drew.set (a := ⟨SB, i * 4, none⟩) (.inr (.inr (.inl rfl))) (.int .i64 (t - (k : Int)))
          go_cut [] (fun wx => HI p a b e LA lo lc MA mo mc CA co cc SB sc cz n list most costs fin (Sk.1.set i (t - (k : Int), (Sk.1.getD i tkD).2), Sk.2.1.set i (k : Int), Sk.2.2) wx ∧ Chg (fun k => k = b ∨ k = b + 1 ∨ k = SB ∨ k = e + 1) W wx)
          case first =>
            go_region
            all_goals go_wp2_with fail
            all_goals go_meet
            all_goals exact ⟨hI2, hC2⟩
          case rest =>
            clear c41 c42 c43 c44 c45 hd hI2 hC2 hI1 hC1 hs4 hIk hCk
            obtain ⟨hI5, hC5⟩ := hcut
            obtain ⟨V5, rfl⟩ : ∃ V, V = wc := ⟨_, rfl⟩
            have hs5 := hC5.size
            have hd := hI5.below (W' := V5.drew) fun _ _ => rfl
            have hcall := ih (i + 1) _ S1 _ V5.drew (by omega) hd HF1.out
            have c51 := perm_cell (i := 0) hd.pb
            have c52 := perm_cell (i := 0) hd.kb
            simp only [List.getElem?_toArray, List.getElem?_cons_zero] at c51 c52
            have c53 : V5.drew.cell? ⟨CA, co + i, none⟩ = some (.int .i64 c) := by rw [HX.out.2.2]; exact hd.ca i (by omega)
            have hkc : (k : Int) * c ≤ 10000100000 := by
              have h1 : (k : Int) * c ≤ (k : Int) * 100000 := Int.mul_le_mul_of_nonneg_left q6 (by omega)
              omega
            have hkc0 : 0 ≤ (k : Int) * c := Int.mul_nonneg (by omega) q5
            unfold haPs at hcall c51
            rw [show ((i + 1 : Nat) : Int) = (i : Int) + 1 by omega] at hcall
            go_upto_region 8 with (fail)
            have hin : i < n := by omega
            have hw1 : IntKind.i64.wrap ((k : Int) * c) = (k : Int) * c := IntWalk.i64_in _ (by omega)
            have hw2 : IntKind.i64.wrap (cost + (k : Int) * c) = cost + (k : Int) * c := IntWalk.i64_in _ (by omega)
            have hw3 : IntKind.i64.wrap ((i : Int) + 1) = (i : Int) + 1 := IntWalk.i64_in _ (by omega)
            go_still_tail 11, (by kernel_rfl)
            change wpList _ _ _ _ _ V5.drew
            go_wp2_with (go_at_call 25; refine hcall.mono ?_; rintro e V6 ⟨rfl, hI6, hC6⟩; have hC7 := hC5.drew.trans hC6 fun z _ h => h; clear hcall c51 c52 c53 hd)
            exact ⟨⟨k + 1, by omega, by simp, S1, HG1, hI6, hC7⟩, by simp [intOf]; omega⟩
        · obtain rfl : k = M := by omega
          have HE : Hid (Sk = S') := by
            have h := HG.out
            rw [Nat.sub_self] at h
            exact Option.some.inj h
          go_wp2_with fail
          refine bodyPost_end (results_none rfl _ _ _) rfl ?_
          rw [← HE.out]
          exact ⟨rfl, hIk, hCk⟩

end Go.Proofs.Ytojjnifdkanpfaa.Ha
