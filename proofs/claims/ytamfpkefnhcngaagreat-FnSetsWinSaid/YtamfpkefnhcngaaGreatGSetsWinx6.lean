/- Printed functions, their contracts and plain facts on them: PLFnSetsWin. Conditions: as each theorem states. -/
import Derived.Test.YtamfpkefnhcngaaGreatGSetsWinx1
import Derived.Test.YtamfpkefnhcngaaGreatGSetsWinx5
import Derived.Test.YtamfpkefnhcngaaGreatGSetsWinx4
set_option maxHeartbeats 8000000
set_option maxRecDepth 100000
namespace Go.Proofs.YtamfpkefnhcngaaGreat.Q
open Go.RowKit Go.Proofs.YtamfpkefnhcngaaGreatW.PrintWords Go.Proofs.YtamfpkefnhcngaaGreatW.PrintLast Go.Proofs.YtamfpkefnhcngaaGreatW.PrintMore Go.Proofs.YtamfpkefnhcngaaGreatM
set_option linter.unusedVariables false
set_option linter.unusedSimpArgs false
theorem laws_FnSetsWin.law_l0 {q : Int} {ws : List Int} (hc : GoodC q ws) : ∀ (d i : Nat), i + d = ws.length → Ev (fun k => laws_FnSetsWin.l0 k (dicV q ws).1 (dicV q ws).2 (takeI (vetoB q ws) ws.length) (takeI (dumB q ws) ws.length) (ws.length : Int) (i : Int) q ws) true := by
  have h9 := hc.l9
  have hg := (good_iff q ws).2 hc
  intro d
  induction d with
  | zero =>
    intro i h
    refine ev_step ?_
    simp only [laws_FnSetsWin.l0]
    rw [ev_neg (by omega), ev_now]
  | succ d ih =>
    intro i h
    refine ev_step ?_
    simp only [laws_FnSetsWin.l0]
    have hi : i < ws.length := by omega
    have hp : 2 ^ i < 2 ^ ws.length := Nat.pow_lt_pow_right (by omega) hi
    have hb := impl_IsBlocking.ev q ws [(i : Int)] (by omega) (by simp)
    have hw := impl_IsWinning.ev q ws [(i : Int)] (by omega) (by simp)
    have hs : setOfB q ws [(i : Int)] = true := by rw [setOfB, hg, one_set hi]; rfl
    have hv := laws_mHas.ev (takeI (vetoB q ws) ws.length) (i : Int) (by have := takeI_len (vetoB q ws) ws.length; omega)
    have hd := laws_mHas.ev (takeI (dumB q ws) ws.length) (i : Int) (by have := takeI_len (dumB q ws) ws.length; omega)
    rw [takeI_has _ _ _ hi] at hv hd
    have e1 : blkV q ws [(i : Int)] = (vetoB q ws i, true) := by rw [blkV, if_pos hs, maskN_one, wsum_one ws i hi, vetoB, getD_lt ws i hi]
    have e2 : winsV q ws [(i : Int)] = (aloneB q ws i, true) := by rw [winsV, if_pos hs, maskN_one, wsum_one ws i hi, aloneB, getD_lt ws i hi]
    rw [e1] at hb
    rw [e2] at hw
    have hdic := dic_at hg hi
    have hih := ih (i + 1) (by omega)
    rw [show ((i + 1 : Nat) : Int) = (i : Int) + 1 by omega] at hih
    have hda : dumB q ws i = true → vetoB q ws i = false ∧ aloneB q ws i = false := fun h => ⟨dum_veto hc hi h, dum_alone hc hi h⟩
    have hdi : ((dicV q ws).1 == (i : Int)) = decide ((dicV q ws).1 = (i : Int)) := rfl
    have hj5 : Ev (fun k => laws_FnSetsWin.j5 k (dicV q ws).1 (dicV q ws).2 (takeI (vetoB q ws) ws.length) (takeI (dumB q ws) ws.length) (ws.length : Int) (i : Int) false q ws) true := by
      refine ev_step ?_
      simp only [laws_FnSetsWin.j5]
      rw [ev_neg (by decide), w64i (n := ws.length) (by omega) (by omega) (by omega)]
      exact hih
    rw [ev_pos (by omega), ev_bind hb, ev_bind hw, ev_pos rfl, ev_bind hv, ev_neg (by simp), ev_pos rfl, hdi]
    cases h1 : (dicV q ws).2 <;> cases h2 : vetoB q ws i <;> cases h3 : aloneB q ws i <;> cases h4 : dumB q ws i <;> rw [h1, h2, h3] at hdic <;> rw [h2, h3, h4] at hda <;> rw [h4] at hd <;> rw [h1] at hj5 <;> simp only [Bool.true_and, Bool.false_and, Bool.and_true, Bool.and_false] at hdic <;> first
      | (simp at hda; done)
      | (cases hdic; done)
      | (simp only [ev_bind hd, hdic, if_true, if_false, reduceCtorEq, bne_self_eq_false, Bool.false_eq_true, Bool.bne_true, Bool.bne_false, Bool.not_true, Bool.not_false, Bool.true_bne, Bool.false_bne]; exact hj5)
theorem laws_FnSetsWin.law_j1 (l1 : List Int) (hb : ByteL l1) : Ev (fun k => laws_FnSetsWin.j1 k l1) true := by
  obtain ⟨q, ws, hdr, hC⟩ := spec_DrawDictatorOf.ex hb
  have hl : ws.length ≤ 9223372036854775807 := Nat.le_trans hC.l10 (by decide)
  refine ev_step ?_
  simp only [laws_FnSetsWin.j1]
  rw [ev_bind hdr]
  dsimp only
  have hvl : (vetV q ws).1.length ≤ 9223372036854775806 := by
    unfold vetV
    split
    · next h => have := ((good_iff q ws).1 h).l9; have := takeI_len (vetoB q ws) ws.length; show (takeI _ _).length ≤ _; omega
    · simp
  have hdl := dumV_len q ws
  have hsv := laws_mSame.ev (vetV q ws).1 (vetV q ws).1 (by omega)
  have hsd := laws_mSame.ev (dumV q ws).1 (dumV q ws).1 (by omega)
  rw [decide_eq_true rfl] at hsv hsd
  rw [ev_bind (impl_DictatorOf.ev q ws hl), ev_bind (spec_DictatorOf.ev q ws hl), ev_bind (impl_VetoMembers.ev q ws hl), ev_bind (spec_VetoMembers.ev q ws hl), ev_bind (impl_DummiesOf.ev q ws hl), ev_bind (spec_DummiesOf.ev q ws hl), ev_neg (by simp), ev_pos rfl, ev_neg (by simp), ev_bind hsv, ev_pos rfl, ev_neg (by simp), ev_bind hsd, ev_pos rfl]
  have hj2 : Ev (fun k => laws_FnSetsWin.j2 k (dicV q ws).1 (dicV q ws).2 (vetV q ws).1 (vetV q ws).2 (dumV q ws).1 ((dumV q ws).2 != (vetV q ws).2) q ws) true := by
    refine ev_step ?_
    simp only [laws_FnSetsWin.j2]
    have e : (dumV q ws).2 = (vetV q ws).2 := by unfold dumV vetV; split <;> rfl
    rw [ev_neg (by rw [e]; simp)]
    by_cases hg : goodB q ws = true
    · have hc := (good_iff q ws).1 hg
      have h9 := hc.l9
      have ev : vetV q ws = (takeI (vetoB q ws) ws.length, true) := by rw [vetV, if_pos hg]
      have ed : dumV q ws = (takeI (dumB q ws) ws.length, true) := by rw [dumV, if_pos hg]; rfl
      rw [ev, ed] at *
      have hr1 := laws_mRises.ev (takeI (vetoB q ws) ws.length) (by have := takeI_len (vetoB q ws) ws.length; omega)
      have hr2 := laws_mRises.ev (takeI (dumB q ws) ws.length) (by have := takeI_len (dumB q ws) ws.length; omega)
      rw [takeI_inc] at hr1 hr2
      have hloop : Ev (fun k => laws_FnSetsWin.j3 k (dicV q ws).1 (dicV q ws).2 (takeI (vetoB q ws) ws.length) (takeI (dumB q ws) ws.length) (ws.length : Int) (((takeI (dumB q ws) ws.length).length : Int) == (ws.length : Int)) q ws) true := by
        refine ev_step ?_
        simp only [laws_FnSetsWin.j3]
        obtain ⟨i, hi, hr⟩ := some_real hc
        have := takeI_few hr ws.length hi
        rw [ev_neg (by simp; omega)]
        exact laws_FnSetsWin.law_l0 hc ws.length 0 (by omega)
      rw [ev_pos rfl, ev_bind hr1, ev_pos rfl, ev_bind hr2, ev_pos rfl]
      cases hd : (dicV q ws).2 with
      | false =>
        rw [hd] at hloop
        rw [ev_neg (by decide)]
        exact hloop
      | true =>
        obtain ⟨_, i, hi, h1, h2⟩ := dicV_some hd
        have hvi : takeI (vetoB q ws) ws.length = [(i : Int)] := by rw [takeI_congr (fun j hj => dic_veto hc hi hj h1), takeI_one i _ hi]
        have hdn : (takeI (dumB q ws) ws.length).length = ws.length - 1 := by rw [takeI_congr (fun j hj => dic_dum hc hi hj h1), takeI_but, if_pos hi]
        have hs1 := laws_mSame.ev (takeI (vetoB q ws) ws.length) [(dicV q ws).1] (by have := takeI_len (vetoB q ws) ws.length; omega)
        rw [decide_eq_true (by rw [hvi, h2])] at hs1
        rw [hd] at hloop
        rw [ev_pos rfl, ev_bind hs1, ev_pos rfl, ev_pos (by rw [hdn, w64 (by omega) (by omega)]; omega)]
        exact hloop
    · have e2 : (vetV q ws).2 = false := by rw [vetV, if_neg hg]
      rw [e2, ev_neg (by decide), ev_now]
  cases hd : (dicV q ws).2 with
  | false =>
    rw [hd] at hj2
    rw [ev_neg (by decide)]
    exact hj2
  | true =>
    have hv : (vetV q ws).2 = true := by
      have := (good_iff q ws).2 (dicV_some hd).1
      rw [vetV, if_pos this]
    rw [hd] at hj2
    rw [ev_pos rfl, ev_pos hv]
    exact hj2
theorem laws_FnSetsWin.law_j0 (q : Int) (ws s : List Int) (l1 : List Int) (hb : ByteL l1) (hl : ws.length ≤ 9223372036854775807) (hs : s.length ≤ 9223372036854775807) : Ev (fun k => laws_FnSetsWin.j0 k l1 s (winsV q ws s).1 (winsV q ws s).2 (blkV q ws s).1 (weiV q ws s).1 (totV q ws).1 (goodB q ws != goodB q ws) q ws) true := by
  refine ev_step ?_
  simp only [laws_FnSetsWin.j0]
  rw [ev_neg (by simp)]
  have hj1 := laws_FnSetsWin.law_j1 l1 hb
  cases hg : setOfB q ws s with
  | false =>
    have e : (winsV q ws s).2 = false := by rw [winsV, hg]; rfl
    rw [e, ev_neg (by decide)]
    exact hj1
  | true =>
    obtain ⟨hc, h1, h2, h3, h4⟩ := setOfB_facts hg
    have h9 := hc.l9
    have hgb := (good_iff q ws).2 hc
    have hsum := hc.sum
    have hq1 := hc.q1
    have hqs := hc.qs
    have e1 : winsV q ws s = (decide (q ≤ wsum ws (maskN s)), true) := by rw [winsV, if_pos hg]
    have e2 : blkV q ws s = (decide (ws.sum - wsum ws (maskN s) < q), true) := by rw [blkV, if_pos hg]
    have e3 : weiV q ws s = (wsum ws (maskN s), true) := by rw [weiV, if_pos hg]
    have e4 : totV q ws = (ws.sum, true) := by rw [totV, if_pos hgb]
    have hO : setOfB q ws (othI s ws.length) = true := by rw [setOfB, hgb, othI, takeI_set]; rfl
    have hom : maskN (othI s ws.length) = 2 ^ ws.length - 1 - maskN s := maskN_oth s ws.length h1
    have hol : (othI s ws.length).length ≤ 9223372036854775807 := by have := takeI_len (fun i => !(s.contains (i : Int))) ws.length; unfold othI; omega
    have hwc := wsum_compl ws (maskN s) h3
    have hd := dual_good hc
    have hbd := wsum_bounds ws hc.w0 (maskN s)
    have hS := laws_mSum.ev ws hl
    rw [wfold_sum ws 0 (fun x hx => by have := hc.w x hx; omega) (by omega) (by omega), Int.zero_add] at hS
    have hdu := impl_DualCommittee.ev q ws hl
    have hdw := impl_IsWinning.ev (ws.sum - q + 1) ws s hl hs
    have hds : setOfB (ws.sum - q + 1) ws s = true := by rw [setOfB, hd, h1]; rfl
    have ho1 := impl_WeightOfSet.ev q ws (othI s ws.length) hl hol
    have ho2 := impl_IsWinning.ev q ws (othI s ws.length) hl hol
    rw [dualC, if_pos hgb] at hdu
    rw [winsV, if_pos hds] at hdw
    rw [weiV, if_pos hO, hom, hwc] at ho1
    rw [winsV, if_pos hO, hom, hwc] at ho2
    rw [e1, e2, e3, e4, ev_pos rfl, ev_bind (laws_mOthers.ev s ws.length hs (by omega)), ev_bind ho1, ev_bind ho2, ev_bind hdu, ev_bind hdw, ev_neg (by simp), ev_pos rfl, ev_pos (by show wrap64 (_ + _) = _; rw [w64 (by omega) (by omega)]; omega), ev_pos rfl, ev_neg (by simp; omega), ev_pos rfl, ev_pos rfl, ev_neg (by simp; omega), ev_bind hS, ev_pos rfl]
    exact hj1
theorem laws_FnSetsWin.law (l0 l1 : List Int) (ok0 : OkBL l0) (ok1 : OkBL l1) : Ev (fun k => laws_FnSetsWin.f k l0 l1) true := by
  simp only [laws_FnSetsWin.f]
  rcases laws_big.cases l0 l1 with ⟨b, hb, rfl⟩ | ⟨hb, h0, h1⟩
  · rw [ev_bind (ev_of hb), ev_pos rfl, ev_now]
  have hb1 := ByteL.of ok1 h1
  obtain ⟨q, ws, s, hdr, hDC, hsO, _⟩ := spec_DrawIsWinning.ex (ByteL.of ok0 h0)
  have hl : ws.length ≤ 9223372036854775807 := Nat.le_trans hDC.l10 (by decide)
  have hs := hsO.len
  have hj0 := laws_FnSetsWin.law_j0 q ws s l1 hb1 hl hs
  have hC := impl_IsCommittee.ev q ws hl
  have hC2 := spec_IsCommittee.ev q ws hl
  have hbw : (blkV q ws s).2 = (winsV q ws s).2 := by unfold blkV winsV; split <;> rfl
  have hew : (weiV q ws s).2 = (winsV q ws s).2 := by unfold weiV winsV; split <;> rfl
  have htg : (totV q ws).2 = goodB q ws := by unfold totV; split <;> simp_all
  rw [ev_bind (ev_of hb), ev_neg (by decide), ev_bind hdr]
  dsimp only
  rw [ev_bind (impl_IsWinning.ev q ws s hl hs), ev_bind (spec_IsWinning.ev q ws s hl hs), ev_bind (impl_IsBlocking.ev q ws s hl hs), ev_bind (spec_IsBlocking.ev q ws s hl hs), ev_bind (impl_WeightOfSet.ev q ws s hl hs), ev_bind (spec_WeightOfSet.ev q ws s hl hs), ev_bind (impl_TotalWeight.ev q ws hl), ev_bind (spec_TotalWeight.ev q ws hl), ev_neg (by simp), ev_neg (by simp), ev_neg (by simp), ev_neg (by simp), ev_neg (by simp), ev_pos rfl, ev_neg (by simp), ev_pos rfl, ev_neg (by rw [hbw]; simp), ev_neg (by rw [hew]; simp)]
  cases hg : setOfB q ws s with
  | false =>
    have e : (winsV q ws s).2 = false := by rw [winsV, hg]; rfl
    rw [e] at hj0 ⊢
    rw [ev_neg (by decide), ev_bind hC, ev_neg (by rw [htg]; simp), ev_bind hC, ev_bind hC2]
    exact hj0
  | true =>
    have hgb := (good_iff q ws).2 (setOfB_facts hg).1
    have e : (winsV q ws s).2 = true := by rw [winsV, if_pos hg]
    rw [e] at hj0 ⊢
    rw [ev_pos rfl, ev_pos (by rw [htg, hgb]), ev_bind hC, ev_neg (by rw [htg]; simp), ev_bind hC, ev_bind hC2]
    exact hj0
end Go.Proofs.YtamfpkefnhcngaaGreat.Q
