/- Printed functions, their contracts and plain facts on them: PSumOf; PWithin; PIsCommittee; PIfCommittee; PL1In; PVoSum; PVoGood; PAddDummy; PTimesCommittee; PAddVeto; PBig; PVotesOf; PHas; PWeight; PCommitteeVotes; PSetN. Conditions: as each theorem states. -/
import Derived.Test.YtaambkdiokbdgabGreatGWeightsMadex1
import Derived.Test.YtaambkdiokbdgabGreatGWeightsMadex3
import Derived.Test.YtaambkdiokbdgabGreatGWeightsMadex2
import Derived.Test.YtaambkdiokbdgabGreatGWeightsMadex4
set_option maxHeartbeats 40000000
set_option maxRecDepth 100000
open Bool renaming and_eq_true → ZO, eq_iff_iff → ZS, false_eq_true → Z0, true_and → Z2, not_eq_true' → Yy
open Go renaming bits → YA
open Go.Lib renaming compactUpTo → ZD, compact → Yu
open Go.Proofs.YtaambkdiokbdgabGreatM renaming ev_pos → Za, ev_bind → Zb, ev_neg → Zc, ev_step → Zd, winsL → Ze, ev_now → Zf, good_iff → Zk, goodB → Zq, winsL_getD → Zs, winsL_length → Zu, ev_of → Zx, wsum_bounds → ZK, GoodC → ZM, and_one → Z3, rd_lt → Z9, rdOf_nat → Yc
open Go.Proofs.YtaambkdiokbdgabGreatS renaming sortL → Zv, sortL_perm → ZY
open Go.RowKit renaming wrap64 → ZN
open Int renaming toNat_natCast → Zw, eq_ofNat_of_zero_le → ZE, mul_le_mul_of_nonneg_right → ZV, zero_add → Yh, le_refl → Yq, tmod → Yz
open List renaming take_succ_eq_append_getElem → Zg, range → Zj, getElem_mem → Zl, drop_of_length_le → Zn, take_of_length_le → Zo, replicate → Zp, getD_eq_getElem?_getD → Zr, mem_range → Zt, drop_eq_getElem_cons → Zy, length_append → Zz, length_singleton → ZB, length_replicate → ZC, range_succ → ZF, filter_append → ZI, getElem?_eq_getElem → ZJ, length_map → ZL, pairwise_iff_getElem → ZP, map_append → ZQ, mem_filter → ZR, length_range → ZT, sum_cons → ZU, all_eq_true → ZW, length_take → ZX, mem_singleton → ZZ, length_filter_le → Z4, perm_append_singleton → Z5, mem_map → Z7, sum_append_nat → Ya, map_congr_left → Yb, length_mergeSort → Yj, getElem_map → Yk, filter_cons → Yl, mem_cons → Ym, mem_iff_getElem → Yn, mergeSort_perm → Yo, length_drop → Yr, length_cons → Ys, pairwise_mergeSort → Yt, map_cons → Yv
open Nat renaming pow_le_pow_right → Zh, two_pow_pos → Zm, testBit_eq_decide_div_mod_eq → ZA, le_refl → ZG, lt_of_le_of_lt → ZH, lt_or_eq_of_le → Z1, div_eq_of_lt → Z6, div_le_self → Yd, not_lt_zero → Ye, gcd → Yf, sub_add_cancel → Yg, lt_or_ge → Yi, le_trans → Yp, eq_zero_or_pos → Yw, pow_succ → Yx
open Option renaming bind_some → Zi, getD_some → Z8
namespace Go.Proofs.YtaambkdiokbdgabGreat.Q
open Go.RowKit Go.Proofs.YtaambkdiokbdgabGreatW.PrintWords Go.Proofs.YtaambkdiokbdgabGreatW.PrintLast Go.Proofs.YtaambkdiokbdgabGreatW.PrintMore Go.Proofs.YtaambkdiokbdgabGreatM
set_option linter.unusedVariables false
set_option linter.unusedSimpArgs false
theorem fV.ev_l (l : List Int) (hl : l.length ≤ 9223372036854775807) : ∀ (d i : Nat) (s : Int), i + d = l.length → Ev (fun k => fV.l0 k s l (l.length : Int) (i : Int)) (wfold (l.drop i) s) := by
  intro d
  induction d with
  | zero =>
    intro i s h
    refine Zd ?_
    simp only [fV.l0]
    rw [Zc (by omega), Zf, Zn (by omega)]
    rfl
  | succ d ih =>
    intro i s h
    refine Zd ?_
    simp only [fV.l0]
    have hi : i < l.length := by omega
    rw [Za (by omega), Za (by omega), Za (by omega), w64i (n := l.length) (by omega) (by omega) hl, Z9 l i hi, wfold_take l i hi]
    exact ih (i + 1) _ (by omega)
theorem fV.ev (l : List Int) (hl : l.length ≤ 9223372036854775807) : Ev (fun k => fV.f k l) (wfold l 0) := fV.ev_l l hl l.length 0 0 (by omega)
theorem fU.v (a b c : Int) : fU.f a b c = some (decide (b ≤ a) && decide (a ≤ c)) := by
  unfold fU.f
  by_cases h : b ≤ a
  · rw [if_pos h]; simp [h]
  · rw [if_neg h]; simp [h]
theorem fd.ev (q : Int) (l : List Int) (hl : l.length ≤ 9223372036854775807) : Ev (fun k => fd.f k q l) (Zq q l) := by
  simp only [fd.f]
  unfold Zq
  by_cases h1 : 1 ≤ l.length
  · rw [Za (by omega)]
    by_cases h2 : l.length ≤ 9
    · rw [Za (by omega), Zb (Zx (show g6.f l 0 1000 = some _ from rfl))]
      cases hb : (l.all fun x => decide (0 ≤ x) && decide (x ≤ 1000)) with
      | true =>
        rw [Za rfl, Zb (fV.ev l hl), Zb (Zx (fU.v _ _ _)), Zf, wfold_w l h2 hb]
        simp [h1, h2]
      | false =>
        rw [Zc (by simp), Zf]
        simp
    · rw [Zc (by omega), Zf]
      simp [h2]
  · rw [Zc (by omega), Zf]
    simp [h1]
def ifGood (q : Int) (l : List Int) : Int × List Int × Bool := if Zq q l = true then (q, l, true) else (0, [], false)
theorem gy.ev (q : Int) (l : List Int) (hl : l.length ≤ 9223372036854775807) : Ev (fun k => gy.f k q l) (ifGood q l) := by
  simp only [gy.f]
  rw [Zb (fd.ev q l hl)]
  unfold ifGood
  cases Zq q l with
  | true => rw [Za rfl, Zf, if_pos rfl]
  | false => rw [Zc (by simp), Zf, if_neg (by simp)]
theorem fB.v (a b c : Int) : fB.f a b c = some (decide (b ≤ a) && decide (a ≤ c)) := by
  unfold fB.f
  by_cases h : b ≤ a
  · rw [if_pos h]; simp [h]
  · rw [if_neg h]; simp [h]
theorem fq.ev_l (l : List Int) (hl : l.length ≤ 9223372036854775807) : ∀ (d i : Nat) (s : Int), i + d = l.length → Ev (fun k => fq.l0 k s l (l.length : Int) (i : Int)) (wfold (l.drop i) s) := by
  intro d
  induction d with
  | zero =>
    intro i s h
    refine Zd ?_
    simp only [fq.l0]
    rw [Zc (by omega), Zf, Zn (by omega)]
    rfl
  | succ d ih =>
    intro i s h
    refine Zd ?_
    simp only [fq.l0]
    have hi : i < l.length := by omega
    rw [Za (by omega), Za (by omega), Za (by omega), w64i (n := l.length) (by omega) (by omega) hl, Z9 l i hi, wfold_take l i hi]
    exact ih (i + 1) _ (by omega)
theorem fq.ev (l : List Int) (hl : l.length ≤ 9223372036854775807) : Ev (fun k => fq.f k l) (wfold l 0) := fq.ev_l l hl l.length 0 0 (by omega)
theorem f9.ev_l (l : List Int) (lo hi : Int) (hl : l.length ≤ 9223372036854775807) : ∀ (d i : Nat), i + d = l.length → Ev (fun k => f9.l0 k lo hi l (l.length : Int) (i : Int)) ((l.drop i).all fun x => decide (lo ≤ x) && decide (x ≤ hi)) := by
  intro d
  induction d with
  | zero =>
    intro i h
    refine Zd ?_
    simp only [f9.l0]
    rw [Zc (by omega), Zf, Zn (by omega)]
    rfl
  | succ d ih =>
    intro i h
    refine Zd ?_
    simp only [f9.l0]
    have hi' : i < l.length := by omega
    rw [Za (by omega), Za (by omega), Za (by omega), w64i (n := l.length) (by omega) (by omega) hl, Z9 l i hi', Zy hi', List.all_cons, Zb (Zx (fB.v _ _ _))]
    cases hb : (decide (lo ≤ l[i]) && decide (l[i] ≤ hi)) with
    | true =>
      rw [Za rfl, Z2]
      exact ih (i + 1) (by omega)
    | false =>
      rw [Zc (by decide), Zf]
      rfl
theorem f9.ev (l : List Int) (lo hi : Int) (hl : l.length ≤ 9223372036854775807) : Ev (fun k => f9.f k l lo hi) (l.all fun x => decide (lo ≤ x) && decide (x ≤ hi)) := f9.ev_l l lo hi hl l.length 0 (by omega)
theorem fi.ev (q : Int) (l : List Int) (hl : l.length ≤ 9223372036854775807) : Ev (fun k => fi.f k q l) (Zq q l) := by
  simp only [fi.f]
  rw [Zb (Zx (fB.v _ _ _))]
  unfold Zq
  by_cases h1 : 1 ≤ (l.length : Int) ∧ (l.length : Int) ≤ 9
  · rw [Za (by simp [h1]), Zb (f9.ev l 0 1000 hl)]
    refine Zd ?_
    simp only [fi.j0]
    cases hb : (l.all fun x => decide (0 ≤ x) && decide (x ≤ 1000)) with
    | true =>
      rw [Zc (by simp), Zb (fq.ev l hl), Zb (Zx (fB.v _ _ _)), Zf, wfold_w l (by omega) hb]
      have e1 : 1 ≤ l.length := by omega
      have e2 : l.length ≤ 9 := by omega
      simp [e1, e2]
    | false =>
      rw [Za (by simp), Zf]
      simp
  · rw [Zc (by simpa using h1)]
    refine Zd ?_
    simp only [fi.j0]
    rw [Za (by simp), Zf]
    have : ¬ (1 ≤ l.length ∧ l.length ≤ 9) := by omega
    by_cases e1 : 1 ≤ l.length
    · have e2 : ¬ l.length ≤ 9 := by omega
      simp [e2]
    · simp [e1]
theorem sd.v (l : List Int) (h : l.length < 17592186044416) : gr.f l = some l := by
  simp [gr.f, h]
theorem gh.ev (q : Int) (ws : List Int) (a b : Int) (hl : ws.length ≤ 9223372036854775807) : Ev (fun k => gh.f k q ws a b) (if Zq q ws = true then ifGood (ZN (q + b)) (ws ++ [a]) else (0, [], false)) := by
  simp only [gh.f]
  rw [Zb (fd.ev q ws hl)]
  cases hg : Zq q ws with
  | false => rw [Zc (by simp), Zf, if_neg (by simp)]
  | true =>
    have hG := (Zk q ws).1 hg
    have h9 := hG.l9
    rw [Za rfl, Zb (Zx (sd.v ws (by omega))), if_pos rfl]
    simp only [Zi, ZB]
    rw [Za (by omega), Zb (gy.ev _ _ (by simp; omega)), Zf]
def dummyV (q : Int) (ws : List Int) : Int × List Int × Bool := if Zq q ws = true ∧ ws.length ≠ 9 then (q, ws ++ [0], true) else (0, [], false)
theorem dummy_good {q : Int} {ws : List Int} (h : ZM q ws) : ifGood q (ws ++ [0]) = if ws.length ≠ 9 then (q, ws ++ [0], true) else (0, [], false) := by
  unfold ifGood
  by_cases h9 : ws.length ≠ 9
  · rw [if_pos h9, if_pos]
    refine (Zk _ _).2 ⟨by simp, by have := h.l9; simp; omega, fun x hx => ?_, h.q1, by have := h.qs; simpa using this⟩
    rcases List.mem_append.1 hx with hx | hx
    · exact h.w x hx
    · rw [ZZ.1 hx]; omega
  · rw [if_neg h9, if_neg]
    intro hg
    have := ((Zk _ _).1 hg).l9
    simp at this
    omega
theorem gG.ev (q : Int) (ws : List Int) (hl : ws.length ≤ 9223372036854775807) (hq : OkI q) : Ev (fun k => gG.f k q ws) (dummyV q ws) := by
  simp only [gG.f]
  rw [Zb (gh.ev q ws 0 0 hl), Zf]
  have hr := hq.range
  unfold dummyV
  cases hg : Zq q ws with
  | false => simp
  | true =>
    rw [if_pos rfl, w64 (by omega) (by omega), Int.add_zero, dummy_good ((Zk q ws).1 hg)]
    by_cases h9 : ws.length ≠ 9 <;> simp [h9]
theorem sa.v (l : List Int) (h : l.length < 17592186044416) : fN.f l = some l := by
  simp [fN.f, h]
theorem gn.ev (q : Int) (ws : List Int) (hl : ws.length ≤ 9223372036854775807) : Ev (fun k => gn.f k q ws) (dummyV q ws) := by
  simp only [gn.f]
  rw [Zb (fi.ev q ws hl)]
  unfold dummyV
  cases hg : Zq q ws with
  | false => rw [Zc (by simp), Zf, if_neg (by simp)]
  | true =>
    have hG := (Zk q ws).1 hg
    have h9 := hG.l9
    rw [Za rfl]
    by_cases h : ws.length = 9
    · rw [Za (by omega), Zf, if_neg (by simp [h])]
    · rw [Zc (by omega), Zb (Zx (sa.v ws (by omega))), if_pos ⟨rfl, h⟩]
      simp only [Zi, ZB]
      rw [Za (by omega), Zf]
theorem dummyV_len (q : Int) (ws : List Int) : (dummyV q ws).2.1.length ≤ 10 := by
  unfold dummyV
  split
  · next h => have := ((Zk q ws).1 h.1).l9; simp; omega
  · simp
def timesV (q : Int) (ws : List Int) (k : Int) : Int × List Int × Bool := if Zq q ws = true ∧ 1 ≤ k ∧ k ≤ 1000 then ifGood ((q - 1) * k + 1) (ws.map (· * k)) else (0, [], false)
theorem times_in {q : Int} {ws : List Int} {k : Int} (h : ZM q ws) (h1 : 1 ≤ k) (h2 : k ≤ 1000) : 0 ≤ (q - 1) * k ∧ (q - 1) * k ≤ 9000000 := by
  have hs := h.sum
  have h3 := h.q1
  have h4 := h.qs
  have h5 : (q - 1) * k ≤ 9000 * k := ZV (by omega) (by omega)
  have h6 : 0 ≤ (q - 1) * k := Int.mul_nonneg (by omega) (by omega)
  omega
theorem fu.ev_l (q : Int) (ws : List Int) (c : Int) (hl : ws.length ≤ 9) (hw : ∀ x ∈ ws, 0 ≤ x ∧ x ≤ 1000) (h1 : 1 ≤ c) (h2 : c ≤ 1000) : ∀ (d i : Nat), i + d = ws.length → Ev (fun k => fu.l0 k c ws (ws.length : Int) (i : Int) q ((ws.map (· * c)).take i)) (ifGood q (ws.map (· * c))) := by
  intro d
  induction d with
  | zero =>
    intro i h
    refine Zd ?_
    simp only [fu.l0]
    rw [Zc (by omega), Zo (by simp; omega), Zb (fi.ev q (ws.map (· * c)) (by simp; omega))]
    unfold ifGood
    cases Zq q (ws.map (· * c)) with
    | true => rw [Za rfl, Zf, if_pos rfl]
    | false => rw [Zc (by simp), Zf, if_neg (by simp)]
  | succ d ih =>
    intro i h
    refine Zd ?_
    simp only [fu.l0]
    have hi : i < ws.length := by omega
    have hx := hw ws[i] (Zl hi)
    have hm : 0 ≤ ws[i] * c ∧ ws[i] * c ≤ 1000000 := by
      have h5 : ws[i] * c ≤ 1000 * c := ZV (by omega) (by omega)
      have h6 : 0 ≤ ws[i] * c := Int.mul_nonneg (by omega) (by omega)
      omega
    rw [Za (by omega), Za (by omega), Za (by omega), Za (by simp; omega), Z9 ws i hi, w64i (i := (i : Int)) (n := ws.length) (by omega) (by omega) (by omega), w64 (x := ws[i] * c) (by omega) (by omega)]
    have := ih (i + 1) (by omega)
    rw [Zg (by simp; omega), Yk] at this
    exact this
theorem fE.ev_l (q : Int) (ws : List Int) (c : Int) (hl : ws.length ≤ 9) (hw : ∀ x ∈ ws, 0 ≤ x ∧ x ≤ 1000) (h1 : 1 ≤ c) (h2 : c ≤ 1000) : ∀ (d i : Nat), i + d = ws.length → Ev (fun k => fE.l0 k c ws (ws.length : Int) (i : Int) q ((ws.map (· * c)).take i)) (ifGood q (ws.map (· * c))) := by
  intro d
  induction d with
  | zero =>
    intro i h
    refine Zd ?_
    simp only [fE.l0]
    rw [Zc (by omega), Zo (by simp; omega), Zb (gy.ev q (ws.map (· * c)) (by simp; omega)), Zf]
  | succ d ih =>
    intro i h
    refine Zd ?_
    simp only [fE.l0]
    have hi : i < ws.length := by omega
    have hx := hw ws[i] (Zl hi)
    have hm : 0 ≤ ws[i] * c ∧ ws[i] * c ≤ 1000000 := by
      have h5 : ws[i] * c ≤ 1000 * c := ZV (by omega) (by omega)
      have h6 : 0 ≤ ws[i] * c := Int.mul_nonneg (by omega) (by omega)
      omega
    rw [Za (by omega), Za (by omega), Za (by omega), Za (by simp; omega), Z9 ws i hi, w64i (i := (i : Int)) (n := ws.length) (by omega) (by omega) (by omega), w64 (x := ws[i] * c) (by omega) (by omega)]
    have := ih (i + 1) (by omega)
    rw [Zg (by simp; omega), Yk] at this
    exact this
theorem fu.ev (q : Int) (ws : List Int) (c : Int) (hl : ws.length ≤ 9223372036854775807) : Ev (fun k => fu.f k q ws c) (timesV q ws c) := by
  simp only [fu.f]
  rw [Zb (fi.ev q ws hl)]
  unfold timesV
  cases hg : Zq q ws with
  | false =>
    rw [Zc (by simp), if_neg (by simp)]
    refine Zd ?_
    simp only [fu.j0, if_true]
    rw [Zf]
  | true =>
    have hG := (Zk q ws).1 hg
    rw [Za rfl, Zb (Zx (fB.v _ _ _))]
    refine Zd ?_
    simp only [fu.j0]
    by_cases hc : 1 ≤ c ∧ c ≤ 1000
    · have ht := times_in hG hc.1 hc.2
      have hs := hG.sum
      have h3 := hG.q1
      have h4 := hG.qs
      rw [Zc (by simp; omega), if_pos (by simp [hc]), w64 (x := q - 1) (by omega) (by omega), w64 (x := (q - 1) * c) (by omega) (by omega), w64 (x := (q - 1) * c + 1) (by omega) (by omega)]
      exact fu.ev_l _ ws c hG.l9 hG.w hc.1 hc.2 ws.length 0 (by omega)
    · rw [Za (by simp; omega), if_neg (fun h => hc h.2), Zf]
theorem fE.ev (q : Int) (ws : List Int) (c : Int) (hl : ws.length ≤ 9223372036854775807) : Ev (fun k => fE.f k q ws c) (timesV q ws c) := by
  simp only [fE.f]
  rw [Zb (fd.ev q ws hl)]
  unfold timesV
  cases hg : Zq q ws with
  | false =>
    rw [Zc (by simp), if_neg (by simp)]
    refine Zd ?_
    simp only [fE.j0, if_true]
    rw [Zf]
  | true =>
    have hG := (Zk q ws).1 hg
    rw [Za rfl, Zb (Zx (fU.v _ _ _))]
    refine Zd ?_
    simp only [fE.j0]
    by_cases hc : 1 ≤ c ∧ c ≤ 1000
    · have ht := times_in hG hc.1 hc.2
      have hs := hG.sum
      have h3 := hG.q1
      have h4 := hG.qs
      have he : q * c = (q - 1) * c + c := by rw [Int.sub_mul]; omega
      rw [Zc (by simp; omega), if_pos (by simp [hc]), he, w64 (x := (q - 1) * c + c) (by omega) (by omega), w64 (x := c - 1) (by omega) (by omega), w64 (x := (q - 1) * c + c - (c - 1)) (by omega) (by omega), show (q - 1) * c + c - (c - 1) = (q - 1) * c + 1 by omega]
      exact fE.ev_l _ ws c hG.l9 hG.w hc.1 hc.2 ws.length 0 (by omega)
    · rw [Za (by simp; omega), if_neg (fun h => hc h.2), Zf]
theorem ifGood_len (q : Int) (l : List Int) : (ifGood q l).2.1.length ≤ 9 := by
  unfold ifGood
  split
  · next h => exact ((Zk q l).1 h).l9
  · simp
theorem timesV_len (q : Int) (ws : List Int) (k : Int) : (timesV q ws k).2.1.length ≤ 9 := by
  unfold timesV
  split
  · exact ifGood_len _ _
  · simp
def vetoV (q : Int) (ws : List Int) : Int × List Int × Bool := if Zq q ws = true then ifGood (q + ws.sum) (ws ++ [ws.sum]) else (0, [], false)
theorem gl.ev (q : Int) (ws : List Int) (hl : ws.length ≤ 9223372036854775807) : Ev (fun k => gl.f k q ws) (vetoV q ws) := by
  simp only [gl.f]
  rw [Zb (fV.ev ws hl), Zb (fV.ev ws hl), Zb (gh.ev q ws _ _ hl), Zf]
  unfold vetoV
  cases hg : Zq q ws with
  | false => simp
  | true =>
    have hG := (Zk q ws).1 hg
    have hs := hG.sum
    have h3 := hG.q1
    have h4 := hG.qs
    rw [if_pos rfl, if_pos rfl, wfold_sum ws 0 (fun x hx => by have := hG.w x hx; omega) (by omega) (by have := hG.l9; omega), Yh, w64 (by omega) (by omega)]
theorem gm.ev (q : Int) (ws : List Int) (hl : ws.length ≤ 9223372036854775807) : Ev (fun k => gm.f k q ws) (vetoV q ws) := by
  simp only [gm.f]
  rw [Zb (fi.ev q ws hl)]
  unfold vetoV
  cases hg : Zq q ws with
  | false => rw [Zc (by simp), Zf, if_neg (by simp)]
  | true =>
    have hG := (Zk q ws).1 hg
    have h9 := hG.l9
    have hs := hG.sum
    have h3 := hG.q1
    have h4 := hG.qs
    rw [Za rfl, Zb (fq.ev ws hl), wfold_sum ws 0 (fun x hx => by have := hG.w x hx; omega) (by omega) (by omega), Yh, Zb (Zx (sa.v ws (by omega))), if_pos rfl]
    simp only [Zi, ZB]
    rw [Za (by omega), Zb (fi.ev _ _ (by simp; omega)), w64 (by omega) (by omega)]
    unfold ifGood
    cases Zq (q + ws.sum) (ws ++ [ws.sum]) with
    | true => rw [Za rfl, Zf, if_pos rfl]
    | false => rw [Zc (by simp), Zf, if_neg (by simp)]
theorem vetoV_len (q : Int) (ws : List Int) : (vetoV q ws).2.1.length ≤ 9 := by
  unfold vetoV
  split
  · exact ifGood_len _ _
  · simp
theorem gw.cases (l0 l1 : List Int) : (∃ b, gw.f l0 l1 = some b ∧ b = true) ∨ (gw.f l0 l1 = some false ∧ l0.length ≤ 1048576 ∧ l1.length ≤ 1048576) := by
  unfold gw.f
  by_cases c : (l0.length : Int) > 1048576
  · rw [if_pos c]
    exact .inl ⟨_, rfl, rfl⟩
  · rw [if_neg c, w64 (by omega) (by omega)]
    by_cases c2 : (l1.length : Int) > 1048576 - (l0.length : Int)
    · rw [decide_eq_true c2]
      exact .inl ⟨_, rfl, rfl⟩
    · rw [decide_eq_false c2]
      exact .inr ⟨rfl, by omega, by omega⟩
theorem fD.at_l (n N : Nat) (hN : N ≤ 1000000) (P : Int → Option Bool) (p : Nat → Bool) (hP : ∀ m, m < N → P (m : Int) = some (p m)) : ∀ (d m k : Nat) (acc : List Bool), m + d = N → d < k → acc.length = N → acc.take m = ((Zj N).map p).take m → fD.l0 k P (N : Int) (m : Int) (n : Int) acc = some ((n : Int), (Zj N).map p) := by
  intro d
  induction d with
  | zero =>
    intro m k acc h hk hlen ht
    obtain ⟨k, rfl⟩ : ∃ j, k = j + 1 := ⟨k - 1, by omega⟩
    simp only [fD.l0]
    rw [Zo (by omega), Zo (by simp; omega)] at ht
    rw [if_neg (by omega), ht]
  | succ d ih =>
    intro m k acc h hk hlen ht
    obtain ⟨k, rfl⟩ : ∃ j, k = j + 1 := ⟨k - 1, by omega⟩
    have hm : m < N := by omega
    simp only [fD.l0]
    rw [if_pos (by omega), hP m hm, Zi, if_pos (by omega), if_pos (by omega), w64i (n := N) (by omega) (by omega) (by omega), Zw]
    refine ih (m + 1) k (acc.set m (p m)) (by omega) (by omega) (by simpa using hlen) ?_
    rw [Zg (by simp; omega), Zg (by simp; omega), List.take_set_of_le (by omega), ht]
    simp
theorem fD.ev (n : Nat) (hn : n ≤ 19) (g : Nat → Int → Option Bool) (p : Nat → Bool) (hg : ∀ m : Nat, m < 2 ^ n → Ev (fun k => g k (m : Int)) (p m)) : Ev (fun k => fD.f k (n : Int) (g k)) ((n : Int), (Zj (2 ^ n)).map p) := by
  have hp : 2 ^ n ≤ 2 ^ 19 := Zh (by omega) hn
  have h0 : 0 < 2 ^ n := Zm n
  generalize hN : 2 ^ n = N at *
  obtain ⟨K, hK⟩ := ev_all N (fun k m => g k (m : Int)) p hg
  refine ⟨max K (N + 1), fun k hk => ?_⟩
  simp only [fD.f]
  rw [if_pos (by omega), shl_one n (by omega), hN, if_pos (by omega), Zw, if_pos (by omega), Zi, ZC]
  exact fD.at_l n N (by omega) (g k) p (fun m hm => hK k (by omega) m hm) N 0 k _ (by omega) (by omega) (by simp) (by simp)
theorem fC.v (m i : Nat) (hm : m < 2 ^ 62) (hi : i ≤ 62) : fC.f (m : Int) (i : Int) = some (decide (m / 2 ^ i % 2 = 1)) := by
  unfold fC.f
  have hlt : m / 2 ^ i < 2 ^ 62 := ZH (Yd _ _) hm
  rw [if_pos (by omega), shr_nat m i (by omega), Z3 _ hlt]
  congr 1
  by_cases h : m / 2 ^ i % 2 = 1
  · simp [h]
  · have : m / 2 ^ i % 2 = 0 := by omega
    simp [this]
theorem fI.ev_l (q : Int) (ws : List Int) (m : Nat) (hm : m < 2 ^ 62) (hl : ws.length ≤ 60) (hw : ∀ x ∈ ws, 0 ≤ x ∧ x ≤ 1000000000) : ∀ (d i : Nat) (s : Int), i + d = ws.length → 0 ≤ s → s + wsum (ws.drop i) (m / 2 ^ i) ≤ 1000000000000 → Ev (fun k => fI.l0 k (m : Int) s ws (ws.length : Int) (i : Int)) (s + wsum (ws.drop i) (m / 2 ^ i)) := by
  intro d
  induction d with
  | zero =>
    intro i s h _ _
    refine Zd ?_
    simp only [fI.l0]
    rw [Zc (by omega), Zf, Zn (by omega)]
    simp [wsum]
  | succ d ih =>
    intro i s h h0 h1
    refine Zd ?_
    simp only [fI.l0]
    have hi : i < ws.length := by omega
    have hx := hw ws[i] (Zl hi)
    have hd : wsum (ws.drop i) (m / 2 ^ i) = (if m / 2 ^ i % 2 = 1 then ws[i] else 0) + wsum (ws.drop (i + 1)) (m / 2 ^ (i + 1)) := by
      rw [wsum_drop ws i _ hi, Nat.div_div_eq_div_mul, ← Yx]
    have hb := ZK (ws.drop (i + 1)) (fun x hx => (hw x (List.mem_of_mem_drop hx)).1) (m / 2 ^ (i + 1))
    rw [Za (by omega), Za (by omega), Za (by omega), Zb (Zx (fC.v m i hm (by omega))), w64i (n := ws.length) (by omega) (by omega) (by omega), Z9 ws i hi, hd]
    rw [hd] at h1
    by_cases hbit : m / 2 ^ i % 2 = 1
    · rw [if_pos hbit] at h1 ⊢
      rw [Za (by simpa using hbit), w64 (by omega) (by omega), ← Int.add_assoc]
      exact ih (i + 1) (s + ws[i]) (by omega) (by omega) (by omega)
    · rw [if_neg hbit] at h1 ⊢
      rw [Zc (by simpa using hbit), Yh]
      exact ih (i + 1) s (by omega) h0 (by omega)
theorem fI.ev (q : Int) (ws : List Int) (m : Nat) (hm : m < 2 ^ 62) (hl : ws.length ≤ 60) (hw : ∀ x ∈ ws, 0 ≤ x ∧ x ≤ 1000000000) : Ev (fun k => fI.f k q ws (m : Int)) (wsum ws m) := by
  have hb := ZK ws (fun x hx => (hw x hx).1) m
  have hs := sum_bounds ws 1000000000 hw
  have := fI.ev_l q ws m hm hl hw ws.length 0 0 (by omega) (by omega) (by simp; omega)
  simpa [fI.f] using this
theorem fF.ev (q : Int) (ws : List Int) (hl : ws.length ≤ 9) (hw : ∀ x ∈ ws, 0 ≤ x ∧ x ≤ 1000000000) : Ev (fun k => fF.f k q ws) ((ws.length : Int), Ze q ws) := by
  have hp : 2 ^ ws.length ≤ 2 ^ 9 := Zh (by omega) hl
  refine fD.ev ws.length (by omega) (fun k => gQ.f k q ws) (fun m => decide (q ≤ wsum ws m)) (fun m hm => ?_)
  simp only [gQ.f]
  rw [Zb (fI.ev q ws m (by omega) (by omega) hw), Zf]
def bitB (m i : Nat) : Bool := decide (m / 2 ^ i % 2 = 1)
def setN (m : Nat) : List Int := ((Zj 62).filter (bitB m)).map fun (i : Nat) => (i : Int)
def setTo (m i : Nat) : List Int := ((Zj i).filter (bitB m)).map fun (i : Nat) => (i : Int)
theorem bitB_high {m i j : Nat} (h : m / 2 ^ i = 0) (hij : i ≤ j) : bitB m j = false := by
  unfold bitB
  have : m < 2 ^ i := by
    rcases Yi m (2 ^ i) with h1 | h1
    · exact h1
    · have := Nat.div_pos h1 (Zm i)
      omega
  have h2 : 2 ^ i ≤ 2 ^ j := Zh (by omega) hij
  rw [Z6 (by omega)]
  rfl
theorem setTo_done {m i : Nat} (h : m / 2 ^ i = 0) (hi : i ≤ 62) : setTo m i = setN m := by
  unfold setTo setN
  rw [show Zj 62 = Zj i ++ (Zj (62 - i)).map (i + ·) by rw [← List.range_add]; congr 1; omega, ZI]
  have : ((Zj (62 - i)).map (i + ·)).filter (bitB m) = [] := by
    rw [List.filter_eq_nil_iff]
    intro j hj
    obtain ⟨a, _, rfl⟩ := Z7.1 hj
    rw [bitB_high h (by omega)]
    decide
  rw [this, List.append_nil]
theorem setTo_succ (m i : Nat) : setTo m (i + 1) = if bitB m i = true then setTo m i ++ [(i : Int)] else setTo m i := by
  unfold setTo
  rw [ZF, ZI, ZQ]
  by_cases h : bitB m i = true
  · rw [if_pos h]
    simp [h]
  · rw [if_neg h]
    simp [h]
theorem setTo_len (m i : Nat) : (setTo m i).length ≤ i := by
  unfold setTo
  rw [ZL]
  have := Z4 (bitB m) (Zj i)
  rw [ZT] at this
  exact this
def leastB (W : List Bool) (n m : Nat) : Bool := W.getD m false && (Zj n).all fun i => !(bitB m i) || !(W.getD (m - 2 ^ i) false)
def takeL (P : Nat → Bool) (i : Nat) : List (List Int) := ((Zj i).filter P).map setN
theorem takeL_succ (P : Nat → Bool) (i : Nat) : takeL P (i + 1) = if P i = true then takeL P i ++ [setN i] else takeL P i := by
  unfold takeL
  rw [ZF, ZI, ZQ]
  by_cases h : P i = true
  · rw [if_pos h]
    simp [h]
  · rw [if_neg h]
    simp [h]
theorem takeL_len (P : Nat → Bool) (i : Nat) : (takeL P i).length ≤ i := by
  unfold takeL
  rw [ZL]
  have := Z4 P (Zj i)
  rw [ZT] at this
  exact this
theorem takeL_mem {P : Nat → Bool} {i : Nat} : ∀ x ∈ takeL P i, ∃ m, m < i ∧ P m = true ∧ x = setN m := by
  intro x hx
  obtain ⟨m, hm, rfl⟩ := Z7.1 hx
  rw [ZR, Zt] at hm
  exact ⟨m, hm.1, hm.2, rfl⟩
def popN (m : Nat) : Nat := ((Zj 9).filter (bitB m)).length
theorem so : ((Zj 512).all fun m => decide (gH.f (m : Int) = some ((popN m : Nat) : Int))) = true := by decide +kernel
theorem gH.v {m : Nat} (hm : m < 512) : gH.f (m : Int) = some ((popN m : Nat) : Int) := of_decide_eq_true (ZW.1 so m (Zt.2 hm))
def ofB (W : List Bool) (a : Int) (m : Nat) : Bool := W.getD m false && decide (((popN m : Nat) : Int) = a)
def cntO (W : List Bool) (a : Int) : Int := (((Zj W.length).filter (ofB W a)).length : Nat)
theorem fA.ev_l (W : List Bool) (hW : W.length ≤ 512) (a : Int) : ∀ (d i : Nat), i + d = W.length → Ev (fun k => fA.l0 k a (((Zj i).filter (ofB W a)).length : Int) W (W.length : Int) (i : Int)) (cntO W a, true) := by
  intro d
  induction d with
  | zero =>
    intro i h
    refine Zd ?_
    simp only [fA.l0]
    rw [Zc (by omega), Zf, cntO, show i = W.length by omega]
  | succ d ih =>
    intro i h
    refine Zd ?_
    simp only [fA.l0]
    have hi : i < W.length := by omega
    have hih := ih (i + 1) (by omega)
    have hle : ((Zj i).filter (ofB W a)).length ≤ i := by have := Z4 (ofB W a) (Zj i); rw [ZT] at this; exact this
    rw [ZF, ZI, Zz] at hih
    rw [show ((i + 1 : Nat) : Int) = (i : Int) + 1 by omega] at hih
    rw [Za (by omega), Za (by omega), Za (by omega), Yc, w64i (i := (i : Int)) (n := W.length) (by omega) (by omega) (by omega)]
    cases hb : W.getD i false with
    | false =>
      have e : ofB W a i = false := by rw [ofB, hb, Bool.false_and]
      rw [Yl, e] at hih
      rw [Zc (by decide)]
      simpa using hih
    | true =>
      rw [Za rfl, Zb (Zx (gH.v (by omega)))]
      by_cases c : ((popN i : Nat) : Int) = a
      · have e : ofB W a i = true := by rw [ofB, hb, Z2, decide_eq_true c]
        rw [Yl, e] at hih
        rw [Za c, w64 (by omega) (by omega)]
        simpa using hih
      · have e : ofB W a i = false := by rw [ofB, hb, Z2, decide_eq_false c]
        rw [Yl, e] at hih
        rw [Zc c]
        simpa using hih
def cwoV (q : Int) (ws : List Int) (a : Int) : Int × Bool := if (Zq q ws && (decide (0 ≤ a) && decide (a ≤ (ws.length : Int)))) = true then (cntO (Ze q ws) a, true) else (0, false)
theorem fA.ev (q : Int) (ws : List Int) (a : Int) (hl : ws.length ≤ 9223372036854775807) : Ev (fun k => fA.f k q ws a) (cwoV q ws a) := by
  simp only [fA.f]
  rw [Zb (fd.ev q ws hl)]
  unfold cwoV
  cases hg : Zq q ws with
  | false =>
    rw [Zc (by decide)]
    refine Zd ?_
    simp only [fA.j0]
    rw [Za (by decide), Zf, Bool.false_and, if_neg (by decide)]
  | true =>
    have hc := (Zk q ws).1 hg
    have hp := hc.pow
    have hwl := Zu q ws
    rw [Za rfl, Zb (Zx (fU.v a 0 (ws.length : Int))), Z2]
    refine Zd ?_
    simp only [fA.j0]
    cases hin : (decide (0 ≤ a) && decide (a ≤ (ws.length : Int))) with
    | false => rw [Za (by decide), Zf, if_neg (by decide)]
    | true =>
      rw [Zc (by decide), if_pos rfl, Zb (fF.ev q ws hc.l9 hc.wb)]
      exact fA.ev_l (Ze q ws) (by omega) a (Ze q ws).length 0 (by omega)
def cntW (W : List Bool) : Int := (W.count true : Nat)
theorem count_drop (W : List Bool) (i : Nat) (h : i < W.length) : (W.drop i).count true = (W.drop (i + 1)).count true + if W.getD i false = true then 1 else 0 := by
  rw [Zy h, List.count_cons, Zr, ZJ h, Z8]
  cases W[i] <;> rfl
theorem fY.ev_l (W : List Bool) (hW : W.length ≤ 1000000) : ∀ (d i : Nat) (s : Int), i + d = W.length → 0 ≤ s → s + d ≤ 2000000 → Ev (fun k => fY.l0 k s W (W.length : Int) (i : Int)) (s + ((W.drop i).count true : Nat)) := by
  intro d
  induction d with
  | zero =>
    intro i s h h0 h1
    refine Zd ?_
    simp only [fY.l0]
    rw [Zc (by omega), Zf, Zn (by omega)]
    simp
  | succ d ih =>
    intro i s h h0 h1
    refine Zd ?_
    simp only [fY.l0]
    have hi : i < W.length := by omega
    rw [Za (by omega), Za (by omega), Za (by omega), Yc, w64i (i := (i : Int)) (n := W.length) (by omega) (by omega) (by omega), count_drop W i hi]
    cases hb : W.getD i false with
    | false =>
      rw [Zc (by decide), if_neg (by decide)]
      exact ih (i + 1) s (by omega) h0 (by omega)
    | true =>
      have := ih (i + 1) (s + 1) (by omega) (by omega) (by omega)
      rw [Za rfl, if_pos rfl, w64 (by omega) (by omega)]
      rw [show s + (((W.drop (i + 1)).count true + 1 : Nat) : Int) = s + 1 + ((W.drop (i + 1)).count true : Nat) by omega]
      exact this
theorem fY.ev (n : Int) (W : List Bool) (hW : W.length ≤ 1000000) : Ev (fun k => fY.f k n W) (cntW W) := by
  have := fY.ev_l W hW W.length 0 0 (by omega) (by omega) (by omega)
  rw [List.drop_zero, Yh] at this
  exact this
theorem cntW_bounds (W : List Bool) : 0 ≤ cntW W ∧ cntW W ≤ (W.length : Int) := by
  have := List.count_le_length (a := true) (l := W)
  unfold cntW
  omega
def cwV (q : Int) (ws : List Int) : Int × Bool := if Zq q ws = true then (cntW (Ze q ws), true) else (0, false)
theorem fy.ev (q : Int) (ws : List Int) (hl : ws.length ≤ 9223372036854775807) : Ev (fun k => fy.f k q ws) (cwV q ws) := by
  simp only [fy.f]
  rw [Zb (fd.ev q ws hl)]
  unfold cwV
  cases hg : Zq q ws with
  | false => rw [Zc (by decide), Zf, if_neg (by decide)]
  | true =>
    have hc := (Zk q ws).1 hg
    have hp := hc.pow
    have hwl := Zu q ws
    rw [Za rfl, if_pos rfl, Zb (fF.ev q ws hc.l9 hc.wb), Zb (fY.ev _ (Ze q ws) (by omega)), Zf]
theorem cnt_range (W : List Bool) : ∀ N, N ≤ W.length → ((W.take N).count true) = ((Zj N).filter fun m => W.getD m false).length := by
  intro N
  induction N with
  | zero => intro _; simp
  | succ N ih =>
    intro h
    have hN : N < W.length := by omega
    rw [ZF, ZI, Zz, ← ih (by omega), Zg hN, List.count_append, Yl, Zr, ZJ hN, Z8]
    cases W[N] <;> rfl
theorem cntW_range (W : List Bool) : cntW W = (((Zj W.length).filter fun m => W.getD m false).length : Nat) := by
  unfold cntW
  rw [← cnt_range W W.length (ZG _), List.take_length]
def ByteL (l : List Int) : Prop := l.length ≤ 1048576 ∧ ∀ x ∈ l, 0 ≤ x ∧ x ≤ 255
theorem ByteL.of {l : List Int} (h : OkBL l) (hl : l.length ≤ 1048576) : ByteL l := by
  refine ⟨hl, fun x hx => ?_⟩
  have h := h.2 x hx
  simp [OkB, Lit.wf, IntKind.min, IntKind.max, IntKind.bits, IntKind.signed] at h
  omega
theorem OkI.of {n : Int} (h0 : -9223372036854775808 ≤ n) (h1 : n ≤ 9223372036854775807) : OkI n := by
  simp [OkI, Lit.wf, IntKind.min, IntKind.max, IntKind.bits, IntKind.signed]
  omega
theorem wrap64_ok (x : Int) : OkI (ZN x) := by refine OkI.of ?_ ?_ <;> unfold ZN <;> omega
theorem and255 (x : Int) : 0 ≤ YA .and .u64 (IntKind.u64.wrap x / 1099511627776) 255 ∧ YA .and .u64 (IntKind.u64.wrap x / 1099511627776) 255 ≤ 255 := by
  have hx : 0 ≤ IntKind.u64.wrap x ∧ IntKind.u64.wrap x < 18446744073709551616 := by rw [IntKind.wrap_u64]; omega
  obtain ⟨n, hn⟩ : ∃ n : Nat, IntKind.u64.wrap x / 1099511627776 = (n : Int) := ⟨(IntKind.u64.wrap x / 1099511627776).toNat, by omega⟩
  have hb : n < 2 ^ 62 := by omega
  rw [hn, show (255 : Int) = ((255 : Nat) : Int) by rfl, (Go.bits_nat .u64 62 (by decide) (fun m h0 h1 => by rw [IntKind.wrap_u64]; omega) n 255 hb (by decide)).1]
  have := Nat.and_le_right (n := n) (m := 255)
  omega
theorem gB.ex {l : List Int} (hl : ByteL l) (p s : Int) (h0 : 0 ≤ p) (h1 : p ≤ 1000000) : ∃ b s', gB.f l p s = some (b, p + 1, s') ∧ 0 ≤ b ∧ b ≤ 255 := by
  have hll := hl.1
  unfold gB.f
  rw [w64 (x := p + 1) (by omega) (by omega)]
  by_cases c : p < (l.length : Int)
  · obtain ⟨i, rfl⟩ : ∃ i : Nat, p = (i : Int) := ⟨p.toNat, by omega⟩
    have hi : i < l.length := by omega
    have hb := hl.2 l[i] (Zl hi)
    rw [if_pos c, if_pos h0, if_pos (by omega), Z9 l i hi, w64 (by omega) (by omega)]
    exact ⟨_, _, rfl, hb⟩
  · rw [if_neg c, if_neg (by omega)]
    have := and255 ((IntKind.u64.wrap (IntKind.u64.wrap (s * 6364136223846793005))) + 1442695040888963407)
    rw [w64 (x := YA .and .u64 _ 255) (by omega) (by omega)]
    exact ⟨_, _, rfl, this⟩
theorem fp.ex {l : List Int} (hl : ByteL l) (p s a : Int) (h0 : 0 ≤ p) (h1 : p ≤ 900000) : ∃ x p' s', fp.f l p s a = some (x, p', s') ∧ 0 ≤ x ∧ x < max a 1 ∧ True ∧ p ≤ p' ∧ p' ≤ p + 2 := by
  unfold fp.f
  by_cases c : a ≤ 1
  · rw [if_pos c]
    exact ⟨_, _, _, rfl, by omega, by omega, trivial, by omega, by omega⟩
  · obtain ⟨b, s1, e, hb0, hb1⟩ := gB.ex hl p s h0 (by omega)
    rw [if_neg c, e, Zi]
    dsimp only
    by_cases c2 : a > 200
    · obtain ⟨b2, s2, e2, hc0, hc1⟩ := gB.ex hl (p + 1) s1 (by omega) (by omega)
      rw [if_pos c2, e2, Zi, if_neg (by omega)]
      dsimp only
      rw [w64 (x := b * 256) (by omega) (by omega), w64 (by omega) (by omega)]
      have h2 := Int.tmod_lt_of_pos (b * 256 + b2) (show 0 < a by omega)
      have h3 := Int.tmod_nonneg a (show 0 ≤ b * 256 + b2 by omega)
      exact ⟨_, _, _, rfl, h3, by omega, trivial, by omega, by omega⟩
    · rw [if_neg c2, if_neg (by omega)]
      have h2 := Int.tmod_lt_of_pos b (show 0 < a by omega)
      have h3 := Int.tmod_nonneg a hb0
      exact ⟨_, _, _, rfl, h3, by omega, trivial, by omega, by omega⟩
theorem gx.ex {l : List Int} (hl : ByteL l) (p s a : Int) (h0 : 0 ≤ p) (h1 : p ≤ 900000) : ∃ (b : Bool) (p' s' : Int), gx.f l p s a = some (b, p', s') ∧ p ≤ p' ∧ p' ≤ p + 2 := by
  obtain ⟨x, p1, s1, e, _, _, _, h4, h5⟩ := fp.ex hl p s a h0 h1
  unfold gx.f
  rw [e, Zi]
  exact ⟨_, _, _, rfl, h4, h5⟩
theorem gq.ex {l : List Int} (hl : ByteL l) (p s : Int) (L : List Int) (hL : 1 ≤ L.length) (h0 : 0 ≤ p) (h1 : p ≤ 900000) : ∃ (x p' s' : Int), gq.f l p s L = some (x, p', s') ∧ x ∈ L ∧ p ≤ p' ∧ p' ≤ p + 2 := by
  obtain ⟨x, p1, s1, e, h2, h3, _, h4, h5⟩ := fp.ex hl p s (L.length : Int) h0 h1
  obtain ⟨i, rfl⟩ : ∃ i : Nat, x = (i : Int) := ⟨x.toNat, by omega⟩
  have hi : i < L.length := by omega
  unfold gq.f
  rw [e, Zi]
  dsimp only
  rw [if_pos h2, if_pos (by omega), Z9 L i hi]
  exact ⟨_, _, _, rfl, Zl hi, h4, h5⟩
theorem wfold_ok (l : List Int) : ∀ s, OkI s → OkI (wfold l s) := by
  induction l with
  | nil => exact fun s h => h
  | cons x l ih => exact fun s _ => ih _ (wrap64_ok _)
/-- A committee's numbers, as draws make them: a whole number and a few of them. -/
structure DrawnC (q : Int) (ws : List Int) : Prop where
  l10 : ws.length ≤ 10
  q : OkI q
  w : ∀ x ∈ ws, OkI x
theorem ok_set {ws : List Int} (h : ∀ x ∈ ws, OkI x) (i : Nat) {v : Int} (hv : OkI v) : ∀ x ∈ ws.set i v, OkI x := fun x hx => by
  rcases List.mem_or_eq_of_mem_set hx with h1 | rfl
  · exact h x h1
  · exact hv
theorem ok_snoc {ws : List Int} (h : ∀ x ∈ ws, OkI x) {v : Int} (hv : OkI v) : ∀ x ∈ ws ++ [v], OkI x := fun x hx => by
  rcases List.mem_append.1 hx with h1 | h1
  · exact h x h1
  · rw [ZZ.1 h1]; exact hv
theorem fm.ex_j1 {l : List Int} (hl : ByteL l) (p s q : Int) (ws : List Int) (hw : ∀ x ∈ ws, OkI x) (hn : 1 ≤ ws.length ∧ ws.length ≤ 9) (h0 : 0 ≤ p) (h1 : p ≤ 890000) : ∃ (q' : Int) (ws' : List Int) (p' s' : Int), Ev (fun k => fm.j1 k l p s q ws) (q', ws', p', s') ∧ OkI q' ∧ (∀ x ∈ ws', OkI x) ∧ (1 ≤ ws'.length ∧ ws'.length ≤ 9) ∧ p ≤ p' ∧ p' ≤ p + 4 := by
  obtain ⟨b, p1, s1, e1, h2, h3⟩ := gx.ex hl p s 2 h0 (by omega)
  obtain ⟨x, p2, s2, e2, h4, _, h5, h6, h7⟩ := fp.ex hl p1 s1 (wfold ws 0) (by omega) (by omega)
  have hs := fq.ev ws (by omega)
  cases b with
  | true =>
    refine ⟨ZN (1 + x), ws, p2, s2, Zd ?_, wrap64_ok _, hw, hn, by omega, by omega⟩
    simp only [fm.j1]
    rw [Zb hs, Zb (Zx e1), Za rfl, Zb (Zx e2), Zf]
  | false =>
    refine ⟨ZN (ZN (Int.tdiv (wfold ws 0) 2) + 1), ws, p1, s1, Zd ?_, wrap64_ok _, hw, hn, by omega, by omega⟩
    simp only [fm.j1]
    rw [Zb hs, Zb (Zx e1), Zc (by simp), Zf]
theorem fm.ex_l0 {l : List Int} (hl : ByteL l) (q : Int) : ∀ (d : Nat) (p s : Int) (ws : List Int), (∀ x ∈ ws, OkI x) → ws.length + d ≤ 9 → 1 ≤ ws.length + d → 0 ≤ p → p + 2 * d ≤ 880000 → ∃ (q' : Int) (ws' : List Int) (p' s' : Int), Ev (fun k => fm.l0 k (d : Int) l p s q ws) (q', ws', p', s') ∧ OkI q' ∧ (∀ x ∈ ws', OkI x) ∧ (1 ≤ ws'.length ∧ ws'.length ≤ 9) ∧ p ≤ p' ∧ p' ≤ p + 2 * d + 4 := by
  intro d
  induction d with
  | zero =>
    intro p s ws hw h9 hn h0 h1
    have hs := fq.ev ws (by omega)
    by_cases c : wfold ws 0 = 0
    · obtain ⟨q', ws', p', s', hj, r⟩ := fm.ex_j1 hl p s q (ws.set 0 1) (ok_set hw 0 (OkI.of (by decide) (by decide))) (by rw [List.length_set]; omega) h0 (by omega)
      refine ⟨q', ws', p', s', Zd ?_, r.1, r.2.1, r.2.2.1, r.2.2.2.1, by omega⟩
      simp only [fm.l0]
      rw [Zc (by omega), Zb hs, Za c, Za (by omega)]
      exact hj
    · obtain ⟨q', ws', p', s', hj, r⟩ := fm.ex_j1 hl p s q ws hw (by omega) h0 (by omega)
      refine ⟨q', ws', p', s', Zd ?_, r.1, r.2.1, r.2.2.1, r.2.2.2.1, by omega⟩
      simp only [fm.l0]
      rw [Zc (by omega), Zb hs, Zc c]
      exact hj
  | succ d ih =>
    intro p s ws hw h9 hn h0 h1
    obtain ⟨x, p1, s1, e, h2, h3, h5, h6, h7⟩ := fp.ex hl p s 7 h0 (by omega)
    obtain ⟨q', ws', p', s', hj, r⟩ := ih p1 s1 (ws ++ [x]) (ok_snoc hw (OkI.of (by omega) (by omega))) (by rw [Zz, ZB]; omega) (by rw [Zz, ZB]; omega) (by omega) (by omega)
    refine ⟨q', ws', p', s', Zd ?_, r.1, r.2.1, r.2.2.1, by omega, by omega⟩
    simp only [fm.l0]
    rw [Za (by omega), Zb (Zx e), Za (by omega), show ZN (((d + 1 : Nat) : Int) - 1) = (d : Int) by rw [w64 (by omega) (by omega)]; omega]
    exact hj
theorem fm.ex {l : List Int} (hl : ByteL l) (p s a : Int) (ha : 1 ≤ a ∧ a ≤ 9) (h0 : 0 ≤ p) (h1 : p ≤ 800000) : ∃ (q' : Int) (ws' : List Int) (p' s' : Int), Ev (fun k => fm.f k l p s a) (q', ws', p', s') ∧ OkI q' ∧ (∀ x ∈ ws', OkI x) ∧ (1 ≤ ws'.length ∧ ws'.length ≤ 9) ∧ p ≤ p' ∧ p' ≤ p + 30 := by
  obtain ⟨x, p1, s1, e, h2, h3, h5, h6, h7⟩ := fp.ex hl p s a h0 (by omega)
  obtain ⟨q', ws', p', s', hj, r⟩ := fm.ex_l0 hl 0 (x + 1).toNat p1 s1 [] (by simp) (by simp; omega) (by simp; omega) (by omega) (by omega)
  refine ⟨q', ws', p', s', ?_, r.1, r.2.1, r.2.2.1, by omega, by omega⟩
  simp only [fm.f]
  rw [Zb (Zx e), show ZN (1 + x) = ((x + 1).toNat : Int) by rw [w64 (by omega) (by omega)]; omega]
  exact hj
theorem ft.ex_l0 {l : List Int} (hl : ByteL l) (q : Int) (hq : OkI q) : ∀ (d : Nat) (p s : Int) (ws : List Int), (∀ x ∈ ws, OkI x) → ws.length + d = 10 → 0 ≤ p → p + 2 * d ≤ 800000 → ∃ (ws' : List Int) (p' s' : Int), Ev (fun k => ft.l0 k l p s q ws) (q, ws', p', s') ∧ (∀ x ∈ ws', OkI x) ∧ ws'.length ≤ 10 ∧ p ≤ p' ∧ p' ≤ p + 2 * d + 2 := by
  intro d
  induction d with
  | zero =>
    intro p s ws hw h9 h0 h1
    obtain ⟨x, p1, s1, e, h2, h3, h5, h6, h7⟩ := fp.ex hl p s 2 h0 (by omega)
    refine ⟨ws, p1, s1, Zd ?_, hw, by omega, by omega, by omega⟩
    simp only [ft.l0]
    rw [Zb (Zx e), w64 (by omega) (by omega), Zc (by dsimp only; omega), Zf]
  | succ d ih =>
    intro p s ws hw h9 h0 h1
    obtain ⟨x, p1, s1, e, h2, h3, h5, h6, h7⟩ := fp.ex hl p s 2 h0 (by omega)
    by_cases c : (ws.length : Int) < 9 + x
    · obtain ⟨ws', p', s', hj, r⟩ := ih p1 s1 (ws ++ [1]) (ok_snoc hw (OkI.of (by decide) (by decide))) (by rw [Zz, ZB]; omega) (by omega) (by omega)
      refine ⟨ws', p', s', Zd ?_, r.1, r.2.1, by omega, by omega⟩
      simp only [ft.l0]
      rw [Zb (Zx e), w64 (by omega) (by omega), Za (by exact c), Za (by omega)]
      exact hj
    · refine ⟨ws, p1, s1, Zd ?_, hw, by omega, by omega, by omega⟩
      simp only [ft.l0]
      rw [Zb (Zx e), w64 (by omega) (by omega), Zc (by exact c), Zf]
theorem ft.ex {l : List Int} (hl : ByteL l) (p s a : Int) (ha : 1 ≤ a ∧ a ≤ 9) (h0 : 0 ≤ p) (h1 : p ≤ 700000) : ∃ (q' : Int) (ws' : List Int) (p' s' : Int), Ev (fun k => ft.f k l p s a) (q', ws', p', s') ∧ DrawnC q' ws' ∧ p ≤ p' ∧ p' ≤ p + 100 := by
  obtain ⟨q, ws, p1, s1, e, hq, hw, hn, h2, h3⟩ := fm.ex hl p s a ha h0 (by omega)
  obtain ⟨x, p2, s2, e2, h4, h5, _, h6, h7⟩ := fp.ex hl p1 s1 16 (by omega) (by omega)
  have hs := fq.ev ws (by omega)
  have hso := wfold_ok ws 0 (OkI.of (by decide) (by decide))
  by_cases c0 : x = 0
  · obtain ⟨y, p3, s3, e3, hy, h8, h9⟩ := gq.ex hl p2 s2 ([(-1), 0, 1, wfold ws 0, ZN (wfold ws 0 + 1), 4611686018427387904] : List Int) (by simp) (by omega) (by omega)
    have hyo : OkI y := by
      simp only [Ym, List.not_mem_nil, or_false] at hy
      rcases hy with rfl | rfl | rfl | rfl | rfl | rfl
      · exact OkI.of (by decide) (by decide)
      · exact OkI.of (by decide) (by decide)
      · exact OkI.of (by decide) (by decide)
      · exact hso
      · exact wrap64_ok _
      · exact OkI.of (by decide) (by decide)
    refine ⟨y, ws, p3, s3, ?_, ⟨by omega, hyo, hw⟩, by omega, by omega⟩
    simp only [ft.f]
    rw [Zb e, Zb (Zx e2), Za c0, Zb hs, Zb hs, Zb (Zx e3), Zf]
  by_cases c1 : x = 1
  · obtain ⟨y, p3, s3, e3, hy, h8, h9⟩ := gq.ex hl p2 s2 ([(-1), 0, 1000, 1001, 4611686018427387904] : List Int) (by simp) (by omega) (by omega)
    have hyo : OkI y := by
      simp only [Ym, List.not_mem_nil, or_false] at hy
      rcases hy with rfl | rfl | rfl | rfl | rfl <;> exact OkI.of (by decide) (by decide)
    refine ⟨q, ws.set 0 y, p3, s3, ?_, ⟨by rw [List.length_set]; omega, hq, ok_set hw 0 hyo⟩, by omega, by omega⟩
    simp only [ft.f]
    rw [Zb e, Zb (Zx e2), Zc c0, Za c1, Zb (Zx e3), Za (by dsimp only; omega), Zf]
    rfl
  by_cases c2 : x = 2
  · obtain ⟨ws', p', s', hj, r⟩ := ft.ex_l0 hl q hq (10 - ws.length) p2 s2 ws hw (by omega) (by omega) (by omega)
    refine ⟨q, ws', p', s', ?_, ⟨r.2.1, hq, r.1⟩, by omega, by omega⟩
    simp only [ft.f]
    rw [Zb e, Zb (Zx e2), Zc c0, Zc c1, Za c2]
    exact hj
  by_cases c3 : x = 3
  · refine ⟨1, [], p2, s2, ?_, ⟨by simp, OkI.of (by decide) (by decide), by simp⟩, by omega, by omega⟩
    simp only [ft.f]
    rw [Zb e, Zb (Zx e2), Zc c0, Zc c1, Zc c2, Za c3, Zf]
  · refine ⟨q, ws, p2, s2, ?_, ⟨by omega, hq, hw⟩, by omega, by omega⟩
    simp only [ft.f]
    rw [Zb e, Zb (Zx e2), Zc c0, Zc c1, Zc c2, Zc c3, Zf]
theorem drawn_good {q : Int} {ws : List Int} (h : Zq q ws = true) : DrawnC q ws := by
  have hc := (Zk q ws).1 h
  have h1 := hc.q1
  have h2 := hc.sum
  have h3 := hc.qs
  exact ⟨by have := hc.l9; omega, OkI.of (by omega) (by omega), fun x hx => by have := hc.w x hx; exact OkI.of (by omega) (by omega)⟩
theorem gK.ex {l : List Int} (hl : ByteL l) : ∃ (q : Int) (ws : List Int) (a : Int), Ev (fun k => gK.f k l) (q, ws, a) ∧ DrawnC q ws := by
  obtain ⟨q, ws, p, t, e, h, h2, h3⟩ := ft.ex hl 0 0 5 (by decide) (by decide) (by decide)
  obtain ⟨x, p1, s1, e1, _⟩ := gq.ex hl p t [1, 2, 3, 7, 0, -1, 1000, 1001, 150] (by decide) (by omega) (by omega)
  refine ⟨q, ws, x, ?_, h⟩
  simp only [gK.f]
  rw [Zb e, Zb (Zx e1), Zf]
theorem f5.ex {l : List Int} (hl : ByteL l) : ∃ (q : Int) (ws : List Int), Ev (fun k => f5.f k l) (q, ws) ∧ DrawnC q ws := by
  obtain ⟨q, ws, p, t, e, h, h2, h3⟩ := ft.ex hl 0 0 5 (by decide) (by decide) (by decide)
  obtain ⟨x, p1, s1, e1, _, _, _, h4, h5⟩ := fp.ex hl p t 3 (by omega) (by omega)
  obtain ⟨b, p2, s2, e2, _⟩ := gx.ex hl p1 s1 2 (by omega) (by omega)
  have v := fu.ev q ws (ZN (2 + x)) (Yp h.l10 (by decide))
  cases hb : (timesV q ws (ZN (2 + x))).2.2 with
  | false =>
    refine ⟨q, ws, ?_, h⟩
    simp only [f5.f]
    rw [Zb e, Zb (Zx e1), Zb v, Zc (by rw [hb]; decide), Zf]
  | true =>
    cases b with
    | false =>
      refine ⟨q, ws, ?_, h⟩
      simp only [f5.f]
      rw [Zb e, Zb (Zx e1), Zb v, Za hb, Zb (Zx e2), Zc (by simp), Zf]
    | true =>
      refine ⟨(timesV q ws (ZN (2 + x))).1, (timesV q ws (ZN (2 + x))).2.1, ?_, ?_⟩
      · simp only [f5.f]
        rw [Zb e, Zb (Zx e1), Zb v, Za hb, Zb (Zx e2), Za rfl, Zf]
      · revert hb
        unfold timesV ifGood
        split
        · split
          · next h6 => exact fun _ => drawn_good h6
          · simp
        · simp
theorem gM.ex {l : List Int} (hl : ByteL l) : ∃ (m n : Int), gM.f l = some (m, n) := by
  obtain ⟨x, p1, s1, e1, _, _, _, h4, h5⟩ := fp.ex hl 0 0 12 (by omega) (by omega)
  obtain ⟨y, p2, s2, e2, _⟩ := fp.ex hl p1 s1 (ZN (x + 2)) (by omega) (by omega)
  refine ⟨x, y, ?_⟩
  simp only [gM.f]
  rw [e1, Zi]
  dsimp only
  rw [e2, Zi]
theorem gN.ex {l : List Int} (hl : ByteL l) : ∃ (q : Int) (ws : List Int), Ev (fun k => gN.f k l) (q, ws) ∧ DrawnC q ws := by
  obtain ⟨q, ws, p, s, e, h, _⟩ := ft.ex hl 0 0 8 (by decide) (by decide) (by decide)
  refine ⟨q, ws, ?_, h⟩
  simp only [gN.f]
  rw [Zb e, Zf]
def incB : List Int → Bool
  | a :: b :: l => decide (a < b) && incB (b :: l)
  | _ => true
def setB (n : Int) (l : List Int) : Bool := (l.all fun x => decide (0 ≤ x) && decide (x ≤ n - 1)) && incB l
def orBits (m : Nat) (l : List Int) : Nat := l.foldl (fun m x => m ||| 2 ^ x.toNat) m
def maskN (l : List Int) : Nat := orBits 0 l
def mAt (l : List (List Int)) (i : Nat) : Nat := maskN (l.getD i [])
def gOrd (l : List (List Int)) (i : Nat) : Bool := decide (i = 0) || decide (cmpL (l.getD (i - 1) []) (l.getD i []) < 0)
def gInS (l : List (List Int)) (i j : Nat) : Bool := !(decide (mAt l i &&& mAt l j = mAt l i)) && !(decide (mAt l i &&& mAt l j = mAt l j))
def gS (l : List (List Int)) (i : Nat) : Bool := gOrd l i && (List.range' 0 i).all (gInS l i)
structure GoodG (n : Int) (l : List (List Int)) : Prop where
  n1 : 1 ≤ n
  n9 : n ≤ 9
  ne : l.length ≠ 0
  sets : ∀ x ∈ l, x.length ≠ 0 ∧ setB n x = true
  gs : ∀ i, i < l.length → gS l i = true
theorem bitB_test (m i : Nat) : bitB m i = m.testBit i := by rw [bitB, ZA]
theorem sub_pow_test (m i j : Nat) (h : m.testBit i = true) : (m - 2 ^ i).testBit j = (m.testBit j && !(decide (j = i))) := by
  have hb : m / 2 ^ i % 2 = 1 := by rw [ZA] at h; simpa using h
  have hge : 2 ^ i ≤ m := by
    rcases Yi m (2 ^ i) with h1 | h1
    · rw [Z6 h1] at hb; omega
    · exact h1
  have h0 : (m - 2 ^ i) / 2 ^ i % 2 = 0 := by
    have e : m = (m - 2 ^ i) + 2 ^ i := by omega
    have e2 : m / 2 ^ i = (m - 2 ^ i) / 2 ^ i + 1 := by
      conv => lhs; rw [e]
      exact Nat.add_div_right _ (Zm i)
    omega
  have hor := or_pow i (m - 2 ^ i) h0
  rw [Yg hge] at hor
  have hmj : m.testBit j = ((m - 2 ^ i).testBit j || (2 ^ i).testBit j) := by rw [← Nat.testBit_or, hor]
  by_cases e : j = i
  · subst e
    rw [decide_eq_true rfl, Bool.not_true, Bool.and_false, ZA, h0]
    rfl
  · rw [hmj, Nat.testBit_two_pow_of_ne (fun h => e h.symm), decide_eq_false e]
    simp
theorem setN_contains (m i : Nat) (hi : i < 62) : (setN m).contains (i : Int) = m.testBit i := by
  rw [← bitB_test, ZS, List.contains_iff_mem, setN, Z7]
  constructor
  · rintro ⟨j, hj, e⟩
    rw [ZR] at hj
    rw [← show j = i by omega]
    exact hj.2
  · intro h
    exact ⟨i, ZR.2 ⟨Zt.2 hi, h⟩, rfl⟩
theorem full_bit (n i : Nat) (h : i < n) : bitB (2 ^ n - 1) i = true := by
  rw [bitB_test, Nat.testBit_two_pow_sub_one, decide_eq_true h]
theorem wsum_out (ws : List Int) (m i : Nat) (h : i < ws.length) (hb : bitB m i = true) : wsum ws (m - 2 ^ i) = wsum ws m - ws[i] := by
  rw [bitB_test] at hb
  have h0 := sub_pow_test m i i hb
  have h1 : (m - 2 ^ i) / 2 ^ i % 2 = 0 := by
    rw [ZA] at h0
    simp at h0
    omega
  have hge : 2 ^ i ≤ m := by
    rcases Yi m (2 ^ i) with h2 | h2
    · rw [Nat.testBit_lt_two_pow h2] at hb; cases hb
    · exact h2
  have := wsum_add ws i (m - 2 ^ i) h h1
  rw [Yg hge] at this
  omega
theorem getD_lt (ws : List Int) (i : Nat) (h : i < ws.length) : ws.getD i 0 = ws[i] := by rw [Zr, ZJ h, Z8]
def vetoB (q : Int) (ws : List Int) (i : Nat) : Bool := decide (ws.sum - ws.getD i 0 < q)
theorem wins_out {q : Int} {ws : List Int} (i : Nat) (h : i < ws.length) : (Ze q ws).getD (2 ^ ws.length - 1 - 2 ^ i) false = !(vetoB q ws i) := by
  have hp := Zm ws.length
  rw [Zs q ws (2 ^ ws.length - 1 - 2 ^ i) (ZH (Nat.sub_le _ _) (by omega)), wsum_out ws _ i h (full_bit _ _ h), wsum_full, vetoB, getD_lt ws i h, ZS]
  simp
theorem andNot_pow (m i : Nat) (hm : m < 2 ^ 62) (hi : i ≤ 61) (h : bitB m i = true) : YA .andNot .i64 (m : Int) ((2 ^ i : Nat) : Int) = ((m - 2 ^ i : Nat) : Int) := by
  have hp : 2 ^ i ≤ 2 ^ 61 := Zh (by omega) hi
  have hb : m / 2 ^ i % 2 = 1 := by simpa [bitB] using h
  have hmi : m - 2 ^ i < 2 ^ 62 := ZH (Nat.sub_le _ _) hm
  have key : m &&& (2 ^ 64 - 1 - 2 ^ i) = m - 2 ^ i := by
    have hge : 2 ^ i ≤ m := by
      rcases Yi m (2 ^ i) with h1 | h1
      · rw [Z6 h1] at hb; omega
      · exact h1
    have h0 : (m - 2 ^ i) / 2 ^ i % 2 = 0 := by
      have e : m = (m - 2 ^ i) + 2 ^ i := by omega
      have e2 : m / 2 ^ i = (m - 2 ^ i) / 2 ^ i + 1 := by
        conv => lhs; rw [e]
        exact Nat.add_div_right _ (Zm i)
      omega
    have hor := or_pow i (m - 2 ^ i) h0
    rw [Yg hge] at hor
    apply Nat.eq_of_testBit_eq
    intro j
    rw [Nat.testBit_and, show 2 ^ 64 - 1 - 2 ^ i = 2 ^ 64 - (2 ^ i + 1) by omega, Nat.testBit_two_pow_sub_succ (by omega : 2 ^ i < 2 ^ 64)]
    have hmj : m.testBit j = ((m - 2 ^ i).testBit j || (2 ^ i).testBit j) := by rw [← Nat.testBit_or, hor]
    by_cases e : j = i
    · subst e
      have : (m - 2 ^ j).testBit j = false := by
        rw [ZA, h0]
        rfl
      rw [this, Nat.testBit_two_pow_self]
      simp
    · have h2 : (2 ^ i).testBit j = false := Nat.testBit_two_pow_of_ne (fun h => e h.symm)
      rw [hmj, h2]
      by_cases hj : j < 64
      · simp [hj]
      · have : (m - 2 ^ i).testBit j = false := Nat.testBit_lt_two_pow (Nat.lt_of_lt_of_le hmi (Zh (by omega) (by omega)))
        rw [this]
        simp
  have hbv : ((BitVec.ofInt 64 (m : Int)) &&& ~~~(BitVec.ofInt 64 ((2 ^ i : Nat) : Int))).toNat = m - 2 ^ i := by
    rw [BitVec.toNat_and, BitVec.toNat_not, BitVec.ofInt_natCast, BitVec.ofInt_natCast, BitVec.toNat_ofNat, BitVec.toNat_ofNat, Nat.mod_eq_of_lt (by omega : m < 2 ^ 64), Nat.mod_eq_of_lt (by omega : 2 ^ i < 2 ^ 64)]
    exact key
  show IntKind.i64.wrap (((BitVec.ofInt 64 (m : Int)) &&& ~~~(BitVec.ofInt 64 ((2 ^ i : Nat) : Int))).toNat : Int) = _
  rw [hbv]
  exact (fun (x : Nat) (hx : x < 2 ^ 62) => i64_wrap (x := (x : Int)) (by omega) (by omega)) (m - 2 ^ i) hmi
theorem fT.ev_l (m : Nat) (hm : m < 2 ^ 62) : ∀ (d i : Nat), i + d = 62 → Ev (fun k => fT.l0 k (m : Int) (setTo m i) (i : Int)) (setN m) := by
  intro d
  induction d with
  | zero =>
    intro i h
    refine Zd ?_
    simp only [fT.l0]
    have e : m / 2 ^ i = 0 := by rw [show i = 62 by omega]; exact Z6 hm
    rw [Za (by omega), shr_nat m i (by omega), e, Zc (by omega), Zf, setTo_done e (by omega)]
  | succ d ih =>
    intro i h
    refine Zd ?_
    simp only [fT.l0]
    have hlt : m / 2 ^ i < 2 ^ 62 := ZH (Yd _ _) hm
    have hl := setTo_len m i
    rw [Za (by omega), shr_nat m i (by omega), w64 (by omega) (by omega)]
    by_cases e : m / 2 ^ i = 0
    · rw [Zc (by omega), Zf, setTo_done e (by omega)]
    · rw [Za (Int.natCast_pos.2 (Nat.pos_of_ne_zero e)), Z3 _ hlt]
      have := ih (i + 1) (by omega)
      rw [setTo_succ] at this
      by_cases hb : m / 2 ^ i % 2 = 1
      · rw [if_pos (by simp [bitB, hb])] at this
        rw [Za (by rw [hb]; rfl), Za (by omega)]
        exact this
      · rw [if_neg (by simp [bitB]; omega)] at this
        rw [Zc (c := ((m / 2 ^ i % 2 : Nat) : Int) = 1) (fun h_ => hb (Int.ofNat_inj.1 h_))]
        exact this
theorem fT.ev (m : Nat) (hm : m < 2 ^ 62) : Ev (fun k => fT.f k (m : Int)) (setN m) := fT.ev_l m hm 62 0 (by omega)
theorem fS.ev_l (W : List Bool) (n m : Nat) (hW : W.length = 2 ^ n) (hn : n ≤ 18) (hm : m < 2 ^ n) : ∀ (d i : Nat), i + d = n → Ev (fun k => fS.l0 k (m : Int) (n : Int) (i : Int) (n : Int) W) ((List.range' i d).all fun i => !(bitB m i) || !(W.getD (m - 2 ^ i) false)) := by
  have hp : 2 ^ n ≤ 2 ^ 18 := Zh (by omega) hn
  intro d
  induction d with
  | zero =>
    intro i h
    refine Zd ?_
    simp only [fS.l0]
    rw [Zc (by omega), Zf]
    rfl
  | succ d ih =>
    intro i h
    refine Zd ?_
    simp only [fS.l0]
    have hih := ih (i + 1) (by omega)
    rw [Za (by omega), Zb (Zx (show fC.f (m : Int) (i : Int) = some (bitB m i) from fC.v m i (by omega) (by omega))), w64 (by omega) (by omega), List.range'_succ, List.all_cons]
    by_cases hb : bitB m i = true
    · have hpi : 2 ^ i ≤ 2 ^ n := Zh (by omega) (by omega)
      have hsub : m - 2 ^ i < W.length := by rw [hW]; exact ZH (Nat.sub_le _ _) hm
      rw [Za hb, Za (by omega), shl_one i (by omega), andNot_pow m i (by omega) (by omega) hb, Za (Int.natCast_nonneg _), Za (Int.ofNat_lt.2 hsub), Yc, hb]
      cases hw : W.getD (m - 2 ^ i) false with
      | true =>
        rw [Za rfl, Zf]
        rfl
      | false =>
        rw [Zc (by decide)]
        exact hih
    · rw [Zc hb, Bool.eq_false_iff.2 hb]
      exact hih
theorem fS.ev (W : List Bool) (n m : Nat) (hW : W.length = 2 ^ n) (hn : n ≤ 18) (hm : m < 2 ^ n) : Ev (fun k => fS.f k (n : Int) W (m : Int)) (leastB W n m) := by
  simp only [fS.f]
  rw [Za (by omega), Za (by omega), Yc, leastB]
  cases hw : W.getD m false with
  | true =>
    rw [Za rfl, Z2, List.range_eq_range']
    exact fS.ev_l W n m hW hn hm n 0 (by omega)
  | false =>
    rw [Zc (by decide), Zf]
    rfl
theorem fO.at_l (W : List Bool) (hW : W.length ≤ 1000000) (P : Int → Option Bool) (p : Nat → Bool) (K : Nat) (hP : ∀ m, m < W.length → P (m : Int) = some (p m)) (hS : ∀ k, K ≤ k → ∀ m, m < W.length → fT.f k (m : Int) = some (setN m)) : ∀ (d i k : Nat), i + d = W.length → K + d < k → fO.l0 k P W (takeL p i) (i : Int) = some (takeL p W.length) := by
  intro d
  induction d with
  | zero =>
    intro i k h hk
    obtain ⟨k, rfl⟩ : ∃ j, k = j + 1 := ⟨k - 1, by omega⟩
    simp only [fO.l0]
    rw [if_neg (by omega), show i = W.length by omega]
  | succ d ih =>
    intro i k h hk
    obtain ⟨k, rfl⟩ : ∃ j, k = j + 1 := ⟨k - 1, by omega⟩
    have hi : i < W.length := by omega
    have hl := takeL_len p i
    have hih := ih (i + 1) k (by omega) (by omega)
    rw [takeL_succ] at hih
    simp only [fO.l0]
    rw [if_pos (by omega), hP i hi, Zi, w64 (by omega) (by omega), hS k (by omega) i hi, Zi]
    cases hp : p i with
    | true =>
      rw [hp, if_pos rfl] at hih
      rw [if_pos rfl, if_pos (by omega)]
      exact hih
    | false =>
      rw [hp, if_neg (by decide)] at hih
      rw [if_neg (by decide)]
      exact hih
theorem fO.ev (W : List Bool) (hW : W.length ≤ 1000000) (P : Nat → Int → Option Bool) (p : Nat → Bool) (hP : ∀ m, m < W.length → Ev (fun k => P k (m : Int)) (p m)) : Ev (fun k => fO.g k W (P k)) (Zv (takeL p W.length)) := by
  obtain ⟨K1, h1⟩ := ev_all W.length (fun k m => P k (m : Int)) p hP
  obtain ⟨K2, h2⟩ := ev_all W.length (fun k m => fT.f k (m : Int)) setN (fun m hm => fT.ev m (by omega))
  refine ⟨max K1 (K2 + W.length + 1), fun k hk => ?_⟩
  have hl := takeL_len p W.length
  simp only [fO.g]
  rw [show fO.l0 k (P k) W [] 0 = some (takeL p W.length) from fO.at_l W hW (P k) p K2 (fun m hm => h1 k (by omega) m hm) h2 W.length 0 k (by omega) (by omega), Zi, if_pos (by omega)]
theorem gY.ev (W : List Bool) (n : Nat) (hW : W.length = 2 ^ n) (hn : n ≤ 18) : Ev (fun k => gY.f k (n : Int) W) (Zv (takeL (leastB W n) W.length)) := by
  have hp : 2 ^ n ≤ 2 ^ 18 := Zh (by omega) hn
  exact fO.ev W (by omega) (fun k x => fS.f k (n : Int) W x) (leastB W n) (fun m hm => fS.ev W n m hW hn (by omega))
def takeI (P : Nat → Bool) (i : Nat) : List Int := ((Zj i).filter P).map fun (i : Nat) => (i : Int)
theorem takeI_succ (P : Nat → Bool) (i : Nat) : takeI P (i + 1) = if P i = true then takeI P i ++ [(i : Int)] else takeI P i := by
  unfold takeI
  rw [ZF, ZI, ZQ]
  by_cases h : P i = true
  · rw [if_pos h]
    simp [h]
  · rw [if_neg h]
    simp [h]
theorem takeI_len (P : Nat → Bool) (i : Nat) : (takeI P i).length ≤ i := by
  unfold takeI
  rw [ZL]
  have := Z4 P (Zj i)
  rw [ZT] at this
  exact this
theorem fM.ev_l (n : Nat) (hn : n ≤ 1000000) (p : Int → Bool) : ∀ (d i : Nat), i + d = n → Ev (fun k => fM.l0 k (fun x => some (p x)) (n : Int) (takeI (fun i => p (i : Int)) i) (i : Int)) (takeI (fun i => p (i : Int)) n) := by
  intro d
  induction d with
  | zero =>
    intro i h
    refine Zd ?_
    simp only [fM.l0]
    rw [Zc (by omega), Zf, show i = n by omega]
  | succ d ih =>
    intro i h
    refine Zd ?_
    simp only [fM.l0, Zi]
    have hl := takeI_len (fun i => p (i : Int)) i
    have hih := ih (i + 1) (by omega)
    rw [takeI_succ] at hih
    rw [Za (by omega), w64 (by omega) (by omega)]
    by_cases hp : p (i : Int) = true
    · rw [if_pos hp] at hih
      rw [Za hp, Za (by omega)]
      exact hih
    · rw [if_neg hp] at hih
      rw [Zc hp]
      exact hih
theorem fM.ev (n : Nat) (hn : n ≤ 1000000) (p : Int → Bool) : Ev (fun k => fM.g k (n : Int) (fun x => some (p x))) (takeI (fun i => p (i : Int)) n) := fM.ev_l n hn p n 0 (by omega)
def idleP (L : List (List Int)) (i : Nat) : Bool := !(L.any fun s => s.contains (i : Int))
theorem gp.ev (W : List Bool) (n : Nat) (hW : W.length = 2 ^ n) (hn : n ≤ 18) : Ev (fun k => gp.f k (n : Int) W) (takeI (idleP (Zv (takeL (leastB W n) W.length))) n) := by
  simp only [gp.f]
  rw [Za (by omega), Zb (gY.ev W n hW hn)]
  exact fM.ev n (by omega) _
theorem leastB_bits {W : List Bool} {n m : Nat} (h : leastB W n m = true) : W.getD m false = true ∧ ∀ i, i < n → m.testBit i = true → W.getD (m - 2 ^ i) false = false := by
  simp only [leastB, ZO, ZW, Zt] at h
  refine ⟨h.1, fun i hi hb => ?_⟩
  have := h.2 i hi
  rw [bitB_test, hb] at this
  simpa using this
theorem pow_le_of_bit {m i : Nat} (h : m.testBit i = true) : 2 ^ i ≤ m := by
  rcases Yi m (2 ^ i) with h2 | h2
  · rw [Nat.testBit_lt_two_pow h2] at h; cases h
  · exact h2
theorem takeI_mem {P : Nat → Bool} {n : Nat} {x : Int} : x ∈ takeI P n ↔ ∃ i : Nat, i < n ∧ P i = true ∧ x = (i : Int) := by
  simp only [takeI, Z7, ZR, Zt]
  constructor
  · rintro ⟨i, ⟨h1, h2⟩, rfl⟩; exact ⟨i, h1, h2, rfl⟩
  · rintro ⟨i, h1, h2, rfl⟩; exact ⟨i, ⟨h1, h2⟩, rfl⟩
theorem takeI_has (P : Nat → Bool) (n i : Nat) (hi : i < n) : (takeI P n).contains (i : Int) = P i := by
  rw [ZS, List.contains_iff_mem, takeI_mem]
  constructor
  · rintro ⟨j, _, h2, h3⟩
    have : i = j := by omega
    rw [this]; exact h2
  · intro h; exact ⟨i, hi, h, rfl⟩
def dumB (q : Int) (ws : List Int) (i : Nat) : Bool := idleP (Zv (takeL (leastB (Ze q ws) ws.length) (Ze q ws).length)) i
theorem dumB_iff {q : Int} {ws : List Int} (hc : ZM q ws) (i : Nat) (hi : i < ws.length) : dumB q ws i = true ↔ ∀ m, m < 2 ^ ws.length → leastB (Ze q ws) ws.length m = true → m.testBit i = false := by
  have h9 := hc.l9
  unfold dumB idleP
  rw [Yy, List.any_eq_false]
  constructor
  · intro h m hm hl
    have := h (setN m) ((ZY _).mem_iff.2 (Z7.2 ⟨m, ZR.2 ⟨Zt.2 (by rw [Zu]; exact hm), hl⟩, rfl⟩))
    rw [setN_contains m i (by omega)] at this
    simpa using this
  · intro h x hx
    obtain ⟨m, h1, h2, rfl⟩ := takeL_mem x ((ZY _).mem_iff.1 hx)
    rw [Zu] at h1
    rw [setN_contains m i (by omega), h m h1 h2]
    decide
theorem wins_none {q : Int} {ws : List Int} (hc : ZM q ws) : (Ze q ws).getD 0 false = false := by
  rw [Zs q ws 0 (Zm _), wsum_zero, decide_eq_false_iff_not]
  have := hc.q1
  omega
theorem wins_full {q : Int} {ws : List Int} (hc : ZM q ws) : (Ze q ws).getD (2 ^ ws.length - 1) false = true := by
  have := hc.pow
  rw [Zs q ws _ (by omega), wsum_full, decide_eq_true_eq]
  exact hc.qs
def dumV (q : Int) (ws : List Int) : List Int × Bool := if Zq q ws = true then (takeI (idleP (Zv (takeL (leastB (Ze q ws) ws.length) (Ze q ws).length))) ws.length, true) else ([], false)
theorem gJ.ev (q : Int) (ws : List Int) (hl : ws.length ≤ 9223372036854775807) : Ev (fun k => gJ.f k q ws) (dumV q ws) := by
  simp only [gJ.f]
  rw [Zb (fd.ev q ws hl)]
  unfold dumV
  cases hg : Zq q ws with
  | false => rw [Zc (by decide), Zf, if_neg (by decide)]
  | true =>
    have hc := (Zk q ws).1 hg
    have h9 := hc.l9
    have hwl := Zu q ws
    have hi := gp.ev (Ze q ws) ws.length hwl (by omega)
    rw [Za rfl, if_pos rfl, Zb (fF.ev q ws h9 hc.wb), Zb hi, Zf]
def evenV (m n : Int) : Int × List Int × Bool := if 1 ≤ m ∧ m ≤ 9 ∧ 1 ≤ n ∧ n ≤ m then (n, Zp m.toNat 1, true) else (0, [], false)
theorem fG.ev_l (q : Int) (n : Nat) (hn : n ≤ 9) : ∀ (d : Nat) (acc : List Int), acc.length + d ≤ 9 → acc = Zp acc.length 1 → acc.length + d = n → Ev (fun k => fG.l0 k (d : Int) q acc) (q, Zp n 1, true) := by
  intro d
  induction d with
  | zero =>
    intro acc h9 ha h
    refine Zd ?_
    simp only [fG.l0]
    rw [Zc (by omega), Zf, ha, show acc.length = n by omega]
  | succ d ih =>
    intro acc h9 ha h
    refine Zd ?_
    simp only [fG.l0]
    rw [Za (by omega), Za (by omega), w64 (x := ((d + 1 : Nat) : Int) - 1) (by omega) (by omega), show ((d + 1 : Nat) : Int) - 1 = (d : Int) by omega]
    refine ih (acc ++ [1]) (by simp; omega) ?_ (by simp; omega)
    rw [Zz, ZB, List.replicate_succ', ← ha]
theorem fG.ev (m n : Int) : Ev (fun k => fG.f k m n) (evenV m n) := by
  simp only [fG.f]
  unfold evenV
  rw [Zb (Zx (fB.v _ _ _))]
  by_cases h1 : 1 ≤ m ∧ m ≤ 9
  · rw [Za (by simpa using h1), Zb (Zx (fB.v _ _ _))]
    refine Zd ?_
    simp only [fG.j0]
    by_cases h2 : 1 ≤ n ∧ n ≤ m
    · rw [Zc (by simp [h2]), if_pos ⟨h1.1, h1.2, h2.1, h2.2⟩]
      obtain ⟨M, rfl⟩ := ZE (show 0 ≤ m by omega)
      exact fG.ev_l n M (by omega) M [] (by simp; omega) rfl (by simp)
    · rw [Za (by simp; omega), Zf, if_neg (fun h => h2 ⟨h.2.2.1, h.2.2.2⟩)]
  · rw [Zc (by simpa using h1)]
    refine Zd ?_
    simp only [fG.j0]
    rw [Za (by simp), Zf, if_neg (fun h => h1 ⟨h.1, h.2.1⟩)]
theorem gF.v (m n : Int) : gF.f m n = some (evenV m n) := by
  unfold gF.f evenV
  rw [fU.v, Zi]
  by_cases h1 : 1 ≤ m ∧ m ≤ 9
  · rw [if_pos (by simpa using h1), fU.v, Zi]
    by_cases h2 : 1 ≤ n ∧ n ≤ m
    · rw [if_pos (by simpa using h2), if_pos ⟨h1.1, h1.2, h2.1, h2.2⟩]
      unfold gV.f
      rw [if_pos ⟨rfl, h1.1, h1.2⟩]
      rfl
    · rw [if_neg (by simpa using h2), if_neg (fun h => h2 ⟨h.2.2.1, h.2.2.2⟩)]
  · rw [if_neg (by simpa using h1), if_neg (fun h => h1 ⟨h.1, h.2.1⟩)]
theorem evenV_len (m n : Int) : (evenV m n).2.1.length ≤ 9 := by
  unfold evenV
  split
  · simp; omega
  · simp
def downL (xs : List Int) : Prop := xs.Pairwise fun a b => b ≤ a
theorem downL_sorted {xs ys : List Int} (hp : ys.Perm xs) (h : downL ys) : ys = fc.sortD xs := by
  refine fc.sortD_of hp (List.Pairwise.imp (fun {a b} hab => ?_) h)
  rw [fc.lt]
  exact decide_eq_false (by omega)
theorem downL_insert {xs : List Int} {s : Int} {y : Nat} (h : downL xs) (h1 : ∀ j (hj : j < xs.length), j < y → s ≤ xs[j]) (h2 : ∀ hy : y < xs.length, xs[y] < s) : downL (xs.take y ++ s :: xs.drop y) := by
  have hp := h
  rw [← List.take_append_drop y xs, downL, List.pairwise_append] at hp
  rw [downL, List.pairwise_append, List.pairwise_cons]
  have hd : ∀ b ∈ xs.drop y, b ≤ s := by
    intro b hb
    obtain ⟨j, hj, rfl⟩ := List.getElem_of_mem hb
    rw [Yr] at hj
    have hy : y < xs.length := by omega
    rw [List.getElem_drop]
    have h3 := h2 hy
    rcases Yw j with e | e
    · subst e
      simp only [Nat.add_zero]
      omega
    · rw [downL, ZP] at h
      have := h y (y + j) hy (by omega) (by omega)
      omega
  refine ⟨hp.1, ⟨hd, hp.2.1⟩, fun a ha b hb => ?_⟩
  obtain ⟨j, hj, rfl⟩ := List.getElem_of_mem ha
  rw [ZX] at hj
  rw [List.getElem_take]
  have h3 := h1 j (by omega) (by omega)
  rcases Ym.1 hb with rfl | hb
  · exact h3
  · have := hd b hb
    omega
def sortV (q : Int) (ws : List Int) : Int × List Int × Bool := if Zq q ws = true then (q, fc.sortD ws, true) else (0, [], false)
theorem fo.own (l : List Int) (h : l.length < 17592186044416) : fN.f l = some l := by
  simp [fN.f, h]
theorem fo.ev_l1 (q : Int) (ws : List Int) (h9 : ws.length ≤ 9) (i : Nat) (hi : i < ws.length) (out : List Int) (ho : out.length = i) (hup : downL out) (hpm : out.Perm (ws.take i)) (hnext : ∀ out' : List Int, out'.length = i + 1 → downL out' → out'.Perm (ws.take (i + 1)) → Ev (fun k => fo.l0 k ws (ws.length : Int) ((i : Int) + 1) q out') (q, fc.sortD ws, true)) : ∀ (d y : Nat), y + d = out.length → (∀ j (hj : j < out.length), j < y → ws[i] ≤ out[j]) → Ev (fun k => fo.l1 k ws[i] (y : Int) ws (ws.length : Int) (i : Int) q out) (q, fc.sortD ws, true) := by
  have hgo : ∀ y : Nat, y ≤ out.length → (∀ j (hj : j < out.length), j < y → ws[i] ≤ out[j]) → (∀ hy : y < out.length, out[y] < ws[i]) → Ev (fun k => (fN.f (out.take ((y : Int)).toNat)).bind fun t => if t.length < 17592186044416 then ((some (t ++ [ws[i]] : List Int)).bind fun aa => ((some (out.drop ((y : Int)).toNat : List Int)).bind fun ab => if aa.length + ab.length < 17592186044416 then fo.l0 k ws (ws.length : Int) (ZN ((i : Int) + 1)) q (aa ++ ab) else none)) else none) (q, fc.sortD ws, true) := by
    intro y hy h1 h2
    rw [Zw]
    simp only [Zb (Zx (fo.own (out.take y) (by rw [ZX]; omega))), Zi]
    rw [Za (by rw [ZX]; omega), Za (by simp only [Zz, ZX, Yr, Ys, List.length_nil]; omega), w64 (by omega) (by omega)]
    rw [List.append_assoc, List.singleton_append]
    refine hnext _ ?_ (downL_insert hup h1 h2) ?_
    · rw [Zz, Ys, ZX, Yr]
      omega
    · refine List.perm_middle.trans ?_
      rw [List.take_append_drop, Zg hi]
      exact (List.Perm.cons _ hpm).trans (Z5 _ _).symm
  intro d
  induction d with
  | zero =>
    intro y hy h1
    refine Zd ?_
    simp only [fo.l1]
    rw [Zc (by omega), Za (by omega), Za (by omega)]
    exact hgo y (by omega) h1 (fun h => by omega)
  | succ d ih =>
    intro y hy h1
    refine Zd ?_
    simp only [fo.l1]
    have hyl : y < out.length := by omega
    rw [Za (by omega), Za (by omega), Z9 out y hyl]
    by_cases hc : out[y] ≥ ws[i]
    · rw [Za hc, w64 (by omega) (by omega)]
      refine ih (y + 1) (by omega) (fun j hj hjy => ?_)
      rcases Yi j y with h | h
      · exact h1 j hj h
      · obtain rfl : j = y := by omega
        exact hc
    · rw [Zc hc, Za (by omega)]
      exact hgo y (by omega) h1 (fun _ => by omega)
theorem fo.ev_l0 (q : Int) (ws : List Int) (h9 : ws.length ≤ 9) : ∀ (d i : Nat), i + d = ws.length → ∀ out : List Int, out.length = i → downL out → out.Perm (ws.take i) → Ev (fun k => fo.l0 k ws (ws.length : Int) (i : Int) q out) (q, fc.sortD ws, true) := by
  intro d
  induction d with
  | zero =>
    intro i hi out ho hd hp
    refine Zd ?_
    simp only [fo.l0]
    rw [Zc (by omega), Zf]
    rw [Zo (by omega)] at hp
    rw [downL_sorted hp hd]
  | succ d ih =>
    intro i hi out ho hd hp
    refine Zd ?_
    simp only [fo.l0]
    have hil : i < ws.length := by omega
    rw [Za (by omega), Za (by omega), Za (by omega), Z9 ws i hil]
    refine fo.ev_l1 q ws h9 i hil out ho hd hp (fun out' h1 h2 h3 => ?_) out.length 0 (by omega) (fun j _ h => by omega)
    exact ih (i + 1) (by omega) out' h1 h2 h3
theorem fo.ev (q : Int) (ws : List Int) (hl : ws.length ≤ 9223372036854775807) : Ev (fun k => fo.f k q ws) (sortV q ws) := by
  simp only [fo.f]
  rw [Zb (fi.ev q ws hl)]
  unfold sortV
  cases hg : Zq q ws with
  | false => rw [Zc (by simp), Zf, if_neg (by simp)]
  | true =>
    rw [Za rfl, if_pos rfl]
    exact fo.ev_l0 q ws ((Zk q ws).1 hg).l9 ws.length 0 (by omega) [] rfl List.Pairwise.nil (List.Perm.refl _)
theorem fc.ev (q : Int) (ws : List Int) (hl : ws.length ≤ 9223372036854775807) : Ev (fun k => fc.f k q ws) (sortV q ws) := by
  simp only [fc.f]
  rw [Zb (fd.ev q ws hl)]
  unfold sortV
  cases hg : Zq q ws with
  | false => rw [Zc (by simp), Zf, if_neg (by simp)]
  | true =>
    have h9 := ((Zk q ws).1 hg).l9
    have hcl : gr.f ws = some ws := by
      have : ws.length < 17592186044416 := by omega
      simp [gr.f, this]
    rw [Za rfl, if_pos rfl]
    simp only [hcl, Zi]
    rw [Za (by omega), Zf]
theorem sortV_len (q : Int) (ws : List Int) : (sortV q ws).2.1.length ≤ 9 := by
  unfold sortV
  split
  · next h =>
    have := ((Zk q ws).1 h).l9
    simp only [fc.sortD, (Yo _ _).length_eq]
    exact this
  · simp
theorem cntW_in {q : Int} {ws : List Int} (h : ws.length ≤ 9) : 0 ≤ cntW (Ze q ws) ∧ cntW (Ze q ws) ≤ 512 := by
  have h1 := cntW_bounds (Ze q ws)
  have hp : 2 ^ ws.length ≤ 2 ^ 9 := Zh (by omega) h
  rw [Zu] at h1
  omega
theorem sortD_facts (ws : List Int) : (fc.sortD ws).Perm ws ∧ downL (fc.sortD ws) := by
  obtain ⟨ys, hp, hd⟩ : ∃ ys : List Int, ys.Perm ws ∧ downL ys := by
    refine ⟨ws.mergeSort fun a b => decide (b ≤ a), Yo _ _, ?_⟩
    have := Yt (le := fun a b : Int => decide (b ≤ a)) (fun a b c h1 h2 => by simp at *; omega) (fun a b => by simp; omega) ws
    exact this.imp (fun h => by simpa using h)
  have e := downL_sorted hp hd
  rw [← e]
  exact ⟨hp, hd⟩
theorem se (m i : Nat) (hm : m < 2 ^ 62) (hi : i ≤ 62) : Yz (shr .i64 (m : Int) (i : Int)) 2 = ((m / 2 ^ i % 2 : Nat) : Int) := by
  rw [shr_nat m i (by omega)]
  generalize m / 2 ^ i = x
  rw [Int.tmod_eq_emod_of_nonneg (by omega)]
  omega
theorem fx.ev_l (q : Int) (ws : List Int) (m : Nat) (hm : m < 2 ^ 62) (hl : ws.length ≤ 60) (hw : ∀ x ∈ ws, 0 ≤ x ∧ x ≤ 1000000000) : ∀ (d i : Nat) (s : Int), i + d = ws.length → 0 ≤ s → s + wsum (ws.drop i) (m / 2 ^ i) ≤ 1000000000000 → Ev (fun k => fx.l0 k (m : Int) s ws (ws.length : Int) (i : Int)) (s + wsum (ws.drop i) (m / 2 ^ i)) := by
  intro d
  induction d with
  | zero =>
    intro i s h _ _
    refine Zd ?_
    simp only [fx.l0]
    rw [Zc (by omega), Zf, Zn (by omega)]
    simp [wsum]
  | succ d ih =>
    intro i s h h0 h1
    refine Zd ?_
    simp only [fx.l0]
    have hi : i < ws.length := by omega
    have hx := hw ws[i] (Zl hi)
    have hd : wsum (ws.drop i) (m / 2 ^ i) = (if m / 2 ^ i % 2 = 1 then ws[i] else 0) + wsum (ws.drop (i + 1)) (m / 2 ^ (i + 1)) := by
      rw [wsum_drop ws i _ hi, Nat.div_div_eq_div_mul, ← Yx]
    have hb := ZK (ws.drop (i + 1)) (fun x hx => (hw x (List.mem_of_mem_drop hx)).1) (m / 2 ^ (i + 1))
    rw [Za (by omega), Za (by omega), Za (by omega), se m i hm (by omega), w64i (n := ws.length) (by omega) (by omega) (by omega), Z9 ws i hi, hd]
    rw [hd] at h1
    by_cases hbit : m / 2 ^ i % 2 = 1
    · rw [if_pos hbit] at h1 ⊢
      rw [Za (by rw [hbit]; rfl), w64 (by omega) (by omega), ← Int.add_assoc]
      exact ih (i + 1) (s + ws[i]) (by omega) (by omega) (by omega)
    · rw [if_neg hbit] at h1 ⊢
      rw [Zc (by omega), Yh]
      exact ih (i + 1) s (by omega) h0 (by omega)
theorem fx.ev (q : Int) (ws : List Int) (m : Nat) (hm : m < 2 ^ 62) (hl : ws.length ≤ 60) (hw : ∀ x ∈ ws, 0 ≤ x ∧ x ≤ 1000000000) : Ev (fun k => fx.f k q ws (m : Int)) (wsum ws m) := by
  have hb := ZK ws (fun x hx => (hw x hx).1) m
  have hs := sum_bounds ws 1000000000 hw
  have := fx.ev_l q ws m hm hl hw ws.length 0 0 (by omega) (by omega) (by simp; omega)
  simpa [fx.f] using this
theorem gC.v (n : Nat) (hn : n ≤ 60) : gC.f (n : Int) = some ((2 ^ n - 1 : Nat) : Int) := by
  unfold gC.f
  have h0 : 0 < 2 ^ n := Zm n
  have h : 2 ^ n ≤ 2 ^ 60 := Zh (by omega) hn
  rw [if_pos (by omega), shl_one n (by omega), w64 (by omega) (by omega)]
  congr 1
  omega
theorem winsL_take (q : Int) (ws : List Int) (m : Nat) (h : m < 2 ^ ws.length) : (Ze q ws).take (m + 1) = (Ze q ws).take m ++ [decide (q ≤ wsum ws m)] := by
  rw [Zg (by rw [Zu]; exact h), winsL_get]
theorem fw.ev_l (q : Int) (ws : List Int) (hl : ws.length ≤ 9) (hw : ∀ x ∈ ws, 0 ≤ x ∧ x ≤ 1000000000) : ∀ (d m : Nat), m + d = 2 ^ ws.length → Ev (fun k => fw.l0 k ((Ze q ws).take m) (m : Int) q ws) (Ze q ws) := by
  have hp : 2 ^ ws.length ≤ 2 ^ 9 := Zh (by omega) hl
  have h0 : 0 < 2 ^ ws.length := Zm _
  intro d
  induction d with
  | zero =>
    intro m h
    refine Zd ?_
    simp only [fw.l0]
    rw [Zb (Zx (gC.v ws.length (by omega))), Zc (by omega), Zf, Zo (by rw [Zu]; omega)]
  | succ d ih =>
    intro m h
    refine Zd ?_
    simp only [fw.l0]
    rw [Zb (Zx (gC.v ws.length (by omega))), Za (by omega), Zb (fx.ev q ws m (by omega) (by omega) hw), Za (by simp; omega), w64i (n := 512) (by omega) (by omega) (by omega)]
    have := ih (m + 1) (by omega)
    rw [winsL_take q ws m (by omega)] at this
    exact this
theorem fw.ev (q : Int) (ws : List Int) (hl : ws.length ≤ 9) (hw : ∀ x ∈ ws, 0 ≤ x ∧ x ≤ 1000000000) : Ev (fun k => fw.f k q ws) (Ze q ws) := by
  have := fw.ev_l q ws hl hw (2 ^ ws.length) 0 (by omega)
  simpa [fw.f] using this
def spWin (W : List Bool) (ws : List Int) : Nat → Int
  | 0 => -1
  | m + 1 => if W.getD m false = true then (if spWin W ws m < 0 ∨ wsum ws m < spWin W ws m then wsum ws m else spWin W ws m) else spWin W ws m
def spLose (W : List Bool) (ws : List Int) : Nat → Int
  | 0 => -1
  | m + 1 => if W.getD m false = true then spLose W ws m else max (spLose W ws m) (wsum ws m)
theorem fv.ev_l (W : List Bool) (ws : List Int) (hW : W.length ≤ 1000000) (hl : ws.length ≤ 60) (hw : ∀ x ∈ ws, 0 ≤ x ∧ x ≤ 1000000000) : ∀ (d m : Nat), m + d = W.length → Ev (fun k => fv.l0 k (spWin W ws m) (spLose W ws m) W (W.length : Int) (m : Int) 0 ws) (spWin W ws W.length, spLose W ws W.length) := by
  intro d
  induction d with
  | zero =>
    intro m h
    refine Zd ?_
    simp only [fv.l0]
    rw [Zc (by omega), Zf, show m = W.length by omega]
  | succ d ih =>
    intro m h
    refine Zd ?_
    simp only [fv.l0]
    have hm : m < W.length := by omega
    have hn := ih (m + 1) (by omega)
    have hr : rdOf false W (m : Int) = W.getD m false := Yc false W m
    rw [Za (by omega), Za (by omega), Za (by omega), Zb (fI.ev 0 ws m (by omega) hl hw), hr]
    have hwr : ZN ((m : Int) + 1) = ((m + 1 : Nat) : Int) := by rw [w64i (n := W.length) (by omega) (by omega) (by omega)]; omega
    simp only [spWin, spLose] at hn
    cases hb : W.getD m false with
    | false =>
      rw [hb] at hn
      simp only [Z0, if_false] at hn
      rw [Zc (by simp)]
      refine Zd ?_
      simp only [fv.j1, Z0, if_false, hwr, mx_eq]
      exact hn
    | true =>
      rw [hb] at hn
      simp only [if_true] at hn
      rw [Za rfl]
      by_cases h0 : spWin W ws m < 0
      · rw [Za h0]
        rw [if_pos (.inl h0)] at hn
        refine Zd ?_
        simp only [fv.j1, if_true, hwr]
        exact hn
      · rw [Zc h0]
        refine Zd ?_
        simp only [fv.j1, if_true, hwr, decide_eq_true_eq]
        by_cases h1 : wsum ws m < spWin W ws m
        · rw [if_pos (.inr h1)] at hn
          rw [Za h1]
          exact hn
        · rw [if_neg (by omega)] at hn
          rw [Zc h1]
          exact hn
theorem fv.ev (n : Int) (W : List Bool) (ws : List Int) (hW : W.length ≤ 1000000) (hl : ws.length ≤ 60) (hw : ∀ x ∈ ws, 0 ≤ x ∧ x ≤ 1000000000) : Ev (fun k => fv.f k n W ws) (spWin W ws W.length, spLose W ws W.length) := by
  have := fv.ev_l W ws hW hl hw W.length 0 (by omega)
  simpa [fv.f, spWin, spLose] using this
theorem spWin_spec (W : List Bool) (ws : List Int) (hw : ∀ x ∈ ws, 0 ≤ x) : ∀ m, (spWin W ws m = -1 ∧ ∀ j, j < m → W.getD j false = false) ∨ (0 ≤ spWin W ws m ∧ (∃ j, j < m ∧ W.getD j false = true ∧ wsum ws j = spWin W ws m) ∧ ∀ j, j < m → W.getD j false = true → spWin W ws m ≤ wsum ws j) := by
  intro m
  induction m with
  | zero => exact .inl ⟨rfl, fun j hj => absurd hj (Ye j)⟩
  | succ m ih =>
    have hb := ZK ws hw m
    simp only [spWin]
    cases hW : W.getD m false with
    | false =>
      rw [if_neg (by simp)]
      rcases ih with ⟨h1, h2⟩ | ⟨h1, ⟨j, hj, hj2, hj3⟩, h3⟩
      · exact .inl ⟨h1, fun j hj => by
        by_cases e : j = m
        · subst e; exact hW
        · exact h2 j (by omega)⟩
      · refine .inr ⟨h1, ⟨j, by omega, hj2, hj3⟩, fun i hi hwi => ?_⟩
        by_cases e : i = m
        · subst e; rw [hW] at hwi; exact absurd hwi (by simp)
        · exact h3 i (by omega) hwi
    | true =>
      rw [if_pos rfl]
      right
      rcases ih with ⟨h1, h2⟩ | ⟨h1, ⟨j, hj, hj2, hj3⟩, h3⟩
      · rw [if_pos (.inl (by omega))]
        refine ⟨hb.1, ⟨m, by omega, hW, rfl⟩, fun i hi hwi => ?_⟩
        by_cases e : i = m
        · subst e; omega
        · rw [h2 i (by omega)] at hwi; exact absurd hwi (by simp)
      · by_cases hc : wsum ws m < spWin W ws m
        · rw [if_pos (.inr hc)]
          refine ⟨hb.1, ⟨m, by omega, hW, rfl⟩, fun i hi hwi => ?_⟩
          by_cases e : i = m
          · subst e; omega
          · have := h3 i (by omega) hwi; omega
        · rw [if_neg (by omega)]
          refine ⟨h1, ⟨j, by omega, hj2, hj3⟩, fun i hi hwi => ?_⟩
          by_cases e : i = m
          · subst e; omega
          · exact h3 i (by omega) hwi
theorem spLose_spec (W : List Bool) (ws : List Int) (hw : ∀ x ∈ ws, 0 ≤ x) : ∀ m, (spLose W ws m = -1 ∧ ∀ j, j < m → W.getD j false = true) ∨ (0 ≤ spLose W ws m ∧ (∃ j, j < m ∧ W.getD j false = false ∧ wsum ws j = spLose W ws m) ∧ ∀ j, j < m → W.getD j false = false → wsum ws j ≤ spLose W ws m) := by
  intro m
  induction m with
  | zero => exact .inl ⟨rfl, fun j hj => absurd hj (Ye j)⟩
  | succ m ih =>
    have hb := ZK ws hw m
    simp only [spLose]
    cases hW : W.getD m false with
    | true =>
      rw [if_pos rfl]
      rcases ih with ⟨h1, h2⟩ | ⟨h1, ⟨j, hj, hj2, hj3⟩, h3⟩
      · exact .inl ⟨h1, fun j hj => by
        by_cases e : j = m
        · subst e; exact hW
        · exact h2 j (by omega)⟩
      · refine .inr ⟨h1, ⟨j, by omega, hj2, hj3⟩, fun i hi hwi => ?_⟩
        by_cases e : i = m
        · subst e; rw [hW] at hwi; exact absurd hwi (by simp)
        · exact h3 i (by omega) hwi
    | false =>
      rw [if_neg (by simp)]
      right
      rcases ih with ⟨h1, h2⟩ | ⟨h1, ⟨j, hj, hj2, hj3⟩, h3⟩
      · rw [Int.max_eq_right (by omega)]
        refine ⟨hb.1, ⟨m, by omega, hW, rfl⟩, fun i hi hwi => ?_⟩
        by_cases e : i = m
        · subst e; omega
        · rw [h2 i (by omega)] at hwi; exact absurd hwi (by simp)
      · by_cases hc : spLose W ws m ≤ wsum ws m
        · rw [Int.max_eq_right hc]
          refine ⟨hb.1, ⟨m, by omega, hW, rfl⟩, fun i hi hwi => ?_⟩
          by_cases e : i = m
          · subst e; omega
          · have := h3 i (by omega) hwi; omega
        · rw [Int.max_eq_left (by omega)]
          refine ⟨h1, ⟨j, by omega, hj2, hj3⟩, fun i hi hwi => ?_⟩
          by_cases e : i = m
          · subst e; omega
          · exact h3 i (by omega) hwi
def spareV (q : Int) (ws : List Int) : Int × Int × Bool := if Zq q ws = true then (spWin (Ze q ws) ws (2 ^ ws.length) - q, q - spLose (Ze q ws) ws (2 ^ ws.length), true) else (0, 0, false)
theorem spare_bounds {q : Int} {ws : List Int} (h : ZM q ws) : (q ≤ spWin (Ze q ws) ws (2 ^ ws.length) ∧ spWin (Ze q ws) ws (2 ^ ws.length) ≤ ws.sum) ∧ (0 ≤ spLose (Ze q ws) ws (2 ^ ws.length) ∧ spLose (Ze q ws) ws (2 ^ ws.length) < q) := by
  have hp := h.pow
  constructor
  · rcases spWin_spec (Ze q ws) ws h.w0 (2 ^ ws.length) with ⟨_, h2⟩ | ⟨h1, ⟨j, hj, hj2, hj3⟩, h3⟩
    · have := h2 (2 ^ ws.length - 1) (by omega)
      rw [Zs q ws _ (by omega), wsum_full] at this
      have := h.qs
      simp at *
      omega
    · rw [Zs q ws j hj] at hj2
      have := ZK ws h.w0 j
      rw [← hj3]
      exact ⟨by simpa using hj2, this.2⟩
  · rcases spLose_spec (Ze q ws) ws h.w0 (2 ^ ws.length) with ⟨_, h2⟩ | ⟨h1, ⟨j, hj, hj2, hj3⟩, h3⟩
    · have := h2 0 (by omega)
      rw [Zs q ws _ (by omega), wsum_zero] at this
      have := h.q1
      simp at *
      omega
    · rw [Zs q ws j hj] at hj2
      refine ⟨h1, ?_⟩
      rw [← hj3]
      simpa using hj2
theorem fL.ev (q : Int) (ws : List Int) (hl : ws.length ≤ 9223372036854775807) : Ev (fun k => fL.f k q ws) (spareV q ws) := by
  simp only [fL.f]
  rw [Zb (fd.ev q ws hl)]
  unfold spareV
  cases hg : Zq q ws with
  | false => rw [Zc (by simp), Zf, if_neg (by simp)]
  | true =>
    have hG := (Zk q ws).1 hg
    have hp := hG.pow
    have hs := hG.sum
    have h4 := hG.qs
    have hb := spare_bounds hG
    rw [Za rfl, Zb (fF.ev q ws hG.l9 hG.wb), Zb (fv.ev _ (Ze q ws) ws (by rw [Zu]; omega) (by have := hG.l9; omega) hG.wb), Zf, if_pos rfl, Zu]
    rw [w64 (by omega) (by omega), w64 (by omega) (by omega)]
def moreV (q : Int) (ws : List Int) : Nat → Int
  | 0 => ws.sum - q
  | m + 1 => if q ≤ wsum ws m then min (moreV q ws m) (wsum ws m - q) else moreV q ws m
def lessV (q : Int) (ws : List Int) : Nat → Int
  | 0 => q
  | m + 1 => if q ≤ wsum ws m then lessV q ws m else min (lessV q ws m) (q - wsum ws m)
theorem more_spare {q : Int} {ws : List Int} (h : ZM q ws) : ∀ m, m ≤ 2 ^ ws.length → (spWin (Ze q ws) ws m = -1 ∧ moreV q ws m = ws.sum - q) ∨ (q ≤ spWin (Ze q ws) ws m ∧ spWin (Ze q ws) ws m ≤ ws.sum ∧ moreV q ws m = spWin (Ze q ws) ws m - q) := by
  intro m
  induction m with
  | zero => exact fun _ => .inl ⟨rfl, rfl⟩
  | succ m ih =>
    intro hm
    have hb := ZK ws h.w0 m
    have h1 := h.q1
    have h2 := h.qs
    simp only [spWin, moreV]
    rw [Zs q ws m (by omega)]
    by_cases hq : q ≤ wsum ws m
    · rw [if_pos (by simpa using hq), if_pos hq]
      right
      rcases ih (by omega) with ⟨e1, e2⟩ | ⟨e0, e3, e4⟩
      · rw [if_pos (.inl (by omega)), e2]
        omega
      · rw [e4]
        split <;> omega
    · rw [if_neg (by simpa using hq), if_neg hq]
      exact ih (by omega)
theorem less_spare {q : Int} {ws : List Int} (h : ZM q ws) : ∀ m, m ≤ 2 ^ ws.length → (spLose (Ze q ws) ws m = -1 ∧ lessV q ws m = q) ∨ (0 ≤ spLose (Ze q ws) ws m ∧ spLose (Ze q ws) ws m < q ∧ lessV q ws m = q - spLose (Ze q ws) ws m) := by
  intro m
  induction m with
  | zero => exact fun _ => .inl ⟨rfl, rfl⟩
  | succ m ih =>
    intro hm
    have hb := ZK ws h.w0 m
    have h1 := h.q1
    simp only [spLose, lessV]
    rw [Zs q ws m (by omega)]
    by_cases hq : q ≤ wsum ws m
    · rw [if_pos (by simpa using hq), if_pos hq]
      exact ih (by omega)
    · rw [if_neg (by simpa using hq), if_neg hq]
      right
      rcases ih (by omega) with ⟨e1, e2⟩ | ⟨e0, e3, e4⟩
      · rw [e1, e2]; omega
      · rw [e4]; omega
theorem ga.v (a b : Int) : ga.f a b = some (min a b) := by
  unfold ga.f
  split
  · rw [Int.min_eq_left (by omega)]
  · rw [Int.min_eq_right (by omega)]
theorem fW.ev_l (q : Int) (ws : List Int) (h : ZM q ws) : ∀ (d m : Nat), m + d = 2 ^ ws.length → Ev (fun k => fW.l0 k (moreV q ws m) (lessV q ws m) (Ze q ws) ((Ze q ws).length : Int) (m : Int) q ws) (moreV q ws (2 ^ ws.length), lessV q ws (2 ^ ws.length), true) := by
  have hp := h.pow
  have hs := h.sum
  have h1 := h.q1
  have h2 := h.qs
  intro d
  induction d with
  | zero =>
    intro m hm
    refine Zd ?_
    simp only [fW.l0]
    rw [Zu, Zc (by omega), Zf, show m = 2 ^ ws.length by omega]
  | succ d ih =>
    intro m hm
    refine Zd ?_
    simp only [fW.l0]
    have hlt : m < 2 ^ ws.length := by omega
    have hb := ZK ws h.w0 m
    have hn := ih (m + 1) (by omega)
    have hr : rdOf false (Ze q ws) (m : Int) = decide (q ≤ wsum ws m) := by rw [Yc, Zs q ws m hlt]
    rw [Zu] at hn ⊢
    have hwr : ZN ((m : Int) + 1) = ((m + 1 : Nat) : Int) := by rw [w64i (n := 512) (by omega) (by omega) (by omega)]; omega
    rw [Za (by omega), Za (by omega), Za (by omega), Zb (fx.ev q ws m (by omega) (by have := h.l9; omega) h.wb), hr]
    simp only [moreV, lessV] at hn
    by_cases hq : q ≤ wsum ws m
    · rw [if_pos hq, if_pos hq] at hn
      rw [Za (by simpa using hq), w64 (by omega) (by omega), Zb (Zx (ga.v _ _)), hwr]
      exact hn
    · rw [if_neg hq, if_neg hq] at hn
      rw [Zc (by simpa using hq), w64 (by omega) (by omega), Zb (Zx (ga.v _ _)), hwr]
      exact hn
theorem fW.ev (q : Int) (ws : List Int) (hl : ws.length ≤ 9223372036854775807) : Ev (fun k => fW.f k q ws) (spareV q ws) := by
  simp only [fW.f]
  rw [Zb (fi.ev q ws hl)]
  unfold spareV
  cases hg : Zq q ws with
  | false => rw [Zc (by simp), Zf, if_neg (by simp)]
  | true =>
    have hG := (Zk q ws).1 hg
    have hp := hG.pow
    have hs := hG.sum
    have h1 := hG.q1
    have h2 := hG.qs
    have hb := spare_bounds hG
    rw [Za rfl, Zb (fq.ev ws hl), Zb (fw.ev q ws hG.l9 hG.wb), if_pos rfl]
    rw [wfold_sum ws 0 (fun x hx => by have := hG.w x hx; omega) (by omega) (by have := hG.l9; omega), Yh, w64 (by omega) (by omega)]
    have hm := more_spare hG (2 ^ ws.length) (ZG _)
    have hle := less_spare hG (2 ^ ws.length) (ZG _)
    have e1 : moreV q ws (2 ^ ws.length) = spWin (Ze q ws) ws (2 ^ ws.length) - q := by
      rcases hm with ⟨a, _⟩ | ⟨_, _, c⟩
      · omega
      · exact c
    have e2 : lessV q ws (2 ^ ws.length) = q - spLose (Ze q ws) ws (2 ^ ws.length) := by
      rcases hle with ⟨a, _⟩ | ⟨_, _, c⟩
      · omega
      · exact c
    rw [← e1, ← e2]
    exact fW.ev_l q ws hG (2 ^ ws.length) 0 (by omega)
def swingM (W : List Bool) (m i : Nat) : Bool := decide (m / 2 ^ i % 2 = 0) && !(W.getD m false) && W.getD (m + 2 ^ i) false
theorem bit_add_lt (n m i : Nat) (hi : i < n) (hm : m < 2 ^ n) (hb : m / 2 ^ i % 2 = 0) : m + 2 ^ i < 2 ^ n := by
  have e : 2 ^ n = 2 ^ i * 2 ^ (n - i) := by rw [← Nat.pow_add]; congr 1; omega
  have e2 : 2 ^ (n - i) = 2 * 2 ^ (n - i - 1) := by rw [← Nat.pow_succ']; congr 1; omega
  have h1 : m / 2 ^ i < 2 ^ (n - i) := by rw [Nat.div_lt_iff_lt_mul (Zm i), Nat.mul_comm, ← e]; exact hm
  have h2 : m / 2 ^ i + 1 < 2 ^ (n - i) := by omega
  have h3 : m < 2 ^ i * (m / 2 ^ i + 1) := by
    have := Nat.lt_mul_div_succ m (Zm i)
    exact this
  have h4 : 2 ^ i * (m / 2 ^ i + 1 + 1) ≤ 2 ^ i * 2 ^ (n - i) := Nat.mul_le_mul_left _ (by omega)
  rw [Nat.mul_add, Nat.mul_one] at h4
  omega
theorem gO.vM (n : Int) (W : List Bool) (N m i : Nat) (hN : N ≤ 19) (hW : W.length = 2 ^ N) (hm : m < 2 ^ N) (hi : i < N) : gO.f n W (m : Int) (i : Int) = some (swingM W m i) := by
  have hp : 2 ^ N ≤ 2 ^ 19 := Zh (by omega) hN
  have hpi : 2 ^ i ≤ 2 ^ 19 := Zh (by omega) (by omega)
  have h0i : 0 < 2 ^ i := Zm i
  unfold gO.f swingM
  rw [fC.v m i (by omega) (by omega), Zi]
  by_cases hb : m / 2 ^ i % 2 = 1
  · rw [if_pos (by simpa using hb)]
    simp [hb]
  · have hb0 : m / 2 ^ i % 2 = 0 := by omega
    have hlt := bit_add_lt N m i hi hm hb0
    rw [if_neg (by simpa using hb), if_pos (by omega), if_pos (by omega), Yc]
    cases hw : W.getD m false with
    | true => simp
    | false =>
      rw [if_neg (by simp), if_pos (by omega), shl_one i (by omega), or_nat m (2 ^ i) (by omega) (by omega), or_pow i m hb0, if_pos (by omega), if_pos (by omega), Yc]
      simp [hb0]
def lackV (W : List Bool) (q : Int) (out : List Int) (i : Nat) : Nat → Int
  | 0 => 0
  | m + 1 => if swingM W m i = true then max (lackV W q out i m) (q - wsum out m) else lackV W q out i m
def spareI (W : List Bool) (q : Int) (out : List Int) (i : Nat) : Nat → Int
  | 0 => out.getD i 0
  | m + 1 => if W.getD m false = true ∧ m / 2 ^ i % 2 = 1 then min (spareI W q out i m) (wsum out m - q) else spareI W q out i m
theorem lackV_spec (W : List Bool) (q : Int) (out : List Int) (i : Nat) : ∀ m, 0 ≤ lackV W q out i m ∧ (∀ j, j < m → swingM W j i = true → q - wsum out j ≤ lackV W q out i m) ∧ (lackV W q out i m = 0 ∨ ∃ j, j < m ∧ swingM W j i = true ∧ lackV W q out i m = q - wsum out j) := by
  intro m
  induction m with
  | zero => exact ⟨Yq 0, fun j hj => absurd hj (Ye j), .inl rfl⟩
  | succ m ih =>
    obtain ⟨h1, h2, h3⟩ := ih
    simp only [lackV]
    cases hs : swingM W m i with
    | false =>
      rw [if_neg (by simp)]
      refine ⟨h1, fun j hj hsj => ?_, ?_⟩
      · by_cases e : j = m
        · subst e; rw [hs] at hsj; exact absurd hsj (by simp)
        · exact h2 j (by omega) hsj
      · rcases h3 with h3 | ⟨j, hj, h4, h5⟩
        · exact .inl h3
        · exact .inr ⟨j, by omega, h4, h5⟩
    | true =>
      rw [if_pos rfl]
      refine ⟨by omega, fun j hj hsj => ?_, ?_⟩
      · by_cases e : j = m
        · subst e; omega
        · have := h2 j (by omega) hsj; omega
      · rcases Int.le_total (lackV W q out i m) (q - wsum out m) with hc | hc
        · rw [Int.max_eq_right hc]; exact .inr ⟨m, by omega, hs, rfl⟩
        · rw [Int.max_eq_left hc]
          rcases h3 with h3 | ⟨j, hj, h4, h5⟩
          · exact .inl h3
          · exact .inr ⟨j, by omega, h4, h5⟩
theorem spareI_spec (W : List Bool) (q : Int) (out : List Int) (i : Nat) : ∀ m, spareI W q out i m ≤ out.getD i 0 ∧ (∀ j, j < m → W.getD j false = true → j / 2 ^ i % 2 = 1 → spareI W q out i m ≤ wsum out j - q) ∧ (spareI W q out i m = out.getD i 0 ∨ ∃ j, j < m ∧ W.getD j false = true ∧ j / 2 ^ i % 2 = 1 ∧ spareI W q out i m = wsum out j - q) := by
  intro m
  induction m with
  | zero => exact ⟨Yq _, fun j hj => absurd hj (Ye j), .inl rfl⟩
  | succ m ih =>
    obtain ⟨h1, h2, h3⟩ := ih
    simp only [spareI]
    by_cases hs : W.getD m false = true ∧ m / 2 ^ i % 2 = 1
    · rw [if_pos hs]
      refine ⟨by omega, fun j hj hw hb => ?_, ?_⟩
      · by_cases e : j = m
        · subst e; omega
        · have := h2 j (by omega) hw hb; omega
      · rcases Int.le_total (spareI W q out i m) (wsum out m - q) with hc | hc
        · rw [Int.min_eq_left hc]
          rcases h3 with h3 | ⟨j, hj, h4, h5, h6⟩
          · exact .inl h3
          · exact .inr ⟨j, by omega, h4, h5, h6⟩
        · rw [Int.min_eq_right hc]; exact .inr ⟨m, by omega, hs.1, hs.2, rfl⟩
    · rw [if_neg hs]
      refine ⟨h1, fun j hj hw hb => ?_, ?_⟩
      · by_cases e : j = m
        · subst e; exact absurd ⟨hw, hb⟩ hs
        · exact h2 j (by omega) hw hb
      · rcases h3 with h3 | ⟨j, hj, h4, h5, h6⟩
        · exact .inl h3
        · exact .inr ⟨j, by omega, h4, h5, h6⟩
/-- What holds of the weights while they are lowered. -/
structure LowInv (W : List Bool) (q : Int) (n : Nat) (out : List Int) : Prop where
  len : out.length = n
  w : ∀ x ∈ out, 0 ≤ x ∧ x ≤ 1000
  win : ∀ m, m < 2 ^ n → W.getD m false = true → q ≤ wsum out m
theorem bit_sub (m i : Nat) (hb : m / 2 ^ i % 2 = 1) : ∃ m', m = m' + 2 ^ i ∧ m' / 2 ^ i % 2 = 0 := by
  have h0 : 0 < 2 ^ i := Zm i
  have h1 : 2 ^ i ≤ m := by
    by_cases h : 2 ^ i ≤ m
    · exact h
    · rw [Z6 (by omega)] at hb; simp at hb
  refine ⟨m - 2 ^ i, by omega, ?_⟩
  have e : m / 2 ^ i = (m - 2 ^ i) / 2 ^ i + 1 := by
    have := Nat.add_div_right (m - 2 ^ i) h0
    rw [Yg h1] at this
    exact this
  omega
theorem lack_spare {W : List Bool} {q : Int} {n : Nat} {out : List Int} (h : LowInv W q n out) (i : Nat) (hi : i < n) : lackV W q out i (2 ^ n) = out.getD i 0 - spareI W q out i (2 ^ n) ∧ 0 ≤ spareI W q out i (2 ^ n) := by
  have hio : i < out.length := by rw [h.len]; exact hi
  have hgd : out.getD i 0 = out[i] := by simp [hio]
  have hoi := h.w out[i] (Zl hio)
  obtain ⟨a1, a2, a3⟩ := lackV_spec W q out i (2 ^ n)
  obtain ⟨b1, b2, b3⟩ := spareI_spec W q out i (2 ^ n)
  rw [hgd] at b1 b3 ⊢
  have hsp : 0 ≤ spareI W q out i (2 ^ n) := by
    rcases b3 with e | ⟨j, hj, hw, _, e⟩
    · omega
    · have := h.win j hj hw; omega
  have hge : lackV W q out i (2 ^ n) ≤ out[i] - spareI W q out i (2 ^ n) := by
    rcases a3 with e | ⟨j, hj, hs, e⟩
    · omega
    · simp only [swingM, ZO, decide_eq_true_eq, Yy] at hs
      obtain ⟨⟨hb, _⟩, hw⟩ := hs
      have hlt := bit_add_lt n j i hi hj hb
      have hb1 : (j + 2 ^ i) / 2 ^ i % 2 = 1 := by rw [Nat.add_div_right _ (Zm i)]; omega
      have := b2 (j + 2 ^ i) hlt hw hb1
      rw [wsum_add out i j hio hb] at this
      omega
  have hle : out[i] - spareI W q out i (2 ^ n) ≤ lackV W q out i (2 ^ n) := by
    rcases b3 with e | ⟨j, hj, hw, hb, e⟩
    · omega
    · obtain ⟨j', rfl, hb'⟩ := bit_sub j i hb
      have h0i : 0 < 2 ^ i := Zm i
      rw [wsum_add out i j' hio hb'] at e
      cases hwj : W.getD j' false with
      | true =>
        have := h.win j' (by omega) hwj
        omega
      | false =>
        have hs : swingM W j' i = true := by simp only [swingM, hb', hwj, hw]; rfl
        have := a2 j' (by omega) hs
        omega
  exact ⟨by omega, hsp⟩
theorem LowInv.step {W : List Bool} {q : Int} {n : Nat} {out : List Int} (h : LowInv W q n out) (i : Nat) (hi : i < n) : LowInv W q n (out.set i (lackV W q out i (2 ^ n))) := by
  have hio : i < out.length := by rw [h.len]; exact hi
  have hgd : out.getD i 0 = out[i] := by simp [hio]
  have hoi := h.w out[i] (Zl hio)
  obtain ⟨e, hs⟩ := lack_spare h i hi
  obtain ⟨b1, b2, _⟩ := spareI_spec W q out i (2 ^ n)
  have hl0 := (lackV_spec W q out i (2 ^ n)).1
  rw [hgd] at e b1
  refine ⟨by simpa using h.len, fun x hx => ?_, fun m hm hw => ?_⟩
  · rcases List.mem_or_eq_of_mem_set hx with hx | rfl
    · exact h.w x hx
    · omega
  · rw [wsum_set out _ i m hio]
    have h1 := h.win m hm hw
    by_cases hb : m / 2 ^ i % 2 = 1
    · rw [if_pos hb]
      have := b2 m hm hw hb
      omega
    · rw [if_neg hb]; omega
def lowN (W : List Bool) (q : Int) (ws : List Int) : Nat → List Int
  | 0 => ws
  | i + 1 => (lowN W q ws i).set i (lackV W q (lowN W q ws i) i (2 ^ ws.length))
theorem lowN_inv {q : Int} {ws : List Int} (h : ZM q ws) : ∀ i, i ≤ ws.length → LowInv (Ze q ws) q ws.length (lowN (Ze q ws) q ws i) := by
  intro i
  induction i with
  | zero =>
    intro _
    refine ⟨rfl, h.w, fun m hm hw => ?_⟩
    rw [Zs q ws m hm] at hw
    show q ≤ wsum ws m
    simpa using hw
  | succ i ih => exact fun hi => (ih (by omega)).step i (by omega)
def lowV (q : Int) (ws : List Int) : Int × List Int × Bool := if Zq q ws = true then (q, lowN (Ze q ws) q ws ws.length, true) else (0, [], false)
theorem LowInv.wb {W : List Bool} {q : Int} {n : Nat} {out : List Int} (h : LowInv W q n out) : ∀ x ∈ out, 0 ≤ x ∧ x ≤ 1000000000 := fun x hx => by have := h.w x hx; omega
theorem LowInv.sum {W : List Bool} {q : Int} {n : Nat} {out : List Int} (h : LowInv W q n out) (hn : n ≤ 9) (m : Nat) : 0 ≤ wsum out m ∧ wsum out m ≤ 9000 := by
  have h1 := ZK out (fun x hx => (h.w x hx).1) m
  have h2 := sum_bounds out 1000 h.w
  have h3 := h.len
  omega
theorem fg.ev_l1 (q : Int) (W : List Bool) (n i : Nat) (out : List Int) (r : Int × List Int × Bool) (hn : n ≤ 9) (hi : i < n) (hq : 0 ≤ q ∧ q ≤ 9000) (hW : W.length = 2 ^ n) (h : LowInv W q n out)
    (h0 : Ev (fun k => fg.l0 k (n : Int) ((i + 1 : Nat) : Int) (n : Int) W q (out.set i (lackV W q out i (2 ^ n)))) r) : ∀ (d m : Nat), m + d = 2 ^ n → Ev (fun k => fg.l1 k (i : Int) (lackV W q out i m) (n : Int) (i : Int) (W.length : Int) (m : Int) (n : Int) W q out) r := by
  have hp : 2 ^ n ≤ 2 ^ 9 := Zh (by omega) hn
  intro d
  induction d with
  | zero =>
    intro m hm
    refine Zd ?_
    simp only [fg.l1]
    have hwr : ZN ((i : Int) + 1) = ((i + 1 : Nat) : Int) := by rw [w64i (n := 9) (by omega) (by omega) (by omega)]; omega
    rw [Zc (by omega), Za (by omega), Za (by have := h.len; omega), hwr, Zw, show m = 2 ^ n by omega]
    exact h0
  | succ d ih =>
    intro m hm
    refine Zd ?_
    simp only [fg.l1]
    have hwr : ZN ((m : Int) + 1) = ((m + 1 : Nat) : Int) := by rw [w64i (n := 512) (by omega) (by omega) (by omega)]; omega
    have hx := ih (m + 1) (by omega)
    have hb := h.sum hn m
    rw [Za (by omega), Zb (Zx (gO.vM _ W n m i (by omega) hW (by omega) hi)), hwr]
    simp only [lackV] at hx
    cases hs : swingM W m i with
    | true =>
      rw [hs, if_pos rfl] at hx
      rw [Za rfl, Zb (fI.ev q out m (by omega) (by have := h.len; omega) h.wb), w64 (by omega) (by omega), mx_eq]
      exact hx
    | false =>
      rw [hs, if_neg (by simp)] at hx
      rw [Zc (by simp)]
      exact hx
theorem fg.ev_l0 (q : Int) (ws : List Int) (h : ZM q ws) : ∀ (d i : Nat), i + d = ws.length → Ev (fun k => fg.l0 k (ws.length : Int) (i : Int) (ws.length : Int) (Ze q ws) q (lowN (Ze q ws) q ws i)) (q, lowN (Ze q ws) q ws ws.length, true) := by
  intro d
  induction d with
  | zero =>
    intro i hi
    refine Zd ?_
    simp only [fg.l0]
    rw [Zc (by omega), Zf, show i = ws.length by omega]
  | succ d ih =>
    intro i hi
    refine Zd ?_
    simp only [fg.l0]
    rw [Za (by omega)]
    have hs := h.sum
    have h1 := h.q1
    have h2 := h.qs
    exact fg.ev_l1 q (Ze q ws) ws.length i _ _ h.l9 (by omega) (by omega) (Zu q ws) (lowN_inv h i (by omega)) (ih (i + 1) (by omega)) (2 ^ ws.length) 0 (by omega)
theorem fg.ev (q : Int) (ws : List Int) (hl : ws.length ≤ 9223372036854775807) : Ev (fun k => fg.f k q ws) (lowV q ws) := by
  simp only [fg.f]
  rw [Zb (fd.ev q ws hl)]
  unfold lowV
  cases hg : Zq q ws with
  | false => rw [Zc (by simp), Zf, if_neg (by simp)]
  | true =>
    have hG := (Zk q ws).1 hg
    rw [Za rfl, Zb (fF.ev q ws hG.l9 hG.wb), Zb (Zx (sd.v ws (by have := hG.l9; omega))), if_pos rfl]
    exact fg.ev_l0 q ws hG ws.length 0 (by omega)
theorem lack_val {W : List Bool} {q : Int} {n : Nat} {out : List Int} (h : LowInv W q n out) (i : Nat) (hi : i < n) : ZN (out.getD i 0 - spareI W q out i (2 ^ n)) = lackV W q out i (2 ^ n) := by
  have hio : i < out.length := by rw [h.len]; exact hi
  have hgd : out.getD i 0 = out[i] := by simp [hio]
  have hoi := h.w out[i] (Zl hio)
  obtain ⟨e, hs0⟩ := lack_spare h i hi
  have hs1 := (spareI_spec W q out i (2 ^ n)).1
  generalize spareI W q out i (2 ^ n) = x at *
  generalize lackV W q out i (2 ^ n) = y at *
  rw [hgd] at *
  rw [e]
  exact w64 (by omega) (by omega)
theorem fe.ev_l1 (q : Int) (W : List Bool) (n i : Nat) (out : List Int) (r : Int × List Int × Bool) (hn : n ≤ 9) (hi : i < n) (hq : 0 ≤ q ∧ q ≤ 9000) (hW : W.length = 2 ^ n) (h : LowInv W q n out)
    (h0 : Ev (fun k => fe.l0 k W (n : Int) ((i + 1 : Nat) : Int) q (out.set i (lackV W q out i (2 ^ n)))) r) : ∀ (d m : Nat), m + d = 2 ^ n → Ev (fun k => fe.l1 k W (i : Int) (spareI W q out i m) (n : Int) (i : Int) W (W.length : Int) (m : Int) q out) r := by
  have hp : 2 ^ n ≤ 2 ^ 9 := Zh (by omega) hn
  have hio : i < out.length := by rw [h.len]; exact hi
  have HV := Aside0.mk (lack_val h i hi)
  intro d
  induction d with
  | zero =>
    intro m hm
    refine Zd ?_
    simp only [fe.l1]
    have hwr : ZN ((i : Int) + 1) = ((i + 1 : Nat) : Int) := by rw [w64i (n := 9) (by omega) (by omega) (by omega)]; omega
    rw [Zc (by omega), Za (by omega), Za (by omega), hwr, Zw, rd_nat, show m = 2 ^ n by omega, HV.out]
    exact h0
  | succ d ih =>
    intro m hm
    refine Zd ?_
    simp only [fe.l1]
    have hwr : ZN ((m : Int) + 1) = ((m + 1 : Nat) : Int) := by rw [w64i (n := 512) (by omega) (by omega) (by omega)]; omega
    have hx := ih (m + 1) (by omega)
    have hb := h.sum hn m
    have hbit : (Yz (shr .i64 (m : Int) (i : Int)) 2 == 1) = decide (m / 2 ^ i % 2 = 1) := by
      rw [se m i (by omega) (by omega)]
      by_cases e : m / 2 ^ i % 2 = 1
      · simp [e]
      · have : m / 2 ^ i % 2 = 0 := by omega
        simp [this]
    rw [Za (by omega), Za (by omega), Za (by omega), Yc]
    simp only [spareI] at hx
    cases hw : W.getD m false with
    | true =>
      rw [hw] at hx
      rw [Za rfl, Za (by omega), hbit]
      refine Zd ?_
      simp only [fe.j2]
      by_cases hbb : m / 2 ^ i % 2 = 1
      · rw [if_pos ⟨rfl, hbb⟩] at hx
        rw [Za (by simpa using hbb), Zb (fx.ev q out m (by omega) (by have := h.len; omega) h.wb), w64 (by omega) (by omega), Zb (Zx (ga.v _ _)), hwr]
        exact hx
      · rw [if_neg (by simp [hbb])] at hx
        rw [Zc (by simpa using hbb), hwr]
        exact hx
    | false =>
      rw [hw, if_neg (by simp)] at hx
      rw [Zc (by simp)]
      refine Zd ?_
      simp only [fe.j2]
      rw [Zc (by simp), hwr]
      exact hx
theorem fe.ev_l0 (q : Int) (ws : List Int) (h : ZM q ws) : ∀ (d i : Nat), i + d = ws.length → Ev (fun k => fe.l0 k (Ze q ws) (ws.length : Int) (i : Int) q (lowN (Ze q ws) q ws i)) (q, lowN (Ze q ws) q ws ws.length, true) := by
  intro d
  induction d with
  | zero =>
    intro i hi
    refine Zd ?_
    simp only [fe.l0]
    rw [Zc (by omega), Zf, show i = ws.length by omega]
  | succ d ih =>
    intro i hi
    refine Zd ?_
    simp only [fe.l0]
    have hv := lowN_inv h i (by omega)
    rw [Za (by omega), Za (by omega), Za (by have := hv.len; omega), rd_nat]
    have hs := h.sum
    have h1 := h.q1
    have h2 := h.qs
    exact fe.ev_l1 q (Ze q ws) ws.length i _ _ h.l9 (by omega) (by omega) (Zu q ws) hv (ih (i + 1) (by omega)) (2 ^ ws.length) 0 (by omega)
theorem fe.ev (q : Int) (ws : List Int) (hl : ws.length ≤ 9223372036854775807) : Ev (fun k => fe.f k q ws) (lowV q ws) := by
  simp only [fe.f]
  rw [Zb (fi.ev q ws hl)]
  unfold lowV
  cases hg : Zq q ws with
  | false => rw [Zc (by simp), Zf, if_neg (by simp)]
  | true =>
    have hG := (Zk q ws).1 hg
    rw [Za rfl, Zb (fw.ev q ws hG.l9 hG.wb), Zb (Zx (sa.v ws (by have := hG.l9; omega))), if_pos rfl]
    exact fe.ev_l0 q ws hG ws.length 0 (by omega)
theorem lowV_len (q : Int) (ws : List Int) : (lowV q ws).2.1.length ≤ 9 := by
  unfold lowV
  split
  · next h =>
    have hG := (Zk q ws).1 h
    have := (lowN_inv hG ws.length (ZG _)).len
    have := hG.l9
    simp; omega
  · simp
theorem fQ.ev_l (l : List Int) (a : Int) (hl : l.length ≤ 9223372036854775807) : ∀ (d i : Nat), i + d = l.length → Ev (fun k => fQ.l0 k a l (l.length : Int) (i : Int)) ((l.drop i).contains a) := by
  intro d
  induction d with
  | zero =>
    intro i h
    refine Zd ?_
    simp only [fQ.l0]
    rw [Zc (by omega), Zf, Zn (by omega)]
    rfl
  | succ d ih =>
    intro i h
    refine Zd ?_
    simp only [fQ.l0]
    have hi : i < l.length := by omega
    rw [Za (by omega), Za (by omega), Za (by omega), Z9 l i hi, w64i (n := l.length) (by omega) (by omega) hl, Zy hi, List.contains_cons]
    by_cases c : l[i] = a
    · rw [Za c, Zf, c, beq_self_eq_true, Bool.true_or]
    · rw [Zc c, beq_eq_false_iff_ne.2 (fun h => c h.symm), Bool.false_or]
      exact ih (i + 1) (by omega)
theorem fQ.ev (l : List Int) (a : Int) (hl : l.length ≤ 9223372036854775807) : Ev (fun k => fQ.f k l a) (l.contains a) := fQ.ev_l l a hl l.length 0 (by omega)
theorem gc.ev_l (a b : List Int) (hl : a.length ≤ 9223372036854775807) (hab : a.length = b.length) : ∀ (d i : Nat), i + d = a.length → Ev (fun k => gc.l0 k a b (a.length : Int) (i : Int)) (decide (a.drop i = b.drop i)) := by
  intro d
  induction d with
  | zero =>
    intro i h
    refine Zd ?_
    simp only [gc.l0]
    rw [Zc (by omega), Zf, Zn (by omega), Zn (by omega)]
    rfl
  | succ d ih =>
    intro i h
    refine Zd ?_
    simp only [gc.l0]
    have hi : i < a.length := by omega
    have hib : i < b.length := by omega
    have e : decide (a.drop i = b.drop i) = (decide (a[i] = b[i]) && decide (a.drop (i + 1) = b.drop (i + 1))) := by
      rw [Zy hi, Zy hib, ZS]
      simp only [ZO, decide_eq_true_eq, List.cons.injEq]
    rw [Za (by omega), Za (by omega), Za (by omega), Za (by omega), Z9 a i hi, Z9 b i hib, w64i (n := a.length) (by omega) (by omega) hl, e]
    by_cases c : a[i] = b[i]
    · rw [Za c, decide_eq_true c, Z2]
      exact ih (i + 1) (by omega)
    · rw [Zc c, Zf, decide_eq_false c]
      rfl
theorem gc.ev (a b : List Int) (hl : a.length ≤ 9223372036854775807) : Ev (fun k => gc.f k a b) (decide (a = b)) := by
  simp only [gc.f]
  by_cases c : (a.length : Int) = (b.length : Int)
  · rw [Za c]
    exact gc.ev_l a b hl (by omega) a.length 0 (by omega)
  · rw [Zc c, Zf, decide_eq_false (fun h => c (by rw [h]))]
theorem fl.ev_same (q : Int) (ws : List Int) (hl : ws.length ≤ 9223372036854775807) : Ev (fun k => fl.f k q ws q ws) true := by
  have h := gc.ev ws ws hl
  rw [decide_eq_true rfl] at h
  show Ev (fun k => if q = q then (gc.f k ws ws).bind fun t => some t else some false) true
  rw [Za rfl, Zb h, Zf]
theorem cnt_sum (P : Nat → Bool) : ∀ N, ((Zj N).filter P).length = ((Zj N).map fun m => if P m = true then 1 else 0).sum := by
  intro N
  induction N with
  | zero => rfl
  | succ N ih =>
    rw [ZF, ZI, Zz, ih, ZQ, Ya]
    by_cases h : P N = true
    · simp [h]
    · simp [h]
def cntR (q : Int) : List Int → Nat
  | [] => if q ≤ 0 then 1 else 0
  | w :: ws => cntR q ws + cntR (q - w) ws
theorem cntR_perm {l l' : List Int} (h : l.Perm l') : ∀ q, cntR q l = cntR q l' := by
  induction h with
  | nil => intro q; rfl
  | cons x _ ih => intro q; simp only [cntR, ih]
  | swap x y l =>
    intro q
    simp only [cntR]
    rw [show q - y - x = q - x - y by omega]
    omega
  | trans _ _ h1 h2 => intro q; rw [h1, h2]
theorem even_odd_sum (f : Nat → Nat) : ∀ N, ((Zj (2 * N)).map f).sum = ((Zj N).map fun m => f (2 * m) + f (2 * m + 1)).sum := by
  intro N
  induction N with
  | zero => rfl
  | succ N ih =>
    rw [show 2 * (N + 1) = 2 * N + 1 + 1 by omega, ZF, ZF, ZQ, ZQ, Ya, Ya, ih, ZF, ZQ, Ya]
    simp only [Yv, List.map_nil, ZU, List.sum_nil]
    omega
theorem cnt_rec : ∀ (ws : List Int) (q : Int), ((Zj (2 ^ ws.length)).map fun m => if decide (q ≤ wsum ws m) = true then 1 else 0).sum = cntR q ws := by
  intro ws
  induction ws with
  | nil =>
    intro q
    by_cases h : q ≤ 0 <;> simp [cntR, wsum, h]
  | cons w ws ih =>
    intro q
    rw [Ys, Yx, Nat.mul_comm, even_odd_sum, cntR, ← ih q, ← ih (q - w)]
    have e : ∀ m, ((if decide (q ≤ wsum (w :: ws) (2 * m)) = true then 1 else 0) + if decide (q ≤ wsum (w :: ws) (2 * m + 1)) = true then 1 else 0) = (if decide (q ≤ wsum ws m) = true then 1 else 0) + if decide (q - w ≤ wsum ws m) = true then 1 else 0 := by
      intro m
      have e1 : wsum (w :: ws) (2 * m) = wsum ws m := by
        show (if 2 * m % 2 = 1 then w else 0) + wsum ws (2 * m / 2) = _
        rw [if_neg (by omega), show 2 * m / 2 = m by omega]
        omega
      have e2 : wsum (w :: ws) (2 * m + 1) = w + wsum ws m := by
        show (if (2 * m + 1) % 2 = 1 then w else 0) + wsum ws ((2 * m + 1) / 2) = _
        rw [if_pos (by omega), show (2 * m + 1) / 2 = m by omega]
      rw [e1, e2]
      congr 1
      by_cases c : q - w ≤ wsum ws m
      · rw [decide_eq_true c, decide_eq_true (by omega)]
      · rw [decide_eq_false c, decide_eq_false (by omega)]
    have h2 : ∀ (L : List Nat), (L.map fun m => (if decide (q ≤ wsum (w :: ws) (2 * m)) = true then 1 else 0) + if decide (q ≤ wsum (w :: ws) (2 * m + 1)) = true then 1 else 0).sum = (L.map fun m => if decide (q ≤ wsum ws m) = true then 1 else 0).sum + (L.map fun m => if decide (q - w ≤ wsum ws m) = true then 1 else 0).sum := by
      intro L
      induction L with
      | nil => rfl
      | cons a L ih2 =>
        simp only [Yv, ZU, e] at ih2 ⊢
        omega
    exact h2 _
theorem cntW_rec (q : Int) (ws : List Int) : cntW (Ze q ws) = ((cntR q ws : Nat) : Int) := by
  rw [cntW_range, cnt_sum, Zu, ← cnt_rec]
  congr 2
  refine Yb (fun m hm => ?_)
  rw [Zs q ws m (Zt.1 hm)]
theorem cntW_perm {q : Int} {ws ws' : List Int} (h : ws.Perm ws') : cntW (Ze q ws) = cntW (Ze q ws') := by rw [cntW_rec, cntW_rec, cntR_perm h]
theorem cntR_zero : ∀ (ws : List Int) (q : Int), (∀ x ∈ ws, 0 ≤ x) → ws.sum < q → cntR q ws = 0
  | [], q, _, h => by
    simp only [List.sum_nil] at h
    rw [cntR, if_neg (by omega)]
  | w :: ws, q, h0, h => by
    rw [ZU] at h
    have hw := h0 w (by simp)
    rw [cntR, cntR_zero ws q (fun x hx => h0 x (by simp [hx])) (by omega), cntR_zero ws (q - w) (fun x hx => h0 x (by simp [hx])) (by omega)]
theorem veto_count {q : Int} {ws : List Int} (h : ZM q ws) : cntW (Ze (q + ws.sum) (ws ++ [ws.sum])) = cntW (Ze q ws) := by
  have h1 := h.q1
  rw [cntW_perm (Z5 ws.sum ws), cntW_rec, cntW_rec, cntR, cntR_zero ws (q + ws.sum) h.w0 (by omega), show q + ws.sum - ws.sum = q by omega, Nat.zero_add]
theorem dummy_count (q : Int) (ws : List Int) : cntW (Ze q (ws ++ [0])) = 2 * cntW (Ze q ws) := by
  rw [cntW_perm (Z5 (0 : Int) ws), cntW_rec, cntW_rec, cntR, Int.sub_zero]
  omega
theorem veto_new {q : Int} {ws : List Int} (h : ZM q ws) : vetoB (q + ws.sum) (ws ++ [ws.sum]) ws.length = true := by
  have h1 := h.q1
  unfold vetoB
  rw [Zr, List.getElem?_append_right (ZG _), Nat.sub_self, List.sum_append_int]
  simp
  omega
theorem dummy_new {q : Int} {ws : List Int} (hc : ZM q (ws ++ [0])) : dumB q (ws ++ [0]) ws.length = true := by
  have hl : (ws ++ [(0 : Int)]).length = ws.length + 1 := by simp
  rw [dumB_iff hc _ (by omega)]
  intro m hm hlm
  cases hb : m.testBit ws.length with
  | false => rfl
  | true =>
    exfalso
    obtain ⟨h1, h2⟩ := leastB_bits hlm
    have h3 := h2 ws.length (by omega) hb
    have hge := pow_le_of_bit hb
    rw [Zs q _ m hm] at h1
    rw [Zs q _ (m - 2 ^ ws.length) (ZH (Nat.sub_le _ _) hm), wsum_out _ m ws.length (by omega) (by rw [bitB_test]; exact hb)] at h3
    have e : (ws ++ [(0 : Int)])[ws.length]'(by omega) = 0 := by simp
    rw [e, Int.sub_zero, h1] at h3
    cases h3
theorem even_sum_all : ((Zj 10).all fun n => (Zj (2 ^ n)).all fun m => decide (wsum (Zp n 1) m = ((popN m : Nat) : Int))) = true := by decide +kernel
theorem even_sum {n m : Nat} (hn : n ≤ 9) (hm : m < 2 ^ n) : wsum (Zp n 1) m = ((popN m : Nat) : Int) := by
  have h := ZW.1 even_sum_all n (Zt.2 (by omega))
  exact of_decide_eq_true (ZW.1 h m (Zt.2 hm))
theorem even_some_all : ((Zj 10).all fun n => (Zj (n + 1)).all fun s => decide (2 ^ s - 1 < 2 ^ n) && decide (popN (2 ^ s - 1) = s)) = true := by decide +kernel
theorem even_some {n s : Nat} (hn : n ≤ 9) (hs : s ≤ n) : 2 ^ s - 1 < 2 ^ n ∧ popN (2 ^ s - 1) = s := by
  have h := ZW.1 (ZW.1 even_some_all n (Zt.2 (by omega))) s (Zt.2 (by omega))
  simp only [ZO, decide_eq_true_eq] at h
  exact h
theorem even_heads {n s : Nat} {need : Int} (hn : n ≤ 9) (hs : s ≤ n) : decide (cntO (Ze need (Zp n 1)) (s : Int) > 0) = decide ((s : Int) ≥ need) := by
  have hl : (Ze need (Zp n (1 : Int))).length = 2 ^ n := by rw [Zu, ZC]
  have hg : ∀ m, m < 2 ^ n → (Ze need (Zp n (1 : Int))).getD m false = decide (need ≤ ((popN m : Nat) : Int)) := fun m hm => by
    rw [Zs _ _ m (by rw [ZC]; exact hm), even_sum hn hm]
  rw [ZS, decide_eq_true_eq, decide_eq_true_eq]
  unfold cntO
  rw [hl]
  constructor
  · intro h
    obtain ⟨m, hm⟩ := List.exists_mem_of_length_pos (show 0 < ((Zj (2 ^ n)).filter (ofB (Ze need (Zp n 1)) (s : Int))).length by omega)
    rw [ZR, Zt] at hm
    obtain ⟨hm, hp⟩ := hm
    simp only [ofB, ZO, decide_eq_true_eq] at hp
    rw [hg m hm, decide_eq_true_eq] at hp
    omega
  · intro h
    obtain ⟨h1, h2⟩ := even_some hn hs
    have : 2 ^ s - 1 ∈ (Zj (2 ^ n)).filter (ofB (Ze need (Zp n 1)) (s : Int)) := by
      rw [ZR, Zt]
      refine ⟨h1, ?_⟩
      simp only [ofB, ZO, decide_eq_true_eq]
      rw [hg _ h1, h2, decide_eq_true_eq]
      exact ⟨h, rfl⟩
    have := List.length_pos_of_mem this
    omega
theorem tmod_nat (a b : Nat) : Yz (a : Int) (b : Int) = ((a % b : Nat) : Int) := (Int.ofNat_tmod a b).symm
theorem gt.ev : ∀ (b a : Nat), Ev (fun k => gt.f k (a : Int) (b : Int)) ((Yf a b : Nat) : Int) := by
  intro b
  induction b using Nat.strongRecOn with
  | ind b ih =>
    intro a
    simp only [gt.f]
    refine Zd ?_
    simp only [gt.l0]
    by_cases h : b = 0
    · subst h
      rw [Za (by omega), Zf, Nat.gcd_zero_right]
    · rw [Zc (by omega), tmod_nat, show Yf a b = Yf b (a % b) by rw [Nat.gcd_comm a b, Nat.gcd_rec b a, Nat.gcd_comm]]
      exact ih (a % b) (Nat.mod_lt _ (by omega)) b
theorem tmod_nat2 (a b : Nat) : Yz (a : Int) (b : Int) = ((a % b : Nat) : Int) := (Int.ofNat_tmod a b).symm
theorem gu.ev : ∀ (b a : Nat), Ev (fun k => gu.f k (a : Int) (b : Int)) ((Yf a b : Nat) : Int) := by
  intro b
  induction b using Nat.strongRecOn with
  | ind b ih =>
    intro a
    simp only [gu.f]
    refine Zd ?_
    simp only [gu.l0]
    by_cases h : b = 0
    · subst h
      rw [Zc (by omega), Zf, Nat.gcd_zero_right]
    · rw [Za (by omega), Zc (by omega), tmod_nat2, show Yf a b = Yf b (a % b) by rw [Nat.gcd_comm a b, Nat.gcd_rec b a, Nat.gcd_comm]]
      exact ih (a % b) (Nat.mod_lt _ (by omega)) b
theorem fz.ev_l (W : List Bool) (ws : List Int) (hW : W.length ≤ 1000000) (hl : ws.length ≤ 60) (hw : ∀ x ∈ ws, 0 ≤ x ∧ x ≤ 1000000000) (hb : spLose W ws W.length ≤ 1000000000000) : ∀ (d m : Nat), m + d = W.length → Ev (fun k => fz.l0 k (spLose W ws m) (spWin W ws m) W (W.length : Int) (m : Int) 0 ws) (spLose W ws W.length + 1, decide (spLose W ws W.length < spWin W ws W.length)) := by
  intro d
  induction d with
  | zero =>
    intro m h
    refine Zd ?_
    simp only [fz.l0]
    obtain rfl : m = W.length := by omega
    have h1 : -1 ≤ spLose W ws W.length := by
      rcases spLose_spec W ws (fun x hx => (hw x hx).1) W.length with ⟨e, _⟩ | ⟨e, _⟩ <;> omega
    rw [Zc (by omega), Zf, w64 (by omega) (by omega)]
  | succ d ih =>
    intro m h
    refine Zd ?_
    simp only [fz.l0]
    have hm : m < W.length := by omega
    have hn := ih (m + 1) (by omega)
    have hr : rdOf false W (m : Int) = W.getD m false := Yc false W m
    rw [Za (by omega), Za (by omega), Za (by omega), Zb (fx.ev 0 ws m (by omega) hl hw), hr]
    have hwr : ZN ((m : Int) + 1) = ((m + 1 : Nat) : Int) := by rw [w64i (n := W.length) (by omega) (by omega) (by omega)]; omega
    simp only [spWin, spLose] at hn
    cases hb : W.getD m false with
    | false =>
      rw [hb] at hn
      simp only [Z0, if_false] at hn
      rw [Zc (by simp)]
      refine Zd ?_
      simp only [fz.j1, Z0, if_false, hwr]
      by_cases h1 : wsum ws m > spLose W ws m
      · rw [Za h1]
        rw [Int.max_eq_right (by omega)] at hn
        exact hn
      · rw [Zc h1]
        rw [Int.max_eq_left (by omega)] at hn
        exact hn
    | true =>
      rw [hb] at hn
      simp only [if_true] at hn
      rw [Za rfl]
      by_cases h0 : spWin W ws m < 0
      · rw [Za h0]
        rw [if_pos (.inl h0)] at hn
        refine Zd ?_
        simp only [fz.j1, if_true, hwr]
        exact hn
      · rw [Zc h0]
        refine Zd ?_
        simp only [fz.j1, if_true, hwr, decide_eq_true_eq]
        by_cases h1 : wsum ws m < spWin W ws m
        · rw [if_pos (.inr h1)] at hn
          rw [Za h1]
          exact hn
        · rw [if_neg (by omega)] at hn
          rw [Zc h1]
          exact hn
theorem fz.ev (W : List Bool) (ws : List Int) (hW : W.length ≤ 1000000) (hl : ws.length ≤ 60) (hw : ∀ x ∈ ws, 0 ≤ x ∧ x ≤ 1000000000) (hb : spLose W ws W.length ≤ 1000000000000) : Ev (fun k => fz.f k W ws) (spLose W ws W.length + 1, decide (spLose W ws W.length < spWin W ws W.length)) := by
  have := fz.ev_l W ws hW hl hw hb W.length 0 (by omega)
  simpa [fz.f, spWin, spLose] using this
def gfold (d : Nat) (l : List Int) : Nat := l.foldl (fun d x => Yf d x.toNat) d
theorem gfold_zero : ∀ (l : List Int) (d : Nat), gfold d l = 0 → d = 0 ∧ ∀ x ∈ l, x.toNat = 0 := by
  intro l
  induction l with
  | nil => intro d h; exact ⟨h, fun x hx => by simp at hx⟩
  | cons x l ih =>
    intro d h
    obtain ⟨h1, h2⟩ := ih (Yf d x.toNat) h
    obtain ⟨h3, h4⟩ := Nat.gcd_eq_zero_iff.1 h1
    refine ⟨h3, fun y hy => ?_⟩
    rcases Ym.1 hy with rfl | hy
    · exact h4
    · exact h2 y hy
theorem gfold_pos {q : Int} {ws : List Int} (h : ZM q ws) : 0 < gfold 0 ws := by
  rcases Yw (gfold 0 ws) with e | e
  · exfalso
    obtain ⟨_, hz⟩ := gfold_zero ws 0 e
    have hs : ∀ l : List Int, (∀ x ∈ l, x.toNat = 0) → l.sum ≤ 0 := by
      intro l
      induction l with
      | nil => intro _; simp
      | cons x l ih =>
        intro hx
        have h1 := hx x List.mem_cons_self
        have h2 := ih (fun y hy => hx y (List.mem_cons_of_mem _ hy))
        simp only [ZU]
        omega
    have := hs ws hz
    have := h.q1
    have := h.qs
    omega
  · exact e
def partW (ws : List Int) : List Int := ws.map fun x => ((x.toNat / gfold 0 ws : Nat) : Int)
def partV (q : Int) (ws : List Int) : Int × List Int × Bool := if Zq q ws = true then (spLose (Ze q ws) (partW ws) (2 ^ ws.length) + 1, partW ws, true) else (0, [], false)
theorem partW_in {ws : List Int} (hw : ∀ x ∈ ws, 0 ≤ x ∧ x ≤ 1000) : ∀ y ∈ partW ws, 0 ≤ y ∧ y ≤ 1000 := by
  intro y hy
  obtain ⟨x, hx, rfl⟩ := Z7.1 hy
  have h1 := hw x hx
  have h2 := Yd x.toNat (gfold 0 ws)
  generalize x.toNat / gfold 0 ws = y at *
  omega
theorem spLose_le (W : List Bool) (ws : List Int) (hw : ∀ x ∈ ws, 0 ≤ x ∧ x ≤ 1000) (hl : ws.length ≤ 60) (m : Nat) : -1 ≤ spLose W ws m ∧ spLose W ws m ≤ 60000 := by
  have hs := sum_bounds ws 1000 hw
  rcases spLose_spec W ws (fun x hx => (hw x hx).1) m with ⟨e, _⟩ | ⟨e, ⟨j, _, _, e2⟩, _⟩
  · omega
  · have hb := ZK ws (fun x hx => (hw x hx).1) j
    omega
theorem tdiv_nat (x : Int) (g : Nat) (h : 0 ≤ x) : Int.tdiv x (g : Int) = ((x.toNat / g : Nat) : Int) := by
  obtain ⟨n, rfl⟩ := ZE h
  exact (Int.ofNat_tdiv n g).symm
theorem ff.ev_l1 {q : Int} {ws : List Int} (h : ZM q ws) : ∀ (d i : Nat), i + d = ws.length → Ev (fun k => ff.l1 k (gfold 0 ws : Int) ws (ws.length : Int) (i : Int) q ws 0 ((partW ws).take i)) (spLose (Ze q ws) (partW ws) (2 ^ ws.length) + 1, partW ws, true) := by
  have hg := gfold_pos h
  have hp := partW_in h.w
  have hpl : (partW ws).length = ws.length := by simp [partW]
  have h9 := h.l9
  have hwl : (Ze q ws).length = 2 ^ ws.length := by simp [Ze]
  have hpw : 2 ^ ws.length ≤ 2 ^ 9 := Zh (by omega) h9
  intro d
  induction d with
  | zero =>
    intro i hi
    refine Zd ?_
    simp only [ff.l1]
    have hb := spLose_le (Ze q ws) (partW ws) hp (by omega) (2 ^ ws.length)
    have hs := fv.ev (ws.length : Int) (Ze q ws) (partW ws) (by omega) (by omega) (fun x hx => by have := hp x hx; omega)
    rw [hwl] at hs
    rw [Zc (by omega), Zo (by omega), Zb (fF.ev q ws h9 (fun x hx => by have := h.w x hx; omega)), Zb hs, Zf, w64 (by omega) (by omega)]
  | succ d ih =>
    intro i hi
    refine Zd ?_
    simp only [ff.l1]
    have hil : i < ws.length := by omega
    have hx := h.w ws[i] (Zl hil)
    have hd := Yd ws[i].toNat (gfold 0 ws)
    rw [Za (by omega), Za (by omega), Za (by omega), Zc (by omega), Za (by simp; omega), Z9 ws i hil, tdiv_nat _ _ hx.1, w64i (i := (i : Int)) (n := ws.length) (by omega) (by omega) (by omega), w64 (by generalize ws[i].toNat / gfold 0 ws = y at *; omega) (by generalize ws[i].toNat / gfold 0 ws = y at *; omega)]
    have := ih (i + 1) (by omega)
    rw [Zg (by omega)] at this
    simp only [partW, Yk] at this ⊢
    exact this
theorem fk.ev_l1 {q : Int} {ws : List Int} (h : ZM q ws) : ∀ (d i : Nat), i + d = ws.length → Ev (fun k => fk.l1 k (gfold 0 ws : Int) ws (ws.length : Int) (i : Int) q ws 0 ((partW ws).take i)) (spLose (Ze q ws) (partW ws) (2 ^ ws.length) + 1, partW ws, true) := by
  have hg := gfold_pos h
  have hp := partW_in h.w
  have hpl : (partW ws).length = ws.length := by simp [partW]
  have h9 := h.l9
  have hwl : (Ze q ws).length = 2 ^ ws.length := by simp [Ze]
  have hpw : 2 ^ ws.length ≤ 2 ^ 9 := Zh (by omega) h9
  intro d
  induction d with
  | zero =>
    intro i hi
    refine Zd ?_
    simp only [fk.l1]
    have hb := spLose_le (Ze q ws) (partW ws) hp (by omega) (2 ^ ws.length)
    have hs := fz.ev (Ze q ws) (partW ws) (by omega) (by omega) (fun x hx => by have := hp x hx; omega) (by rw [hwl]; omega)
    rw [hwl] at hs
    rw [Zc (by omega), Zo (by omega), Zb (fw.ev q ws h9 (fun x hx => by have := h.w x hx; omega)), Zb hs, Zf]
  | succ d ih =>
    intro i hi
    refine Zd ?_
    simp only [fk.l1]
    have hil : i < ws.length := by omega
    have hx := h.w ws[i] (Zl hil)
    have hd := Yd ws[i].toNat (gfold 0 ws)
    rw [Za (by omega), Za (by omega), Za (by omega), Zc (by omega), Za (by simp; omega), Z9 ws i hil, tdiv_nat _ _ hx.1, w64i (i := (i : Int)) (n := ws.length) (by omega) (by omega) (by omega), w64 (by generalize ws[i].toNat / gfold 0 ws = y at *; omega) (by generalize ws[i].toNat / gfold 0 ws = y at *; omega)]
    have := ih (i + 1) (by omega)
    rw [Zg (by omega)] at this
    simp only [partW, Yk] at this ⊢
    exact this
theorem gfold_take (ws : List Int) (i : Nat) (h : i < ws.length) : gfold 0 (ws.take (i + 1)) = Yf (gfold 0 (ws.take i)) ws[i].toNat := by
  unfold gfold
  rw [Zg h, List.foldl_append]
  rfl
theorem ff.ev_l0 {q : Int} {ws : List Int} (h : ZM q ws) : ∀ (d i : Nat), i + d = ws.length → Ev (fun k => ff.l0 k (gfold 0 (ws.take i) : Int) ws (ws.length : Int) (i : Int) q ws) (spLose (Ze q ws) (partW ws) (2 ^ ws.length) + 1, partW ws, true) := by
  have h9 := h.l9
  intro d
  induction d with
  | zero =>
    intro i hi
    refine Zd ?_
    simp only [ff.l0]
    rw [Zc (by omega), Zo (by omega)]
    exact ff.ev_l1 h ws.length 0 (by omega)
  | succ d ih =>
    intro i hi
    refine Zd ?_
    simp only [ff.l0]
    have hil : i < ws.length := by omega
    have hx := h.w ws[i] (Zl hil)
    have he : ws[i] = ((ws[i].toNat : Nat) : Int) := by omega
    have hgc := gt.ev ws[i].toNat (gfold 0 (ws.take i))
    rw [← he, ← gfold_take ws i hil] at hgc
    rw [Za (by omega), Za (by omega), Za (by omega), Z9 ws i hil, Zb hgc, w64i (i := (i : Int)) (n := ws.length) (by omega) (by omega) (by omega)]
    exact ih (i + 1) (by omega)
theorem fk.ev_l0 {q : Int} {ws : List Int} (h : ZM q ws) : ∀ (d i : Nat), i + d = ws.length → Ev (fun k => fk.l0 k (gfold 0 (ws.take i) : Int) ws (ws.length : Int) (i : Int) q ws) (spLose (Ze q ws) (partW ws) (2 ^ ws.length) + 1, partW ws, true) := by
  have h9 := h.l9
  intro d
  induction d with
  | zero =>
    intro i hi
    refine Zd ?_
    simp only [fk.l0]
    rw [Zc (by omega), Zo (by omega)]
    exact fk.ev_l1 h ws.length 0 (by omega)
  | succ d ih =>
    intro i hi
    refine Zd ?_
    simp only [fk.l0]
    have hil : i < ws.length := by omega
    have hx := h.w ws[i] (Zl hil)
    have he : ws[i] = ((ws[i].toNat : Nat) : Int) := by omega
    have hgc := gu.ev (gfold 0 (ws.take i)) ws[i].toNat
    rw [← he, Nat.gcd_comm, ← gfold_take ws i hil] at hgc
    rw [Za (by omega), Za (by omega), Za (by omega), Z9 ws i hil, Zb hgc, w64i (i := (i : Int)) (n := ws.length) (by omega) (by omega) (by omega)]
    exact ih (i + 1) (by omega)
theorem ff.ev (q : Int) (ws : List Int) (hl : ws.length ≤ 9223372036854775807) : Ev (fun k => ff.f k q ws) (partV q ws) := by
  simp only [ff.f]
  rw [Zb (fd.ev q ws hl)]
  unfold partV
  cases hg : Zq q ws with
  | false => rw [Zc (by simp), Zf, if_neg (by simp)]
  | true =>
    rw [Za rfl, if_pos rfl]
    exact ff.ev_l0 ((Zk q ws).1 hg) ws.length 0 (by omega)
theorem fk.ev (q : Int) (ws : List Int) (hl : ws.length ≤ 9223372036854775807) : Ev (fun k => fk.f k q ws) (partV q ws) := by
  simp only [fk.f]
  rw [Zb (fi.ev q ws hl)]
  unfold partV
  cases hg : Zq q ws with
  | false => rw [Zc (by simp), Zf, if_neg (by simp)]
  | true =>
    rw [Za rfl, if_pos rfl]
    exact fk.ev_l0 ((Zk q ws).1 hg) ws.length 0 (by omega)
theorem partV_len (q : Int) (ws : List Int) : (partV q ws).2.1.length ≤ 9 := by
  unfold partV
  split
  · next h => simpa [partW] using ((Zk q ws).1 h).l9
  · simp
theorem wins_eq {q q' : Int} {ws ws' : List Int} (hl : ws.length = ws'.length) (h : ∀ m, m < 2 ^ ws.length → (q ≤ wsum ws m ↔ q' ≤ wsum ws' m)) : Ze q ws = Ze q' ws' := by
  unfold Ze
  rw [← hl]
  refine Yb (fun m hm => ?_)
  rw [Zt] at hm
  rw [ZS, decide_eq_true_eq, decide_eq_true_eq]
  exact h m hm
theorem wsum_times (k : Int) : ∀ (ws : List Int) (m : Nat), wsum (ws.map (· * k)) m = wsum ws m * k
  | [], m => by simp [wsum]
  | w :: ws, m => by
    simp only [Yv, wsum, wsum_times k ws]
    rw [Int.add_mul]
    split
    · rfl
    · rw [Int.zero_mul]
theorem times_wins {q k : Int} {ws : List Int} (hk : 1 ≤ k) : Ze ((q - 1) * k + 1) (ws.map (· * k)) = Ze q ws := by
  refine (wins_eq (by simp) (fun m hm => ?_)).symm
  rw [wsum_times]
  constructor
  · intro h
    have : (q - 1) * k < wsum ws m * k := Int.mul_lt_mul_of_pos_right (by omega) (by omega)
    omega
  · intro h
    have : q - 1 < wsum ws m := Int.lt_of_mul_lt_mul_right (a := k) (by omega) (by omega)
    omega
theorem gfold_times (k : Nat) : ∀ (ws : List Int) (d : Nat), (∀ x ∈ ws, 0 ≤ x) → gfold (d * k) (ws.map (· * (k : Int))) = gfold d ws * k
  | [], d, _ => rfl
  | w :: ws, d, h => by
    have hw := h w (by simp)
    have e : (w * (k : Int)).toNat = w.toNat * k := by
      obtain ⟨v, rfl⟩ := ZE hw
      rw [← Int.natCast_mul, Zw, Zw]
    show gfold (Yf (d * k) (w * (k : Int)).toNat) (ws.map (· * (k : Int))) = gfold (Yf d w.toNat) ws * k
    rw [e, Nat.gcd_mul_right]
    exact gfold_times k ws _ (fun x hx => h x (by simp [hx]))
theorem partW_times {k : Int} {ws : List Int} (h : ∀ x ∈ ws, 0 ≤ x) (hk : 1 ≤ k) : partW (ws.map (· * k)) = partW ws := by
  obtain ⟨c, rfl⟩ := ZE (show 0 ≤ k by omega)
  have hg := gfold_times c ws 0 h
  rw [Nat.zero_mul] at hg
  unfold partW
  rw [hg, List.map_map]
  refine Yb (fun x hx => ?_)
  obtain ⟨v, rfl⟩ := ZE (h x hx)
  simp only [Function.comp_def]
  rw [← Int.natCast_mul, Zw, Zw, Nat.mul_div_mul_right _ _ (by omega)]
theorem partV_times {q k : Int} {ws : List Int} (hc : ZM q ws) (hk : 1 ≤ k) (hg : Zq ((q - 1) * k + 1) (ws.map (· * k)) = true) : partV ((q - 1) * k + 1) (ws.map (· * k)) = partV q ws := by
  unfold partV
  rw [if_pos hg, if_pos ((Zk q ws).2 hc), times_wins hk, partW_times hc.w0 hk, ZL]
theorem gfold_dvd : ∀ (l : List Int) (d : Nat), gfold d l ∣ d ∧ ∀ x ∈ l, gfold d l ∣ x.toNat
  | [], d => ⟨Nat.dvd_refl _, fun x hx => absurd hx (by simp)⟩
  | w :: ws, d => by
    have h := gfold_dvd ws (Yf d w.toNat)
    have e : gfold d (w :: ws) = gfold (Yf d w.toNat) ws := rfl
    rw [e]
    refine ⟨Nat.dvd_trans h.1 (Nat.gcd_dvd_left _ _), fun x hx => ?_⟩
    rcases Ym.1 hx with rfl | hx
    · exact Nat.dvd_trans h.1 (Nat.gcd_dvd_right _ _)
    · exact h.2 x hx
theorem wsum_part {ws : List Int} (hw : ∀ x ∈ ws, 0 ≤ x) (m : Nat) : wsum (partW ws) m * ((gfold 0 ws : Nat) : Int) = wsum ws m := by
  rw [← wsum_times]
  congr 1
  unfold partW
  rw [List.map_map]
  refine (Yb (fun x hx => ?_)).trans (List.map_id ws)
  obtain ⟨v, rfl⟩ := ZE (hw x hx)
  have := (gfold_dvd ws 0).2 _ hx
  rw [Zw] at this
  simp only [Function.comp_def, Zw, id]
  rw [← Int.natCast_mul, Nat.div_mul_cancel this]
theorem lose_wins {q : Int} {ws vs : List Int} (hc : ZM q ws) (hl : vs.length = ws.length) (hv : ∀ x ∈ vs, 0 ≤ x ∧ x ≤ 1000) (h : ∀ m m', m < 2 ^ ws.length → m' < 2 ^ ws.length → (Ze q ws).getD m false = true → (Ze q ws).getD m' false = false → wsum vs m' < wsum vs m) : Ze (spLose (Ze q ws) vs (2 ^ ws.length) + 1) vs = Ze q ws ∧ Zq (spLose (Ze q ws) vs (2 ^ ws.length) + 1) vs = true := by
  have h9 := hc.l9
  have hp := Zm ws.length
  have h0 := wins_none hc
  have hf := wins_full hc
  rcases spLose_spec (Ze q ws) vs (fun x hx => (hv x hx).1) (2 ^ ws.length) with ⟨_, e⟩ | ⟨e, ⟨j, hj, hjl, hje⟩, hall⟩
  · rw [e 0 hp] at h0
    cases h0
  · have hsame : ∀ m, m < 2 ^ ws.length → (spLose (Ze q ws) vs (2 ^ ws.length) + 1 ≤ wsum vs m ↔ q ≤ wsum ws m) := by
      intro m hm
      have hd := Zs q ws m hm
      cases hw : (Ze q ws).getD m false with
      | true =>
        have h1 := h m j hm hj hw hjl
        rw [hw] at hd
        have := of_decide_eq_true hd.symm
        omega
      | false =>
        have h1 := hall m hm hw
        rw [hw] at hd
        have := of_decide_eq_false hd.symm
        omega
    refine ⟨wins_eq hl (fun m hm => hsame m (by rw [← hl]; exact hm)), (Zk _ _).2 ⟨by rw [hl]; exact hc.l1, by rw [hl]; exact hc.l9, hv, by omega, ?_⟩⟩
    have h1 := h (2 ^ ws.length - 1) j (by omega) hj hf hjl
    have h2 := wsum_full vs
    rw [hl] at h2
    omega
theorem part_same {q : Int} {ws : List Int} (hc : ZM q ws) : Ze (partV q ws).1 (partV q ws).2.1 = Ze q ws ∧ Zq (partV q ws).1 (partV q ws).2.1 = true := by
  rw [partV, if_pos ((Zk q ws).2 hc)]
  refine lose_wins hc (by simp [partW]) (partW_in hc.w) (fun m m' hm hm' hw hl => ?_)
  rw [Zs q ws m hm] at hw
  rw [Zs q ws m' hm'] at hl
  have h1 := of_decide_eq_true hw
  have h2 := of_decide_eq_false hl
  have e1 := wsum_part hc.w0 m
  have e2 := wsum_part hc.w0 m'
  have hg := gfold_pos hc
  refine Int.lt_of_mul_lt_mul_right (a := ((gfold 0 ws : Nat) : Int)) ?_ (by omega)
  omega
theorem wsum_le : ∀ (ws vs : List Int) (m : Nat), ws.length = vs.length → (∀ i, ws.getD i 0 ≤ vs.getD i 0) → wsum ws m ≤ wsum vs m
  | [], [], m, _, _ => by simp [wsum]
  | w :: ws, v :: vs, m, hl, h => by
    have h0 := h 0
    have ih := wsum_le ws vs (m / 2) (by simpa using hl) (fun i => by simpa using h (i + 1))
    simp only [List.getD_cons_zero] at h0
    simp only [wsum]
    split <;> omega
theorem lackV_le {W : List Bool} {q : Int} {n : Nat} {out : List Int} (h : LowInv W q n out) (i : Nat) (hi : i < n) : lackV W q out i (2 ^ n) ≤ out.getD i 0 := by
  have := lack_spare h i hi
  omega
theorem lackV_anti {W : List Bool} {q : Int} {out out' : List Int} (h : ∀ m, wsum out m ≤ wsum out' m) (i N : Nat) : lackV W q out' i N ≤ lackV W q out i N := by
  obtain ⟨a1, a2, a3⟩ := lackV_spec W q out i N
  obtain ⟨b1, b2, b3⟩ := lackV_spec W q out' i N
  rcases b3 with e | ⟨j, hj, hs, e⟩
  · omega
  · have := a2 j hj hs
    have := h j
    omega
theorem getD_setI (l : List Int) (i j : Nat) (v : Int) (hi : i < l.length) : (l.set i v).getD j 0 = if j = i then v else l.getD j 0 := by
  rw [Zr, List.getElem?_set]
  by_cases e : i = j
  · subst e
    simp [hi]
  · rw [if_neg e, if_neg (fun h => e h.symm), Zr]
theorem lowN_len {q : Int} {ws : List Int} (h : ZM q ws) (i : Nat) (hi : i ≤ ws.length) : (lowN (Ze q ws) q ws i).length = ws.length := (lowN_inv h i hi).len
theorem lowN_step {q : Int} {ws : List Int} (h : ZM q ws) {i : Nat} (hi : i < ws.length) (j : Nat) : (lowN (Ze q ws) q ws (i + 1)).getD j 0 = if j = i then lackV (Ze q ws) q (lowN (Ze q ws) q ws i) i (2 ^ ws.length) else (lowN (Ze q ws) q ws i).getD j 0 := by
  show ((lowN (Ze q ws) q ws i).set i (lackV (Ze q ws) q (lowN (Ze q ws) q ws i) i (2 ^ ws.length))).getD j 0 = _
  exact getD_setI _ _ _ _ (by rw [lowN_len h i (by omega)]; exact hi)
theorem lowN_down {q : Int} {ws : List Int} (h : ZM q ws) : ∀ (d i : Nat), i + d ≤ ws.length → ∀ j, (lowN (Ze q ws) q ws (i + d)).getD j 0 ≤ (lowN (Ze q ws) q ws i).getD j 0 := by
  intro d
  induction d with
  | zero => intro i _ j; exact Yq _
  | succ d ih =>
    intro i hi j
    have h1 := ih i (by omega) j
    have h2 := lowN_step h (i := i + d) (by omega) j
    rw [show i + (d + 1) = i + d + 1 by omega, h2]
    split
    · next e =>
      subst e
      have := lackV_le (lowN_inv h (i + d) (by omega)) (i + d) (by omega)
      omega
    · exact h1
theorem lowN_keep {q : Int} {ws : List Int} (h : ZM q ws) {j : Nat} : ∀ (d i : Nat), j < i → i + d ≤ ws.length → (lowN (Ze q ws) q ws (i + d)).getD j 0 = (lowN (Ze q ws) q ws i).getD j 0 := by
  intro d
  induction d with
  | zero => intro i _ _; rfl
  | succ d ih =>
    intro i hj hi
    have h2 := lowN_step h (i := i + d) (by omega) j
    rw [show i + (d + 1) = i + d + 1 by omega, h2, if_neg (by omega), ih i hj (by omega)]
theorem low_own {q : Int} {ws : List Int} (h : ZM q ws) {j : Nat} (hj : j < ws.length) : lackV (Ze q ws) q (lowN (Ze q ws) q ws ws.length) j (2 ^ ws.length) = (lowN (Ze q ws) q ws ws.length).getD j 0 := by
  have h1 := lackV_le (lowN_inv h ws.length (ZG _)) j hj
  have h2 := lowN_keep h (j := j) (ws.length - (j + 1)) (j + 1) (by omega) (by omega)
  rw [show j + 1 + (ws.length - (j + 1)) = ws.length by omega, lowN_step h hj j, if_pos rfl] at h2
  have h3 := lackV_anti (W := Ze q ws) (q := q) (out := lowN (Ze q ws) q ws ws.length) (out' := lowN (Ze q ws) q ws j) (fun m => wsum_le _ _ m (by rw [lowN_len h _ (ZG _), lowN_len h j (by omega)]) (fun i => by
    have := lowN_down h (ws.length - j) j (by omega) i
    rwa [show j + (ws.length - j) = ws.length by omega] at this)) j (2 ^ ws.length)
  omega
theorem low_below {q : Int} {ws : List Int} (h : ZM q ws) (j : Nat) : (lowN (Ze q ws) q ws ws.length).getD j 0 ≤ ws.getD j 0 := by
  have := lowN_down h ws.length 0 (by omega) j
  rw [Nat.zero_add] at this
  exact this
theorem low_same {q : Int} {ws : List Int} (h : ZM q ws) : Ze q (lowN (Ze q ws) q ws ws.length) = Ze q ws ∧ Zq q (lowN (Ze q ws) q ws ws.length) = true := by
  have hi := lowN_inv h ws.length (ZG _)
  have hl := hi.len
  have hp := Zm ws.length
  have hle : ∀ m, wsum (lowN (Ze q ws) q ws ws.length) m ≤ wsum ws m := fun m => wsum_le _ _ m hl (low_below h)
  refine ⟨wins_eq hl (fun m hm => ?_), (Zk _ _).2 ⟨by rw [hl]; exact h.l1, by rw [hl]; exact h.l9, hi.w, h.q1, ?_⟩⟩
  · rw [hl] at hm
    have h1 := hle m
    constructor
    · intro h2
      omega
    · intro h2
      refine hi.win m hm ?_
      rw [Zs q ws m hm, decide_eq_true h2]
  · have h1 := hi.win (2 ^ ws.length - 1) (by omega) (wins_full h)
    have h2 := wsum_full (lowN (Ze q ws) q ws ws.length)
    rw [hl] at h2
    omega
theorem lowV_again {q : Int} {ws : List Int} (h : ZM q ws) : lowV q (lowN (Ze q ws) q ws ws.length) = (q, lowN (Ze q ws) q ws ws.length, true) := by
  obtain ⟨hw, hg⟩ := low_same h
  have hl := lowN_len h ws.length (ZG _)
  rw [lowV, if_pos hg, hw, hl]
  have : ∀ i, i ≤ ws.length → lowN (Ze q ws) q (lowN (Ze q ws) q ws ws.length) i = lowN (Ze q ws) q ws ws.length := by
    intro i
    induction i with
    | zero => intro _; rfl
    | succ i ih =>
      intro hi
      show (lowN (Ze q ws) q (lowN (Ze q ws) q ws ws.length) i).set i (lackV (Ze q ws) q (lowN (Ze q ws) q (lowN (Ze q ws) q ws ws.length) i) i (2 ^ (lowN (Ze q ws) q ws ws.length).length)) = _
      rw [ih (by omega), hl, low_own h (show i < ws.length by omega)]
      have hi2 : i < (lowN (Ze q ws) q ws ws.length).length := by omega
      rw [Zr, ZJ hi2, Z8, List.set_getElem_self]
  rw [this ws.length (ZG _)]
theorem perm_sumI {l l' : List Int} (h : l.Perm l') : l.sum = l'.sum := by
  induction h with
  | nil => rfl
  | cons x _ ih => rw [ZU, ZU, ih]
  | swap x y l => simp only [ZU]; omega
  | trans _ _ a b => exact a.trans b
theorem compact_up {zs : List Int} (hs : zs.Pairwise (· ≤ ·)) : (Yu zs).Pairwise (· < ·) ∧ ∀ x, x ∈ Yu zs ↔ x ∈ zs := by
  have hget : ∀ j (h : j < zs.length), zs.toArray[j]! = zs[j] := fun j h => by
    rw [getElem!_pos zs.toArray j (by simpa using h)]
    simp
  have hle : ∀ i j (hij : i ≤ j) (hj : j < zs.length), zs[i]'(by omega) ≤ zs[j] := fun i j hij hj => by
    rcases Z1 hij with h | h
    · exact ZP.1 hs i j (by omega) hj h
    · subst h; exact Yq _
  have key : ∀ m, m ≤ zs.length → (ZD zs.toArray m).Pairwise (· < ·) ∧ (∀ x ∈ ZD zs.toArray m, ∃ (j : Nat) (hj : j < zs.length), j < m ∧ zs[j] = x) ∧ ∀ j (hj : j < zs.length), j < m → zs[j] ∈ ZD zs.toArray m := by
    intro m
    induction m with
    | zero => exact fun _ => ⟨by simp [ZD], fun x hx => by simp [ZD] at hx, fun j _ hj => absurd hj (Ye j)⟩
    | succ m ih =>
      intro hm
      obtain ⟨h1, h2, h3⟩ := ih (by omega)
      have hmz : m < zs.length := by omega
      rw [Go.Lib.compactUpTo_succ]
      by_cases c : 0 < m ∧ zs.toArray[m]! = zs.toArray[m - 1]!
      · rw [Go.Lib.keeps_neg c.1 c.2]
        simp only [Z0, if_false, List.append_nil]
        refine ⟨h1, fun x hx => ?_, fun j hj hjm => ?_⟩
        · obtain ⟨j, hj, hjm, e⟩ := h2 x hx
          exact ⟨j, hj, by omega, e⟩
        · rcases Z1 (show j ≤ m by omega) with h | h
          · exact h3 j hj h
          · subst h
            have := h3 (j - 1) (by omega) (by omega)
            have e := c.2
            rw [hget j hj, hget (j - 1) (by omega)] at e
            rw [e]
            exact this
      · have hk : Go.Lib.keeps zs.toArray m = true := by
          by_cases h0 : m = 0
          · subst h0; exact Go.Lib.keeps_lt_one _ 0 (by omega)
          · exact Go.Lib.keeps_pos (fun e => c ⟨by omega, e⟩)
        rw [hk]
        simp only [if_true]
        refine ⟨?_, fun x hx => ?_, fun j hj hjm => ?_⟩
        · rw [List.pairwise_append]
          refine ⟨h1, List.pairwise_singleton _ _, fun x hx y hy => ?_⟩
          rw [ZZ] at hy
          subst hy
          obtain ⟨j, hj, hjm, e⟩ := h2 x hx
          have h0 : 0 < m := by omega
          have hne : ¬ zs.toArray[m]! = zs.toArray[m - 1]! := fun e => c ⟨h0, e⟩
          rw [hget m hmz, hget (m - 1) (by omega)] at hne
          rw [hget m hmz, ← e]
          have a1 := hle j (m - 1) (by omega) (by omega)
          have a2 := hle (m - 1) m (by omega) hmz
          omega
        · rcases List.mem_append.1 hx with hx | hx
          · obtain ⟨j, hj, hjm, e⟩ := h2 x hx
            exact ⟨j, hj, by omega, e⟩
          · rw [ZZ] at hx
            exact ⟨m, hmz, by omega, by rw [hx, hget m hmz]⟩
        · rcases Z1 (show j ≤ m by omega) with h | h
          · exact List.mem_append_left _ (h3 j hj h)
          · subst h
            refine List.mem_append_right _ ?_
            rw [hget j hj]
            exact ZZ.2 rfl
  obtain ⟨h1, h2, h3⟩ := key zs.length (ZG _)
  refine ⟨h1, fun x => ⟨fun hx => ?_, fun hx => ?_⟩⟩
  · obtain ⟨j, hj, _, rfl⟩ := h2 x hx
    exact Zl hj
  · obtain ⟨j, hj, rfl⟩ := Yn.1 hx
    exact h3 j hj hj
def allSums (ws : List Int) : List Int := (Zj (2 ^ ws.length)).map fun m => wsum ws m
def sumsL (ws : List Int) : List Int := Yu ((allSums ws).mergeSort fun x y => decide (x ≤ y))
theorem sumsL_spec (ws : List Int) : (sumsL ws).Pairwise (· < ·) ∧ ∀ x, x ∈ sumsL ws ↔ ∃ m, m < 2 ^ ws.length ∧ wsum ws m = x := by
  have hs : ((allSums ws).mergeSort fun x y => decide (x ≤ y)).Pairwise (· ≤ ·) := by
    have := Yt (le := fun x y : Int => decide (x ≤ y)) (fun a b c h1 h2 => by simp at *; omega) (fun a b => by simp; omega) (allSums ws)
    exact this.imp (fun h => by simpa using h)
  obtain ⟨h1, h2⟩ := compact_up hs
  refine ⟨h1, fun x => ?_⟩
  rw [sumsL, h2, (Yo _ _).mem_iff, allSums, Z7]
  simp only [Zt]
theorem sumsL_len (ws : List Int) : (sumsL ws).length ≤ 2 ^ ws.length := by
  have h : ∀ m, (ZD (((allSums ws).mergeSort fun x y => decide (x ≤ y)).toArray) m).length ≤ m := by
    intro m
    induction m with
    | zero => simp [ZD]
    | succ m ih =>
      rw [Go.Lib.compactUpTo_succ, Zz]
      split <;> simp <;> omega
  have h2 := h ((allSums ws).mergeSort fun x y => decide (x ≤ y)).length
  rw [Yj] at h2
  simp only [allSums, ZL, ZT] at h2
  have e : sumsL ws = ZD (((allSums ws).mergeSort fun x y => decide (x ≤ y)).toArray) ((allSums ws).mergeSort fun x y => decide (x ≤ y)).length := rfl
  rw [e, Yj]
  simp only [allSums, ZL, ZT]
  exact h2
theorem sums_win {q : Int} {ws : List Int} (hc : ZM q ws) : ∃ (i : Nat) (hi : i < (sumsL ws).length), 1 ≤ i ∧ (sumsL ws)[i] = spWin (Ze q ws) ws (2 ^ ws.length) ∧ (sumsL ws)[i - 1] = spLose (Ze q ws) ws (2 ^ ws.length) ∧ q ≤ (sumsL ws)[i] ∧ ∀ j (hj : j < (sumsL ws).length), j < i → (sumsL ws)[j] < q := by
  obtain ⟨hup, hmem⟩ := sumsL_spec ws
  have hlt := ZP.1 hup
  have hp := Zm ws.length
  have h0 := wins_none hc
  have hf := wins_full hc
  have hq := hc.q1
  rcases spWin_spec (Ze q ws) ws hc.w0 (2 ^ ws.length) with ⟨_, e⟩ | ⟨_, ⟨mw, hmw, hww, eww⟩, hwall⟩
  · rw [e _ (by omega)] at hf; cases hf
  rcases spLose_spec (Ze q ws) ws hc.w0 (2 ^ ws.length) with ⟨_, e⟩ | ⟨_, ⟨ml, hml, hwl, ewl⟩, hlall⟩
  · rw [e 0 hp] at h0; cases h0
  have vw := Zs q ws mw hmw
  rw [hww] at vw
  have vw := of_decide_eq_true vw.symm
  have vl := Zs q ws ml hml
  rw [hwl] at vl
  have vl := of_decide_eq_false vl.symm
  obtain ⟨i, hi, ei⟩ := Yn.1 ((hmem _).2 ⟨mw, hmw, eww⟩)
  obtain ⟨j1, hj1, ej1⟩ := Yn.1 ((hmem _).2 ⟨ml, hml, ewl⟩)
  have hbel : ∀ j (hj : j < (sumsL ws).length), j < i → (sumsL ws)[j] < q := by
    intro j hj hji
    have h1 := hlt j i hj hi hji
    obtain ⟨m, hm, em⟩ := (hmem (sumsL ws)[j]).1 (Zl hj)
    refine Classical.byContradiction fun h2 => ?_
    have h3 := hwall m hm (by rw [Zs q ws m hm, decide_eq_true (by omega)])
    omega
  have hj1i : j1 < i := by
    refine Classical.byContradiction fun h2 => ?_
    rcases Z1 (show i ≤ j1 by omega) with h | h
    · have := hlt i j1 hi hj1 h
      omega
    · subst h; omega
  refine ⟨i, hi, by omega, ei, ?_, by omega, hbel⟩
  have h4 := hbel (i - 1) (by omega) (by omega)
  obtain ⟨m, hm, em⟩ := (hmem (sumsL ws)[i - 1]).1 (Zl (by omega))
  have h5 := hlall m hm (by rw [Zs q ws m hm, decide_eq_false (by omega)])
  have h6 : (sumsL ws)[j1] ≤ (sumsL ws)[i - 1] := by
    rcases Z1 (show j1 ≤ i - 1 by omega) with h | h
    · exact Int.le_of_lt (hlt j1 (i - 1) hj1 (by omega) h)
    · subst h; exact Yq _
  omega
theorem gf.ev {q : Int} {ws : List Int} (hc : ZM q ws) : Ev (fun k => gf.f k q ws) (sumsL ws) := by
  have h9 := hc.l9
  have hp := hc.pow
  have hlen : (allSums ws).length = 2 ^ ws.length := by simp [allSums]
  have key : ∀ (d i : Nat), i + d = 2 ^ ws.length → Ev (fun k => gf.l0 k ((allSums ws).take i) ((2 ^ ws.length : Nat) : Int) (i : Int) q ws) (sumsL ws) := by
    intro d
    induction d with
    | zero =>
      intro i h
      refine Zd ?_
      simp only [gf.l0]
      rw [Zc (by omega), Zo (by omega)]
      have hs : gZ.f (allSums ws) = some ((allSums ws).mergeSort fun x y => decide (x ≤ y)) := if_pos (by omega)
      have aa : ((allSums ws).mergeSort fun x y => decide (x ≤ y)).length = 2 ^ ws.length := by rw [Yj, hlen]
      have hk : g0.f ((allSums ws).mergeSort fun x y => decide (x ≤ y)) = some (sumsL ws) := if_pos (by omega)
      rw [Zb (Zx hs), Zb (Zx hk), Zf]
    | succ d ih =>
      intro i h
      refine Zd ?_
      simp only [gf.l0]
      have hi : i < (allSums ws).length := by omega
      have hih := ih (i + 1) (by omega)
      have e : (allSums ws)[i] = wsum ws i := by simp [allSums]
      rw [Zg hi, e, show ((i + 1 : Nat) : Int) = (i : Int) + 1 by omega] at hih
      rw [Za (by omega), Zb (fI.ev q ws i (by omega) (by omega) hc.wb), Za (by rw [ZX]; omega), w64 (by omega) (by omega)]
      exact hih
  have h0 := key (2 ^ ws.length) 0 (by omega)
  simp only [gf.f]
  rw [shl_one ws.length (by omega)]
  exact h0
def qrV (q : Int) (ws : List Int) : Int × Int × Bool := if Zq q ws = true then (spLose (Ze q ws) ws (2 ^ ws.length) + 1, spWin (Ze q ws) ws (2 ^ ws.length), true) else (0, 0, false)
theorem fX.ev (q : Int) (ws : List Int) (hl : ws.length ≤ 9223372036854775807) : Ev (fun k => fX.f k q ws) (qrV q ws) := by
  simp only [fX.f]
  rw [Zb (fd.ev q ws hl)]
  unfold qrV
  cases hg : Zq q ws with
  | false => rw [Zc (by decide), Zf]; rfl
  | true =>
    have hc := (Zk q ws).1 hg
    have hs := hc.sum
    obtain ⟨hb1, hb2⟩ := spare_bounds hc
    rw [Za rfl, Zb (gf.ev hc), if_pos rfl]
    obtain ⟨i, hi, h1, e1, e2, hq, hbel⟩ := sums_win hc
    have hidx : idxOf (fX.p q) (sumsL ws) = (i : Int) := by
      refine idxOf_hit _ _ _ (by omega) (by omega) ?_ (fun j hj => ?_)
      · rw [Z9 _ i hi]
        exact decide_eq_true hq
      · have aa : j < (sumsL ws).length := by omega
        rw [Zr, ZJ aa, Z8]
        exact decide_eq_false (by have := hbel j aa (by omega); omega)
    have hlen : (sumsL ws).length ≤ 512 := by
      have hp := hc.pow
      exact Yp (sumsL_len ws) hp.2
    have ew : ZN ((i : Int) - 1) = ((i - 1 : Nat) : Int) := by rw [w64 (by omega) (by omega)]; omega
    refine Zx ?_
    simp only [fX.g, hidx, ew]
    rw [if_pos (by omega), if_pos (by omega), if_pos (by omega), if_pos (by omega), Z9 _ i hi, Z9 _ (i - 1) (by omega), e1, e2, w64 (by omega) (by omega)]
theorem gj.ev_l (a b : List Bool) (hl : a.length ≤ 9223372036854775807) (hab : a.length = b.length) : ∀ (d i : Nat), i + d = a.length → Ev (fun k => gj.l0 k a b (a.length : Int) (i : Int)) (decide (a.drop i = b.drop i)) := by
  intro d
  induction d with
  | zero =>
    intro i h
    refine Zd ?_
    simp only [gj.l0]
    rw [Zc (by omega), Zf, Zn (by omega), Zn (by omega)]
    rfl
  | succ d ih =>
    intro i h
    refine Zd ?_
    simp only [gj.l0]
    have hi : i < a.length := by omega
    have hib : i < b.length := by omega
    have e : decide (a.drop i = b.drop i) = (decide (a[i] = b[i]) && decide (a.drop (i + 1) = b.drop (i + 1))) := by
      rw [Zy hi, Zy hib, ZS]
      simp only [ZO, decide_eq_true_eq, List.cons.injEq]
    rw [Za (by omega), Za (by omega), Za (by omega), Za (by omega), rdOf_lt false a i hi, rdOf_lt false b i hib, w64i (n := a.length) (by omega) (by omega) hl, e]
    by_cases c : a[i] = b[i]
    · rw [Zc (by simp [c]), decide_eq_true c, Z2]
      exact ih (i + 1) (by omega)
    · rw [Za (by simp [c]), Zf, decide_eq_false c]
      rfl
theorem gj.ev (a b : List Bool) (hl : a.length ≤ 9223372036854775807) : Ev (fun k => gj.f k a b) (decide (a = b)) := by
  simp only [gj.f]
  by_cases c : (a.length : Int) = (b.length : Int)
  · rw [Za c]
    exact gj.ev_l a b hl (by omega) a.length 0 (by omega)
  · rw [Zc c, Zf, decide_eq_false (fun h => c (by rw [h]))]
def asmV (q : Int) (ws : List Int) (q' : Int) (ws' : List Int) : Bool × Bool := if Zq q ws = true ∧ Zq q' ws' = true then (decide (Ze q ws = Ze q' ws'), true) else (false, false)
theorem fJ.ev (q : Int) (ws : List Int) (q' : Int) (ws' : List Int) (hl : ws.length ≤ 9223372036854775807) (hl' : ws'.length ≤ 9223372036854775807) : Ev (fun k => fJ.f k q ws q' ws') (asmV q ws q' ws') := by
  have hf : Ev (fun k => fJ.j0 k true q ws q' ws') (false, false) := by
    refine Zd ?_
    simp only [fJ.j0]
    rw [Za trivial, Zf]
  simp only [fJ.f]
  rw [Zb (fd.ev q ws hl)]
  unfold asmV
  cases h1 : Zq q ws with
  | false =>
    rw [Zc (by decide), if_neg (by simp)]
    exact hf
  | true =>
    rw [Za rfl, Zb (fd.ev q' ws' hl')]
    cases h2 : Zq q' ws' with
    | false =>
      rw [if_neg (by simp)]
      exact hf
    | true =>
      have c1 := (Zk q ws).1 h1
      have c2 := (Zk q' ws').1 h2
      have hw := Zu q ws
      have hp := c1.pow
      refine Zd ?_
      simp only [fJ.j0, Bool.not_true]
      rw [Zc (by decide), Zb (fF.ev q ws c1.l9 c1.wb), Zb (fF.ev q' ws' c2.l9 c2.wb)]
      have hs : Ev (fun k => gU.f k (ws.length : Int) (Ze q ws) (ws'.length : Int) (Ze q' ws')) (decide (Ze q ws = Ze q' ws')) := by
        simp only [gU.f]
        rw [Zb (gj.ev (Ze q ws) (Ze q' ws') (by omega)), Zf]
      rw [Zb hs, Zf, if_pos (by simp)]
theorem fM.evP_l (n : Nat) (hn : n ≤ 1000000) (P : Int → Option Bool) (p : Nat → Bool) (hP : ∀ i : Nat, i < n → P (i : Int) = some (p i)) : ∀ (d i : Nat), i + d = n → Ev (fun k => fM.l0 k P (n : Int) (takeI p i) (i : Int)) (takeI p n) := by
  intro d
  induction d with
  | zero =>
    intro i h
    refine Zd ?_
    simp only [fM.l0]
    rw [Zc (by omega), Zf, show i = n by omega]
  | succ d ih =>
    intro i h
    refine Zd ?_
    simp only [fM.l0]
    have hl := takeI_len p i
    have hih := ih (i + 1) (by omega)
    rw [takeI_succ] at hih
    rw [Za (by omega), Zb (Zx (hP i (by omega))), w64 (by omega) (by omega)]
    by_cases hp : p i = true
    · rw [if_pos hp] at hih
      rw [Za hp, Za (by omega)]
      exact hih
    · rw [if_neg hp] at hih
      rw [Zc hp]
      exact hih
def vetV (q : Int) (ws : List Int) : List Int × Bool := if Zq q ws = true then (takeI (vetoB q ws) ws.length, true) else ([], false)
theorem gI.ev (q : Int) (ws : List Int) (hl : ws.length ≤ 9223372036854775807) : Ev (fun k => gI.f k q ws) (vetV q ws) := by
  simp only [gI.f]
  rw [Zb (fd.ev q ws hl)]
  unfold vetV
  cases hg : Zq q ws with
  | false => rw [Zc (by decide), Zf, if_neg (by decide)]
  | true =>
    have hc := (Zk q ws).1 hg
    have h9 := hc.l9
    have hp := hc.pow
    have hwl := Zu q ws
    have hall : gW.f (ws.length : Int) (Ze q ws) = some ((2 ^ ws.length - 1 : Nat) : Int) := by
      simp only [gW.f]
      rw [if_pos (by omega), shl_one ws.length (by omega), w64 (by omega) (by omega)]
      congr 1
      omega
    have hm : Ev (fun k => fM.g k (ws.length : Int) (gX.f (ws.length : Int) (Ze q ws))) (takeI (vetoB q ws) ws.length) := by
      refine fM.evP_l ws.length (by omega) _ (vetoB q ws) (fun i hi => ?_) ws.length 0 (by omega)
      have h2 := wins_out (q := q) i hi
      have hpi : 2 ^ i < 2 ^ ws.length := Nat.pow_lt_pow_right (by omega) hi
      simp only [gX.f]
      rw [hall, Zi, shl_one i (by omega), andNot_pow _ i (by omega) (by omega) (full_bit _ _ hi), if_pos (Int.natCast_nonneg _), if_pos (Int.ofNat_lt.2 (by rw [hwl]; exact ZH (Nat.sub_le _ _) (by omega))), Yc, h2, Bool.not_not]
    rw [Za rfl, if_pos rfl, Zb (fF.ev q ws h9 hc.wb), Za (by omega), Zb hm, Zf]
theorem fa.law_j6 (q : Int) (ws : List Int) (hl : ws.length ≤ 9223372036854775807) : Ev (fun k => fa.j6 k (dummyV q ws).2.2 q ws (dummyV q ws).1 (dummyV q ws).2.1) true := by
  refine Zd ?_
  simp only [fa.j6]
  by_cases c : Zq q ws = true ∧ ws.length ≠ 9
  · have hd : dummyV q ws = (q, ws ++ [0], true) := if_pos c
    have hc := (Zk q ws).1 c.1
    have h9 := hc.l9
    have hg : Zq q (ws ++ [0]) = true := by
      have h := dummy_good hc
      rw [if_pos c.2] at h
      unfold ifGood at h
      split at h
      · assumption
      · simp at h
    have hc2 := (Zk q (ws ++ [0])).1 hg
    have hlen : (ws ++ [(0 : Int)]).length = ws.length + 1 := by simp
    have h92 := hc2.l9
    have e1 : dumV q (ws ++ [0]) = (takeI (dumB q (ws ++ [0])) (ws ++ [0]).length, true) := by rw [dumV, if_pos hg]; rfl
    have e2 : cwV q (ws ++ [0]) = (2 * cntW (Ze q ws), true) := by rw [cwV, if_pos hg, dummy_count]
    have e3 : cwV q ws = (cntW (Ze q ws), true) := by rw [cwV, if_pos c.1]
    have v1 := gJ.ev q (ws ++ [0]) (by omega)
    have v2 := fy.ev q (ws ++ [0]) (by omega)
    have v3 := fy.ev q ws hl
    have hh := fQ.ev (takeI (dumB q (ws ++ [0])) (ws ++ [0]).length) (ws.length : Int) (by have := takeI_len (dumB q (ws ++ [0])) (ws ++ [0]).length; omega)
    rw [takeI_has _ _ _ (by omega), dummy_new hc2] at hh
    have hb := cntW_in (q := q) h9
    rw [e1] at v1
    rw [e2] at v2
    rw [e3] at v3
    rw [hd]
    dsimp only
    rw [Za rfl, Zb v1, Zb v2, Zb v3, Za rfl, Zb hh, Za rfl, Za rfl, Za rfl, Za (by dsimp only; rw [w64 (by omega) (by omega)]), Zf]
  · rw [dummyV, if_neg c, Zc (by decide), Zf]
theorem fa.law_j5 (q : Int) (ws : List Int) (hl : ws.length ≤ 9223372036854775807) : Ev (fun k => fa.j5 k (vetoV q ws).2.2 (dummyV q ws).2.2 q ws (vetoV q ws).1 (vetoV q ws).2.1 (dummyV q ws).1 (dummyV q ws).2.1) true := by
  have aa := fa.law_j6 q ws hl
  refine Zd ?_
  simp only [fa.j5]
  by_cases c : Zq q ws = true ∧ Zq (q + ws.sum) (ws ++ [ws.sum]) = true
  · have hd : vetoV q ws = (q + ws.sum, ws ++ [ws.sum], true) := by rw [vetoV, if_pos c.1, ifGood, if_pos c.2]
    have hc := (Zk q ws).1 c.1
    have h9 := hc.l9
    have hc2 := (Zk _ _).1 c.2
    have hlen : (ws ++ [ws.sum]).length = ws.length + 1 := by simp
    have h92 := hc2.l9
    have e1 : vetV (q + ws.sum) (ws ++ [ws.sum]) = (takeI (vetoB (q + ws.sum) (ws ++ [ws.sum])) (ws ++ [ws.sum]).length, true) := by rw [vetV, if_pos c.2]
    have e2 : cwV (q + ws.sum) (ws ++ [ws.sum]) = (cntW (Ze q ws), true) := by rw [cwV, if_pos c.2, veto_count hc]
    have e3 : cwV q ws = (cntW (Ze q ws), true) := by rw [cwV, if_pos c.1]
    have v1 := gI.ev (q + ws.sum) (ws ++ [ws.sum]) (by omega)
    have v2 := fy.ev (q + ws.sum) (ws ++ [ws.sum]) (by omega)
    have v3 := fy.ev q ws hl
    have hh := fQ.ev (takeI (vetoB (q + ws.sum) (ws ++ [ws.sum])) (ws ++ [ws.sum]).length) (ws.length : Int) (by have := takeI_len (vetoB (q + ws.sum) (ws ++ [ws.sum])) (ws ++ [ws.sum]).length; omega)
    rw [takeI_has _ _ _ (by omega), veto_new hc] at hh
    rw [e1] at v1
    rw [e2] at v2
    rw [e3] at v3
    rw [hd]
    dsimp only
    rw [Za rfl, Zb v1, Zb v2, Zb v3, Za rfl, Zb hh, Za rfl, Za rfl, Za rfl, Za rfl]
    exact aa
  · have : (vetoV q ws).2.2 = false := by
      unfold vetoV ifGood
      by_cases h1 : Zq q ws = true
      · rw [if_pos h1, if_neg (fun h2 => c ⟨h1, h2⟩)]
      · rw [if_neg h1]
    rw [this, Zc (by decide)]
    exact aa
theorem fa.law_l1 (m n : Int) (hm : 1 ≤ m) (hm9 : m ≤ 9) (hn : 1 ≤ n) (hnm : n ≤ m) (q : Int) (ws : List Int) (hl : ws.length ≤ 9223372036854775807) : ∀ (d c : Nat), c + d = m.toNat + 1 → Ev (fun k => fa.l1 k m n (vetoV q ws).2.2 (dummyV q ws).2.2 (c : Int) n (Zp m.toNat 1) q ws (vetoV q ws).1 (vetoV q ws).2.1 (dummyV q ws).1 (dummyV q ws).2.1) true := by
  have hg : Zq n (Zp m.toNat 1) = true := by
    refine (Zk _ _).2 ⟨by rw [ZC]; omega, by rw [ZC]; omega, fun x hx => by have := (List.mem_replicate.1 hx).2; omega, hn, ?_⟩
    have : (Zp m.toNat (1 : Int)).sum = (m.toNat : Int) := by
      generalize m.toNat = t
      induction t with
      | zero => rfl
      | succ t ih => rw [List.replicate_succ, ZU, ih]; omega
    omega
  intro d
  induction d with
  | zero =>
    intro c h
    refine Zd ?_
    simp only [fa.l1]
    rw [Zc (by omega)]
    exact fa.law_j5 q ws hl
  | succ d ih =>
    intro c h
    refine Zd ?_
    simp only [fa.l1]
    have hih := ih (c + 1) (by omega)
    rw [show ((c + 1 : Nat) : Int) = (c : Int) + 1 by omega] at hih
    have v := fA.ev n (Zp m.toNat 1) (c : Int) (by rw [ZC]; omega)
    have e : cwoV n (Zp m.toNat 1) (c : Int) = (cntO (Ze n (Zp m.toNat 1)) (c : Int), true) := by
      rw [cwoV, if_pos]
      rw [hg, ZC, decide_eq_true (by omega), decide_eq_true (by omega)]
      rfl
    rw [e] at v
    rw [Za (by omega), Zb v, Za rfl, even_heads (by omega) (by omega), Zc (by simp), w64 (by omega) (by omega)]
    exact hih
theorem fa.law_j3 (l1 : List Int) (hb : ByteL l1) : Ev (fun k => fa.j3 k l1) true := by
  obtain ⟨m, n, d1⟩ := gM.ex hb
  obtain ⟨q, ws, d2, hC⟩ := gN.ex hb
  have hl : ws.length ≤ 9223372036854775807 := Yp hC.l10 (by decide)
  have hq := hC.q
  refine Zd ?_
  simp only [fa.j3]
  have s1 := fl.ev_same (evenV m n).1 (evenV m n).2.1 (by have := evenV_len m n; omega)
  have s2 := fl.ev_same (vetoV q ws).1 (vetoV q ws).2.1 (by have := vetoV_len q ws; omega)
  have s3 := fl.ev_same (dummyV q ws).1 (dummyV q ws).2.1 (by have := dummyV_len q ws; omega)
  rw [Zb (Zx d1)]
  dsimp only
  rw [Zb (Zx (gF.v m n)), Zb (fG.ev m n), Zb d2]
  dsimp only
  rw [Zb (gl.ev q ws hl), Zb (gm.ev q ws hl), Zb (gG.ev q ws hl hq), Zb (gn.ev q ws hl), Zc (by simp), Zb s1, Za rfl, Zc (by simp), Zb s2, Za rfl, Zc (by simp), Zb s3, Za rfl]
  by_cases c : 1 ≤ m ∧ m ≤ 9 ∧ 1 ≤ n ∧ n ≤ m
  · have e : evenV m n = (n, Zp m.toNat 1, true) := if_pos c
    rw [e]
    dsimp only
    rw [Za rfl]
    exact fa.law_l1 m n c.1 c.2.1 c.2.2.1 c.2.2.2 q ws hl (m.toNat + 1) 0 (by omega)
  · rw [evenV, if_neg c, Zc (by decide)]
    exact fa.law_j5 q ws hl
theorem fa.law_l0 (l1 : List Int) (hb : ByteL l1) (q : Int) (ws : List Int) (hc : ZM q ws) : ∀ (d i : Nat), i + d = ws.length → Ev (fun k => fa.l0 k l1 (ws.length : Int) (i : Int) q ws q (fc.sortD ws) q (lowN (Ze q ws) q ws ws.length)) true := by
  have h9 := hc.l9
  have hlow := lowN_len hc ws.length (ZG _)
  obtain ⟨hp, hd⟩ := sortD_facts ws
  have hsl := hp.length_eq
  intro d
  induction d with
  | zero =>
    intro i h
    refine Zd ?_
    simp only [fa.l0]
    rw [Zc (by omega)]
    exact fa.law_j3 l1 hb
  | succ d ih =>
    intro i h
    have hih := ih (i + 1) (by omega)
    rw [show ((i + 1 : Nat) : Int) = (i : Int) + 1 by omega] at hih
    have aa : Ev (fun k => fa.j2 k l1 (ws.length : Int) (i : Int) false q ws q (fc.sortD ws) q (lowN (Ze q ws) q ws ws.length)) true := by
      refine Zd ?_
      simp only [fa.j2]
      rw [Zc (by decide), w64 (by omega) (by omega)]
      exact hih
    refine Zd ?_
    simp only [fa.l0]
    have hlb := low_below hc i
    rw [Za (by omega), Za (by omega), Za (by omega), Za (by omega), rd_nat, rd_nat ws, Zc (by omega)]
    by_cases c : (i : Int) > 0
    · have e : ZN ((i : Int) - 1) = ((i - 1 : Nat) : Int) := by rw [w64 (by omega) (by omega)]; omega
      have h1 := ZP.1 hd (i - 1) i (by omega) (by omega) (by omega)
      rw [Za c, e, Za (by omega), Za (by omega), Za (by omega), Z9 _ (i - 1) (by omega), Z9 _ i (by omega), decide_eq_false (by omega)]
      exact aa
    · rw [Zc c]
      exact aa
theorem fa.law_j0 (l1 : List Int) (hb : ByteL l1) (q : Int) (ws : List Int) (hl : ws.length ≤ 9223372036854775807) : Ev (fun k => fa.j0 k l1 (partV q ws).2.2 (spareV q ws).1 (spareV q ws).2.1 q ws (partV q ws).1 (partV q ws).2.1 (sortV q ws).1 (sortV q ws).2.1 (lowV q ws).1 (lowV q ws).2.1) true := by
  refine Zd ?_
  simp only [fa.j0]
  cases hg : Zq q ws with
  | false =>
    have e : (partV q ws).2.2 = false := by rw [partV, if_neg (by rw [hg]; decide)]
    rw [e, Zc (by decide)]
    exact fa.law_j3 l1 hb
  | true =>
    have hc := (Zk q ws).1 hg
    have h9 := hc.l9
    have hs := hc.sum
    obtain ⟨hb1, hb2⟩ := spare_bounds hc
    have aa := hc.q1
    have hqs := hc.qs
    obtain ⟨pw, pg⟩ := part_same hc
    obtain ⟨lw, lg⟩ := low_same hc
    have hlow := lowN_len hc ws.length (ZG _)
    obtain ⟨sp, _⟩ := sortD_facts ws
    have hsl := sp.length_eq
    have e1 : (partV q ws).2.2 = true := by rw [partV, if_pos hg]
    have pl : (partV q ws).2.1.length ≤ 9 := partV_len q ws
    have e2 : lowV q ws = (q, lowN (Ze q ws) q ws ws.length, true) := if_pos hg
    have e3 : sortV q ws = (q, fc.sortD ws, true) := if_pos hg
    have e4 : spareV q ws = (spWin (Ze q ws) ws (2 ^ ws.length) - q, q - spLose (Ze q ws) ws (2 ^ ws.length), true) := if_pos hg
    have a1 : asmV q ws (partV q ws).1 (partV q ws).2.1 = (true, true) := by rw [asmV, if_pos ⟨hg, pg⟩, pw, decide_eq_true rfl]
    have a2 : asmV q ws q (lowN (Ze q ws) q ws ws.length) = (true, true) := by rw [asmV, if_pos ⟨hg, lg⟩, lw, decide_eq_true rfl]
    have a3 : qrV q ws = (spLose (Ze q ws) ws (2 ^ ws.length) + 1, spWin (Ze q ws) ws (2 ^ ws.length), true) := if_pos hg
    have hgs : Zq q (fc.sortD ws) = true := (Zk _ _).2 ⟨by rw [hsl]; exact hc.l1, by rw [hsl]; exact hc.l9, fun x hx => hc.w x (sp.mem_iff.1 hx), hc.q1, by rw [perm_sumI sp]; exact hc.qs⟩
    have a4 : cwV q ws = (cntW (Ze q ws), true) := if_pos hg
    have a5 : cwV q (fc.sortD ws) = (cntW (Ze q ws), true) := by rw [cwV, if_pos hgs, cntW_perm sp]
    have v1 := fJ.ev q ws (partV q ws).1 (partV q ws).2.1 hl (by omega)
    have v2 := fJ.ev q ws q (lowN (Ze q ws) q ws ws.length) hl (by omega)
    have v3 := fg.ev q (lowN (Ze q ws) q ws ws.length) (by omega)
    have v4 := fX.ev q ws hl
    have v5 := fy.ev q ws hl
    have v6 := fy.ev q (fc.sortD ws) (by omega)
    have v7 := fl.ev_same q (lowN (Ze q ws) q ws ws.length) (by omega)
    rw [a1] at v1
    rw [a2] at v2
    rw [lowV_again hc] at v3
    rw [a3] at v4
    rw [a4] at v5
    rw [a5] at v6
    rw [e1, e2, e3, e4]
    dsimp only
    rw [Za rfl, Zb v1, Zb v2, Zb v3, Zb v4, Zb v5, Zb v6, Za rfl, Za rfl, Za rfl, Za rfl, Za rfl, Zb v7, Za rfl, Za rfl, Za (by dsimp only; rw [w64 (by omega) (by omega)]), Za (by dsimp only; rw [w64 (x := q - (spLose (Ze q ws) ws (2 ^ ws.length) + 1)) (by omega) (by omega), w64 (by omega) (by omega)]; omega), Za rfl, Za rfl, Za rfl]
    exact fa.law_l0 l1 hb q ws hc ws.length 0 (by omega)
theorem fa.law (l0 l1 : List Int) (ok0 : OkBL l0) (ok1 : OkBL l1) : Ev (fun k => fa.f k l0 l1) true := by
  simp only [fa.f]
  rcases gw.cases l0 l1 with ⟨b, hbg, rfl⟩ | ⟨hbg, h0, h1⟩
  · rw [Zb (Zx hbg), Za rfl, Zf]
  have hb1 := ByteL.of ok1 h1
  obtain ⟨q, ws, a, hd1, hD1⟩ := gK.ex (ByteL.of ok0 h0)
  obtain ⟨q1, ws1, hd2, hD2⟩ := f5.ex (ByteL.of ok0 h0)
  have hl : ws.length ≤ 9223372036854775807 := Yp hD1.l10 (by decide)
  have aa : ws1.length ≤ 9223372036854775807 := Yp hD2.l10 (by decide)
  have ab := fa.law_j0 l1 hb1 q1 ws1 aa
  have s1 := fl.ev_same (timesV q ws a).1 (timesV q ws a).2.1 (by have := timesV_len q ws a; omega)
  have s2 := fl.ev_same (partV q1 ws1).1 (partV q1 ws1).2.1 (by have := partV_len q1 ws1; omega)
  have s3 := fl.ev_same (sortV q1 ws1).1 (sortV q1 ws1).2.1 (by have := sortV_len q1 ws1; omega)
  have s4 := fl.ev_same (lowV q1 ws1).1 (lowV q1 ws1).2.1 (by have := lowV_len q1 ws1; omega)
  have b1 : (partV q1 ws1).2.2 = Zq q1 ws1 := by unfold partV; split <;> simp_all
  have b2 : (sortV q1 ws1).2.2 = Zq q1 ws1 := by unfold sortV; split <;> simp_all
  have b3 : (lowV q1 ws1).2.2 = Zq q1 ws1 := by unfold lowV; split <;> simp_all
  have b4 : (spareV q1 ws1).2.2 = Zq q1 ws1 := by unfold spareV; split <;> simp_all
  rw [Zb (Zx hbg), Zc (by decide), Zb hd1]
  dsimp only
  rw [Zb (fE.ev q ws a hl), Zb (fu.ev q ws a hl), Zb hd2]
  dsimp only
  rw [Zb (ff.ev q1 ws1 aa), Zb (fk.ev q1 ws1 aa), Zb (fc.ev q1 ws1 aa), Zb (fo.ev q1 ws1 aa), Zb (fg.ev q1 ws1 aa), Zb (fe.ev q1 ws1 aa), Zb (fL.ev q1 ws1 aa), Zb (fW.ev q1 ws1 aa), Zc (by simp), Zb s1, Za rfl, Zc (by simp), Zb s2, Za rfl, Zc (by simp), Zb s3, Za rfl, Zc (by simp), Zb s4, Za rfl, Zc (by simp), Za rfl, Za rfl, Zb (fd.ev q1 ws1 aa), Zc (by rw [b1]; simp), Zc (by rw [b1, b2]; simp), Zc (by rw [b1, b3]; simp), Zc (by rw [b1, b4]; simp)]
  by_cases c : (Zq q ws = true ∧ 1 ≤ a ∧ a ≤ 1000) ∧ Zq ((q - 1) * a + 1) (ws.map (· * a)) = true
  · have e : timesV q ws a = ((q - 1) * a + 1, ws.map (· * a), true) := by rw [timesV, if_pos c.1, ifGood, if_pos c.2]
    have hc := (Zk q ws).1 c.1.1
    have h9 := hc.l9
    have p1 : asmV q ws ((q - 1) * a + 1) (ws.map (· * a)) = (true, true) := by rw [asmV, if_pos ⟨c.1.1, c.2⟩, times_wins c.1.2.1, decide_eq_true rfl]
    have v1 := fJ.ev q ws ((q - 1) * a + 1) (ws.map (· * a)) hl (by rw [ZL]; omega)
    have v2 := ff.ev ((q - 1) * a + 1) (ws.map (· * a)) (by rw [ZL]; omega)
    have v3 := ff.ev q ws hl
    have v4 := fl.ev_same (partV q ws).1 (partV q ws).2.1 (by have := partV_len q ws; omega)
    have e2 : (partV q ws).2.2 = true := by rw [partV, if_pos c.1.1]
    rw [p1] at v1
    rw [partV_times hc c.1.2.1 c.2] at v2
    rw [e]
    dsimp only
    rw [Za rfl, Zb v1, Zb v2, Zb v3, Za rfl, Za rfl, Za e2, Za e2, Zb v4, Za rfl]
    exact ab
  · have : (timesV q ws a).2.2 = false := by
      unfold timesV ifGood
      by_cases h1 : Zq q ws = true ∧ 1 ≤ a ∧ a ≤ 1000
      · rw [if_pos h1, if_neg (fun h2 => c ⟨h1, h2⟩)]
      · rw [if_neg h1]
    rw [this, Zc (by decide)]
    exact ab
end Go.Proofs.YtaambkdiokbdgabGreat.Q
