/- Printed functions, their contracts and plain facts on them: QSpecPartCommittee; QCmpIsNaNInt; QCmpCompareInt; QSlicesCloneIntInt; QImplSortCommittee; QSpecL1Own; QSpecSortCommittee; QImplVotesIsSwing; QImplLowerWeights; . Conditions: as each theorem states. -/
import Derived.Test.YtaambkdiokbdgabGreatGWeightsMadex1
set_option maxHeartbeats 40000000
set_option maxRecDepth 100000
open Go renaming bits → Zz, bodyPost_ret → ZE, World → ZF, Calls → ZK, Value → ZV
open Go.Act renaming put → ZW
open Go.Lib renaming compact → ZC
open Go.Proofs.YtaambkdiokbdgabGreatL renaming sortLI → ZT
open Go.Proofs.YtaambkdiokbdgabGreatR renaming row_wrote → ZR, row_open → ZS
open Go.Proofs.YtaambkdiokbdgabGreatW.PrintWords renaming blk_cell → Zb, Aside0 → Zc, gate_callee → Zk, below_size → Zm, gate_dst → Zp, blk_lt → Zr, blk_put → Zt, blk_grown → Zv, blk_far → Zw, blk_frozen → ZD, below_drew1 → ZL, results_ct → ZQ, gate_builtin → ZU
open Go.Proofs.YtaambkdiokbdgabGreatW.PrintWords.Aside0 renaming mk → Za
open Go.Proofs.YtaambkdiokbdgabGreatW.PrintWords.Kd renaming C_below → Ze, R_reads' → Zg, int → Zl, R_slice → Zn, R_lower → Zu, at_bool → Zx, R_far → ZA, R_ne → ZB, R_mono → ZG, R_types → ZH, C_alloc → ZI, C_drewN → ZJ, R_after → ZM, bool → ZN, at_int → ZO, C_drew → ZP
open Go.RowKit renaming wrap64 → Zf, Below → Zy
open Go.RowKit.Below renaming refl → Zq
open Go.World renaming block_lt_of_cell? → Zj
open Int renaming one_mul → ZY, reduceToNat → Z1, tdiv → Z6
open List renaming replicate → Z2, length_append → Z3
open List.cons renaming inj → ZZ
open Nat renaming le_refl → Zs, le_succ → ZX, le_trans → Z0, ne_of_lt → Z4, ne_of_gt → Z5
open Option renaming bind_some → Zd
open Option.some renaming inj → Zh, injEq → Zi
open Prod.mk renaming injEq → Zo
namespace Go.Proofs.YtaambkdiokbdgabGreat.Q
open Go.RowKit Go.Proofs.YtaambkdiokbdgabGreatX Go.Proofs.YtaambkdiokbdgabGreatY Go.Proofs.YtaambkdiokbdgabGreatX Go.Proofs.YtaambkdiokbdgabGreatW.PrintWords Go.Proofs.YtaambkdiokbdgabGreatW.PrintLast Go.Proofs.YtaambkdiokbdgabGreatW.PrintMore
attribute [local go_sem] max2_int min2_int max_two min_two max_three min_three max_four min_four   -- for this text's walks alone
set_option linter.unusedVariables false
set_option linter.unusedSimpArgs false
mutual
def fk.l0 : Nat → Int → List Int → Int → Int → Int → List Int → Option (Int × List Int × Bool)
 | 0, _, _, _, _, _, _ => none
 | k + 1, x4, ai, am0, af, ab, aa => if af < am0 then (if 0 ≤ af then (if af < (ai.length : Int) then ((gu.f k (rd ai af) x4).bind fun aj => (fk.l0 k aj ai am0 (Zf (af + 1)) ab aa)) else (none)) else (none)) else (fk.l1 k x4 aa (aa.length : Int) 0 ab aa 0 ([] : List Int))
def fk.l1 : Nat → Int → List Int → Int → Int → Int → List Int → Int → List Int → Option (Int × List Int × Bool)
 | 0, _, _, _, _, _, _, _, _ => none
 | k + 1, x4, ak, an0, ag, ab, aa, ae, ac => if ag < an0 then (if 0 ≤ ag then (if ag < (ak.length : Int) then (if x4 = 0 then (none) else (if ac.length < 17592186044416 then (fk.l1 k x4 ak an0 (Zf (ag + 1)) ab aa ae (ac ++ [Zf (Z6 (rd ak ag) x4)])) else (none))) else (none)) else (none)) else ((fw.f k ab aa).bind fun al => ((fz.f k al ac).bind fun ah => (some (ah.1, ac, true))))
end
def fk.f (k : Nat) (ab : Int) (aa : List Int) : Option (Int × List Int × Bool) := (fi.f k ab aa).bind fun ac => (if ac = true then (fk.l0 k 0 aa (aa.length : Int) 0 ab aa) else (some (0, ([] : List Int), false)))
def fk.T13 : Bool × List (List Nat × List Nat) := (true, [([], []), ([0], [0]), ([], []), ([], []), ([2, 3], [2, 3]), ([4], [4]), ([1, 5], [1, 5]), ([0, 1, 2, 3, 4, 5, 6], []), ([7, 6, 6, 0, 1, 2, 3, 4, 5, 6], [6, 7])])
def fk.B13 : List Nat := [0, 1, 0, 0, 12, 28, 63, 127, 255]
theorem fk.tab13 : rtab .any (opsOf Tryz.f8 13) = fk.T13 := by kernel_rfl
theorem fk.bits13 : waitsOk fk.T13.2 fk.B13 = true := by kernel_rfl
def fk.T15 : Bool × List (List Nat × List Nat) := (true, [([], []), ([0], [0]), ([], []), ([2], [2]), ([1, 3, 1], [1, 3]), ([4], [4]), ([5], [5]), ([5], [5]), ([0, 1, 2, 3, 4, 5, 6], []), ([8, 6, 4, 0, 1, 2, 3, 4, 5, 6], [6, 8])])
def fk.B15 : List Nat := [0, 1, 0, 4, 15, 31, 63, 63, 127, 383]
theorem fk.tab15 : rtab .any (opsOf Tryz.f8 15) = fk.T15 := by kernel_rfl
theorem fk.bits15 : waitsOk fk.T15.2 fk.B15 = true := by kernel_rfl
theorem fk.calls (k : Nat) (ap : Int) (az : Option Addr) (ay : Nat) (af : List Int) (r1 : Int) (r2 : List Int) (r3 : Bool) (w : ZF) (bj : Kd.C (Zl .i64) w az af.length af) (bl : af.length ≤ ay) (h : fk.f k ap af = some (r1, r2, r3)) :
  ZK Tryz.prog 8 #[.agg #[.int .i64 ap, .slice az af.length ay]] w fun e w' => ∃ v1_ : ZV, e = .returned (.tuple #[.agg #[.int .i64 r1, v1_], .bool r3]) ∧ Kd.R (Zl .i64) 3 w' w.heap.size (fun _ => True) v1_ r2 ∧ Zy w.heap.size w w' := by
 have hu24 := Tryz.underlying24
 have aE := Za bj
 have bm := Za bl
 clear bj bl
 have HB := Za (Zq w.heap.size w)
 have H := h
 unfold fk.f at H
 clear h
 replace H := oA H
 obtain ⟨bH, A2, H⟩ := H
 (try dsimp only at H)
 have ct := Za H
 clear H
 go_enter Tryz.func8, Tryz.ntmps8
 go_upto_if 12 with (first | ((with_reducible refine Zp (N := 1) rfl ?_); refine xE (N := 1) (cs := #[.int .i64 ap, .slice az af.length ay]) (t := 24) ?_; intro aq hg w4 ab hb; have cu := gS hg HB; have bn := gS hg HB; replace HB := sB HB hb; clear hb hg) | ((with_reducible refine Zp (N := 2) rfl ?_); refine xE (N := 2) (cs := #[.int .i64 0, .slice none 0 0]) (t := 24) ?_; intro am0 hg w5 ae hb; have cv := gS hg HB; have bo := gS hg HB; have au := nL hg (Zr ab.out); have av := nG hg (Zr ab.out); replace ab := bB ab hb; replace HB := sB HB hb; clear hb hg; have cU := au.out; have cV := av.out; obtain ⟨bt, bu, bv, bw⟩ := zZ ab) | ((with_reducible refine Zk (f := 37) rfl ?_); refine gL 11 Tryz.func37 #[.agg #[.int .i64 ap, .slice az af.length ay]] ?_; (with_reducible refine (fi.calls k ap _ _ af bH _ (Ze aE.out HB.out) bm.out A2.out).mono ?_); rintro e w8 ⟨rfl, hb⟩; refine ⟨_, rfl, ?_⟩; replace ab := bB ab hb; replace ae := bB ae hb; replace HB := sB HB hb; (try clear hb); (try clear bt bu bv bw); obtain ⟨aG, aH, aI, aJ⟩ := zZ ab))
 have H := ct.out
 clear ct
 by_cases c3 : bH = true
 rotate_left
 ·replace c3 := Bool.eq_false_iff.mpr c3
  subst c3
  replace H := iF H
  simp only [Zi, Zo] at H
  obtain ⟨rfl, rfl, rfl⟩ := H
  (try clear aM aN aQ aT aU aV aW aX)
  obtain ⟨bZ, b5, b6, b7⟩ := zZ ae
  go_wp2_with (fail)
  refine ZE (ZQ rfl _ _ am0 24 #[.int .i64 0, .slice none 0 0] (0, 0) _ rfl (by refine Zt (cs := #[.int .i64 0, .slice none 0 0]) ?_ 1 _ rfl; refine Zt (cs := #[.int .i64 0, .slice none 0 0]) ?_ 0 _ rfl; exact ae.out) Tryz.underlying24 rfl (by kernel_rfl)) rfl ?_
  exact ⟨_, fR, by first | exact Kd.R_nil _ _ _ _ _ | exact Kd.N_nil _ _ _ _ _ | exact Kd.V_nil _ _ _ _ _ | exact Kd.Q_nil _ _ _ _ _ | exact Kd.S_nil _ _ _ _ _, wB⟩
 subst c3
 replace H := iT H
 have H' := Za H
 clear H
 go_wp2_with (fail)
 go_loopg [4, 17] k (fun kq v4 cW w' => ∃ (aw : Int) (al : Int), v4 = .int .i64 aw ∧ cW = .int .i64 al ∧ Zc (fk.l0 kq aw af (af.length : Int) al ap af = some (r1, r2, r3)) ∧ Zc (kq ≤ k) ∧ Zc (w'.heap[aq]? = some (.cells #[.int .i64 ap, (.slice az af.length ay)] 24 (0, 0))) ∧ Zc (w'.heap[am0]? = some (.cells #[.int .i64 0, (.slice none 0 0)] 24 (0, 0))) ∧ Zc (Zy w.heap.size w w'))
 case atStart => exact ⟨(0), (0), gR, gR, H', ⟨Zs _⟩, ⟨by exact ab.out⟩, ⟨by exact ae.out⟩, ⟨wB⟩⟩
 case round =>
  clear H'
  (try clear p2); (try clear c3); (try clear c6); (try clear c8); (try clear aG); (try clear aH); (try clear aI); (try clear aJ)
  obtain ⟨aw, al, rfl, rfl, HA, HK1, ab, ae, HB⟩ := hrel
  cases gk with
  | zero => exact absurd HA.out (by simp [fk.l0])
  | succ k1 =>
   have H := HA.out
   clear HA
   simp only [fk.l0] at H
   by_cases bx : al < (af.length : Int)
   ·rw [if_pos bx] at H
    have bq := decide_eq_true bx
    clear bx
    by_cases bI : 0 ≤ al
    rotate_left
    ·rw [if_neg bI] at H
     exact absurd H (by simp)
    rw [if_pos bI] at H
    have bJ := decide_eq_true bI
    clear bI
    by_cases bK : al < (af.length : Int)
    rotate_left
    ·rw [if_neg bK] at H
     exact absurd H (by simp)
    rw [if_pos bK] at H
    have bL := decide_eq_true bK
    clear bK
    replace H := oA H
    obtain ⟨bM, cX, H⟩ := H
    (try dsimp only at H)
    have H' := Za H
    clear H
    have aY : 0 ≤ (al : Int) := oD
    have aZ : al < (af.length : Int) := oD
    obtain ⟨cw, cm, ax⟩ := ZO aE.out al aY aZ
    cases cm
    replace ax := (HB.out.cell (Zj w _ ax)).trans ax
    replace aY := eq_true aY
    replace aZ := eq_true aZ
    go_wp2_with (first | ((with_reducible refine Zk (f := 42) rfl ?_); refine gL 23 Tryz.func42 #[.int .i64 (rd af al), .int .i64 aw] ?_; (with_reducible refine (gu.calls k1 (rd af al) aw bM _ cX.out).mono ?_); rintro e w' ⟨rfl, ⟨nd, rfl⟩⟩; refine ⟨_, rfl, ?_⟩))
    go_roundg k1
    case measure => have := HK1.out; omega
    case rel => exact ⟨(bM), (Zf (al + 1)), gR, gR, H', ⟨by have := HK1.out; omega⟩, ⟨bQ ab⟩, ⟨bQ ae⟩, ⟨wB⟩⟩
   rw [if_neg bx] at H
   have bq : decide (al < (af.length : Int)) = false := decide_eq_false bx
   clear bx
   have H' := Za H
   clear H
   go_wp2_with (first | ((with_reducible refine Zp (N := 7) rfl ?_); refine xE (N := 7) (cs := #[.int .i64 0, .slice none 0 0]) (t := 24) ?_; intro aj hg dl ac hb; have cy := Za ((by rw [hg]; exact (Zm (by repeat (first | exact HB.out | apply ba | apply bd | apply be | refine bs ?_ bn.out | refine bs ?_ bo.out))) : w.heap.size ≤ aj)); have cz := Za ((by rw [hg]; exact (Zm (by repeat (first | exact HB.out | apply ba | apply bd | apply be | refine bs ?_ bn.out | refine bs ?_ bo.out))) : w.heap.size ≤ aj)); have ai := Za ((by rw [hg]; exact Z4 (Zr (g := aq) (o := .cells #[.int .i64 ap, .slice az af.length ay] 24 (0, 0)) (bQ ab)) : aq ≠ aj)); have an0 := Za ((by rw [hg]; exact Z5 (Zr (g := aq) (o := .cells #[.int .i64 ap, .slice az af.length ay] 24 (0, 0)) (bQ ab)) : aj ≠ aq)); have ah := Za ((by rw [hg]; exact Z4 (Zr (g := am0) (o := .cells #[.int .i64 0, .slice none 0 0] 24 (0, 0)) (bQ ae)) : am0 ≠ aj)); have ao := Za ((by rw [hg]; exact Z5 (Zr (g := am0) (o := .cells #[.int .i64 0, .slice none 0 0] 24 (0, 0)) (bQ ae)) : aj ≠ am0)); replace ab := bP ab hb; replace ae := bP ae hb; replace HB := sQ hb; clear hb hg; have cA := an0.out; have cB := ai.out; have cD := ao.out; have cE := ah.out; obtain ⟨a6, a7, a8, bb⟩ := zZ ac; have cF := au.out; have cG := av.out; obtain ⟨bc, bf, bg, bh⟩ := zZ ab))
   go_loopg [29] k1 (fun kq cY w' => ∃ (ak : Int) (ag : List Int) (u107001 : ZV), cY = .int .i64 ak ∧ Zc (fk.l1 kq aw af (af.length : Int) ak ap af 0 ag = some (r1, r2, r3)) ∧ Zc (kq ≤ k1) ∧ Zc (Kd.R (Zl .i64) 3 w' w.heap.size (fun _ => True) u107001 ag) ∧ Zc (w'.heap[aq]? = some (.cells #[.int .i64 ap, (.slice az af.length ay)] 24 (0, 0))) ∧ Zc (w'.heap[am0]? = some (.cells #[.int .i64 0, (.slice none 0 0)] 24 (0, 0))) ∧ Zc (w'.heap[aj]? = some (.cells #[.int .i64 0, u107001] 24 (0, 0))) ∧ Zc (Zy w.heap.size w w'))
   case atStart => exact ⟨(0), (([] : List Int)), (.slice none 0 0), gR, H', ⟨Zs _⟩, ⟨by first | exact Kd.R_nil _ _ _ _ _ | exact Kd.N_nil _ _ _ _ _ | exact Kd.V_nil _ _ _ _ _ | exact Kd.Q_nil _ _ _ _ _ | exact Kd.S_nil _ _ _ _ _⟩, ⟨by (with_reducible repeat (first | refine kN ?_ _ | refine kD ?_ | refine kA ?_ _)); refine Zw ?_ ai.out _; (with_reducible repeat (first | refine kN ?_ _ | refine kD ?_ | refine kA ?_ _)); refine Zw ?_ ai.out _; (with_reducible repeat (first | refine kN ?_ _ | refine kD ?_ | refine kA ?_ _)); exact ab.out⟩, ⟨by (with_reducible repeat (first | refine kN ?_ _ | refine kD ?_ | refine kA ?_ _)); refine Zw ?_ ah.out _; (with_reducible repeat (first | refine kN ?_ _ | refine kD ?_ | refine kA ?_ _)); refine Zw ?_ ah.out _; (with_reducible repeat (first | refine kN ?_ _ | refine kD ?_ | refine kA ?_ _)); exact ae.out⟩, ⟨by (with_reducible repeat (first | refine kN ?_ _ | refine kD ?_ | refine kA ?_ _)); refine Zt (cs := #[.int .i64 0, .slice none 0 0]) ?_ 1 _ rfl; (with_reducible repeat (first | refine kN ?_ _ | refine kD ?_ | refine kA ?_ _)); refine Zt (cs := #[.int .i64 0, .slice none 0 0]) ?_ 0 _ rfl; (with_reducible repeat (first | refine kN ?_ _ | refine kD ?_ | refine kA ?_ _)); exact ac.out⟩, ⟨wB⟩⟩
   case round =>
    clear H'
    (try clear c1); (try clear p1); (try clear q1); (try clear dm); (try clear p2); (try clear c3); (try clear c4); (try clear c6); (try clear p6); (try clear c8); (try clear bx); (try clear bq); (try clear dn); (try clear dp); (try clear db); (try clear bI); (try clear bJ); (try clear bK); (try clear bL); (try clear dq); (try clear dr); (try clear dt); (try clear a6); (try clear a7); (try clear bc); (try clear bf); (try clear aG); (try clear aH); (try clear a8); (try clear bb); (try clear bg); (try clear bh); (try clear aI); (try clear aJ); (try clear ax); (try clear aY); (try clear p2); (try clear aZ)
    obtain ⟨ak, ag, u107001, rfl, HA, HK2, aa, ab, ae, ac, HB⟩ := hrel
    cases gk with
    | zero => exact absurd HA.out (by simp [fk.l1])
    | succ k2 =>
     have H := HA.out
     clear HA
     simp only [fk.l1] at H
     by_cases bG : ak < (af.length : Int)
     rotate_left
     ·rw [if_neg bG] at H
      have bN : decide (ak < (af.length : Int)) = false := decide_eq_false bG
      clear bG
      replace H := oA H
      obtain ⟨bz, dc, H⟩ := H
      (try dsimp only at H)
      replace H := oB H
      obtain ⟨⟨aK, cn⟩, bO, H⟩ := H
      (try dsimp only at H)
      have de := Za bO
      clear bO
      simp only [Zi, Zo] at H
      obtain ⟨rfl, rfl, rfl⟩ := H
      try go_wp2
      replace aa := rD aa
      replace ab := bD ab
      replace ae := bD ae
      replace ac := bD ac
      replace HB := Za (ZL HB.out)
      refine start_ (n := 10) (S := fun w' => w'.cell? ⟨aq, 0, none⟩ = some (.int .i64 ap) ∧ w'.cell? ⟨aq, 1, none⟩ = some (.slice az af.length ay) ∧ w'.cell? ⟨aj, 0, none⟩ = some (.int .i64 0) ∧ w'.cell? ⟨aj, 1, none⟩ = some (u107001)) (ds := [9]) #[F,F,F,F,F,F,F,F,F,F] (by kernel_rfl) rfl rfl ⟨(Zb ab.out 0).trans rfl, (Zb ab.out 1).trans rfl, (Zb ac.out 0).trans rfl, (Zb ac.out 1).trans rfl⟩ (fun hHeld => ?_); refine with_tabW fk.tab15 fk.bits15 (fun HT_ HW_ => ?_)
      generalize wr.drew = du at aa ab ae ac HB hHeld ⊢
      refine pU 2 HT_ ?_
      refine tK 0 HT_ HW_ hHeld (hy := by rintro w' ⟨s0, s1, s2, s3⟩; go_simp; with_reducible rfl) ?_
      refine tK 3 HT_ HW_ hHeld (hy := by rintro w' ⟨s0, s1, s2, s3⟩; go_simp; with_reducible rfl) ?_
      refine oN 1 HT_ (fun K hK => ?_)
      refine gE Tryz.func44 #[.agg #[.int .i64 ap, .slice az af.length ay]] ?_
      with_reducible refine (fw.calls k2 ap _ _ af bz _ (Ze aE.out HB.out) bm.out dc.out).mono ?_
      rintro e dv ⟨dg, rfl, cH, hb⟩
      refine ⟨_, rfl, ?_⟩
      have aC := Za (Zu cH (Zm HB.out))
      replace aa := rB aa hb
      replace ab := bB ab hb
      replace ae := bB ae hb
      replace ac := bB ac hb
      replace HB := sB HB hb
      (try clear hb)
      (try clear hb2)
      (try clear hk)
      (try clear hi)
      (try clear cH)
      obtain ⟨cp, cq, bR⟩ := Zn aC.out
      (first | subst bR | (injection bR with f1_ f2_ f3_; have f4_ := f1_.symm; have f5_ := f3_.symm; clear f1_ f2_ f3_; subst f4_; subst f5_))
      obtain ⟨bA, bC, bS⟩ := Zn aa.out
      (first | subst bS | (injection bS with f1_ f2_ f3_; have f4_ := f1_.symm; have f5_ := f3_.symm; clear f1_ f2_ f3_; subst f4_; subst f5_))
      refine hK.out _ _ ⟨(Zb ab.out 0).trans rfl, (Zb ab.out 1).trans rfl, (Zb ac.out 0).trans rfl, (Zb ac.out 1).trans rfl⟩ (fun hHeld => ?_)
      clear hK K
      refine nM ?_
      refine oN 4 HT_ (fun K hK => ?_)
      refine gE Tryz.func43 #[.slice cp bz.length cq, .slice bA ag.length bC] ?_
      with_reducible refine (fz.calls k2 _ _ bz _ _ ag aK cn _ ?side1 ?side2 ?side3 ?side4 de.out).mono ?_
      (case side1 => have hx_ := (Zg aC.out).2.2; exact cC)
      (case side2 => exact (Zg aC.out).2.1)
      (case side3 => have hx_ := (Zg aa.out).2.2; exact cC)
      (case side4 => exact (Zg aa.out).2.1)
      rintro e dh ⟨rfl, hb⟩
      refine ⟨_, rfl, ?_⟩
      replace aa := rB aa hb
      replace aC := rB aC hb
      replace ab := bB ab hb
      replace ae := bB ae hb
      replace ac := bB ac hb
      replace HB := sB HB hb
      (try clear hb)
      (try clear hb2)
      (try clear hk)
      (try clear hi)
      refine hK.out _ _ ⟨(Zb ab.out 0).trans rfl, (Zb ab.out 1).trans rfl, (Zb ac.out 0).trans rfl, (Zb ac.out 1).trans rfl⟩ (fun hHeld => ?_)
      clear hK K
      refine nM ?_
      refine pU 5 HT_ ?_
      refine pU 6 HT_ ?_
      refine pU 7 HT_ ?_
      refine pU 8 HT_ ?_
      refine last_ (i := 9) (N := none) #[T,T,T,T,T,T,T,T,T,T] rfl rfl (one_of HT_.out (by kernel_rfl)) (by decide) (fun K hK => ?_)
      have hs36 : dh.cell? ⟨aj, 0, none⟩ = some (.int .i64 0) := (Zb ac.out 0).trans rfl
      have cI := ZD ac.out 0
      have b8 := ai.out
      have b9 := ah.out
      have ca := an0.out
      have cb := ao.out
      refine skip_ (w1 := ?_) (by rfl) rfl ?_ ?_
      rotate_left
      ·go_simp
       rfl
      refine hK.out _ _ ?_
      clear hK K
      refine done_ (done_of HT_.out (by kernel_rfl)) ?_
      have cJ := an0.out
      have cK := ai.out
      have cL := ao.out
      have cM := ah.out
      obtain ⟨aM, aN, aQ, aT⟩ := zZ ac
      have cN := av.out
      have cO := au.out
      obtain ⟨aU, aV, aW, aX⟩ := zZ ae
      try go_wp2
      refine ZE (ZQ rfl _ _ am0 24 #[.int .i64 aK, .slice bA ag.length bC] (0, 0) _ rfl (by refine Zt (cs := #[.int .i64 aK, .slice none 0 0]) ?_ 1 _ rfl; refine Zt (cs := #[.int .i64 0, .slice none 0 0]) ?_ 0 _ rfl; refine Zw ?_ ah.out _; exact ae.out) Tryz.underlying24 rfl (by kernel_rfl)) rfl ?_
      exact ⟨_, fR, by exact ZG (ZA (p := ⟨am0, 1, none⟩) (ZA (p := ⟨am0, 0, none⟩) (ZA (p := ⟨aj, 0, none⟩) (ZH (ZH aa.out ac.out (by decide)) ae.out (by decide)) (fun _ hk => hk.1.2) (.int .i64 aK)) (fun _ hk => hk.2) (.int .i64 aK)) (fun _ hk => hk.2) (.slice bA ag.length bC)) (fun _ hk => trivial), wB⟩
     rw [if_pos bG] at H
     have bN := decide_eq_true bG
     clear bG
     by_cases cd : 0 ≤ ak
     rotate_left
     ·rw [if_neg cd] at H
      exact absurd H (by simp)
     rw [if_pos cd] at H
     have cP := decide_eq_true cd
     clear cd
     by_cases ce : ak < (af.length : Int)
     rotate_left
     ·rw [if_neg ce] at H
      exact absurd H (by simp)
     rw [if_pos ce] at H
     have cQ := decide_eq_true ce
     clear ce
     by_cases cg : aw = 0
     ·rw [if_pos cg] at H
      exact absurd H (by simp)
     rw [if_neg cg] at H
     have cR : (aw == 0) = false := beq_eq_false_iff_ne.mpr cg
     have cS : (aw != 0) = true := bne_iff_ne.mpr cg
     by_cases ch : ag.length < 17592186044416
     rotate_left
     ·rw [if_neg ch] at H
      exact absurd H (by simp)
     rw [if_pos ch] at H
     have bT := Za ch
     clear ch
     obtain ⟨bi, aD⟩ : ∃ y_ : List Int, y_ = (ag ++ [Zf (Z6 (rd af ak) aw)]) := ⟨_, rfl⟩
     replace H : (fk.l1 k2 aw af (af.length : Int) (Zf (ak + 1)) ap af 0 bi) = some (r1, r2, r3) := by first | (rw [aD]; with_reducible exact H) | (have H2_ := (Zd _ _).symm.trans H; rw [aD]; with_reducible exact H2_) | (have H2_ := (Zd _ _).symm.trans H; with_reducible exact H2_) | with_reducible exact H | (rw [aD]; exact H) | exact H
     have bU := Za aD
     clear aD
     have H' := Za H
     clear H
     have bE : 0 ≤ (ak : Int) := oD
     have bF : ak < (af.length : Int) := oD
     obtain ⟨bV, cr, aA⟩ := ZO aE.out ak bE bF
     cases cr
     replace aA := (HB.out.cell (Zj w _ aA)).trans aA
     replace bE := eq_true bE
     replace bF := eq_true bF
     try go_wp2
     replace aa := rD aa
     replace ab := bD ab
     replace ae := bD ae
     replace ac := bD ac
     replace HB := Za (ZL HB.out)
     refine start_ (n := 9) (S := fun w' => w'.cell? ⟨aj, 0, none⟩ = some (.int .i64 0) ∧ w'.cell? ⟨aj, 1, none⟩ = some (u107001)) (ds := [8]) #[F,F,F,F,F,F,F,F,F] (by kernel_rfl) rfl rfl ⟨(Zb ac.out 0).trans rfl, (Zb ac.out 1).trans rfl⟩ (fun hHeld => ?_); refine with_tabW fk.tab13 fk.bits13 (fun HT_ HW_ => ?_)
     generalize wr.drew = dw at aa ab ae ac HB hHeld ⊢
     refine pU 0 HT_ ?_
     refine pU 2 HT_ ?_
     refine pU 3 HT_ ?_
     refine pU 4 HT_ ?_
     refine tK 1 HT_ HW_ hHeld (hy := by rintro w' ⟨s0, s1⟩; go_simp; with_reducible rfl) ?_
     refine oN 5 HT_ (fun K hK => ?_)
     refine value_ (w1 := ?_) (v := ?_) (by rfl) rfl ?_ ?_
     rotate_left 2
     ·go_simp
      constructor
      ·rfl
      rfl
     refine hK.out _ _ ⟨(Zb (blk_alloc ac.out _) 0).trans rfl, (Zb (blk_alloc ac.out _) 1).trans rfl⟩ (fun hHeld => ?_)
     clear hK K
     refine nM ?_
     refine oN 6 HT_ (fun K hK => ?_)
     refine Kd.R_append_step (Zl .i64) (w0 := w) w.heap.size (by rfl) (.tmp 34) (.tmp 38) 22 3 (.int .i64 0) 8 rfl Tryz.underlying22 info3 rfl (by decide) (by omega) u107001 ag (Zf (Z6 (rd af ak) aw)) [.int .i64 (Zf (Z6 (rd af ak) aw))] (fun _ => True) (fun _ => False) rfl rfl ?aP (fun _ hk => hk.elim) ?aF ?aO ?aB ?aS ?aL ?_
     (case aP => exact rfl)
     (case aB => exact HB.out)
     (case aF => exact (fun _ _ => trivial))
     (case aO => exact aa.out)
     (case aS => exact (Zm HB.out))
     (case aL => have := bT.out; omega)
     intro di dj ho hb hg hat
     rw [← bU.out] at ho
     have br := Za (ho)
     replace ab := Za (Zv (g := aq) (o := .cells #[.int .i64 ap, .slice (some bV) af.length ay] 24 (0, 0)) ab.out hg (ZB aa.out ab.out (by decide)))
     replace ae := Za (Zv (g := am0) (o := .cells #[.int .i64 0, .slice none 0 0] 24 (0, 0)) ae.out hg (ZB aa.out ae.out (by decide)))
     replace ac := Za (Zv (g := aj) (o := .cells #[.int .i64 0, u107001] 24 (0, 0)) ac.out hg (ZB aa.out ac.out (by decide)))
     replace HB := Za (hb)
     clear ho hb hg hat
     obtain ⟨bW, bX, bY⟩ := Zn br.out
     (first | subst bY | (injection bY with f1_ f2_ f3_; have f4_ := f1_.symm; have f5_ := f3_.symm; clear f1_ f2_ f3_; subst f4_; subst f5_))
     refine hK.out _ _ ⟨(Zb ac.out 0).trans rfl, (Zb ac.out 1).trans rfl⟩ (fun hHeld => ?_)
     clear hK K
     refine nM ?_
     refine pU 7 HT_ ?_
     refine last_ (i := 8) (N := none) #[T,T,T,T,T,T,T,T,T] rfl rfl (one_of HT_.out (by kernel_rfl)) (by decide) (fun K hK => ?_)
     have hs28 : dj.cell? ⟨aj, 1, none⟩ = some (u107001) := (Zb ac.out 1).trans rfl
     have cT := ZD ac.out 1
     have ci := ai.out
     have cj := ah.out
     have ck := an0.out
     have cl := ao.out
     refine skip_ (w1 := ?_) (by rfl) rfl ?_ ?_
     rotate_left
     ·go_simp
      rfl
     refine hK.out _ _ ?_
     clear hK K
     refine done_ (done_of HT_.out (by kernel_rfl)) ?_
     try go_wp2
     go_roundg k2
     case measure => have := HK1.out; have := HK2.out; omega
     case rel => exact ⟨(Zf (ak + 1)), (bi), (.slice bW bi.length bX), gR, H', ⟨by have := HK1.out; have := HK2.out; omega⟩, ⟨by exact ZG (ZA (p := ⟨aj, 1, none⟩) (ZH br.out ac.out (by decide)) (fun _ hk => hk.2) (.slice bW bi.length bX)) (fun _ hk => trivial)⟩, ⟨by refine Zw ?_ ai.out _; exact ab.out⟩, ⟨by refine Zw ?_ ah.out _; exact ae.out⟩, ⟨by refine Zt (cs := #[.int .i64 0, u107001]) ?_ 1 _ rfl; exact ac.out⟩, ⟨wB⟩⟩
def gi.f (a0 : Int) : Option (Bool) := some (a0 != a0)
theorem gi.calls (a0 : Int) (r : Bool) (w : ZF) (h : gi.f a0 = some r) :
  ZK Tryz.prog 80 #[.int .i64 a0] w fun e w' => e = .returned (.bool r) ∧ Drawn0 w w' := by
 have H : (some (a0 != a0)) = some r := h
 clear h
 obtain rfl := Zh H
 go_enter Tryz.func80, Tryz.ntmps80
 go_wp2
 go_ret
 exact ⟨by first | rfl | (simp; done) | (simp [*]; done), dS⟩
def gD.f (a0 : Int) (a1 : Int) : Option (Int) := (gi.f a0).bind fun ab => ((gi.f a1).bind fun aa => (if ab = true then (if aa = true then (some 0) else (some (-1))) else (if aa = true then (some 1) else (if a0 < a1 then (some (-1)) else (if a0 > a1 then (some 1) else (some 0))))))
theorem gD.calls (a0 : Int) (a1 : Int) (r : Int) (w : ZF) (h : gD.f a0 a1 = some r) :
  ZK Tryz.prog 48 #[.int .i64 a0, .int .i64 a1] w fun e w' => e = .returned (.int .i64 r) ∧ Drawn0 w w' := by
 have H := h
 unfold gD.f at H
 clear h
 replace H := oA H
 obtain ⟨ab, A3, H⟩ := H
 (try dsimp only at H)
 replace H := oA H
 obtain ⟨aa, A4, H⟩ := H
 (try dsimp only at H)
 by_cases c5 : ab = true
 ·subst c5
  replace H := iT H
  by_cases c6 : aa = true
  ·subst c6
   replace H := iT H
   obtain rfl := Zh H
   go_enter Tryz.func48, Tryz.ntmps48
   go_wp2_with (first | ((with_reducible refine Zk (f := 80) rfl ?_); refine gL 8 Tryz.func80 #[.int .i64 a0] ?_; (with_reducible refine (gi.calls a0 true _ A3.out).mono ?_); rintro e w' ⟨rfl, ⟨nd, rfl⟩⟩; refine ⟨_, rfl, ?_⟩) | ((with_reducible refine Zk (f := 80) rfl ?_); refine gL 10 Tryz.func80 #[.int .i64 a1] ?_; (with_reducible refine (gi.calls a1 true _ A4.out).mono ?_); rintro e w' ⟨rfl, ⟨nd, rfl⟩⟩; refine ⟨_, rfl, ?_⟩))
   go_ret
   exact ⟨by first | rfl | (simp; done) | (simp [*]; done), dS⟩
  replace c6 := Bool.eq_false_iff.mpr c6
  subst c6
  replace H := iF H
  obtain rfl := Zh H
  go_enter Tryz.func48, Tryz.ntmps48
  go_wp2_with (first | ((with_reducible refine Zk (f := 80) rfl ?_); refine gL 8 Tryz.func80 #[.int .i64 a0] ?_; (with_reducible refine (gi.calls a0 true _ A3.out).mono ?_); rintro e w' ⟨rfl, ⟨nd, rfl⟩⟩; refine ⟨_, rfl, ?_⟩) | ((with_reducible refine Zk (f := 80) rfl ?_); refine gL 10 Tryz.func80 #[.int .i64 a1] ?_; (with_reducible refine (gi.calls a1 false _ A4.out).mono ?_); rintro e w' ⟨rfl, ⟨nd, rfl⟩⟩; refine ⟨_, rfl, ?_⟩))
  go_ret
  exact ⟨by first | rfl | (simp; done) | (simp [*]; done), dS⟩
 replace c5 := Bool.eq_false_iff.mpr c5
 subst c5
 replace H := iF H
 by_cases c7 : aa = true
 ·subst c7
  replace H := iT H
  obtain rfl := Zh H
  go_enter Tryz.func48, Tryz.ntmps48
  go_wp2_with (first | ((with_reducible refine Zk (f := 80) rfl ?_); refine gL 8 Tryz.func80 #[.int .i64 a0] ?_; (with_reducible refine (gi.calls a0 false _ A3.out).mono ?_); rintro e w' ⟨rfl, ⟨nd, rfl⟩⟩; refine ⟨_, rfl, ?_⟩) | ((with_reducible refine Zk (f := 80) rfl ?_); refine gL 10 Tryz.func80 #[.int .i64 a1] ?_; (with_reducible refine (gi.calls a1 true _ A4.out).mono ?_); rintro e w' ⟨rfl, ⟨nd, rfl⟩⟩; refine ⟨_, rfl, ?_⟩))
  go_ret
  exact ⟨by first | rfl | (simp; done) | (simp [*]; done), dS⟩
 replace c7 := Bool.eq_false_iff.mpr c7
 subst c7
 replace H := iF H
 by_cases c8 : a0 < a1
 ·rw [if_pos c8] at H
  have ac := decide_eq_true c8
  clear c8
  obtain rfl := Zh H
  go_enter Tryz.func48, Tryz.ntmps48
  go_wp2_with (first | ((with_reducible refine Zk (f := 80) rfl ?_); refine gL 8 Tryz.func80 #[.int .i64 a0] ?_; (with_reducible refine (gi.calls a0 false _ A3.out).mono ?_); rintro e w' ⟨rfl, ⟨nd, rfl⟩⟩; refine ⟨_, rfl, ?_⟩) | ((with_reducible refine Zk (f := 80) rfl ?_); refine gL 10 Tryz.func80 #[.int .i64 a1] ?_; (with_reducible refine (gi.calls a1 false _ A4.out).mono ?_); rintro e w' ⟨rfl, ⟨nd, rfl⟩⟩; refine ⟨_, rfl, ?_⟩))
  go_ret
  exact ⟨by first | rfl | (simp; done) | (simp [*]; done), dS⟩
 rw [if_neg c8] at H
 have ac : decide (a0 < a1) = false := decide_eq_false c8
 clear c8
 by_cases c9 : a0 > a1
 ·rw [if_pos c9] at H
  have ae : decide (a1 < a0) = true := decide_eq_true c9
  clear c9
  obtain rfl := Zh H
  go_enter Tryz.func48, Tryz.ntmps48
  go_wp2_with (first | ((with_reducible refine Zk (f := 80) rfl ?_); refine gL 8 Tryz.func80 #[.int .i64 a0] ?_; (with_reducible refine (gi.calls a0 false _ A3.out).mono ?_); rintro e w' ⟨rfl, ⟨nd, rfl⟩⟩; refine ⟨_, rfl, ?_⟩) | ((with_reducible refine Zk (f := 80) rfl ?_); refine gL 10 Tryz.func80 #[.int .i64 a1] ?_; (with_reducible refine (gi.calls a1 false _ A4.out).mono ?_); rintro e w' ⟨rfl, ⟨nd, rfl⟩⟩; refine ⟨_, rfl, ?_⟩))
  go_ret
  exact ⟨by first | rfl | (simp; done) | (simp [*]; done), dS⟩
 rw [if_neg c9] at H
 have ae : decide (a1 < a0) = false := decide_eq_false c9
 clear c9
 obtain rfl := Zh H
 go_enter Tryz.func48, Tryz.ntmps48
 go_wp2_with (first | ((with_reducible refine Zk (f := 80) rfl ?_); refine gL 8 Tryz.func80 #[.int .i64 a0] ?_; (with_reducible refine (gi.calls a0 false _ A3.out).mono ?_); rintro e w' ⟨rfl, ⟨nd, rfl⟩⟩; refine ⟨_, rfl, ?_⟩) | ((with_reducible refine Zk (f := 80) rfl ?_); refine gL 10 Tryz.func80 #[.int .i64 a1] ?_; (with_reducible refine (gi.calls a1 false _ A4.out).mono ?_); rintro e w' ⟨rfl, ⟨nd, rfl⟩⟩; refine ⟨_, rfl, ?_⟩))
 go_ret
 exact ⟨by first | rfl | (simp; done) | (simp [*]; done), dS⟩
def gr.f (l0 : List Int) : Option (List Int) := (some (([] : List Int) : List Int)).bind fun aa => (if aa.length + l0.length < 17592186044416 then (some (aa ++ l0)) else (none))
theorem gr.calls (A0 : Option Addr) (c0 : Nat) (l0 : List Int) (r : List Int) (w : ZF) (hr0 : Kd.C (Zl .i64) w A0 l0.length l0) (hc0 : l0.length ≤ c0) (h : gr.f l0 = some r) :
  ZK Tryz.prog 45 #[.slice A0 l0.length c0] w fun e w' => ∃ v0_ : ZV, e = .returned (v0_) ∧ Kd.R (Zl .i64) 3 w' w.heap.size (fun _ => True) v0_ r ∧ Zy w.heap.size w w' := by
 cases A0 with
 | none =>
 have e0 : l0 = [] := by
  by_cases h0 : 0 < l0.length
  ·obtain ⟨ad, e, _⟩ := hr0.2.2 h0
   cases e
  exact List.length_eq_zero_iff.1 (by omega)
 subst e0
 obtain rfl : r = [] := by simpa [gr.f] using h.symm
 have hnil : ∀ W : ZF, (binOp .eql 22 (.slice none 0 c0) (.slice none 0 0)).run Tryz.prog W = .ok (.bool true) W := fun W => Lib.run_eql_slice_nil W 22 3 none 0 c0 0 0 Tryz.underlying22
 clear hr0 hc0 h
 simp only [List.length_nil]
 go_enter Tryz.func45, Tryz.ntmps45
 go_wp2
 go_ret
 exact ⟨.slice none 0 0, rfl, Kd.R_nil _ _ _ _ _, Zq _ _⟩
 | some am0 =>
 have hnil : ∀ W : ZF, (binOp .eql 22 (.slice (some am0) l0.length c0) (.slice none 0 0)).run Tryz.prog W = .ok (.bool false) W := fun W => Lib.run_eql_slice_nil W 22 3 (some am0) l0.length c0 0 0 Tryz.underlying22
 have an0 := Za hr0
 have ap := Za hc0
 clear hr0 hc0
 have HB := Za (Zq w.heap.size w)
 have H := h
 unfold gr.f at H
 clear h
 obtain ⟨ac, aa⟩ : ∃ y_ : List Int, y_ = (([] : List Int)) := ⟨_, rfl⟩
 replace H : (if ac.length + l0.length < 17592186044416 then (some (ac ++ l0)) else (none)) = some r := by first | (rw [aa]; with_reducible exact H) | (have H2_ := (Zd _ _).symm.trans H; rw [aa]; with_reducible exact H2_) | (have H2_ := (Zd _ _).symm.trans H; with_reducible exact H2_) | with_reducible exact H | (rw [aa]; exact H) | exact H
 have ae := Za aa
 clear aa
 by_cases c2 : ac.length + l0.length < 17592186044416
 rotate_left
 ·rw [if_neg c2] at H
  exact absurd H (by simp)
 rw [if_pos c2] at H
 have aj := Za c2
 clear c2
 obtain ⟨ak, ab⟩ : ∃ y_ : List Int, y_ = (ac ++ l0) := ⟨_, rfl⟩
 replace H : (some ak) = some r := by first | (rw [ab]; with_reducible exact H) | (have H2_ := (Zd _ _).symm.trans H; rw [ab]; with_reducible exact H2_) | (have H2_ := (Zd _ _).symm.trans H; with_reducible exact H2_) | with_reducible exact H | (rw [ab]; exact H) | exact H
 have af := Za ab
 clear ab
 obtain rfl := Zh H
 go_enter Tryz.func45, Tryz.ntmps45
 go_wp2_with (first | ((with_reducible refine Zp (N := 5) rfl ?_); refine Kd.R_lit (Zl .i64) _ 3 ?hg (N := 5) ?hd (xs := ([] : List Int)) (inner := []) (ok := fun _ => True) (okp := fun _ => True) ?hr ?hp (fun _ hk => hk) trivial (Zq _ _) (Zs _) (by simp) ?_; (case hd => rfl); (case hg => rfl); (case hr => first | (go_simp; done) | (go_simp; rfl)); (case hp => exact (Reps.none _ _)); intro al w3 ag hb hg_ hnew_; clear hg_ hnew_; (first | rw [← ae.out] at ag | (simp only [Z1] at ag; rw [← ae.out] at ag)); have ah := Za (Zu ag (Zm HB.out)); replace HB := sB HB hb; clear hb ag) | ((with_reducible refine ZU (b := .append) (xs := #[.tmp 5, .tmp 6]) rfl ?_); at_builtin; refine Kd.R_append_rows (Zl .i64) (w0 := w) w.heap.size rfl (.tmp 5) (.tmp 6) 22 3 (.int .i64 0) 8 rfl Tryz.underlying22 info3 rfl (by decide) (by omega) al ac l0 _ _ _ (fun _ => True) (fun _ => False) rfl rfl ?aO ?aR (fun _ _ h => h) (fun _ h => h.elim) ?aF ?aB ?aS ?aL ?_; (case aR => repeat (first | exact (Ze an0.out HB.out) | (with_reducible refine ZI ?_ _) | (with_reducible refine ZJ ?_ _) | (with_reducible refine ZP ?_))); (case aB => exact HB.out); (case aF => exact (fun _ _ => trivial)); (case aO => exact ah.out); (case aS => exact (Zm HB.out)); (case aL => have := aj.out; omega); intro ao w5 ho hb hg hat; rw [← af.out] at ho; have ai := Za (ho); replace HB := Za (hb); clear ho hb hg hat))
 go_ret
 exact ⟨_, fR, by exact ai.out, wB⟩
def fc.cf (x y : Int) : Int := if y < x then -1 else if x < y then 1 else 0
theorem fc.lt (x y : Int) : Go.Proofs.ltOf fc.cf x y = decide (y < x) := by
 unfold Go.Proofs.ltOf fc.cf
 by_cases h1 : y < x
 ·simp [h1]
 by_cases h2 : x < y
 ·simp [h1, h2]
 simp [h1, h2]
theorem fc.swo : Go.Sort.SWO (Go.Proofs.ltOf fc.cf) where
 irrefl x := by simp [fc.lt]
 trans x y z h1 h2 := by
  simp only [fc.lt, decide_eq_true_eq] at *
  omega
 ntrans x y z h1 h2 := by
  simp only [fc.lt, decide_eq_false_iff_not] at *
  omega
theorem sc.clo (x y : Int) (W : ZF) : ZK Tryz.prog 47 #[.int .i64 x, .int .i64 y] W fun e W' => e = .returned (.int .i64 (fc.cf x y)) ∧ ∃ q, W' = W.drewN q := by
 have hcf : gD.f y x = some (fc.cf x y) := by
  have h : ∀ z : Int, gi.f z = some false := fun z => by simp [gi.f]
  simp only [gD.f, h, Zd, Bool.false_eq_true, if_false, fc.cf]
  by_cases h1 : y < x
  ·rw [if_pos h1, if_pos h1]
  by_cases h2 : x < y
  ·rw [if_neg h1, if_pos h2, if_neg h1, if_pos h2]
  rw [if_neg h1, if_neg h2, if_neg h1, if_neg h2]
 have HC := Za hcf
 clear hcf
 generalize fc.cf x y = c at *
 go_enter Tryz.func47, Tryz.ntmps47
 go_wp2_with fail
 refine (gD.calls y x c _ HC.out).mono ?_
 rintro e w' ⟨rfl, ⟨q, rfl⟩⟩
 go_wp2
 go_ret
 exact ⟨rfl, q, rfl⟩
def fc.sortD (l : List Int) : List Int := l.mergeSort fun a b => decide (b ≤ a)
theorem fc.sortD_of {xs ys : List Int} (hp : ys.Perm xs) (hs : ys.Pairwise fun a b => Go.Proofs.ltOf fc.cf b a = false) : ys = fc.sortD xs := by
 refine List.Perm.eq_of_pairwise (le := fun x y => decide (y ≤ x) = true) ?_ ?_ ?_ (hp.trans (List.mergeSort_perm _ _).symm)
 ·intro a b _ _ h1 h2
  simp only [decide_eq_true_eq] at h1 h2
  omega
 ·refine hs.imp (fun {a b} h => ?_)
  simp only [fc.lt, decide_eq_false_iff_not] at h
  simp only [decide_eq_true_eq]
  omega
 refine List.pairwise_mergeSort (fun a b c h1 h2 => ?_) (fun a b => ?_) xs
 ·simp only [decide_eq_true_eq] at *
  omega
 simp only [Bool.or_eq_true, decide_eq_true_eq]
 omega
def fc.f (k : Nat) (aa : Int) (ab : List Int) : Option (Int × List Int × Bool) := (fd.f k aa ab).bind fun t => if t = true then ((gr.f ab).bind fun c => if c.length < 4611686018427387904 then some (aa, fc.sortD c, true) else none) else some (0, [], false)
def fc.Inv (w W : ZF) (a : Int) (A : Option Addr) (n c : Nat) : Prop := Zy w.heap.size w W ∧ W.heap[w.heap.size]? = some (.cells #[.int .i64 a, .slice A n c] 24 (0, 0)) ∧ W.heap[w.heap.size + 1]? = some (.cells #[.int .i64 0, .slice none 0 0] 24 (0, 0))
theorem fc.Inv.next {w W W' : ZF} {a : Int} {A : Option Addr} {n c : Nat} (h : fc.Inv w W a A n c) (hb : Zy W.heap.size W W') : fc.Inv w W' a A n c ∧ W'.cell? ⟨w.heap.size, 0, none⟩ = some (.int .i64 a) ∧ W'.cell? ⟨w.heap.size, 1, none⟩ = some (.slice A n c) :=
 ⟨⟨h.1.trans (hb.mono h.1.size), blk_below h.2.1 hb, blk_below h.2.2 hb⟩, (Zb (blk_below h.2.1 hb) 0).trans rfl, (Zb (blk_below h.2.1 hb) 1).trans rfl⟩
theorem fc.Inv.set {w W : ZF} {a : Int} {A : Option Addr} {n c b : Nat} (h : fc.Inv w W a A n c) (hb : w.heap.size + 2 ≤ b) (j : Nat) (u : ZV) : fc.Inv w (W.setCell ⟨b, j, none⟩ u) a A n c ∧ (W.setCell ⟨b, j, none⟩ u).cell? ⟨w.heap.size, 0, none⟩ = some (.int .i64 a) ∧ (W.setCell ⟨b, j, none⟩ u).cell? ⟨w.heap.size, 1, none⟩ = some (.slice A n c) := by
 have h1 := (Below.heap_setCell W ⟨b, j, none⟩ u w.heap.size (by show w.heap.size ≠ b; omega)).trans h.2.1
 have h2 := (Below.heap_setCell W ⟨b, j, none⟩ u (w.heap.size + 1) (by show w.heap.size + 1 ≠ b; omega)).trans h.2.2
 exact ⟨⟨below_set h.1 (by omega), h1, h2⟩, (Zb h1 0).trans rfl, (Zb h1 1).trans rfl⟩
theorem fc.calls (k : Nat) (aa : Int) (ac : Option Addr) (ae : Nat) (ab : List Int) (r1 : Int) (r2 : List Int) (r3 : Bool) (w : ZF) (ag : Kd.C (Zl .i64) w ac ab.length ab) (ah : ab.length ≤ ae) (h : fc.f k aa ab = some (r1, r2, r3)) :
  ZK Tryz.prog 9 #[.agg #[.int .i64 aa, .slice ac ab.length ae]] w fun e w' => ∃ v1_ : ZV, e = .returned (.tuple #[.agg #[.int .i64 r1, v1_], .bool r3]) ∧ Kd.R (Zl .i64) 3 w' w.heap.size (fun _ => True) v1_ r2 ∧ Zy w.heap.size w w' := by
 have eg : ∀ args w, (callFunc 47 args).run Tryz.prog w = .ok (.enter 47 args) w := enters_of Tryz.func47 (by kernel_rfl) rfl
 have huC := Tryz.underlying24
 obtain ⟨t, ht, h2⟩ := oB h
 have HB1 := Za (show Zy w.heap.size w ((w.alloc (.cells #[.int .i64 aa, .slice ac ab.length ae] 24)).alloc (.cells #[.int .i64 0, .slice none 0 0] 24)) from ((Zq _ _).alloc (Zs _) _).alloc (by simp) _)
 have al := Za (blk_alloc (blk_new w (.cells #[.int .i64 aa, .slice ac ab.length ae] 24)) (.cells #[.int .i64 0, .slice none 0 0] 24))
 have hkn := blk_new (w.alloc (.cells #[.int .i64 aa, .slice ac ab.length ae] 24)) (.cells #[.int .i64 0, .slice none 0 0] 24)
 have hsz : (w.alloc (.cells #[.int .i64 aa, .slice ac ab.length ae] 24)).heap.size = w.heap.size + 1 := by simp
 rw [hsz] at hkn
 have BN1 := Za hkn
 have HR := Za ag
 have HC := Za ah
 have HT := Za ht
 clear ag ah h ht hkn hsz
 cases t with
 | false =>
  rw [if_neg (by decide)] at h2
  simp only [Zi, Zo] at h2
  obtain ⟨rfl, rfl, rfl⟩ := h2
  go_enter Tryz.func9, Tryz.ntmps9
  go_wp2_with fail
  refine (fd.calls k aa ac ae ab false _ (Ze HR.out HB1.out) HC.out HT.out).mono ?_
  rintro e w1 ⟨rfl, hb⟩
  have BN2 := bB BN1 hb
  have HB2 := Za (HB1.out.trans (hb.mono HB1.out.size))
  have hn0 := (Zb BN2.out 0).trans rfl
  have hn1 := (Zb BN2.out 1).trans rfl
  have aj := ZD BN2.out 0
  have ak := ZD BN2.out 1
  clear hb
  go_wp2
  refine ZE (ZQ rfl _ _ (w.heap.size + 1) 24 #[.int .i64 0, .slice none 0 0] (0, 0) _ rfl (by refine Zt (cs := #[.int .i64 0, .slice none 0 0]) ?_ 1 _ rfl; refine Zt (cs := #[.int .i64 0, .slice none 0 0]) ?_ 0 _ rfl; exact BN2.out) Tryz.underlying24 rfl (by kernel_rfl)) rfl ?_
  exact ⟨_, rfl, Kd.R_nil _ _ _ _ _, below_set (below_set HB2.out (ZX _)) (ZX _)⟩
 | true =>
  rw [if_pos rfl] at h2
  obtain ⟨c, hcl, h3⟩ := oB h2
  by_cases hlen : c.length < 4611686018427387904
  case neg => rw [if_neg hlen] at h3; cases h3
  rw [if_pos hlen] at h3
  simp only [Zi, Zo] at h3
  obtain ⟨rfl, rfl, rfl⟩ := h3
  have HCL := Za hcl
  have HLEN := Za hlen
  clear h2 hcl hlen
  go_enter Tryz.func9, Tryz.ntmps9
  go_wp2_with fail
  refine (fd.calls k aa ac ae ab true _ (Ze HR.out HB1.out) HC.out HT.out).mono ?_
  rintro e w1 ⟨rfl, hb⟩
  have BN2 := Za (blk_drew (blk_below BN1.out hb))
  have af := Za (blk_drew (blk_below al.out hb))
  have HB2 := Za (ZL (HB1.out.trans (hb.mono HB1.out.size)))
  clear hb
  have D0 : w1.drew.cell? ⟨w.heap.size, 0, none⟩ = some (.int .i64 aa) := (Zb af.out 0).trans rfl
  have D1 : w1.drew.cell? ⟨w.heap.size, 1, none⟩ = some (.slice ac ab.length ae) := (Zb af.out 1).trans rfl
  have HD0 := Za D0
  have HD1 := Za D1
  clear D0 D1
  go_wp2
  have HN2 := Za (show w.heap.size + 2 ≤ w1.heap.size from Zr BN2.out)
  go_region_held3 (fun W => fc.Inv w W aa ac ab.length ae ∧ W.cell? ⟨w.heap.size, 0, none⟩ = some (.int .i64 aa) ∧ W.cell? ⟨w.heap.size, 1, none⟩ = some (.slice ac ab.length ae))
   (first | exact ⟨⟨HB2.out, af.out, BN2.out⟩, HD0.out, HD1.out⟩ | exact fc.Inv.next ⟨HB2.out, af.out, BN2.out⟩ hb | exact fc.Inv.next ⟨HB2.out, af.out, BN2.out⟩ (below_alloc (Zq _ _) _) | exact fc.Inv.next (fc.Inv.next ⟨HB2.out, af.out, BN2.out⟩ hb).1 (below_alloc (Zq _ _) _) | exact fc.Inv.next (fc.Inv.next ⟨HB2.out, af.out, BN2.out⟩ (below_alloc (Zq _ _) _)).1 hb | exact fc.Inv.set (fc.Inv.set (fc.Inv.next (fc.Inv.next ⟨HB2.out, af.out, BN2.out⟩ (below_alloc (Zq _ _) _)).1 hb).1 HN2.out _ _).1 HN2.out _ _)
   (first
    | (refine (gr.calls ac ae ab c w1.drew (Ze HR.out HB2.out) HC.out HCL.out).mono ?_; rintro e w2 ⟨v_, rfl, hR, hb⟩; obtain ⟨A1_, c1_, rfl⟩ := Zn hR)
    | (refine (gr.calls ac ae ab c _ (Ze HR.out (below_alloc HB2.out _)) HC.out HCL.out).mono ?_; rintro e w2 ⟨v_, rfl, hR, hb⟩; obtain ⟨A1_, c1_, rfl⟩ := Zn hR; have BN4 : w2.heap[w1.heap.size]? = some (.cells #[.int .i64 0, .slice none 0 0] 24 (0, 0)) := blk_below (blk_new w1.drew _) hb; have h40 : w2.cell? ⟨w1.heap.size, 0, none⟩ = some (.int .i64 0) := (Zb BN4 0).trans rfl; have h41 : w2.cell? ⟨w1.heap.size, 1, none⟩ = some (.slice none 0 0) := (Zb BN4 1).trans rfl; have f40 := ZD BN4 0; have f41 := ZD BN4 1))
  ·have H4 := blk_new w2 (.cells #[.int .i64 aa, .slice A1_ c.length c1_] 24)
   have HN4 : w.heap.size + 2 ≤ w2.heap.size := Z0 HN2.out hb.size
   have ai := Zu (Kd.R_alloc hR (.cells #[.int .i64 aa, .slice A1_ c.length c1_] 24)) HB2.out.size
   have HI := (fc.Inv.next (fc.Inv.next ⟨HB2.out, af.out, BN2.out⟩ hb).1 (below_alloc (Zq _ _) (.cells #[.int .i64 aa, .slice A1_ c.length c1_] 24))).1
   generalize w2.alloc (.cells #[.int .i64 aa, .slice A1_ c.length c1_] 24) = W4 at *
   generalize w2.heap.size = b4 at *
   clear hR hb
   have hS := Kd.S_bare (Kd.R_imp (d' := Kd.bare (Zl .i64)) rfl (fun _ _ _ _ _ h => h) ai)
   have HN4 := Za HN4
   have HI := Za HI
   have hn4 := (Zb H4 1).trans rfl
   have H4 := Za H4
   refine ‹∀ (a : Act) (w : ZF), Code.wp _ _ _ a w → _› _ _ ?_
   go_wp2_with fail
   have hs := Go.Proofs.YtaambkdiokbdgabGreatS.hZ ZT (Zl .i64) rfl fc.cf fc.swo 47 eg hS HLEN.out (fun W x y u v _ _ ha hb => by
    obtain rfl := (ZZ ha).1
    obtain rfl := (ZZ hb).1
    exact sc.clo x y W)
   change ZK Tryz.prog 46 _ _ _ at hs
   refine hs.mono ?_
   rintro e w5 ⟨rfl, ys, hperm, hsd, hS5, hg⟩
   obtain rfl := fc.sortD_of hperm hsd
   have H5 := Za ((hg.block b4 (Zr H4.out) (Kd.S_ne hS H4.out (by decide))).trans H4.out)
   have BN5 := Za ((hg.block (w.heap.size + 1) (Zr HI.out.2.2) (Kd.S_ne hS HI.out.2.2 (by decide))).trans HI.out.2.2)
   have HB5 := Za (HI.out.1.grown hg HI.out.1.size (fun k_ hk_ => Kd.S_base hS k_ hk_))
   have HS5 := Za (Kd.S_R hS5)
   clear hs hS hS5 hg hperm hsd hn4
   have hm0 := (Zb H5.out 0).trans rfl
   have hm1 := (Zb H5.out 1).trans rfl
   have hn0 := (Zb BN5.out 0).trans rfl
   have hn1 := (Zb BN5.out 1).trans rfl
   have aj := ZD BN5.out 0
   have ak := ZD BN5.out 1
   go_wp2
   have B6 := Zt (cs := #[.int .i64 0, .slice none 0 0]) BN5.out 0 (.int .i64 aa) rfl
   refine ZE (ZQ rfl _ _ (w.heap.size + 1) 24 #[.int .i64 aa, .slice A1_ c.length c1_] (0, 0) _ rfl (Zt (cs := #[.int .i64 aa, .slice none 0 0]) B6 1 _ rfl) Tryz.underlying24 rfl (by kernel_rfl)) rfl ?_
   exact ⟨_, rfl, Kd.R_set (Kd.R_set HS5.out BN5.out (by intro q hq; cases hq with | head => decide | tail _ hq => cases hq) 0 (.int .i64 aa)) B6 (by intro q hq; cases hq with | head => decide | tail _ hq => cases hq) 1 (.slice A1_ c.length c1_), below_set (below_set HB5.out (ZX _)) (ZX _)⟩
  have H3 : (w2.setCell ⟨w1.heap.size, 0, none⟩ (.int .i64 aa)).heap[w1.heap.size]? = some (.cells #[.int .i64 aa, .slice none 0 0] 24 (0, 0)) := Zt (cs := #[.int .i64 0, .slice none 0 0]) BN4 0 _ rfl
  have H4 : ((w2.setCell ⟨w1.heap.size, 0, none⟩ (.int .i64 aa)).setCell ⟨w1.heap.size, 1, none⟩ (.slice A1_ c.length c1_)).heap[w1.heap.size]? = some (.cells #[.int .i64 aa, .slice A1_ c.length c1_] 24 (0, 0)) := Zt (cs := #[.int .i64 aa, .slice none 0 0]) H3 1 _ rfl
  have HN4 := HN2.out
  have ai := Zu (base' := w.heap.size) (Kd.R_set (Kd.R_set hR BN4 (by intro q hq; cases hq with | head => decide | tail _ hq => cases hq) 0 (.int .i64 aa)) H3 (by intro q hq; cases hq with | head => decide | tail _ hq => cases hq) 1 (.slice A1_ c.length c1_)) (Z0 HB2.out.size (by simp))
  have HI := (fc.Inv.set (fc.Inv.set (fc.Inv.next (fc.Inv.next ⟨HB2.out, af.out, BN2.out⟩ (below_alloc (Zq _ _) _)).1 hb).1 HN2.out 0 (.int .i64 aa)).1 HN2.out 1 (.slice A1_ c.length c1_)).1
  generalize (w2.setCell ⟨w1.heap.size, 0, none⟩ (.int .i64 aa)).setCell ⟨w1.heap.size, 1, none⟩ (.slice A1_ c.length c1_) = W4 at *
  generalize w1.heap.size = b4 at *
  clear hR hb
  have hS := Kd.S_bare (Kd.R_imp (d' := Kd.bare (Zl .i64)) rfl (fun _ _ _ _ _ h => h) ai)
  have HN4 := Za HN4
  have HI := Za HI
  have hn4 := (Zb H4 1).trans rfl
  have H4 := Za H4
  refine ‹∀ (a : Act) (w : ZF), Code.wp _ _ _ a w → _› _ _ ?_
  go_wp2_with fail
  have hs := Go.Proofs.YtaambkdiokbdgabGreatS.hZ ZT (Zl .i64) rfl fc.cf fc.swo 47 eg hS HLEN.out (fun W x y u v _ _ ha hb => by
   obtain rfl := (ZZ ha).1
   obtain rfl := (ZZ hb).1
   exact sc.clo x y W)
  change ZK Tryz.prog 46 _ _ _ at hs
  refine hs.mono ?_
  rintro e w5 ⟨rfl, ys, hperm, hsd, hS5, hg⟩
  obtain rfl := fc.sortD_of hperm hsd
  have H5 := Za ((hg.block b4 (Zr H4.out) (Kd.S_ne hS H4.out (by decide))).trans H4.out)
  have BN5 := Za ((hg.block (w.heap.size + 1) (Zr HI.out.2.2) (Kd.S_ne hS HI.out.2.2 (by decide))).trans HI.out.2.2)
  have HB5 := Za (HI.out.1.grown hg HI.out.1.size (fun k_ hk_ => Kd.S_base hS k_ hk_))
  have HS5 := Za (Kd.S_R hS5)
  clear hs hS hS5 hg hperm hsd hn4
  have hm0 := (Zb H5.out 0).trans rfl
  have hm1 := (Zb H5.out 1).trans rfl
  have hn0 := (Zb BN5.out 0).trans rfl
  have hn1 := (Zb BN5.out 1).trans rfl
  have aj := ZD BN5.out 0
  have ak := ZD BN5.out 1
  go_wp2
  have B6 := Zt (cs := #[.int .i64 0, .slice none 0 0]) BN5.out 0 (.int .i64 aa) rfl
  refine ZE (ZQ rfl _ _ (w.heap.size + 1) 24 #[.int .i64 aa, .slice A1_ c.length c1_] (0, 0) _ rfl (Zt (cs := #[.int .i64 aa, .slice none 0 0]) B6 1 _ rfl) Tryz.underlying24 rfl (by kernel_rfl)) rfl ?_
  exact ⟨_, rfl, Kd.R_set (Kd.R_set HS5.out BN5.out (by intro q hq; cases hq with | head => decide | tail _ hq => cases hq) 0 (.int .i64 aa)) B6 (by intro q hq; cases hq with | head => decide | tail _ hq => cases hq) 1 (.slice A1_ c.length c1_), below_set (below_set HB5.out (ZX _)) (ZX _)⟩
def fN.f (l0 : List Int) : Option (List Int) := (some (([] : List Int) : List Int)).bind fun aa => (if aa.length + l0.length < 17592186044416 then (some (aa ++ l0)) else (none))
theorem fN.calls (A0 : Option Addr) (c0 : Nat) (l0 : List Int) (r : List Int) (w : ZF) (hr0 : Kd.C (Zl .i64) w A0 l0.length l0) (hc0 : l0.length ≤ c0) (h : fN.f l0 = some r) :
  ZK Tryz.prog 49 #[.slice A0 l0.length c0] w fun e w' => ∃ v0_ : ZV, e = .returned (v0_) ∧ Kd.R (Zl .i64) 3 w' w.heap.size (fun _ => True) v0_ r ∧ Zy w.heap.size w w' := by
 have am0 := Za hr0
 have ao := Za hc0
 clear hr0 hc0
 have HB := Za (Zq w.heap.size w)
 have H := h
 unfold fN.f at H
 clear h
 obtain ⟨ac, aa⟩ : ∃ y_ : List Int, y_ = (([] : List Int)) := ⟨_, rfl⟩
 replace H : (if ac.length + l0.length < 17592186044416 then (some (ac ++ l0)) else (none)) = some r := by first | (rw [aa]; with_reducible exact H) | (have H2_ := (Zd _ _).symm.trans H; rw [aa]; with_reducible exact H2_) | (have H2_ := (Zd _ _).symm.trans H; with_reducible exact H2_) | with_reducible exact H | (rw [aa]; exact H) | exact H
 have ae := Za aa
 clear aa
 by_cases c2 : ac.length + l0.length < 17592186044416
 rotate_left
 ·rw [if_neg c2] at H
  exact absurd H (by simp)
 rw [if_pos c2] at H
 have aj := Za c2
 clear c2
 obtain ⟨ak, ab⟩ : ∃ y_ : List Int, y_ = (ac ++ l0) := ⟨_, rfl⟩
 replace H : (some ak) = some r := by first | (rw [ab]; with_reducible exact H) | (have H2_ := (Zd _ _).symm.trans H; rw [ab]; with_reducible exact H2_) | (have H2_ := (Zd _ _).symm.trans H; with_reducible exact H2_) | with_reducible exact H | (rw [ab]; exact H) | exact H
 have af := Za ab
 clear ab
 obtain rfl := Zh H
 go_enter Tryz.func49, Tryz.ntmps49
 go_wp2_with (first | ((with_reducible refine Zp (N := 3) rfl ?_); refine Kd.R_lit (Zl .i64) _ 3 ?hg (N := 3) ?hd (xs := ([] : List Int)) (inner := []) (ok := fun _ => True) (okp := fun _ => True) ?hr ?hp (fun _ hk => hk) trivial (Zq _ _) (Zs _) (by simp) ?_; (case hd => rfl); (case hg => rfl); (case hr => first | (go_simp; done) | (go_simp; rfl)); (case hp => exact (Reps.none _ _)); intro al w3 ag hb hg_ hnew_; clear hg_ hnew_; (first | rw [← ae.out] at ag | (simp only [Z1] at ag; rw [← ae.out] at ag)); have ah := Za (Zu ag (Zm HB.out)); replace HB := sB HB hb; clear hb ag) | ((with_reducible refine ZU (b := .append) (xs := #[.tmp 3, .tmp 4]) rfl ?_); at_builtin; refine Kd.R_append_rows (Zl .i64) (w0 := w) w.heap.size rfl (.tmp 3) (.tmp 4) 22 3 (.int .i64 0) 8 rfl Tryz.underlying22 info3 rfl (by decide) (by omega) al ac l0 _ _ _ (fun _ => True) (fun _ => False) rfl rfl ?aO ?aR (fun _ _ h => h) (fun _ h => h.elim) ?aF ?aB ?aS ?aL ?_; (case aR => repeat (first | exact (Ze am0.out HB.out) | (with_reducible refine ZI ?_ _) | (with_reducible refine ZJ ?_ _) | (with_reducible refine ZP ?_))); (case aB => exact HB.out); (case aF => exact (fun _ _ => trivial)); (case aO => exact ah.out); (case aS => exact (Zm HB.out)); (case aL => have := aj.out; omega); intro an0 w5 ho hb hg hat; rw [← af.out] at ho; have ai := Za (ho); replace HB := Za (hb); clear ho hb hg hat))
 go_ret
 exact ⟨_, fR, by exact ai.out, wB⟩
mutual
def fo.l0 : Nat → List Int → Int → Int → Int → List Int → Option (Int × List Int × Bool)
 | 0, _, _, _, _, _ => none
 | k + 1, ae, af, ac, ab, aa => if ac < af then (if 0 ≤ ac then (if ac < (ae.length : Int) then (fo.l1 k (rd ae ac) 0 ae af ac ab aa) else (none)) else (none)) else (some (ab, aa, true))
def fo.l1 : Nat → Int → Int → List Int → Int → Int → Int → List Int → Option (Int × List Int × Bool)
 | 0, _, _, _, _, _, _, _ => none
 | k + 1, x6, x7, ae, af, ac, ab, aa => if x7 < (aa.length : Int) then (if 0 ≤ x7 then (if (rd aa x7) ≥ x6 then (fo.l1 k x6 (Zf (x7 + 1)) ae af ac ab aa) else (if x7 ≤ (aa.length : Int) then ((fN.f (aa.take (x7 : Int).toNat)).bind fun ag => (if ag.length < 17592186044416 then ((some (ag ++ [x6] : List Int)).bind fun ah => ((some (aa.drop (x7 : Int).toNat : List Int)).bind fun ai => (if ah.length + ai.length < 17592186044416 then (fo.l0 k ae af (Zf (ac + 1)) ab (ah ++ ai)) else (none)))) else (none))) else (none))) else (none)) else (if 0 ≤ x7 then (if x7 ≤ (aa.length : Int) then ((fN.f (aa.take (x7 : Int).toNat)).bind fun aj => (if aj.length < 17592186044416 then ((some (aj ++ [x6] : List Int)).bind fun ak => ((some (aa.drop (x7 : Int).toNat : List Int)).bind fun al => (if ak.length + al.length < 17592186044416 then (fo.l0 k ae af (Zf (ac + 1)) ab (ak ++ al)) else (none)))) else (none))) else (none)) else (none))
end
def fo.f (k : Nat) (ab : Int) (aa : List Int) : Option (Int × List Int × Bool) := (fi.f k ab aa).bind fun ac => (if ac = true then (fo.l0 k aa (aa.length : Int) 0 ab ([] : List Int)) else (some (0, ([] : List Int), false)))
theorem fo.calls (k : Nat) (al : Int) (bv : Option Addr) (aD : Nat) (ah : List Int) (r1 : Int) (r2 : List Int) (r3 : Bool) (w : ZF) (cv : Kd.C (Zl .i64) w bv ah.length ah) (cw : ah.length ≤ aD) (h : fo.f k al ah = some (r1, r2, r3)) :
  ZK Tryz.prog 10 #[.agg #[.int .i64 al, .slice bv ah.length aD]] w fun e w' => ∃ v1_ : ZV, e = .returned (.tuple #[.agg #[.int .i64 r1, v1_], .bool r3]) ∧ Kd.R (Zl .i64) 3 w' w.heap.size (fun _ => True) v1_ r2 ∧ Zy w.heap.size w w' := by
 have hu24 := Tryz.underlying24
 have cy := Za cv
 have cW := Za cw
 clear cv cw
 have HB := Za (Zq w.heap.size w)
 have H := h
 unfold fo.f at H
 clear h
 replace H := oA H
 obtain ⟨cX, A2, H⟩ := H
 (try dsimp only at H)
 have d9 := Za H
 clear H
 go_enter Tryz.func10, Tryz.ntmps10
 go_upto_if 11 with (first | ((with_reducible refine Zp (N := 1) rfl ?_); refine xE (N := 1) (cs := #[.int .i64 al, .slice bv ah.length aD]) (t := 24) ?_; intro aH hg w4 ae hb; have ec := gS hg HB; have ed := gS hg HB; replace HB := sB HB hb; clear hb hg) | ((with_reducible refine Zp (N := 2) rfl ?_); refine xE (N := 2) (cs := #[.int .i64 0, .slice none 0 0]) (t := 24) ?_; intro au hg w5 af hb; have ee := gS hg HB; have ef := gS hg HB; have aI := nL hg (Zr ae.out); have aJ := nG hg (Zr ae.out); replace ae := bB ae hb; replace HB := sB HB hb; clear hb hg; have e8 := aI.out; have e9 := aJ.out; obtain ⟨cH, cI, cJ, cK⟩ := zZ ae) | ((with_reducible refine Zk (f := 37) rfl ?_); refine gL 10 Tryz.func37 #[.agg #[.int .i64 al, .slice bv ah.length aD]] ?_; (with_reducible refine (fi.calls k al _ _ ah cX _ (Ze cy.out HB.out) cW.out A2.out).mono ?_); rintro e w8 ⟨rfl, hb⟩; refine ⟨_, rfl, ?_⟩; replace ae := bB ae hb; replace af := bB af hb; replace HB := sB HB hb; (try clear hb); (try clear cH cI cJ cK); obtain ⟨cL, cM, cN, cO⟩ := zZ ae))
 have H := d9.out
 clear d9
 by_cases c3 : cX = true
 rotate_left
 ·replace c3 := Bool.eq_false_iff.mpr c3
  subst c3
  replace H := iF H
  simp only [Zi, Zo] at H
  obtain ⟨rfl, rfl, rfl⟩ := H
  (try clear bC bE bF bG bH bI bJ bK)
  obtain ⟨dE, dF, dG, dH⟩ := zZ af
  go_wp2_with (fail)
  refine ZE (ZQ rfl _ _ au 24 #[.int .i64 0, .slice none 0 0] (0, 0) _ rfl (by refine Zt (cs := #[.int .i64 0, .slice none 0 0]) ?_ 1 _ rfl; refine Zt (cs := #[.int .i64 0, .slice none 0 0]) ?_ 0 _ rfl; exact af.out) Tryz.underlying24 rfl (by kernel_rfl)) rfl ?_
  exact ⟨_, fR, by first | exact Kd.R_nil _ _ _ _ _ | exact Kd.N_nil _ _ _ _ _ | exact Kd.V_nil _ _ _ _ _ | exact Kd.Q_nil _ _ _ _ _ | exact Kd.S_nil _ _ _ _ _, wB⟩
 subst c3
 replace H := iT H
 have H' := Za H
 clear H
 go_wp2_with (first | ((with_reducible refine Zp (N := 4) rfl ?_); refine xE (N := 4) (cs := #[.int .i64 0, .slice none 0 0]) (t := 24) ?_; intro ay hg iw ag hb; have eh := gS hg HB; have ej := gS hg HB; have aj := nL hg (Zr ae.out); have an0 := nG hg (Zr ae.out); have ak := nL hg (Zr af.out); have ao := nG hg (Zr af.out); replace ae := bB ae hb; replace af := bB af hb; replace HB := sB HB hb; clear hb hg; have ek := an0.out; have el := aj.out; have en := ao.out; have ep := ak.out; (try clear cL cM cN cO); obtain ⟨bc, bf, bg, bh⟩ := zZ ag; obtain ⟨bi, bj, bl, bm⟩ := zZ ae))
 go_loopg [19] k (fun kq ia w' => ∃ (ai : Int) (aa : List Int) (u105001 : ZV), ia = .int .i64 ai ∧ Zc (fo.l0 kq ah (ah.length : Int) ai al aa = some (r1, r2, r3)) ∧ Zc (kq ≤ k) ∧ Zc (Kd.R (Zl .i64) 3 w' w.heap.size (fun _ => True) u105001 aa) ∧ Zc (w'.heap[aH]? = some (.cells #[.int .i64 al, (.slice bv ah.length aD)] 24 (0, 0))) ∧ Zc (w'.heap[au]? = some (.cells #[.int .i64 0, (.slice none 0 0)] 24 (0, 0))) ∧ Zc (w'.heap[ay]? = some (.cells #[.int .i64 al, u105001] 24 (0, 0))) ∧ Zc (Zy w.heap.size w w'))
 case atStart => exact ⟨(0), (([] : List Int)), (.slice none 0 0), gR, H', ⟨Zs _⟩, ⟨by first | exact Kd.R_nil _ _ _ _ _ | exact Kd.N_nil _ _ _ _ _ | exact Kd.V_nil _ _ _ _ _ | exact Kd.Q_nil _ _ _ _ _ | exact Kd.S_nil _ _ _ _ _⟩, ⟨by refine Zw ?_ aj.out _; refine Zw ?_ aj.out _; exact ae.out⟩, ⟨by refine Zw ?_ ak.out _; refine Zw ?_ ak.out _; exact af.out⟩, ⟨by refine Zt (cs := #[.int .i64 al, .slice none 0 0]) ?_ 1 _ rfl; refine Zt (cs := #[.int .i64 0, .slice none 0 0]) ?_ 0 _ rfl; exact ag.out⟩, ⟨wB⟩⟩
 case round =>
  clear H'
  (try clear c1); (try clear p2); (try clear c3); (try clear c6); (try clear ib); (try clear ic); (try clear ie); (try clear bc); (try clear bf); (try clear bi); (try clear bj); (try clear bg); (try clear bh); (try clear bl); (try clear bm)
  obtain ⟨ai, aa, u105001, rfl, HA, HK1, ab, ae, af, ag, HB⟩ := hrel
  cases gk with
  | zero => exact absurd HA.out (by simp [fo.l0])
  | succ k1 =>
   have H := HA.out
   clear HA
   simp only [fo.l0] at H
   by_cases cP : ai < (ah.length : Int)
   rotate_left
   ·rw [if_neg cP] at H
    have cz : decide (ai < (ah.length : Int)) = false := decide_eq_false cP
    clear cP
    simp only [Zi, Zo] at H
    obtain ⟨rfl, rfl, rfl⟩ := H
    have eq := an0.out
    have er := aj.out
    have es := ao.out
    have et := ak.out
    (try clear bL bM bN bO)
    obtain ⟨bC, bE, bF, bG⟩ := zZ ag
    have eu := aJ.out
    have ey := aI.out
    obtain ⟨bH, bI, bJ, bK⟩ := zZ af
    obtain ⟨cY, db, dN⟩ := Zn ab.out
    subst dN
    go_wp2
    refine ZE (ZQ rfl _ _ au 24 #[.int .i64 al, .slice cY aa.length db] (0, 0) _ rfl (by refine Zt (cs := #[.int .i64 al, .slice none 0 0]) ?_ 1 _ rfl; refine Zt (cs := #[.int .i64 0, .slice none 0 0]) ?_ 0 _ rfl; exact af.out) Tryz.underlying24 rfl (by kernel_rfl)) rfl ?_
    exact ⟨_, fR, by exact ZG (ZA (p := ⟨au, 1, none⟩) (ZA (p := ⟨au, 0, none⟩) (ZH ab.out af.out (by decide)) (fun _ hk => hk.2) (.int .i64 al)) (fun _ hk => hk.2) (.slice cY aa.length db)) (fun _ hk => trivial), wB⟩
   rw [if_pos cP] at H
   have cz := decide_eq_true cP
   clear cP
   by_cases dc : 0 ≤ ai
   rotate_left
   ·rw [if_neg dc] at H
    exact absurd H (by simp)
   rw [if_pos dc] at H
   have de := decide_eq_true dc
   clear dc
   by_cases dg : ai < (ah.length : Int)
   rotate_left
   ·rw [if_neg dg] at H
    exact absurd H (by simp)
   rw [if_pos dg] at H
   have dh := decide_eq_true dg
   clear dg
   have H' := Za H
   clear H
   have bR : 0 ≤ (ai : Int) := oD
   have bS : ai < (ah.length : Int) := oD
   obtain ⟨aN, dO, az⟩ := ZO cy.out ai bR bS
   cases dO
   replace az := (HB.out.cell (Zj w _ az)).trans az
   replace bR := eq_true bR
   replace bS := eq_true bS
   go_wp2
   go_loopg [7] k1 (fun kq v7 w' => ∃ (ac : Int), v7 = .int .i64 ac ∧ Zc (fo.l1 kq (rd ah ai) ac ah (ah.length : Int) ai al aa = some (r1, r2, r3)) ∧ Zc (kq ≤ k1) ∧ Zc (Kd.R (Zl .i64) 3 w' w.heap.size (fun _ => True) u105001 aa) ∧ Zc (w'.heap[aH]? = some (.cells #[.int .i64 al, (.slice (some aN) ah.length aD)] 24 (0, 0))) ∧ Zc (w'.heap[au]? = some (.cells #[.int .i64 0, (.slice none 0 0)] 24 (0, 0))) ∧ Zc (w'.heap[ay]? = some (.cells #[.int .i64 al, u105001] 24 (0, 0))) ∧ Zc (Zy w.heap.size w w'))
   case atStart => exact ⟨(0), gR, H', ⟨Zs _⟩, ⟨by exact ab.out⟩, ⟨by exact ae.out⟩, ⟨by exact af.out⟩, ⟨by exact ag.out⟩, ⟨wB⟩⟩
   case round =>
    clear H'
    (try clear c1); (try clear p1); (try clear q1); (try clear ix); (try clear p2); (try clear c3); (try clear c6); (try clear ib); (try clear iy); (try clear iz); (try clear ig); (try clear ic); (try clear ie); (try clear cP); (try clear cz); (try clear dc); (try clear de); (try clear dg); (try clear dh); (try clear bc); (try clear bf); (try clear bi); (try clear bj); (try clear bg); (try clear bh); (try clear bl); (try clear bm); (try clear az); (try clear bR); (try clear p2); (try clear bS)
    obtain ⟨ac, rfl, HA, HK2, ab, ae, af, ag, HB⟩ := hrel
    cases gk with
    | zero => exact absurd HA.out (by simp [fo.l1])
    | succ k2 =>
     have H := HA.out
     clear HA
     simp only [fo.l1] at H
     by_cases cU : ac < (aa.length : Int)
     rotate_left
     ·rw [if_neg cU] at H
      have di : decide (ac < (aa.length : Int)) = false := decide_eq_false cU
      clear cU
      by_cases dj : 0 ≤ ac
      rotate_left
      ·rw [if_neg dj] at H
       exact absurd H (by simp)
      rw [if_pos dj] at H
      have ez := eq_true dj
      have eA := decide_eq_true dj
      clear dj
      by_cases dl : ac ≤ (aa.length : Int)
      rotate_left
      ·rw [if_neg dl] at H
       exact absurd H (by simp)
      rw [if_pos dl] at H
      have eB := eq_true dl
      have eC := decide_eq_true dl
      clear dl
      obtain ⟨aK, aQ⟩ : ∃ y_ : List Int, y_ = (aa.take (ac : Int).toNat) := ⟨_, rfl⟩
      replace H : ((fN.f aK).bind fun a6 => (if a6.length < 17592186044416 then ((some (a6 ++ [(rd ah ai)] : List Int)).bind fun aE => ((some (aa.drop (ac : Int).toNat : List Int)).bind fun ap => (if aE.length + ap.length < 17592186044416 then (fo.l0 k2 ah (ah.length : Int) (Zf (ai + 1)) al (aE ++ ap)) else (none)))) else (none))) = some (r1, r2, r3) := by first | (rw [aQ]; with_reducible exact H) | (have H2_ := (Zd _ _).symm.trans H; rw [aQ]; with_reducible exact H2_) | (have H2_ := (Zd _ _).symm.trans H; with_reducible exact H2_) | with_reducible exact H | (rw [aQ]; exact H) | exact H
      have bn := Za aQ
      clear aQ
      replace H := oA H
      obtain ⟨a6, ii, H⟩ := H
      (try dsimp only at H)
      by_cases dI : a6.length < 17592186044416
      rotate_left
      ·rw [if_neg dI] at H
       exact absurd H (by simp)
      rw [if_pos dI] at H
      have dm := Za dI
      clear dI
      obtain ⟨aE, aT⟩ : ∃ y_ : List Int, y_ = (a6 ++ [(rd ah ai)]) := ⟨_, rfl⟩
      replace H : ((some (aa.drop (ac : Int).toNat : List Int)).bind fun ap => (if aE.length + ap.length < 17592186044416 then (fo.l0 k2 ah (ah.length : Int) (Zf (ai + 1)) al (aE ++ ap)) else (none))) = some (r1, r2, r3) := by first | (rw [aT]; with_reducible exact H) | (have H2_ := (Zd _ _).symm.trans H; rw [aT]; with_reducible exact H2_) | (have H2_ := (Zd _ _).symm.trans H; with_reducible exact H2_) | with_reducible exact H | (rw [aT]; exact H) | exact H
      have dn := Za aT
      clear aT
      have eD := eq_true (oD : 0 ≤ ac)
      have eE := eq_true (oD : ac ≤ (aa.length : Int))
      obtain ⟨ap, aU⟩ : ∃ y_ : List Int, y_ = (aa.drop (ac : Int).toNat) := ⟨_, rfl⟩
      replace H : (if aE.length + ap.length < 17592186044416 then (fo.l0 k2 ah (ah.length : Int) (Zf (ai + 1)) al (aE ++ ap)) else (none)) = some (r1, r2, r3) := by first | (rw [aU]; with_reducible exact H) | (have H2_ := (Zd _ _).symm.trans H; rw [aU]; with_reducible exact H2_) | (have H2_ := (Zd _ _).symm.trans H; with_reducible exact H2_) | with_reducible exact H | (rw [aU]; exact H) | exact H
      have bw := Za aU
      clear aU
      by_cases dJ : aE.length + ap.length < 17592186044416
      rotate_left
      ·rw [if_neg dJ] at H
       exact absurd H (by simp)
      rw [if_pos dJ] at H
      have dp := Za dJ
      clear dJ
      obtain ⟨bT, aV⟩ : ∃ y_ : List Int, y_ = (aE ++ ap) := ⟨_, rfl⟩
      replace H : (fo.l0 k2 ah (ah.length : Int) (Zf (ai + 1)) al bT) = some (r1, r2, r3) := by first | (rw [aV]; with_reducible exact H) | (have H2_ := (Zd _ _).symm.trans H; rw [aV]; with_reducible exact H2_) | (have H2_ := (Zd _ _).symm.trans H; with_reducible exact H2_) | with_reducible exact H | (rw [aV]; exact H) | exact H
      have dq := Za aV
      clear aV
      have H' := Za H
      clear H
      have eF := an0.out
      have eG := aj.out
      have eH := ao.out
      have eI := ak.out
      (try clear bU bV bW bX)
      obtain ⟨bY, bZ, b5, b6⟩ := zZ ag
      obtain ⟨ax, av, dP⟩ := Zn ab.out
      subst dP
      have dQ : (ac : Int) ≤ ((aa.length : Int) : Int) := oD
      obtain ⟨i055, cA, _, hsz55, _⟩ := info_parts info3
      have hroom55 : aa.length ≤ av := (Zg ab.out).2.1
      have hC55 : Kd.C (Zl .i64) _ ax aa.length aa := (Zg ab.out).2.2
      have hcut55 := cut_to (P := Tryz.prog) 22 3 .i64 Tryz.underlying22 cA ax aa.length av ac (oD) dQ hroom55
      have hr55 := Kd.C_take (m := (ac : Int).toNat) hC55 (by omega)
      have cQ : aK.length = (ac : Int).toNat := (by rw [bn.out, List.length_take]; omega)
      rw [← bn.out] at hr55
      rw [← cQ] at hcut55
      have aA := Za hr55
      have dr := Za (show aK.length ≤ av from by omega)
      clear hr55 hC55 hroom55 cA hsz55
      have KY55 := Za cQ
      clear cQ
      have KL55 := Za (show (ac : Int).toNat ≤ aa.length from by omega)
      replace dQ := eq_true dQ
      go_wp2_with (first | ((with_reducible refine Zk (f := 49) rfl ?_); refine gL 43 Tryz.func49 #[.slice ax aK.length av] ?_; (with_reducible refine (fN.calls _ _ aK a6 _ (by repeat (first | (with_reducible exact aA.out) | (with_reducible refine ZI ?_ _) | (with_reducible refine ZJ ?_ _) | (with_reducible refine ZP ?_) | exact aA.out)) dr.out ii.out).mono ?_); rintro e iA ⟨dT, rfl, cR, hb⟩; refine ⟨_, rfl, ?_⟩; have bo := Za (Zu (Kd.R_new' cR (Kd.R_lt ab.out)) (Zm HB.out)); replace ab := rE ab (Kd.R_base cR) hb; replace ae := bB ae hb; replace af := bB af hb; replace ag := bB ag hb; replace aA := Za (Ze (by repeat (first | (with_reducible exact aA.out) | (with_reducible refine ZI ?_ _) | (with_reducible refine ZJ ?_ _) | (with_reducible refine ZP ?_) | exact aA.out)) hb); replace HB := sB HB hb; (try clear hb); (try clear cR)) | ((with_reducible refine ZU (b := .append) (xs := #[.tmp 43, .tmp 45]) rfl ?_); at_builtin; refine Kd.R_append (Zl .i64) (w0 := w) w.heap.size rfl (.tmp 43) (.tmp 45) 22 3 (.int .i64 0) 8 rfl Tryz.underlying22 info3 rfl (by decide) (by omega) dT a6 (rd ah ai) [.int .i64 (rd ah ai)] (fun k_ => nb (.slice ax aa.length av) k_) (fun _ => False) rfl rfl ?aP (fun _ hk => hk.elim) ?aF ?aO ?aB ?aS ?aL ?_; (case aP => exact rfl); (case aB => exact HB.out); (case aF => exact (fun k_ hk => Kd.fresh' (Kd.R_lt ab.out) k_ hk)); (case aO => exact (by exact ZG bo.out (fun _ hk => hk.2))); (case aS => exact (Zm HB.out)); (case aL => have := dm.out; omega); intro dU ij ho hb hg hat; rw [← dn.out] at ho; have bq := Za (ho); replace ae := Za (Zv (g := aH) (o := .cells #[.int .i64 al, .slice (some aN) ah.length aD] 24 (0, 0)) ae.out hg (ZB bo.out ae.out (by decide))); replace af := Za (Zv (g := au) (o := .cells #[.int .i64 0, .slice none 0 0] 24 (0, 0)) af.out hg (ZB bo.out af.out (by decide))); replace ag := Za (Zv (g := ay) (o := .cells #[.int .i64 al, .slice ax aa.length av] 24 (0, 0)) ag.out hg (ZB bo.out ag.out (by decide))); replace HB := Za (hb); replace aA := Za ((show Kd.C (Zl .i64) ij ax aK.length aK from by rw [bn.out]; exact Kd.C_take (m := (ac : Int).toNat) ((Zg (ZM (ok := (fun _ => True)) ab.out hg hat)).2.2) KL55.out)); replace ab := Za (ZM (ok := (fun _ => True)) ab.out hg hat); clear ho hb hg hat; (try clear bY bZ b5 b6); obtain ⟨b7, b8, b9, ca⟩ := zZ ag; have dV : (ac : Int) ≤ ((aa.length : Int) : Int) := oD; obtain ⟨i059, cB, _, hsz59, _⟩ := info_parts info3; have hroom59 : aa.length ≤ av := (Zg ab.out).2.1; have hC59 : Kd.C (Zl .i64) _ ax aa.length aa := (Zg ab.out).2.2; have dW : (0 : Int) ≤ (ac : Int) := oD; have hcut59 := cut_from (P := Tryz.prog) 22 3 .i64 Tryz.underlying22 cB 1 hsz59 ax aa.length av ac dW dV; have hr59 := Kd.C_drop (m := (ac : Int).toNat) (c := av) hC59 (by omega) hroom59; obtain ⟨eJ, hA59⟩ : ∃ A1, A1 = (if av = (ac : Int).toNat then ax else (ax : Option Addr).map (·.add ((ac : Int).toNat * 1))) := ⟨_, rfl⟩; obtain ⟨ik, hc59⟩ : ∃ c1, c1 = av - (ac : Int).toNat := ⟨_, rfl⟩; have cb : ap.length = aa.length - (ac : Int).toNat := (by rw [bw.out, List.length_drop] <;> omega); rw [show (aa).drop (ac : Int).toNat = ap from bw.out.symm] at hr59; replace hr59 : Kd.C (Zl .i64) _ eJ ap.length ap := (by rw [hA59]; exact hr59); rw [← cb, ← hA59, ← hc59] at hcut59; have bx := Za hr59; have eK := Za (show ap.length ≤ ik from by rw [cb, hc59]; exact Nat.sub_le_sub_right hroom59 _); clear hr59 hC59 hroom59 cB hsz59 hc59; have KY59 := Za cb; have KA59 := Za hA59; clear cb hA59; have KL59 := Za (show (ac : Int).toNat ≤ aa.length from by omega); replace dV := eq_true dV) | ((with_reducible refine ZU (b := .append) (xs := #[.tmp 47, .tmp 51]) rfl ?_); at_builtin; refine Kd.R_append_rows (Zl .i64) (w0 := w) w.heap.size rfl (.tmp 47) (.tmp 51) 22 3 (.int .i64 0) 8 rfl Tryz.underlying22 info3 rfl (by decide) (by omega) dU aE ap _ _ _ (fun k_ => nb (.slice ax aa.length av) k_) (fun _ => False) rfl rfl ?aO ?aR (fun _ _ h => h) (fun _ h => h.elim) ?aF ?aB ?aS ?aL ?_; (case aR => repeat (first | exact (by repeat (first | (with_reducible exact bx.out) | (with_reducible refine ZI ?_ _) | (with_reducible refine ZJ ?_ _) | (with_reducible refine ZP ?_) | exact bx.out)) | (with_reducible refine ZI ?_ _) | (with_reducible refine ZJ ?_ _) | (with_reducible refine ZP ?_))); (case aB => exact HB.out); (case aF => exact (fun k_ hk => Kd.fresh' (Kd.R_lt ab.out) k_ hk)); (case aO => exact bq.out); (case aS => exact (Zm HB.out)); (case aL => have := dp.out; omega); intro il eL ho hb hg hat; rw [← dq.out] at ho; have cD := Za (ho); replace ae := Za (Zv (g := aH) (o := .cells #[.int .i64 al, .slice (some aN) ah.length aD] 24 (0, 0)) ae.out hg (ZB bq.out ae.out (by decide))); replace af := Za (Zv (g := au) (o := .cells #[.int .i64 0, .slice none 0 0] 24 (0, 0)) af.out hg (ZB bq.out af.out (by decide))); replace ag := Za (Zv (g := ay) (o := .cells #[.int .i64 al, .slice ax aa.length av] 24 (0, 0)) ag.out hg (ZB bq.out ag.out (by decide))); replace HB := Za (hb); replace aA := Za ((show Kd.C (Zl .i64) eL ax aK.length aK from by rw [bn.out]; exact Kd.C_take (m := (ac : Int).toNat) ((Zg (ZM (ok := (fun _ => True)) ab.out hg hat)).2.2) KL55.out)); replace bx := Za ((show Kd.C (Zl .i64) eL eJ ap.length ap from by rw [bw.out, KA59.out]; exact Kd.C_drop (m := (ac : Int).toNat) (c := av) ((Zg (ZM (ok := (fun _ => True)) ab.out hg hat)).2.2) KL59.out ((Zg (ZM (ok := (fun _ => True)) ab.out hg hat)).2.1))); replace ab := Za (ZM (ok := (fun _ => True)) ab.out hg hat); clear ho hb hg hat; obtain ⟨dt, du, dX⟩ := Zn cD.out; subst dX; (try clear b7 b8 b9 ca); obtain ⟨bL, bM, bN, bO⟩ := zZ ag))
      go_roundg k2
      case measure => have := HK1.out; have := HK2.out; omega
      case rel => exact ⟨(Zf (ai + 1)), (bT), (.slice dt bT.length du), gR, H', ⟨by have := HK1.out; have := HK2.out; omega⟩, ⟨by exact ZG (ZA (p := ⟨ay, 1, none⟩) (ZH cD.out ag.out (by decide)) (fun _ hk => hk.2) (.slice dt bT.length du)) (fun _ hk => trivial)⟩, ⟨by refine Zw ?_ aj.out _; exact ae.out⟩, ⟨by refine Zw ?_ ak.out _; exact af.out⟩, ⟨by refine Zt (cs := #[.int .i64 al, .slice ax aa.length av]) ?_ 1 _ rfl; exact ag.out⟩, ⟨wB⟩⟩
     rw [if_pos cU] at H
     have di := decide_eq_true cU
     clear cU
     by_cases dK : 0 ≤ ac
     rotate_left
     ·rw [if_neg dK] at H
      exact absurd H (by simp)
     rw [if_pos dK] at H
     have eM := decide_eq_true dK
     clear dK
     by_cases cV : (rd aa ac) ≥ (rd ah ai)
     ·rw [if_pos cV] at H
      have dv : decide ((rd ah ai) ≤ (rd aa ac)) = true := decide_eq_true cV
      clear cV
      have H' := Za H
      clear H
      have eN := an0.out
      have eO := aj.out
      have eP := ao.out
      have eQ := ak.out
      obtain ⟨cd, ce, cg, ch⟩ := zZ ag
      obtain ⟨im, io, dY⟩ := Zn ab.out
      subst dY
      have a7 : 0 ≤ (ac : Int) := oD
      have a8 : ac < (aa.length : Int) := oD
      obtain ⟨am0, cS, ci⟩ := ZO (Zg ab.out).2.2 ac a7 a8
      cases cS
      replace a7 := eq_true a7
      replace a8 := eq_true a8
      go_wp2
      go_roundg k2
      case measure => have := HK1.out; have := HK2.out; omega
      case rel => exact ⟨(Zf (ac + 1)), gR, H', ⟨by have := HK1.out; have := HK2.out; omega⟩, ⟨by exact ab.out⟩, ⟨by exact ae.out⟩, ⟨by exact af.out⟩, ⟨by exact ag.out⟩, ⟨wB⟩⟩
     rw [if_neg cV] at H
     have dv : decide ((rd ah ai) ≤ (rd aa ac)) = false := decide_eq_false cV
     clear cV
     have eR := eq_true (oD : 0 ≤ ac)
     by_cases dw : ac ≤ (aa.length : Int)
     rotate_left
     ·rw [if_neg dw] at H
      exact absurd H (by simp)
     rw [if_pos dw] at H
     have eS := eq_true dw
     have eT := decide_eq_true dw
     clear dw
     obtain ⟨aM, aW⟩ : ∃ y_ : List Int, y_ = (aa.take (ac : Int).toNat) := ⟨_, rfl⟩
     replace H : ((fN.f aM).bind fun bb => (if bb.length < 17592186044416 then ((some (bb ++ [(rd ah ai)] : List Int)).bind fun aG => ((some (aa.drop (ac : Int).toNat : List Int)).bind fun aq => (if aG.length + aq.length < 17592186044416 then (fo.l0 k2 ah (ah.length : Int) (Zf (ai + 1)) al (aG ++ aq)) else (none)))) else (none))) = some (r1, r2, r3) := by first | (rw [aW]; with_reducible exact H) | (have H2_ := (Zd _ _).symm.trans H; rw [aW]; with_reducible exact H2_) | (have H2_ := (Zd _ _).symm.trans H; with_reducible exact H2_) | with_reducible exact H | (rw [aW]; exact H) | exact H
     have br := Za aW
     clear aW
     replace H := oA H
     obtain ⟨bb, ip, H⟩ := H
     (try dsimp only at H)
     by_cases dL : bb.length < 17592186044416
     rotate_left
     ·rw [if_neg dL] at H
      exact absurd H (by simp)
     rw [if_pos dL] at H
     have dx := Za dL
     clear dL
     obtain ⟨aG, aX⟩ : ∃ y_ : List Int, y_ = (bb ++ [(rd ah ai)]) := ⟨_, rfl⟩
     replace H : ((some (aa.drop (ac : Int).toNat : List Int)).bind fun aq => (if aG.length + aq.length < 17592186044416 then (fo.l0 k2 ah (ah.length : Int) (Zf (ai + 1)) al (aG ++ aq)) else (none))) = some (r1, r2, r3) := by first | (rw [aX]; with_reducible exact H) | (have H2_ := (Zd _ _).symm.trans H; rw [aX]; with_reducible exact H2_) | (have H2_ := (Zd _ _).symm.trans H; with_reducible exact H2_) | with_reducible exact H | (rw [aX]; exact H) | exact H
     have dy := Za aX
     clear aX
     have eU := eq_true (oD : 0 ≤ ac)
     have eV := eq_true (oD : ac ≤ (aa.length : Int))
     obtain ⟨aq, aY⟩ : ∃ y_ : List Int, y_ = (aa.drop (ac : Int).toNat) := ⟨_, rfl⟩
     replace H : (if aG.length + aq.length < 17592186044416 then (fo.l0 k2 ah (ah.length : Int) (Zf (ai + 1)) al (aG ++ aq)) else (none)) = some (r1, r2, r3) := by first | (rw [aY]; with_reducible exact H) | (have H2_ := (Zd _ _).symm.trans H; rw [aY]; with_reducible exact H2_) | (have H2_ := (Zd _ _).symm.trans H; with_reducible exact H2_) | with_reducible exact H | (rw [aY]; exact H) | exact H
     have bz := Za aY
     clear aY
     by_cases dM : aG.length + aq.length < 17592186044416
     rotate_left
     ·rw [if_neg dM] at H
      exact absurd H (by simp)
     rw [if_pos dM] at H
     have dz := Za dM
     clear dM
     obtain ⟨cj, aZ⟩ : ∃ y_ : List Int, y_ = (aG ++ aq) := ⟨_, rfl⟩
     replace H : (fo.l0 k2 ah (ah.length : Int) (Zf (ai + 1)) al cj) = some (r1, r2, r3) := by first | (rw [aZ]; with_reducible exact H) | (have H2_ := (Zd _ _).symm.trans H; rw [aZ]; with_reducible exact H2_) | (have H2_ := (Zd _ _).symm.trans H; with_reducible exact H2_) | with_reducible exact H | (rw [aZ]; exact H) | exact H
     have dA := Za aZ
     clear aZ
     have H' := Za H
     clear H
     have eW := an0.out
     have eX := aj.out
     have eY := ao.out
     have eZ := ak.out
     obtain ⟨ck, cl, cm, cn⟩ := zZ ag
     obtain ⟨iq, aw, dZ⟩ := Zn ab.out
     subst dZ
     have a7 : 0 ≤ (ac : Int) := oD
     have a8 : ac < (aa.length : Int) := oD
     obtain ⟨am0, cS, ci⟩ := ZO (Zg ab.out).2.2 ac a7 a8
     cases cS
     replace a7 := eq_true a7
     replace a8 := eq_true a8
     have d3 : (ac : Int) ≤ ((aa.length : Int) : Int) := oD
     obtain ⟨i036, cE, _, hsz36, _⟩ := info_parts info3
     have hroom36 : aa.length ≤ aw := (Zg ab.out).2.1
     have hC36 : Kd.C (Zl .i64) _ (some am0) aa.length aa := (Zg ab.out).2.2
     have hcut36 := cut_to (P := Tryz.prog) 22 3 .i64 Tryz.underlying22 cE (some am0) aa.length aw ac (oD) d3 hroom36
     have hr36 := Kd.C_take (m := (ac : Int).toNat) hC36 (by omega)
     have cT : aM.length = (ac : Int).toNat := (by rw [br.out, List.length_take]; omega)
     rw [← br.out] at hr36
     rw [← cT] at hcut36
     have aC := Za hr36
     have dB := Za (show aM.length ≤ aw from by omega)
     clear hr36 hC36 hroom36 cE hsz36
     have KY36 := Za cT
     clear cT
     have KL36 := Za (show (ac : Int).toNat ≤ aa.length from by omega)
     replace d3 := eq_true d3
     go_wp2_with (first | ((with_reducible refine Zk (f := 49) rfl ?_); refine gL 43 Tryz.func49 #[.slice (some am0) aM.length aw] ?_; (with_reducible refine (fN.calls _ _ aM bb _ (by repeat (first | (with_reducible exact aC.out) | (with_reducible refine ZI ?_ _) | (with_reducible refine ZJ ?_ _) | (with_reducible refine ZP ?_) | exact aC.out)) dB.out ip.out).mono ?_); rintro e iB ⟨d4, rfl, cR, hb⟩; refine ⟨_, rfl, ?_⟩; have bt := Za (Zu (Kd.R_new' cR (Kd.R_lt ab.out)) (Zm HB.out)); replace ab := rE ab (Kd.R_base cR) hb; replace ae := bB ae hb; replace af := bB af hb; replace ag := bB ag hb; replace aC := Za (Ze (by repeat (first | (with_reducible exact aC.out) | (with_reducible refine ZI ?_ _) | (with_reducible refine ZJ ?_ _) | (with_reducible refine ZP ?_) | exact aC.out)) hb); replace HB := sB HB hb; (try clear hb); (try clear cR)) | ((with_reducible refine ZU (b := .append) (xs := #[.tmp 43, .tmp 45]) rfl ?_); at_builtin; refine Kd.R_append (Zl .i64) (w0 := w) w.heap.size rfl (.tmp 43) (.tmp 45) 22 3 (.int .i64 0) 8 rfl Tryz.underlying22 info3 rfl (by decide) (by omega) d4 bb (rd ah ai) [.int .i64 (rd ah ai)] (fun k_ => nb (.slice (some am0) aa.length aw) k_) (fun _ => False) rfl rfl ?aP (fun _ hk => hk.elim) ?aF ?aO ?aB ?aS ?aL ?_; (case aP => exact rfl); (case aB => exact HB.out); (case aF => exact (fun k_ hk => Kd.fresh' (Kd.R_lt ab.out) k_ hk)); (case aO => exact (by exact ZG bt.out (fun _ hk => hk.2))); (case aS => exact (Zm HB.out)); (case aL => have := dx.out; omega); intro d5 ir ho hb hg hat; rw [← dy.out] at ho; have bu := Za (ho); replace ae := Za (Zv (g := aH) (o := .cells #[.int .i64 al, .slice (some aN) ah.length aD] 24 (0, 0)) ae.out hg (ZB bt.out ae.out (by decide))); replace af := Za (Zv (g := au) (o := .cells #[.int .i64 0, .slice none 0 0] 24 (0, 0)) af.out hg (ZB bt.out af.out (by decide))); replace ag := Za (Zv (g := ay) (o := .cells #[.int .i64 al, .slice (some am0) aa.length aw] 24 (0, 0)) ag.out hg (ZB bt.out ag.out (by decide))); replace HB := Za (hb); replace aC := Za ((show Kd.C (Zl .i64) ir (some am0) aM.length aM from by rw [br.out]; exact Kd.C_take (m := (ac : Int).toNat) ((Zg (ZM (ok := (fun _ => True)) ab.out hg hat)).2.2) KL36.out)); replace ab := Za (ZM (ok := (fun _ => True)) ab.out hg hat); clear ho hb hg hat; (try clear cd ce cg ch ck cl cm cn); obtain ⟨cp, cq, cr, ct⟩ := zZ ag; have d6 : (ac : Int) ≤ ((aa.length : Int) : Int) := oD; obtain ⟨i040, cF, _, hsz40, _⟩ := info_parts info3; have hroom40 : aa.length ≤ aw := (Zg ab.out).2.1; have hC40 : Kd.C (Zl .i64) _ (some am0) aa.length aa := (Zg ab.out).2.2; have d7 : (0 : Int) ≤ (ac : Int) := oD; have hcut40 := cut_from (P := Tryz.prog) 22 3 .i64 Tryz.underlying22 cF 1 hsz40 (some am0) aa.length aw ac d7 d6; have hr40 := Kd.C_drop (m := (ac : Int).toNat) (c := aw) hC40 (by omega) hroom40; obtain ⟨e5, hA40⟩ : ∃ A1, A1 = (if aw = (ac : Int).toNat then (some am0) else ((some am0) : Option Addr).map (·.add ((ac : Int).toNat * 1))) := ⟨_, rfl⟩; obtain ⟨iu, hc40⟩ : ∃ c1, c1 = aw - (ac : Int).toNat := ⟨_, rfl⟩; have cu : aq.length = aa.length - (ac : Int).toNat := (by rw [bz.out, List.length_drop] <;> omega); rw [show (aa).drop (ac : Int).toNat = aq from bz.out.symm] at hr40; replace hr40 : Kd.C (Zl .i64) _ e5 aq.length aq := (by rw [hA40]; exact hr40); rw [← cu, ← hA40, ← hc40] at hcut40; have bA := Za hr40; have e6 := Za (show aq.length ≤ iu from by rw [cu, hc40]; exact Nat.sub_le_sub_right hroom40 _); clear hr40 hC40 hroom40 cF hsz40 hc40; have KY40 := Za cu; have KA40 := Za hA40; clear cu hA40; have KL40 := Za (show (ac : Int).toNat ≤ aa.length from by omega); replace d6 := eq_true d6) | ((with_reducible refine ZU (b := .append) (xs := #[.tmp 47, .tmp 51]) rfl ?_); at_builtin; refine Kd.R_append_rows (Zl .i64) (w0 := w) w.heap.size rfl (.tmp 47) (.tmp 51) 22 3 (.int .i64 0) 8 rfl Tryz.underlying22 info3 rfl (by decide) (by omega) d5 aG aq _ _ _ (fun k_ => nb (.slice (some am0) aa.length aw) k_) (fun _ => False) rfl rfl ?aO ?aR (fun _ _ h => h) (fun _ h => h.elim) ?aF ?aB ?aS ?aL ?_; (case aR => repeat (first | exact (by repeat (first | (with_reducible exact bA.out) | (with_reducible refine ZI ?_ _) | (with_reducible refine ZJ ?_ _) | (with_reducible refine ZP ?_) | exact bA.out)) | (with_reducible refine ZI ?_ _) | (with_reducible refine ZJ ?_ _) | (with_reducible refine ZP ?_))); (case aB => exact HB.out); (case aF => exact (fun k_ hk => Kd.fresh' (Kd.R_lt ab.out) k_ hk)); (case aO => exact bu.out); (case aS => exact (Zm HB.out)); (case aL => have := dz.out; omega); intro iv e7 ho hb hg hat; rw [← dA.out] at ho; have cG := Za (ho); replace ae := Za (Zv (g := aH) (o := .cells #[.int .i64 al, .slice (some aN) ah.length aD] 24 (0, 0)) ae.out hg (ZB bu.out ae.out (by decide))); replace af := Za (Zv (g := au) (o := .cells #[.int .i64 0, .slice none 0 0] 24 (0, 0)) af.out hg (ZB bu.out af.out (by decide))); replace ag := Za (Zv (g := ay) (o := .cells #[.int .i64 al, .slice (some am0) aa.length aw] 24 (0, 0)) ag.out hg (ZB bu.out ag.out (by decide))); replace HB := Za (hb); replace aC := Za ((show Kd.C (Zl .i64) e7 (some am0) aM.length aM from by rw [br.out]; exact Kd.C_take (m := (ac : Int).toNat) ((Zg (ZM (ok := (fun _ => True)) ab.out hg hat)).2.2) KL36.out)); replace bA := Za ((show Kd.C (Zl .i64) e7 e5 aq.length aq from by rw [bz.out, KA40.out]; exact Kd.C_drop (m := (ac : Int).toNat) (c := aw) ((Zg (ZM (ok := (fun _ => True)) ab.out hg hat)).2.2) KL40.out ((Zg (ZM (ok := (fun _ => True)) ab.out hg hat)).2.1))); replace ab := Za (ZM (ok := (fun _ => True)) ab.out hg hat); clear ho hb hg hat; obtain ⟨dC, dD, d8⟩ := Zn cG.out; subst d8; (try clear cp cq cr ct); obtain ⟨bU, bV, bW, bX⟩ := zZ ag))
     go_roundg k2
     case measure => have := HK1.out; have := HK2.out; omega
     case rel => exact ⟨(Zf (ai + 1)), (cj), (.slice dC cj.length dD), gR, H', ⟨by have := HK1.out; have := HK2.out; omega⟩, ⟨by exact ZG (ZA (p := ⟨ay, 1, none⟩) (ZH cG.out ag.out (by decide)) (fun _ hk => hk.2) (.slice dC cj.length dD)) (fun _ hk => trivial)⟩, ⟨by refine Zw ?_ aj.out _; exact ae.out⟩, ⟨by refine Zw ?_ ak.out _; exact af.out⟩, ⟨by refine Zt (cs := #[.int .i64 al, .slice (some am0) aa.length aw]) ?_ 1 _ rfl; exact ag.out⟩, ⟨wB⟩⟩
def gO.f (ac : Int) (aa : List Bool) (a1 : Int) (a2 : Int) : Option (Bool) := (fC.f a1 a2).bind fun ab => (if ab = true then (some false) else (if 0 ≤ a1 then (if a1 < (aa.length : Int) then (if rdOf false aa a1 = true then (some false) else (if 0 ≤ a2 then (if 0 ≤ (Zz .or .i64 a1 (shl .i64 1 a2)) then (if (Zz .or .i64 a1 (shl .i64 1 a2)) < (aa.length : Int) then (some (rdOf false aa (Zz .or .i64 a1 (shl .i64 1 a2)))) else (none)) else (none)) else (none))) else (none)) else (none)))
theorem gO.calls (au : Int) (av : Option Addr) (aw : Nat) (ae : List Bool) (a1 : Int) (a2 : Int) (r : Bool) (w : ZF) (aK : Kd.C ZN w av ae.length ae) (aM : ae.length ≤ aw) (h : gO.f au ae a1 a2 = some r) :
  ZK Tryz.prog 50 #[.agg #[.int .i64 au, .slice av ae.length aw], .int .i64 a1, .int .i64 a2] w fun e w' => e = .returned (.bool r) ∧ Zy w.heap.size w w' := by
 have hu53 := Tryz.underlying53
 have aj := Za aK
 have aX := Za aM
 clear aK aM
 have HB := Za (Zq w.heap.size w)
 have H := h
 unfold gO.f at H
 clear h
 replace H := oA H
 obtain ⟨aW, A4, H⟩ := H
 (try dsimp only at H)
 by_cases c5 : aW = true
 ·subst c5
  replace H := iT H
  obtain rfl := Zh H
  go_enter Tryz.func50, Tryz.ntmps50
  go_wp2_with (first | ((with_reducible refine Zp (N := 3) rfl ?_); refine xE (N := 3) (cs := #[.int .i64 au, .slice av ae.length aw]) (t := 53) ?_; intro ab hg w6 ah hb; have ao := gS hg HB; have ap := gS hg HB; replace HB := sB HB hb; clear hb hg) | (go_at_call 81; (with_reducible refine (fC.calls a1 a2 true _ A4.out).mono ?_); rintro e w' ⟨rfl, ⟨nd, rfl⟩⟩; (try exact dR)))
  repeat (go_quiet (first | ((with_reducible refine Zp (N := 3) rfl ?_); refine xE (N := 3) (cs := #[.int .i64 au, .slice av ae.length aw]) (t := 53) ?_; intro ab hg w6 ah hb; have ao : Zc (w.heap.size ≤ ab) := gT hg; have ap : Zc (w.heap.size ≤ ab) := gT hg; replace HB := sQ hb; clear hb hg) | (go_at_call 81; (with_reducible refine (fC.calls a1 a2 true _ A4.out).mono ?_); rintro e w' ⟨rfl, ⟨nd, rfl⟩⟩; (try exact dR))); try go_wp2_with (first | ((with_reducible refine Zp (N := 3) rfl ?_); refine xE (N := 3) (cs := #[.int .i64 au, .slice av ae.length aw]) (t := 53) ?_; intro ab hg w6 ah hb; have ao : Zc (w.heap.size ≤ ab) := gT hg; have ap : Zc (w.heap.size ≤ ab) := gT hg; replace HB := sQ hb; clear hb hg) | (go_at_call 81; (with_reducible refine (fC.calls a1 a2 true _ A4.out).mono ?_); rintro e w' ⟨rfl, ⟨nd, rfl⟩⟩; (try exact dR))))
  go_ret
  exact ⟨fR, wB⟩
 replace c5 := Bool.eq_false_iff.mpr c5
 subst c5
 replace H := iF H
 by_cases c7 : 0 ≤ a1
 rotate_left
 ·rw [if_neg c7] at H
  exact absurd H (by simp)
 rw [if_pos c7] at H
 have bf := decide_eq_true c7
 clear c7
 by_cases c8 : a1 < (ae.length : Int)
 rotate_left
 ·rw [if_neg c8] at H
  exact absurd H (by simp)
 rw [if_pos c8] at H
 have bg := decide_eq_true c8
 clear c8
 obtain ⟨aY, aN⟩ : ∃ b_ : Bool, b_ = (rdOf false ae a1) := ⟨_, rfl⟩
 replace H : (if aY = true then (some false) else (if 0 ≤ a2 then (if 0 ≤ (Zz .or .i64 a1 (shl .i64 1 a2)) then (if (Zz .or .i64 a1 (shl .i64 1 a2)) < (ae.length : Int) then (some (rdOf false ae (Zz .or .i64 a1 (shl .i64 1 a2)))) else (none)) else (none)) else (none))) = some r := by rw [← aN] at H; exact H
 have aC := Za aN
 clear aN
 by_cases aT : aY = true
 ·subst aT
  replace H := iT H
  obtain rfl := Zh H
  go_enter Tryz.func50, Tryz.ntmps50
  go_wp2_with (first | ((with_reducible refine Zp (N := 3) rfl ?_); refine xE (N := 3) (cs := #[.int .i64 au, .slice av ae.length aw]) (t := 53) ?_; intro ab hg aZ ah hb; have ao : Zc (w.heap.size ≤ ab) := gT hg; have ap : Zc (w.heap.size ≤ ab) := gT hg; replace HB := sQ hb; clear hb hg) | (go_at_call 81; (with_reducible refine (fC.calls a1 a2 false _ A4.out).mono ?_); rintro e w' ⟨rfl, ⟨nd, rfl⟩⟩; (try exact dR); obtain ⟨ak, al, am0, an0⟩ := zZ ah; have af : 0 ≤ (a1 : Int) := oD; have ag : a1 < (ae.length : Int) := oD; obtain ⟨aq, ax, aa⟩ := Zx aj.out a1 af ag; (try rw [← aC.out] at aa); cases ax; replace aa := (HB.out.cell (Zj w _ aa)).trans aa; replace af := eq_true af; replace ag := eq_true ag))
  repeat (go_quiet (first | ((with_reducible refine Zp (N := 3) rfl ?_); refine xE (N := 3) (cs := #[.int .i64 au, .slice av ae.length aw]) (t := 53) ?_; intro ab hg aZ ah hb; have ao : Zc (w.heap.size ≤ ab) := gT hg; have ap : Zc (w.heap.size ≤ ab) := gT hg; replace HB := sQ hb; clear hb hg) | (go_at_call 81; (with_reducible refine (fC.calls a1 a2 false _ A4.out).mono ?_); rintro e w' ⟨rfl, ⟨nd, rfl⟩⟩; (try exact dR); obtain ⟨ak, al, am0, an0⟩ := zZ ah; have af : 0 ≤ (a1 : Int) := oD; have ag : a1 < (ae.length : Int) := oD; obtain ⟨aq, ax, aa⟩ := Zx aj.out a1 af ag; (try rw [← aC.out] at aa); cases ax; replace aa := (HB.out.cell (Zj w _ aa)).trans aa; replace af := eq_true af; replace ag := eq_true ag)); try go_wp2_with (first | ((with_reducible refine Zp (N := 3) rfl ?_); refine xE (N := 3) (cs := #[.int .i64 au, .slice av ae.length aw]) (t := 53) ?_; intro ab hg aZ ah hb; have ao : Zc (w.heap.size ≤ ab) := gT hg; have ap : Zc (w.heap.size ≤ ab) := gT hg; replace HB := sQ hb; clear hb hg) | (go_at_call 81; (with_reducible refine (fC.calls a1 a2 false _ A4.out).mono ?_); rintro e w' ⟨rfl, ⟨nd, rfl⟩⟩; (try exact dR); obtain ⟨ak, al, am0, an0⟩ := zZ ah; have af : 0 ≤ (a1 : Int) := oD; have ag : a1 < (ae.length : Int) := oD; obtain ⟨aq, ax, aa⟩ := Zx aj.out a1 af ag; (try rw [← aC.out] at aa); cases ax; replace aa := (HB.out.cell (Zj w _ aa)).trans aa; replace af := eq_true af; replace ag := eq_true ag)))
  go_ret
  exact ⟨fR, wB⟩
 replace aT := Bool.eq_false_iff.mpr aT
 subst aT
 replace H := iF H
 by_cases aQ : 0 ≤ a2
 rotate_left
 ·rw [if_neg aQ] at H
  exact absurd H (by simp)
 rw [if_pos aQ] at H
 have a6 := eq_true aQ
 have a7 := decide_eq_true aQ
 clear aQ
 obtain ⟨ai, aA⟩ : ∃ j_ : Int, (shl .i64 1 a2) = j_ := ⟨_, rfl⟩
 replace H : (if 0 ≤ (Zz .or .i64 a1 (ai)) then (if (Zz .or .i64 a1 (ai)) < (ae.length : Int) then (some (rdOf false ae (Zz .or .i64 a1 (ai)))) else (none)) else (none)) = some r := by first | (rw [aA] at H; exact H) | (simp only [aA] at H ⊢; exact H)
 (try rw [aA] at A4)
 have hji14_ : (IntKind.i64.wrap (1 * 2 ^ min a2.toNat 64)) = ai := aA
 have hji14z : a2 ≤ 64 → (IntKind.i64.wrap (1 * 2 ^ a2.toNat)) = ai := shl_small aA
 have hji14u : (IntKind.i64.wrap (2 ^ min a2.toNat 64)) = ai := by have h_ := hji14_; rw [ZY] at h_; exact h_
 have hji14v : a2 ≤ 64 → (IntKind.i64.wrap (2 ^ a2.toNat)) = ai := fun hle_ => by have h_ := hji14z hle_; rw [ZY] at h_; exact h_
 have hji14y : (Zf (1 * 2 ^ min a2.toNat 64)) = ai := (i64_w _).symm.trans hji14_
 have hji14x : a2 ≤ 64 → (Zf (1 * 2 ^ a2.toNat)) = ai := fun h_ => (i64_w _).symm.trans (hji14z h_)
 by_cases aU : 0 ≤ (Zz .or .i64 a1 (ai))
 rotate_left
 ·rw [if_neg aU] at H
  exact absurd H (by simp)
 rw [if_pos aU] at H
 have a8 := decide_eq_true aU
 clear aU
 by_cases aV : (Zz .or .i64 a1 (ai)) < (ae.length : Int)
 rotate_left
 ·rw [if_neg aV] at H
  exact absurd H (by simp)
 rw [if_pos aV] at H
 have bb := decide_eq_true aV
 clear aV
 obtain rfl := Zh H
 go_enter Tryz.func50, Tryz.ntmps50
 go_wp2_with (first | ((with_reducible refine Zp (N := 3) rfl ?_); refine xE (N := 3) (cs := #[.int .i64 au, .slice av ae.length aw]) (t := 53) ?_; intro ab hg bc ah hb; have ao : Zc (w.heap.size ≤ ab) := gT hg; have ap : Zc (w.heap.size ≤ ab) := gT hg; replace HB := sQ hb; clear hb hg) | (go_at_call 81; (with_reducible refine (fC.calls a1 a2 false _ A4.out).mono ?_); rintro e w' ⟨rfl, ⟨nd, rfl⟩⟩; (try exact dR); (try clear ak al am0 an0 ak al am0 an0 ak al am0 an0); obtain ⟨aE, aG, aH, aI⟩ := zZ ah; have af : 0 ≤ (a1 : Int) := oD; have ag : a1 < (ae.length : Int) := oD; obtain ⟨aq, ax, aa⟩ := Zx aj.out a1 af ag; (try rw [← aC.out] at aa); cases ax; replace aa := (HB.out.cell (Zj w _ aa)).trans aa; replace af := eq_true af; replace ag := eq_true ag; have ay : 0 ≤ ((Zz .or .i64 a1 (ai)) : Int) := oD; have az : (Zz .or .i64 a1 (ai)) < (ae.length : Int) := oD; obtain ⟨aD, aJ, ac⟩ := Zx aj.out (Zz .or .i64 a1 (ai)) ay az; (try rw [← aC.out] at ac); obtain rfl : aq = aD := (by injection aJ); replace ac := (HB.out.cell (Zj w _ ac)).trans ac; replace ay := eq_true ay; replace az := eq_true az))
 repeat (go_quiet (first | ((with_reducible refine Zp (N := 3) rfl ?_); refine xE (N := 3) (cs := #[.int .i64 au, .slice av ae.length aw]) (t := 53) ?_; intro ab hg bc ah hb; have ao : Zc (w.heap.size ≤ ab) := gT hg; have ap : Zc (w.heap.size ≤ ab) := gT hg; replace HB := sQ hb; clear hb hg) | (go_at_call 81; (with_reducible refine (fC.calls a1 a2 false _ A4.out).mono ?_); rintro e w' ⟨rfl, ⟨nd, rfl⟩⟩; (try exact dR); obtain ⟨aE, aG, aH, aI⟩ := zZ ah; have af : 0 ≤ (a1 : Int) := oD; have ag : a1 < (ae.length : Int) := oD; obtain ⟨aq, ax, aa⟩ := Zx aj.out a1 af ag; (try rw [← aC.out] at aa); cases ax; replace aa := (HB.out.cell (Zj w _ aa)).trans aa; replace af := eq_true af; replace ag := eq_true ag; have ay : 0 ≤ ((Zz .or .i64 a1 (ai)) : Int) := oD; have az : (Zz .or .i64 a1 (ai)) < (ae.length : Int) := oD; obtain ⟨aD, aJ, ac⟩ := Zx aj.out (Zz .or .i64 a1 (ai)) ay az; (try rw [← aC.out] at ac); obtain rfl : aq = aD := (by injection aJ); replace ac := (HB.out.cell (Zj w _ ac)).trans ac; replace ay := eq_true ay; replace az := eq_true az)); try go_wp2_with (first | ((with_reducible refine Zp (N := 3) rfl ?_); refine xE (N := 3) (cs := #[.int .i64 au, .slice av ae.length aw]) (t := 53) ?_; intro ab hg bc ah hb; have ao : Zc (w.heap.size ≤ ab) := gT hg; have ap : Zc (w.heap.size ≤ ab) := gT hg; replace HB := sQ hb; clear hb hg) | (go_at_call 81; (with_reducible refine (fC.calls a1 a2 false _ A4.out).mono ?_); rintro e w' ⟨rfl, ⟨nd, rfl⟩⟩; (try exact dR); obtain ⟨aE, aG, aH, aI⟩ := zZ ah; have af : 0 ≤ (a1 : Int) := oD; have ag : a1 < (ae.length : Int) := oD; obtain ⟨aq, ax, aa⟩ := Zx aj.out a1 af ag; (try rw [← aC.out] at aa); cases ax; replace aa := (HB.out.cell (Zj w _ aa)).trans aa; replace af := eq_true af; replace ag := eq_true ag; have ay : 0 ≤ ((Zz .or .i64 a1 (ai)) : Int) := oD; have az : (Zz .or .i64 a1 (ai)) < (ae.length : Int) := oD; obtain ⟨aD, aJ, ac⟩ := Zx aj.out (Zz .or .i64 a1 (ai)) ay az; (try rw [← aC.out] at ac); obtain rfl : aq = aD := (by injection aJ); replace ac := (HB.out.cell (Zj w _ ac)).trans ac; replace ay := eq_true ay; replace az := eq_true az)))
 go_ret
 exact ⟨by first | rfl | (simp <;> rfl) | (simp only [← aA]; first | rfl | (simp <;> rfl)) | (simp [*] <;> rfl), wB⟩
mutual
def fg.l0 : Nat → Int → Int → Int → List Bool → Int → List Int → Option (Int × List Int × Bool)
 | 0, _, _, _, _, _, _ => none
 | k + 1, ag, af, ae, ac, aa, ab => if af < ag then (fg.l1 k af 0 ag af (ac.length : Int) 0 ae ac aa ab) else (some (aa, ab, true))
def fg.l1 : Nat → Int → Int → Int → Int → Int → Int → Int → List Bool → Int → List Int → Option (Int × List Int × Bool)
 | 0, _, _, _, _, _, _, _, _, _, _ => none
 | k + 1, x6, x7, ag, af, ai, ah, ae, ac, aa, ab => if ah < ai then ((gO.f ae ac ah x6).bind fun aj => (if aj = true then ((fI.f k aa ab ah).bind fun ak => (fg.l1 k x6 (mx x7 (Zf (aa - ak))) ag af ai (Zf (ah + 1)) ae ac aa ab)) else (fg.l1 k x6 x7 ag af ai (Zf (ah + 1)) ae ac aa ab))) else (if 0 ≤ x6 then (if x6 < (ab.length : Int) then (fg.l0 k ag (Zf (af + 1)) ae ac aa (ab.set (x6 : Int).toNat x7)) else (none)) else (none))
end
def fg.f (k : Nat) (ab : Int) (ac : List Int) : Option (Int × List Int × Bool) := (fd.f k ab ac).bind fun af => (if af = true then ((fF.f k ab ac).bind fun aa => ((gr.f ac).bind fun ae => (fg.l0 k (ae.length : Int) 0 aa.1 aa.2 ab ae))) else (some (0, ([] : List Int), false)))
def fg.T4 : Bool × List (List Nat × List Nat) := (true, [([], []), ([0], [0]), ([], []), ([2], [2]), ([3], [3]), ([1, 4], [1, 4]), ([], []), ([6, 5, 4, 0, 1, 2, 3, 4, 5, 6], [5, 6])])
def fg.B4 : List Nat := [0, 1, 0, 4, 12, 31, 0, 127]
theorem fg.tab4 : rtab .any (opsOf Tryz.f11 4) = fg.T4 := by kernel_rfl
theorem fg.bits4 : waitsOk fg.T4.2 fg.B4 = true := by kernel_rfl
def fg.T13 : Bool × List (List Nat × List Nat) := (true, [([], []), ([], []), ([1], [1]), ([], []), ([], []), ([3, 4], [3, 4]), ([2, 5], [2, 5]), ([0, 6], [0, 6]), ([7, 5, 0, 1, 2, 3, 4, 5, 6, 7], [0, 7])])
def fg.B13 : List Nat := [0, 0, 2, 0, 0, 24, 62, 127, 255]
theorem fg.tab13 : rtab .any (opsOf Tryz.f11 13) = fg.T13 := by kernel_rfl
theorem fg.bits13 : waitsOk fg.T13.2 fg.B13 = true := by kernel_rfl
theorem fg.calls (k : Nat) (ao : Int) (aJ : Option Addr) (aK : Nat) (az : List Int) (r1 : Int) (r2 : List Int) (r3 : Bool) (w : ZF) (bU : Kd.C (Zl .i64) w aJ az.length az) (bV : az.length ≤ aK) (h : fg.f k ao az = some (r1, r2, r3)) :
  ZK Tryz.prog 11 #[.agg #[.int .i64 ao, .slice aJ az.length aK]] w fun e w' => ∃ v1_ : ZV, e = .returned (.tuple #[.agg #[.int .i64 r1, v1_], .bool r3]) ∧ Kd.R (Zl .i64) 3 w' w.heap.size (fun _ => True) v1_ r2 ∧ Zy w.heap.size w w' := by
 have hu24 := Tryz.underlying24
 have hu53 := Tryz.underlying53
 have aY := Za bU
 have aZ := Za bV
 clear bU bV
 have HB := Za (Zq w.heap.size w)
 have H := h
 unfold fg.f at H
 clear h
 replace H := oA H
 obtain ⟨ci, A2, H⟩ := H
 (try dsimp only at H)
 have di := Za H
 clear H
 go_enter Tryz.func11, Tryz.ntmps11
 go_upto_if 11 with (first | ((with_reducible refine Zp (N := 1) rfl ?_); refine xE (N := 1) (cs := #[.int .i64 ao, .slice aJ az.length aK]) (t := 24) ?_; intro ax hg w6 aa hb; have dj := gS hg HB; have dl := gS hg HB; replace HB := sB HB hb; clear hb hg) | ((with_reducible refine Zp (N := 2) rfl ?_); refine xE (N := 2) (cs := #[.int .i64 0, .slice none 0 0]) (t := 24) ?_; intro aA hg w7 ac hb; have dm := gS hg HB; have dn := gS hg HB; have aU := nL hg (Zr aa.out); have aV := nG hg (Zr aa.out); replace aa := bB aa hb; replace HB := sB HB hb; clear hb hg; have el := aU.out; have en := aV.out; obtain ⟨bY, bZ, b5, b6⟩ := zZ aa) | ((with_reducible refine Zk (f := 16) rfl ?_); refine gL 10 Tryz.func16 #[.agg #[.int .i64 ao, .slice aJ az.length aK]] ?_; (with_reducible refine (fd.calls k ao _ _ az ci _ (Ze aY.out HB.out) aZ.out A2.out).mono ?_); rintro e eF ⟨rfl, hb⟩; refine ⟨_, rfl, ?_⟩; replace aa := bB aa hb; replace ac := bB ac hb; replace HB := sB HB hb; (try clear hb); (try clear bY bZ b5 b6); obtain ⟨bi, bj, bl, bm⟩ := zZ aa))
 have H := di.out
 clear di
 by_cases c3 : ci = true
 rotate_left
 ·replace c3 := Bool.eq_false_iff.mpr c3
  subst c3
  replace H := iF H
  simp only [Zi, Zo] at H
  obtain ⟨rfl, rfl, rfl⟩ := H
  (try clear bn bo bq br bt bu bv bw bx bz bA bC)
  obtain ⟨cz, cA, cB, cD⟩ := zZ ac
  go_wp2_with (fail)
  refine ZE (ZQ rfl _ _ aA 24 #[.int .i64 0, .slice none 0 0] (0, 0) _ rfl (by refine Zt (cs := #[.int .i64 0, .slice none 0 0]) ?_ 1 _ rfl; refine Zt (cs := #[.int .i64 0, .slice none 0 0]) ?_ 0 _ rfl; exact ac.out) Tryz.underlying24 rfl (by kernel_rfl)) rfl ?_
  exact ⟨_, fR, by first | exact Kd.R_nil _ _ _ _ _ | exact Kd.N_nil _ _ _ _ _ | exact Kd.V_nil _ _ _ _ _ | exact Kd.Q_nil _ _ _ _ _ | exact Kd.S_nil _ _ _ _ _, wB⟩
 subst c3
 replace H := iT H
 replace H := oB H
 obtain ⟨⟨aC, ap⟩, dp, H⟩ := H
 (try dsimp only at H)
 have A4 := Za dp
 clear dp
 replace H := oA H
 obtain ⟨aM, A5, H⟩ := H
 (try dsimp only at H)
 have H' := Za H
 clear H
 try go_wp2_with (first | ((with_reducible refine Zk (f := 40) rfl ?_); refine gL 14 Tryz.func40 #[.agg #[.int .i64 ao, .slice aJ az.length aK]] ?_; (with_reducible refine (fF.calls k ao _ _ az aC ap _ (Ze aY.out HB.out) aZ.out A4.out).mono ?_); rintro e eG ⟨ep, rfl, bW, hb⟩; refine ⟨_, rfl, ?_⟩; have av := Za (Zu bW (Zm HB.out)); replace aa := bB aa hb; replace ac := bB ac hb; replace HB := sB HB hb; (try clear hb); (try clear bW)) | ((with_reducible refine Zp (N := 4) rfl ?_); refine xE (N := 4) (cs := #[.int .i64 0, .slice none 0 0]) (t := 53) ?_; intro an0 hg cg af hb; have dq := gS hg HB; have dr := gS hg HB; have aD := nL hg (Zr aa.out); have aQ := nG hg (Zr aa.out); have ay := nL hg (Zr ac.out); have aI := nG hg (Zr ac.out); replace av := rB av hb; replace aa := bB aa hb; replace ac := bB ac hb; replace HB := sB HB hb; clear hb hg; have dt := aQ.out; have du := aD.out; have dv := aI.out; have dw := ay.out; (try clear bi bj bl bm); obtain ⟨bE, bF, bG, bH⟩ := zZ af; obtain ⟨aE, aG, cT⟩ := Zn av.out; subst cT))
 have n0_ : Zc (Kd.R ZN 4 ((cg.setCell ⟨an0, 0, none⟩ (.int .i64 aC)).setCell ⟨an0, 1, none⟩ (.slice aE ap.length aG)) w.heap.size (fun _ => True) (.slice aE ap.length aG) ap) := ⟨by exact ZG (ZA (p := ⟨an0, 1, none⟩) (ZA (p := ⟨an0, 0, none⟩) (ZH av.out af.out (by decide)) (fun _ hk => hk.2) (.int .i64 aC)) (fun _ hk => hk.2) (.slice aE ap.length aG)) (fun _ hk => trivial)⟩
 have n1_ : Zc (((cg.setCell ⟨an0, 0, none⟩ (.int .i64 aC)).setCell ⟨an0, 1, none⟩ (.slice aE ap.length aG)).heap[ax]? = some (.cells #[.int .i64 ao, .slice aJ az.length aK] 24 (0, 0))) := ⟨by refine Zw ?_ aD.out _; refine Zw ?_ aD.out _; exact aa.out⟩
 have n2_ : Zc (((cg.setCell ⟨an0, 0, none⟩ (.int .i64 aC)).setCell ⟨an0, 1, none⟩ (.slice aE ap.length aG)).heap[aA]? = some (.cells #[.int .i64 0, .slice none 0 0] 24 (0, 0))) := ⟨by refine Zw ?_ ay.out _; refine Zw ?_ ay.out _; exact ac.out⟩
 have n3_ : Zc (((cg.setCell ⟨an0, 0, none⟩ (.int .i64 aC)).setCell ⟨an0, 1, none⟩ (.slice aE ap.length aG)).heap[an0]? = some (.cells #[.int .i64 aC, .slice aE ap.length aG] 53 (0, 0))) := ⟨by refine Zt (cs := #[.int .i64 aC, .slice none 0 0]) ?_ 1 _ rfl; refine Zt (cs := #[.int .i64 0, .slice none 0 0]) ?_ 0 _ rfl; exact af.out⟩
 have n4_ : Zc (Zy w.heap.size w ((cg.setCell ⟨an0, 0, none⟩ (.int .i64 aC)).setCell ⟨an0, 1, none⟩ (.slice aE ap.length aG))) := ⟨wB⟩
 (try clear av)
 (try clear aa)
 (try clear ac)
 (try clear af)
 (try clear HB)
 (try clear bE bF bG bH)
 generalize ((cg.setCell ⟨an0, 0, none⟩ (.int .i64 aC)).setCell ⟨an0, 1, none⟩ (.slice aE ap.length aG)) = eq at n0_ n1_ n2_ n3_ n4_ ⊢
 have av := n0_
 have aa := n1_
 have ac := n2_
 have af := n3_
 have HB := n4_
 clear n0_ n1_ n2_ n3_ n4_
 replace av := rD av
 replace aa := bD aa
 replace ac := bD ac
 replace af := bD af
 replace HB := Za (ZL HB.out)
 refine start_ (n := 8) (S := fun w' => w'.cell? ⟨ax, 0, none⟩ = some (.int .i64 ao) ∧ w'.cell? ⟨ax, 1, none⟩ = some (.slice aJ az.length aK)) (ds := []) #[F,F,F,F,F,F,F,F] (by kernel_rfl) rfl rfl ⟨(Zb aa.out 0).trans rfl, (Zb aa.out 1).trans rfl⟩ (fun hHeld => ?_); refine with_tabW fg.tab4 fg.bits4 (fun HT_ HW_ => ?_)
 generalize eq.drew = eH at av aa ac af HB hHeld ⊢
 refine pU 0 HT_ ?_
 refine pU 2 HT_ ?_
 refine tK 1 HT_ HW_ hHeld (hy := by rintro w' ⟨s0, s1⟩; go_simp; with_reducible rfl) ?_
 refine tK 3 HT_ HW_ hHeld (hy := by rintro w' ⟨s0, s1⟩; go_simp; with_reducible rfl) ?_
 refine join_ (σ := ZV × Nat) 1 #[T,T,T,T,T,T,T,F] (fun s_ => [(19, s_.1), (5, .pointer (some ⟨s_.2, 0, none⟩)), (20, .agg #[.int .i64 ao, s_.1])]) (fun s_ w' => (w'.cell? ⟨ax, 0, none⟩ = some (.int .i64 ao) ∧ w'.cell? ⟨ax, 1, none⟩ = some (.slice aJ az.length aK)) ∧ (Kd.R ZN 4 w' w.heap.size (fun _ => True) (.slice aE ap.length aG) ap) ∧ (Kd.R (Zl .i64) 3 w' w.heap.size (fun _ => True) s_.1 aM) ∧ (w'.heap[ax]? = some (.cells #[.int .i64 ao, .slice aJ az.length aK] 24 (0, 0))) ∧ (w'.heap[aA]? = some (.cells #[.int .i64 0, .slice none 0 0] 24 (0, 0))) ∧ (w'.heap[an0]? = some (.cells #[.int .i64 aC, .slice aE ap.length aG] 53 (0, 0))) ∧ (w'.heap[s_.2]? = some (.cells #[.int .i64 0, .slice none 0 0] 24 (0, 0))) ∧ (w.heap.size ≤ s_.2) ∧ (w.heap.size ≤ s_.2) ∧ (ax ≠ s_.2) ∧ (s_.2 ≠ ax) ∧ (aA ≠ s_.2) ∧ (s_.2 ≠ aA) ∧ (an0 ≠ s_.2) ∧ (s_.2 ≠ an0) ∧ (Zy w.heap.size w w')) ?_ ?_
 rotate_left
 ·intro hCont
  refine two_ (i := 4) (j := 6) (Ni := some 19) (Nj := some 5) #[T,T,T,T,T,F,F,F] #[T,T,T,T,F,F,T,F] rfl rfl rfl rfl (two_of HT_.out (by kernel_rfl)) (by decide) (by decide) (fun K hK => ?_) (fun K hK => ?_)
  ·skip
   refine gE Tryz.func45 #[.slice aJ az.length aK] ?_
   with_reducible refine (gr.calls _ _ az aM _ (Ze aY.out HB.out) aZ.out A5.out).mono ?_
   rintro e er ⟨b7, rfl, bW, hb⟩
   refine ⟨_, rfl, ?_⟩
   have aN := Za (Zu bW (Zm HB.out))
   replace av := rB av hb
   replace aa := bB aa hb
   replace ac := bB ac hb
   replace af := bB af hb
   replace HB := sB HB hb
   (try clear hb)
   (try clear hb2)
   (try clear hk)
   (try clear hi)
   (try clear bW)
   obtain ⟨cU, cV, cj⟩ := Zn aN.out
   (first | subst cj | (injection cj with f1_ f2_ f3_; have f4_ := f1_.symm; have f5_ := f3_.symm; clear f1_ f2_ f3_; subst f4_; subst f5_))
   refine hK.out _ _ ⟨(Zb aa.out 0).trans rfl, (Zb aa.out 1).trans rfl⟩ (fun hHeld => ?_)
   clear hK K
   refine nM ?_
   refine pU 5 HT_ ?_
   refine oN 6 HT_ (fun K hK => ?_)
   refine box_step ?hg (N := 5) ?hd (cs := #[.int .i64 0, .slice none 0 0]) (t := 24) ?hr ?_; (case hd => rfl); (case hg => rfl); (case hr => first | (go_simp; done) | (go_simp; rfl))
   intro ak hg eI hbox hb
   have ai := Za (hbox)
   have a6 := gS hg HB
   have a7 := gS hg HB
   have ah := nL hg (Zr aa.out)
   have aq := nG hg (Zr aa.out)
   have al := nL hg (Zr ac.out)
   have au := nG hg (Zr ac.out)
   have aj := nL hg (Zr af.out)
   have am0 := nG hg (Zr af.out)
   replace av := rB av hb
   replace aN := rB aN hb
   replace aa := bB aa hb
   replace ac := bB ac hb
   replace af := bB af hb
   replace HB := sB HB hb
   clear hb hg
   refine hK.out _ _ ⟨(Zb aa.out 0).trans rfl, (Zb aa.out 1).trans rfl⟩ (fun hHeld => ?_)
   clear hK K
   refine nM ?_
   exact norm_ (by simp only [putAll, ZW, sA, sZ, sS]) (hCont (.slice cU aM.length cV, ak) _ ⟨hHeld, av.out, aN.out, aa.out, ac.out, af.out, ai.out, a6.out, a7.out, ah.out, aq.out, al.out, au.out, aj.out, am0.out, HB.out⟩)
  skip
  refine box_step ?hg (N := 5) ?hd (cs := #[.int .i64 0, .slice none 0 0]) (t := 24) ?hr ?_; (case hd => rfl); (case hg => rfl); (case hr => first | (go_simp; done) | (go_simp; rfl))
  intro ak hg er hbox hb
  have ai := Za (hbox)
  have a6 := gS hg HB
  have a7 := gS hg HB
  have ah := nL hg (Zr aa.out)
  have aq := nG hg (Zr aa.out)
  have al := nL hg (Zr ac.out)
  have au := nG hg (Zr ac.out)
  have aj := nL hg (Zr af.out)
  have am0 := nG hg (Zr af.out)
  replace av := rB av hb
  replace aa := bB aa hb
  replace ac := bB ac hb
  replace af := bB af hb
  replace HB := sB HB hb
  clear hb hg
  refine hK.out _ _ ⟨(Zb aa.out 0).trans rfl, (Zb aa.out 1).trans rfl⟩ (fun hHeld => ?_)
  clear hK K
  refine nM ?_
  refine oN 4 HT_ (fun K hK => ?_)
  refine gE Tryz.func45 #[.slice aJ az.length aK] ?_
  with_reducible refine (gr.calls _ _ az aM _ (Ze aY.out HB.out) aZ.out A5.out).mono ?_
  rintro e eJ ⟨b7, rfl, bW, hb⟩
  refine ⟨_, rfl, ?_⟩
  have aN := Za (Zu bW (Zm HB.out))
  replace av := rB av hb
  replace aa := bB aa hb
  replace ac := bB ac hb
  replace af := bB af hb
  replace ai := bB ai hb
  replace HB := sB HB hb
  (try clear hb)
  (try clear hb2)
  (try clear hk)
  (try clear hi)
  (try clear bW)
  obtain ⟨cW, cX, ck⟩ := Zn aN.out
  (first | subst ck | (injection ck with f1_ f2_ f3_; have f4_ := f1_.symm; have f5_ := f3_.symm; clear f1_ f2_ f3_; subst f4_; subst f5_))
  refine hK.out _ _ ⟨(Zb aa.out 0).trans rfl, (Zb aa.out 1).trans rfl⟩ (fun hHeld => ?_)
  clear hK K
  refine nM ?_
  refine pU 5 HT_ ?_
  exact norm_ (by simp only [putAll, ZW, sA, sZ, sS]) (hCont (.slice cW aM.length cX, ak) _ ⟨hHeld, av.out, aN.out, aa.out, ac.out, af.out, ai.out, a6.out, a7.out, ah.out, aq.out, al.out, au.out, aj.out, am0.out, HB.out⟩)
 rintro ⟨b7, ak⟩ bh ⟨hS_, h0_, h1_, h2_, h3_, h4_, h5_, h6_, h7_, h8_, h9_, h10_, h11_, h12_, h13_, h14_⟩
 have n0_ : Zc (Kd.R ZN 4 bh w.heap.size (fun _ => True) (.slice aE ap.length aG) ap) := ⟨h0_⟩
 have n1_ : Zc (Kd.R (Zl .i64) 3 bh w.heap.size (fun _ => True) b7 aM) := ⟨h1_⟩
 have n2_ : Zc (bh.heap[ax]? = some (.cells #[.int .i64 ao, .slice aJ az.length aK] 24 (0, 0))) := ⟨h2_⟩
 have n3_ : Zc (bh.heap[aA]? = some (.cells #[.int .i64 0, .slice none 0 0] 24 (0, 0))) := ⟨h3_⟩
 have n4_ : Zc (bh.heap[an0]? = some (.cells #[.int .i64 aC, .slice aE ap.length aG] 53 (0, 0))) := ⟨h4_⟩
 have n5_ : Zc (bh.heap[ak]? = some (.cells #[.int .i64 0, .slice none 0 0] 24 (0, 0))) := ⟨h5_⟩
 have n6_ : Zc (w.heap.size ≤ ak) := ⟨h6_⟩
 have n7_ : Zc (w.heap.size ≤ ak) := ⟨h7_⟩
 have n8_ : Zc (ax ≠ ak) := ⟨h8_⟩
 have n9_ : Zc (ak ≠ ax) := ⟨h9_⟩
 have n10_ : Zc (aA ≠ ak) := ⟨h10_⟩
 have n11_ : Zc (ak ≠ aA) := ⟨h11_⟩
 have n12_ : Zc (an0 ≠ ak) := ⟨h12_⟩
 have n13_ : Zc (ak ≠ an0) := ⟨h13_⟩
 have n14_ : Zc (Zy w.heap.size w bh) := ⟨h14_⟩
 clear av
 clear aa
 clear ac
 clear af
 clear HB
 clear h0_ h1_ h2_ h3_ h4_ h5_ h6_ h7_ h8_ h9_ h10_ h11_ h12_ h13_ h14_
 have av := n0_
 have aN := n1_
 have aa := n2_
 have ac := n3_
 have af := n4_
 have ai := n5_
 have a6 := n6_
 have a7 := n7_
 have ah := n8_
 have aq := n9_
 have al := n10_
 have au := n11_
 have aj := n12_
 have am0 := n13_
 have HB := n14_
 clear n0_ n1_ n2_ n3_ n4_ n5_ n6_ n7_ n8_ n9_ n10_ n11_ n12_ n13_ n14_
 have hHeld : bh.cell? ⟨ax, 0, none⟩ = some (.int .i64 ao) ∧ bh.cell? ⟨ax, 1, none⟩ = some (.slice aJ az.length aK) := hS_
 obtain ⟨b8, b9, cl⟩ := Zn aN.out
 (first | subst cl | (injection cl with f1_ f2_ f3_; have f4_ := f1_.symm; have f5_ := f3_.symm; clear f1_ f2_ f3_; subst f4_; subst f5_))
 refine norm_ (a' := ?_) ?_ ?_
 rotate_left
 ·simp only [putAll, ZW, sA, sZ, sS]
  rfl
 refine oN 7 HT_ (fun K hK => ?_)
 have hs25 : bh.cell? ⟨ak, 0, none⟩ = some (.int .i64 0) := (Zb ai.out 0).trans rfl
 have dx := ZD ai.out 0
 have cE := ah.out
 have cF := al.out
 have cG := aj.out
 have cH := aq.out
 have cI := au.out
 have cJ := am0.out
 have hs26 : bh.cell? ⟨ak, 1, none⟩ = some (.slice none 0 0) := (Zb ai.out 1).trans rfl
 have dy := ZD ai.out 1
 have cK := ah.out
 have cL := al.out
 have cM := aj.out
 have cN := aq.out
 have cO := au.out
 have cP := am0.out
 refine skip_ (w1 := ?_) (by rfl) rfl ?_ ?_
 rotate_left
 ·go_simp
  rfl
 refine hK.out _ _ ⟨((cell_far (p := ⟨ak, _, none⟩) ah.out _).trans (((cell_far (p := ⟨ak, _, none⟩) ah.out _).trans (hHeld.1)))), ((cell_far (p := ⟨ak, _, none⟩) ah.out _).trans (((cell_far (p := ⟨ak, _, none⟩) ah.out _).trans (hHeld.2))))⟩ (fun hHeld => ?_)
 clear hK K
 refine done_ (done_of HT_.out (by kernel_rfl)) ?_
 have dz := aq.out
 have dA := ah.out
 have dB := au.out
 have dC := al.out
 have dD := am0.out
 have dE := aj.out
 obtain ⟨a8, bb, bc, bf⟩ := zZ ai
 try go_wp2
 go_loopg [24] k (fun kq es w' => ∃ (aw : Int) (ae : List Int) (u113001 : ZV), es = .int .i64 aw ∧ Zc (fg.l0 kq (aM.length : Int) aw aC ap ao ae = some (r1, r2, r3)) ∧ Zc (kq ≤ k) ∧ Zc (Kd.R ZN 4 w' w.heap.size (fun _ => True) (.slice aE ap.length aG) ap) ∧ Zc (Kd.R (Zl .i64) 3 w' w.heap.size (fun _ => True) u113001 ae) ∧ Zc (w'.heap[ax]? = some (.cells #[.int .i64 ao, (.slice aJ az.length aK)] 24 (0, 0))) ∧ Zc (w'.heap[aA]? = some (.cells #[.int .i64 0, (.slice none 0 0)] 24 (0, 0))) ∧ Zc (w'.heap[an0]? = some (.cells #[.int .i64 aC, (.slice aE ap.length aG)] 53 (0, 0))) ∧ Zc (w'.heap[ak]? = some (.cells #[.int .i64 ao, u113001] 24 (0, 0))) ∧ Zc (Zy w.heap.size w w'))
 case atStart => exact ⟨(0), (aM), (.slice b8 aM.length b9), gR, H', ⟨Zs _⟩, ⟨by exact ZG (ZA (p := ⟨ak, 1, none⟩) (ZA (p := ⟨ak, 0, none⟩) (ZH av.out ai.out (by decide)) (fun _ hk => hk.2) (.int .i64 ao)) (fun _ hk => hk.2) (.slice b8 aM.length b9)) (fun _ hk => trivial)⟩, ⟨by exact ZG (ZA (p := ⟨ak, 1, none⟩) (ZA (p := ⟨ak, 0, none⟩) (ZH aN.out ai.out (by decide)) (fun _ hk => hk.2) (.int .i64 ao)) (fun _ hk => hk.2) (.slice b8 aM.length b9)) (fun _ hk => trivial)⟩, ⟨by refine Zw ?_ ah.out _; refine Zw ?_ ah.out _; exact aa.out⟩, ⟨by refine Zw ?_ al.out _; refine Zw ?_ al.out _; exact ac.out⟩, ⟨by refine Zw ?_ aj.out _; refine Zw ?_ aj.out _; exact af.out⟩, ⟨by refine Zt (cs := #[.int .i64 ao, .slice none 0 0]) ?_ 1 _ rfl; refine Zt (cs := #[.int .i64 0, .slice none 0 0]) ?_ 0 _ rfl; exact ai.out⟩, ⟨wB⟩⟩
 case round =>
  clear H'
  (try clear c1); (try clear c2); (try clear p2); (try clear c3); (try clear c4); (try clear c8); (try clear et); (try clear eu); (try clear ey); (try clear ez); (try clear eA); (try clear eB); (try clear eC); (try clear a8); (try clear bb); (try clear bc); (try clear bf)
  obtain ⟨aw, ae, u113001, rfl, HA, HK1, ag, ab, aa, ac, af, ai, HB⟩ := hrel
  cases gk with
  | zero => exact absurd HA.out (by simp [fg.l0])
  | succ k1 =>
   have H := HA.out
   clear HA
   simp only [fg.l0] at H
   by_cases ca : aw < (aM.length : Int)
   rotate_left
   ·rw [if_neg ca] at H
    have bX : decide (aw < (aM.length : Int)) = false := decide_eq_false ca
    clear ca
    simp only [Zi, Zo] at H
    obtain ⟨rfl, rfl, rfl⟩ := H
    have dF := aq.out
    have dG := ah.out
    have dH := au.out
    have dI := al.out
    have dJ := am0.out
    have dK := aj.out
    obtain ⟨bt, bu, bv, bw⟩ := zZ ai
    have dL := aV.out
    have dM := aU.out
    have dN := ay.out
    have dO := aI.out
    obtain ⟨bx, bz, bA, bC⟩ := zZ ac
    obtain ⟨cm, cn, cY⟩ := Zn ab.out
    subst cY
    go_wp2
    refine ZE (ZQ rfl _ _ aA 24 #[.int .i64 ao, .slice cm ae.length cn] (0, 0) _ rfl (by refine Zt (cs := #[.int .i64 ao, .slice none 0 0]) ?_ 1 _ rfl; refine Zt (cs := #[.int .i64 0, .slice none 0 0]) ?_ 0 _ rfl; exact ac.out) Tryz.underlying24 rfl (by kernel_rfl)) rfl ?_
    exact ⟨_, fR, by exact ZG (ZA (p := ⟨aA, 1, none⟩) (ZA (p := ⟨aA, 0, none⟩) (ZH ab.out ac.out (by decide)) (fun _ hk => hk.2) (.int .i64 ao)) (fun _ hk => hk.2) (.slice cm ae.length cn)) (fun _ hk => trivial), wB⟩
   rw [if_pos ca] at H
   have bX := decide_eq_true ca
   clear ca
   have H' := Za H
   clear H
   have dP := aQ.out
   have dQ := aD.out
   have dT := aI.out
   have dU := ay.out
   have dV := aj.out
   have dW := am0.out
   obtain ⟨bI, bJ, bK, bL⟩ := zZ af
   go_wp2
   go_loopg [7, 30] k1 (fun kq v7 eD w' => ∃ (aT : Int) (aH : Int), v7 = .int .i64 aT ∧ eD = .int .i64 aH ∧ Zc (fg.l1 kq aw aT (aM.length : Int) aw (ap.length : Int) aH aC ap ao ae = some (r1, r2, r3)) ∧ Zc (kq ≤ k1) ∧ Zc (Kd.R ZN 4 w' w.heap.size (fun _ => True) (.slice aE ap.length aG) ap) ∧ Zc (Kd.R (Zl .i64) 3 w' w.heap.size (fun _ => True) u113001 ae) ∧ Zc (w'.heap[ax]? = some (.cells #[.int .i64 ao, (.slice aJ az.length aK)] 24 (0, 0))) ∧ Zc (w'.heap[aA]? = some (.cells #[.int .i64 0, (.slice none 0 0)] 24 (0, 0))) ∧ Zc (w'.heap[an0]? = some (.cells #[.int .i64 aC, (.slice aE ap.length aG)] 53 (0, 0))) ∧ Zc (w'.heap[ak]? = some (.cells #[.int .i64 ao, u113001] 24 (0, 0))) ∧ Zc (Zy w.heap.size w w'))
   case atStart => exact ⟨(0), (0), gR, gR, H', ⟨Zs _⟩, ⟨by exact ag.out⟩, ⟨by exact ab.out⟩, ⟨by exact aa.out⟩, ⟨by exact ac.out⟩, ⟨by exact af.out⟩, ⟨by exact ai.out⟩, ⟨wB⟩⟩
   case round =>
    clear H'
    (try clear c1); (try clear c2); (try clear p2); (try clear c3); (try clear c4); (try clear c8); (try clear et); (try clear eu); (try clear ey); (try clear ez); (try clear eA); (try clear eB); (try clear eC); (try clear ca); (try clear bX); (try clear eK); (try clear eL); (try clear eM); (try clear a8); (try clear bb); (try clear bI); (try clear bJ); (try clear bc); (try clear bf); (try clear bK); (try clear bL); (try clear p2)
    obtain ⟨aT, aH, rfl, rfl, HA, HK2, ag, ab, aa, ac, af, ai, HB⟩ := hrel
    cases gk with
    | zero => exact absurd HA.out (by simp [fg.l1])
    | succ k2 =>
     have H := HA.out
     clear HA
     simp only [fg.l1] at H
     by_cases ch : aH < (ap.length : Int)
     rotate_left
     ·rw [if_neg ch] at H
      have cp : decide (aH < (ap.length : Int)) = false := decide_eq_false ch
      clear ch
      by_cases cQ : 0 ≤ aw
      rotate_left
      ·rw [if_neg cQ] at H
       exact absurd H (by simp)
      rw [if_pos cQ] at H
      have dX := decide_eq_true cQ
      clear cQ
      by_cases cR : aw < (ae.length : Int)
      rotate_left
      ·rw [if_neg cR] at H
       exact absurd H (by simp)
      rw [if_pos cR] at H
      have dY := decide_eq_true cR
      clear cR
      obtain ⟨cb, aX⟩ : ∃ y_ : List Int, y_ = (ae.set (aw : Int).toNat aT) := ⟨_, rfl⟩
      replace H : (fg.l0 k2 (aM.length : Int) (Zf (aw + 1)) aC ap ao cb) = some (r1, r2, r3) := by first | (rw [aX]; with_reducible exact H) | (have H2_ := (Zd _ _).symm.trans H; rw [aX]; with_reducible exact H2_) | (have H2_ := (Zd _ _).symm.trans H; with_reducible exact H2_) | with_reducible exact H | (rw [aX]; exact H) | exact H
      have cq := Za aX
      clear aX
      have H' := Za H
      clear H
      have dZ := aq.out
      have d3 := ah.out
      have d4 := au.out
      have d5 := al.out
      have d6 := am0.out
      have d7 := aj.out
      obtain ⟨bn, bo, bq, br⟩ := zZ ai
      have db : 0 ≤ (aw : Int) := oD
      have dc : (aw : Int) < ((ae.length : Int) : Int) := oD
      obtain ⟨bg, bM, cr, ct, gl56, cl56, HG56⟩ := Kd.R_form ab.out (by omega)
      (first | cases cr | (injection cr with ea_ en_ ec_; (first | subst ea_ | (injection ea_ with ea_; subst ea_)); subst ec_; clear en_))
      have GB56 := Za ct
      have GG56 := Za HG56
      clear ct gl56 HG56
      obtain ⟨de, dg⟩ := Kd.R_celln 0 ab.out (aw : Int) db dc
      replace db := eq_true db
      replace dc := eq_true dc
      have cd := Kd.R_putg ab.out (aw : Int) aT
      go_wp2_with (first | ((with_reducible refine gate_store (t := 3) (p := 50) rfl ?_); refine sE (t := 3) (p := 50) (w1 := (wr.setCell ⟨bg, (aw : Int).toNat, none⟩ (.int .i64 aT))) ?_; intro dh hw; have hg : wr.grownBy dh (some bg) := (by rw [hw]; exact cd.2); have hp_ : Kd.R (Zl .i64) 3 dh w.heap.size (fun _ => True) (.slice (some ⟨bg, 0, none⟩) ae.length bM) cb := (by rw [hw, cq.out]; exact cd.1); clear cd; replace ag := Za (Kd.R_over' (v := (.slice (some ⟨bg, 0, none⟩) ae.length bM)) ag.out (Kd.R_typed ab.out) (by decide) hg); replace aa := Za (Zv (g := ax) (o := .cells #[.int .i64 ao, .slice aJ az.length aK] 24 (0, 0)) aa.out hg (ZB ab.out aa.out (by decide))); replace ac := Za (Zv (g := aA) (o := .cells #[.int .i64 0, .slice none 0 0] 24 (0, 0)) ac.out hg (ZB ab.out ac.out (by decide))); replace af := Za (Zv (g := an0) (o := .cells #[.int .i64 aC, .slice aE ap.length aG] 53 (0, 0)) af.out hg (ZB ab.out af.out (by decide))); replace ai := Za (Zv (g := ak) (o := .cells #[.int .i64 ao, .slice (some ⟨bg, 0, none⟩) ae.length bM] 24 (0, 0)) ai.out hg (ZB ab.out ai.out (by decide))); replace ab := Za (hp_); replace HB := Za ((by rw [hw]; exact below_set (HB.out) GB56.out : Zy w.heap.size w dh)); clear hg hw hp_))
      go_roundg k2
      case measure => have := HK1.out; have := HK2.out; omega
      case rel => exact ⟨(Zf (aw + 1)), (cb), (.slice (some ⟨bg, 0, none⟩) ae.length bM), gR, H', ⟨by have := HK1.out; have := HK2.out; omega⟩, ⟨by exact ag.out⟩, ⟨by exact ab.out⟩, ⟨by exact aa.out⟩, ⟨by exact ac.out⟩, ⟨by exact af.out⟩, ⟨by exact ai.out⟩, ⟨wB⟩⟩
     rw [if_pos ch] at H
     have cp := decide_eq_true ch
     clear ch
     replace H := oA H
     obtain ⟨cu, d8, H⟩ := H
     (try dsimp only at H)
     have d9 := Za H
     clear H
     have ec := aQ.out
     have ed := aD.out
     have ee := aI.out
     have ef := ay.out
     have eh := aj.out
     have ej := am0.out
     obtain ⟨bN, bO, bR, bS⟩ := zZ af
     go_upto_if 36 with (first | ((with_reducible refine Zk (f := 50) rfl ?_); refine gL 36 Tryz.func50 #[.agg #[.int .i64 aC, .slice aE ap.length aG], .int .i64 aH, .int .i64 aw] ?_; (with_reducible refine (gO.calls aC _ _ ap aH aw cu _ ?side1 ?side2 d8.out).mono ?_); (case side1 => have hx_ := (Zg ag.out).2.2; exact cC); (case side2 => exact (Zg ag.out).2.1); rintro e eE ⟨rfl, hb⟩; refine ⟨_, rfl, ?_⟩; replace ag := rB ag hb; replace ab := rB ab hb; replace aa := bB aa hb; replace ac := bB ac hb; replace af := bB af hb; replace ai := bB ai hb; replace HB := sB HB hb; (try clear hb)))
     have H := d9.out
     clear d9
     by_cases cS : cu = true
     rotate_left
     ·replace cS := Bool.eq_false_iff.mpr cS
      subst cS
      replace H := iF H
      have H' := Za H
      clear H
      go_wp2_with (fail)
      go_roundg k2
      case measure => have := HK1.out; have := HK2.out; omega
      case rel => exact ⟨(aT), (Zf (aH + 1)), gR, gR, H', ⟨by have := HK1.out; have := HK2.out; omega⟩, ⟨by exact ag.out⟩, ⟨by exact ab.out⟩, ⟨by exact aa.out⟩, ⟨by exact ac.out⟩, ⟨by exact af.out⟩, ⟨by exact ai.out⟩, ⟨wB⟩⟩
     subst cS
     replace H := iT H
     replace H := oA H
     obtain ⟨bT, ek, H⟩ := H
     (try dsimp only at H)
     obtain ⟨ce, aW⟩ : ∃ j_ : Int, (mx aT (Zf (ao - bT))) = j_ := ⟨_, rfl⟩
     replace H : (fg.l1 k2 aw ce (aM.length : Int) aw (ap.length : Int) (Zf (aH + 1)) aC ap ao ae) = some (r1, r2, r3) := by first | (rw [aW] at H; exact H) | (simp only [aW] at H ⊢; exact H)
     (try rw [aW] at d8)
     (try rw [aW] at ek)
     have hji40_ : (if aT < (Zf (ao - bT)) then (Zf (ao - bT)) else aT) = ce := aW
     have H' := Za H
     clear H
     try go_wp2_with (fail)
     replace ag := rD ag
     replace ab := rD ab
     replace aa := bD aa
     replace ac := bD ac
     replace af := bD af
     replace ai := bD ai
     replace HB := Za (ZL HB.out)
     obtain ⟨cv, cw, cy⟩ := Zn ab.out
     (first | subst cy | (injection cy with f1_ f2_ f3_; have f4_ := f1_.symm; have f5_ := f3_.symm; clear f1_ f2_ f3_; subst f4_; subst f5_))
     refine start_ (n := 9) (S := fun w' => w'.cell? ⟨ak, 0, none⟩ = some (.int .i64 ao) ∧ w'.cell? ⟨ak, 1, none⟩ = some (.slice cv ae.length cw)) (ds := []) #[F,F,F,F,F,F,F,F,F] (by kernel_rfl) rfl rfl ⟨(Zb ai.out 0).trans rfl, (Zb ai.out 1).trans rfl⟩ (fun hHeld => ?_); refine with_tabW fg.tab13 fg.bits13 (fun HT_ HW_ => ?_)
     (try clear bN bO bR bS)
     generalize eE.drew = eN at ag ab aa ac af ai HB hHeld ⊢
     refine pU 0 HT_ ?_
     refine pU 1 HT_ ?_
     refine pU 4 HT_ ?_
     refine tK 2 HT_ HW_ hHeld (hy := by rintro w' ⟨s0, s1⟩; go_simp; with_reducible rfl) ?_
     refine tK 3 HT_ HW_ hHeld (hy := by rintro w' ⟨s0, s1⟩; go_simp; with_reducible rfl) ?_
     refine oN 5 HT_ (fun K hK => ?_)
     refine gE Tryz.func51 #[.agg #[.int .i64 ao, .slice cv ae.length cw], .int .i64 aH] ?_
     with_reducible refine (fI.calls k2 ao _ _ ae aH bT _ ?side1 ?side2 ek.out).mono ?_
     (case side1 => have hx_ := (Zg ab.out).2.2; exact cC)
     (case side2 => exact (Zg ab.out).2.1)
     rintro e eO ⟨rfl, hb⟩
     refine ⟨_, rfl, ?_⟩
     replace ag := rB ag hb
     replace ab := rB ab hb
     replace aa := bB aa hb
     replace ac := bB ac hb
     replace af := bB af hb
     replace ai := bB ai hb
     replace HB := sB HB hb
     (try clear hb)
     (try clear hb2)
     (try clear hk)
     (try clear hi)
     refine hK.out _ _ ⟨(Zb ai.out 0).trans rfl, (Zb ai.out 1).trans rfl⟩ (fun hHeld => ?_)
     clear hK K
     refine nM ?_
     refine pU 6 HT_ ?_
     refine pU 7 HT_ ?_
     refine pU 8 HT_ ?_
     refine done_ (done_of HT_.out (by kernel_rfl)) ?_
     try go_wp2
     go_roundg k2
     case measure => have := HK1.out; have := HK2.out; omega
     case rel => exact ⟨(ce), (Zf (aH + 1)), (by first | rfl | (simp; done) | (simp only [← aW] <;> (first | rfl | simp)) | (simp [*]; done)), gR, H', ⟨by have := HK1.out; have := HK2.out; omega⟩, ⟨by exact ag.out⟩, ⟨by exact ab.out⟩, ⟨by exact aa.out⟩, ⟨by exact ac.out⟩, ⟨by exact af.out⟩, ⟨by exact ai.out⟩, ⟨wB⟩⟩
def ga.f (a0 : Int) (a1 : Int) : Option (Int) := if a0 < a1 then (some a0) else (some a1)
theorem ga.calls (a0 : Int) (a1 : Int) (r : Int) (w : ZF) (h : ga.f a0 a1 = some r) :
  ZK Tryz.prog 52 #[.int .i64 a0, .int .i64 a1] w fun e w' => e = .returned (.int .i64 r) ∧ Drawn0 w w' := by
 have H := h
 unfold ga.f at H
 clear h
 by_cases c3 : a0 < a1
 ·rw [if_pos c3] at H
  have aa := decide_eq_true c3
  clear c3
  obtain rfl := Zh H
  go_enter Tryz.func52, Tryz.ntmps52
  go_wp2
  go_ret
  exact ⟨by first | rfl | (simp; done) | (simp [*]; done), dS⟩
 rw [if_neg c3] at H
 have aa : decide (a0 < a1) = false := decide_eq_false c3
 clear c3
 obtain rfl := Zh H
 go_enter Tryz.func52, Tryz.ntmps52
 go_wp2
 go_ret
 exact ⟨by first | rfl | (simp; done) | (simp [*]; done), dS⟩
mutual
def fe.l0 : Nat → List Bool → Int → Int → Int → List Int → Option (Int × List Int × Bool)
 | 0, _, _, _, _, _ => none
 | k + 1, x4, af, ac, ab, aa => if ac < af then (if 0 ≤ ac then (if ac < (aa.length : Int) then (fe.l1 k x4 ac (rd aa ac) af ac x4 (x4.length : Int) 0 ab aa) else (none)) else (none)) else (some (ab, aa, true))
def fe.l1 : Nat → List Bool → Int → Int → Int → Int → List Bool → Int → Int → Int → List Int → Option (Int × List Int × Bool)
 | 0, _, _, _, _, _, _, _, _, _, _ => none
 | k + 1, x4, x6, x7, af, ac, ag, ah, ae, ab, aa => if ae < ah then (if 0 ≤ ae then (if ae < (ag.length : Int) then (if rdOf false ag ae = true then (if 0 ≤ x6 then (fe.j2 k x4 x6 x7 ae af ac ag ah ae ((Int.tmod (shr .i64 ae x6) 2) == 1) ab aa) else (none)) else (fe.j2 k x4 x6 x7 ae af ac ag ah ae false ab aa)) else (none)) else (none)) else (if 0 ≤ x6 then (if x6 < (aa.length : Int) then (fe.l0 k x4 af (Zf (ac + 1)) ab (aa.set (x6 : Int).toNat (Zf ((rd aa x6) - x7)))) else (none)) else (none))
def fe.j2 : Nat → List Bool → Int → Int → Int → Int → Int → List Bool → Int → Int → Bool → Int → List Int → Option (Int × List Int × Bool)
 | 0, _, _, _, _, _, _, _, _, _, _, _, _ => none
 | k + 1, x4, x6, x7, x8, af, ac, ag, ah, ae, ak, ab, aa => if ak = true then ((fx.f k ab aa x8).bind fun ai => ((ga.f x7 (Zf (ai - ab))).bind fun aj => (fe.l1 k x4 x6 aj af ac ag ah (Zf (ae + 1)) ab aa))) else (fe.l1 k x4 x6 x7 af ac ag ah (Zf (ae + 1)) ab aa)
end
def fe.f (k : Nat) (aa : Int) (ab : List Int) : Option (Int × List Int × Bool) := (fi.f k aa ab).bind fun ae => (if ae = true then ((fw.f k aa ab).bind fun af => ((fN.f ab).bind fun ac => (fe.l0 k af (ac.length : Int) 0 aa ac))) else (some (0, ([] : List Int), false)))
def fe.T4 : Bool × List (List Nat × List Nat) := (true, [([], []), ([0], [0]), ([], []), ([2], [2]), ([3], [3]), ([1, 4], [1, 4]), ([], []), ([6, 5, 4, 0, 1, 2, 3, 4, 5, 6], [5, 6])])
def fe.B4 : List Nat := [0, 1, 0, 4, 12, 31, 0, 127]
theorem fe.tab4 : rtab .any (opsOf Tryz.f12 4) = fe.T4 := by kernel_rfl
theorem fe.bits4 : waitsOk fe.T4.2 fe.B4 = true := by kernel_rfl
def fe.T13 : Bool × List (List Nat × List Nat) := (true, [([], []), ([], []), ([], []), ([1, 2], [1, 2]), ([], []), ([4], [4]), ([3, 5], [3, 5]), ([0, 6, 3], [0, 6]), ([7, 7, 0, 1, 2, 3, 4, 5, 6, 7], [0, 7])])
def fe.B13 : List Nat := [0, 0, 0, 6, 0, 16, 62, 127, 255]
theorem fe.tab13 : rtab .any (opsOf Tryz.f12 13) = fe.T13 := by kernel_rfl
theorem fe.bits13 : waitsOk fe.T13.2 fe.B13 = true := by kernel_rfl
theorem fe.calls (k : Nat) (am0 : Int) (az : Option Addr) (aA : Nat) (au : List Int) (r1 : Int) (r2 : List Int) (r3 : Bool) (w : ZF) (bO : Kd.C (Zl .i64) w az au.length au) (bR : au.length ≤ aA) (h : fe.f k am0 au = some (r1, r2, r3)) :
  ZK Tryz.prog 12 #[.agg #[.int .i64 am0, .slice az au.length aA]] w fun e w' => ∃ v1_ : ZV, e = .returned (.tuple #[.agg #[.int .i64 r1, v1_], .bool r3]) ∧ Kd.R (Zl .i64) 3 w' w.heap.size (fun _ => True) v1_ r2 ∧ Zy w.heap.size w w' := by
 have hu24 := Tryz.underlying24
 have aX := Za bO
 have aY := Za bR
 clear bO bR
 have HB := Za (Zq w.heap.size w)
 have H := h
 unfold fe.f at H
 clear h
 replace H := oA H
 obtain ⟨cn, A2, H⟩ := H
 (try dsimp only at H)
 have dx := Za H
 clear H
 go_enter Tryz.func12, Tryz.ntmps12
 go_upto_if 12 with (first | ((with_reducible refine Zp (N := 1) rfl ?_); refine xE (N := 1) (cs := #[.int .i64 am0, .slice az au.length aA]) (t := 24) ?_; intro ap hg w6 ac hb; have dy := gS hg HB; have dz := gS hg HB; replace HB := sB HB hb; clear hb hg) | ((with_reducible refine Zp (N := 2) rfl ?_); refine xE (N := 2) (cs := #[.int .i64 0, .slice none 0 0]) (t := 24) ?_; intro av hg w7 ae hb; have dA := gS hg HB; have dB := gS hg HB; have aH := nL hg (Zr ac.out); have aI := nG hg (Zr ac.out); replace ac := bB ac hb; replace HB := sB HB hb; clear hb hg; have d9 := aH.out; have ec := aI.out; obtain ⟨bY, bZ, b5, b6⟩ := zZ ac) | ((with_reducible refine Zk (f := 37) rfl ?_); refine gL 11 Tryz.func37 #[.agg #[.int .i64 am0, .slice az au.length aA]] ?_; (with_reducible refine (fi.calls k am0 _ _ au cn _ (Ze aX.out HB.out) aY.out A2.out).mono ?_); rintro e et ⟨rfl, hb⟩; refine ⟨_, rfl, ?_⟩; replace ac := bB ac hb; replace ae := bB ae hb; replace HB := sB HB hb; (try clear hb); (try clear bY bZ b5 b6); obtain ⟨bl, bm, bn, bo⟩ := zZ ac))
 have H := dx.out
 clear dx
 by_cases c3 : cn = true
 rotate_left
 ·replace c3 := Bool.eq_false_iff.mpr c3
  subst c3
  replace H := iF H
  simp only [Zi, Zo] at H
  obtain ⟨rfl, rfl, rfl⟩ := H
  (try clear bq br bt bu bv bw bx bz bA bC bE bF)
  obtain ⟨cK, cL, cM, cN⟩ := zZ ae
  go_wp2_with (fail)
  refine ZE (ZQ rfl _ _ av 24 #[.int .i64 0, .slice none 0 0] (0, 0) _ rfl (by (with_reducible repeat (first | refine kN ?_ _ | refine kD ?_ | refine kA ?_ _)); refine Zt (cs := #[.int .i64 0, .slice none 0 0]) ?_ 1 _ rfl; (with_reducible repeat (first | refine kN ?_ _ | refine kD ?_ | refine kA ?_ _)); refine Zt (cs := #[.int .i64 0, .slice none 0 0]) ?_ 0 _ rfl; (with_reducible repeat (first | refine kN ?_ _ | refine kD ?_ | refine kA ?_ _)); exact ae.out) Tryz.underlying24 rfl (by kernel_rfl)) rfl ?_
  exact ⟨_, fR, by first | exact Kd.R_nil _ _ _ _ _ | exact Kd.N_nil _ _ _ _ _ | exact Kd.V_nil _ _ _ _ _ | exact Kd.Q_nil _ _ _ _ _ | exact Kd.S_nil _ _ _ _ _, wB⟩
 subst c3
 replace H := iT H
 replace H := oA H
 obtain ⟨ao, A4, H⟩ := H
 (try dsimp only at H)
 replace H := oA H
 obtain ⟨ax, A5, H⟩ := H
 (try dsimp only at H)
 have H' := Za H
 clear H
 try go_wp2_with (first | ((with_reducible refine Zk (f := 44) rfl ?_); refine gL 15 Tryz.func44 #[.agg #[.int .i64 am0, .slice az au.length aA]] ?_; (with_reducible refine (fw.calls k am0 _ _ au ao _ (Ze aX.out HB.out) aY.out A4.out).mono ?_); rintro e ed ⟨b7, rfl, bS, hb⟩; refine ⟨_, rfl, ?_⟩; have aq := Za (Zu bS (Zm HB.out)); replace ac := bB ac hb; replace ae := bB ae hb; replace HB := sB HB hb; (try clear hb); (try clear bS)))
 replace aq := rD aq
 replace ac := bD ac
 replace ae := bD ae
 replace HB := Za (ZL HB.out)
 refine start_ (n := 8) (S := fun w' => w'.cell? ⟨ap, 0, none⟩ = some (.int .i64 am0) ∧ w'.cell? ⟨ap, 1, none⟩ = some (.slice az au.length aA)) (ds := []) #[F,F,F,F,F,F,F,F] (by kernel_rfl) rfl rfl ⟨(Zb ac.out 0).trans rfl, (Zb ac.out 1).trans rfl⟩ (fun hHeld => ?_); refine with_tabW fe.tab4 fe.bits4 (fun HT_ HW_ => ?_)
 (try clear bl bm bn bo)
 generalize ed.drew = eu at aq ac ae HB hHeld ⊢
 refine pU 0 HT_ ?_
 refine pU 2 HT_ ?_
 refine tK 1 HT_ HW_ hHeld (hy := by rintro w' ⟨s0, s1⟩; go_simp; with_reducible rfl) ?_
 refine tK 3 HT_ HW_ hHeld (hy := by rintro w' ⟨s0, s1⟩; go_simp; with_reducible rfl) ?_
 refine join_ (σ := ZV × Nat) 1 #[T,T,T,T,T,T,T,F] (fun s_ => [(20, s_.1), (5, .pointer (some ⟨s_.2, 0, none⟩)), (21, .agg #[.int .i64 am0, s_.1])]) (fun s_ w' => (w'.cell? ⟨ap, 0, none⟩ = some (.int .i64 am0) ∧ w'.cell? ⟨ap, 1, none⟩ = some (.slice az au.length aA)) ∧ (Kd.R ZN 4 w' w.heap.size (fun _ => True) b7 ao) ∧ (Kd.R (Zl .i64) 3 w' w.heap.size (fun _ => True) s_.1 ax) ∧ (w'.heap[ap]? = some (.cells #[.int .i64 am0, .slice az au.length aA] 24 (0, 0))) ∧ (w'.heap[av]? = some (.cells #[.int .i64 0, .slice none 0 0] 24 (0, 0))) ∧ (w'.heap[s_.2]? = some (.cells #[.int .i64 0, .slice none 0 0] 24 (0, 0))) ∧ (w.heap.size ≤ s_.2) ∧ (w.heap.size ≤ s_.2) ∧ (ap ≠ s_.2) ∧ (s_.2 ≠ ap) ∧ (av ≠ s_.2) ∧ (s_.2 ≠ av) ∧ (Zy w.heap.size w w')) ?_ ?_
 rotate_left
 ·intro hCont
  refine two_ (i := 4) (j := 6) (Ni := some 20) (Nj := some 5) #[T,T,T,T,T,F,F,F] #[T,T,T,T,F,F,T,F] rfl rfl rfl rfl (two_of HT_.out (by kernel_rfl)) (by decide) (by decide) (fun K hK => ?_) (fun K hK => ?_)
  ·skip
   refine gE Tryz.func49 #[.slice az au.length aA] ?_
   with_reducible refine (fN.calls _ _ au ax _ (Ze aX.out HB.out) aY.out A5.out).mono ?_
   rintro e ee ⟨b8, rfl, bS, hb⟩
   refine ⟨_, rfl, ?_⟩
   have aC := Za (Zu bS (Zm HB.out))
   replace aq := rB aq hb
   replace ac := bB ac hb
   replace ae := bB ae hb
   replace HB := sB HB hb
   (try clear hb)
   (try clear hb2)
   (try clear hk)
   (try clear hi)
   (try clear bS)
   obtain ⟨db, dc, cp⟩ := Zn aC.out
   (first | subst cp | (injection cp with f1_ f2_ f3_; have f4_ := f1_.symm; have f5_ := f3_.symm; clear f1_ f2_ f3_; subst f4_; subst f5_))
   refine hK.out _ _ ⟨(Zb ac.out 0).trans rfl, (Zb ac.out 1).trans rfl⟩ (fun hHeld => ?_)
   clear hK K
   refine nM ?_
   refine pU 5 HT_ ?_
   refine oN 6 HT_ (fun K hK => ?_)
   refine box_step ?hg (N := 5) ?hd (cs := #[.int .i64 0, .slice none 0 0]) (t := 24) ?hr ?_; (case hd => rfl); (case hg => rfl); (case hr => first | (go_simp; done) | (go_simp; rfl))
   intro aj hg ey hbox hb
   have af := Za (hbox)
   have aZ := gS hg HB
   have a6 := gS hg HB
   have ag := nL hg (Zr ac.out)
   have ak := nG hg (Zr ac.out)
   have ai := nL hg (Zr ae.out)
   have al := nG hg (Zr ae.out)
   replace aq := rB aq hb
   replace aC := rB aC hb
   replace ac := bB ac hb
   replace ae := bB ae hb
   replace HB := sB HB hb
   clear hb hg
   refine hK.out _ _ ⟨(Zb ac.out 0).trans rfl, (Zb ac.out 1).trans rfl⟩ (fun hHeld => ?_)
   clear hK K
   refine nM ?_
   exact norm_ (by simp only [putAll, ZW, sA, sZ, sS]) (hCont (.slice db ax.length dc, aj) _ ⟨hHeld, aq.out, aC.out, ac.out, ae.out, af.out, aZ.out, a6.out, ag.out, ak.out, ai.out, al.out, HB.out⟩)
  skip
  refine box_step ?hg (N := 5) ?hd (cs := #[.int .i64 0, .slice none 0 0]) (t := 24) ?hr ?_; (case hd => rfl); (case hg => rfl); (case hr => first | (go_simp; done) | (go_simp; rfl))
  intro aj hg ee hbox hb
  have af := Za (hbox)
  have aZ := gS hg HB
  have a6 := gS hg HB
  have ag := nL hg (Zr ac.out)
  have ak := nG hg (Zr ac.out)
  have ai := nL hg (Zr ae.out)
  have al := nG hg (Zr ae.out)
  replace aq := rB aq hb
  replace ac := bB ac hb
  replace ae := bB ae hb
  replace HB := sB HB hb
  clear hb hg
  refine hK.out _ _ ⟨(Zb ac.out 0).trans rfl, (Zb ac.out 1).trans rfl⟩ (fun hHeld => ?_)
  clear hK K
  refine nM ?_
  refine oN 4 HT_ (fun K hK => ?_)
  refine gE Tryz.func49 #[.slice az au.length aA] ?_
  with_reducible refine (fN.calls _ _ au ax _ (Ze aX.out HB.out) aY.out A5.out).mono ?_
  rintro e ez ⟨b8, rfl, bS, hb⟩
  refine ⟨_, rfl, ?_⟩
  have aC := Za (Zu bS (Zm HB.out))
  replace aq := rB aq hb
  replace ac := bB ac hb
  replace ae := bB ae hb
  replace af := bB af hb
  replace HB := sB HB hb
  (try clear hb)
  (try clear hb2)
  (try clear hk)
  (try clear hi)
  (try clear bS)
  obtain ⟨de, dg, cq⟩ := Zn aC.out
  (first | subst cq | (injection cq with f1_ f2_ f3_; have f4_ := f1_.symm; have f5_ := f3_.symm; clear f1_ f2_ f3_; subst f4_; subst f5_))
  refine hK.out _ _ ⟨(Zb ac.out 0).trans rfl, (Zb ac.out 1).trans rfl⟩ (fun hHeld => ?_)
  clear hK K
  refine nM ?_
  refine pU 5 HT_ ?_
  exact norm_ (by simp only [putAll, ZW, sA, sZ, sS]) (hCont (.slice de ax.length dg, aj) _ ⟨hHeld, aq.out, aC.out, ac.out, ae.out, af.out, aZ.out, a6.out, ag.out, ak.out, ai.out, al.out, HB.out⟩)
 rintro ⟨b8, aj⟩ bj ⟨hS_, h0_, h1_, h2_, h3_, h4_, h5_, h6_, h7_, h8_, h9_, h10_, h11_⟩
 have n0_ : Zc (Kd.R ZN 4 bj w.heap.size (fun _ => True) b7 ao) := ⟨h0_⟩
 have n1_ : Zc (Kd.R (Zl .i64) 3 bj w.heap.size (fun _ => True) b8 ax) := ⟨h1_⟩
 have n2_ : Zc (bj.heap[ap]? = some (.cells #[.int .i64 am0, .slice az au.length aA] 24 (0, 0))) := ⟨h2_⟩
 have n3_ : Zc (bj.heap[av]? = some (.cells #[.int .i64 0, .slice none 0 0] 24 (0, 0))) := ⟨h3_⟩
 have n4_ : Zc (bj.heap[aj]? = some (.cells #[.int .i64 0, .slice none 0 0] 24 (0, 0))) := ⟨h4_⟩
 have n5_ : Zc (w.heap.size ≤ aj) := ⟨h5_⟩
 have n6_ : Zc (w.heap.size ≤ aj) := ⟨h6_⟩
 have n7_ : Zc (ap ≠ aj) := ⟨h7_⟩
 have n8_ : Zc (aj ≠ ap) := ⟨h8_⟩
 have n9_ : Zc (av ≠ aj) := ⟨h9_⟩
 have n10_ : Zc (aj ≠ av) := ⟨h10_⟩
 have n11_ : Zc (Zy w.heap.size w bj) := ⟨h11_⟩
 clear aq
 clear ac
 clear ae
 clear HB
 clear h0_ h1_ h2_ h3_ h4_ h5_ h6_ h7_ h8_ h9_ h10_ h11_
 have aq := n0_
 have aC := n1_
 have ac := n2_
 have ae := n3_
 have af := n4_
 have aZ := n5_
 have a6 := n6_
 have ag := n7_
 have ak := n8_
 have ai := n9_
 have al := n10_
 have HB := n11_
 clear n0_ n1_ n2_ n3_ n4_ n5_ n6_ n7_ n8_ n9_ n10_ n11_
 have hHeld : bj.cell? ⟨ap, 0, none⟩ = some (.int .i64 am0) ∧ bj.cell? ⟨ap, 1, none⟩ = some (.slice az au.length aA) := hS_
 obtain ⟨b9, ca, cr⟩ := Zn aC.out
 (first | subst cr | (injection cr with f1_ f2_ f3_; have f4_ := f1_.symm; have f5_ := f3_.symm; clear f1_ f2_ f3_; subst f4_; subst f5_))
 refine norm_ (a' := ?_) ?_ ?_
 rotate_left
 ·simp only [putAll, ZW, sA, sZ, sS]
  rfl
 refine oN 7 HT_ (fun K hK => ?_)
 have hs19 : bj.cell? ⟨aj, 0, none⟩ = some (.int .i64 0) := (Zb af.out 0).trans rfl
 have dC := ZD af.out 0
 have cO := ag.out
 have cP := ai.out
 have cQ := ak.out
 have cR := al.out
 have hs20 : bj.cell? ⟨aj, 1, none⟩ = some (.slice none 0 0) := (Zb af.out 1).trans rfl
 have dD := ZD af.out 1
 have cS := ag.out
 have cT := ai.out
 have cU := ak.out
 have cV := al.out
 refine skip_ (w1 := ?_) (by rfl) rfl ?_ ?_
 rotate_left
 ·go_simp
  rfl
 refine hK.out _ _ ⟨((cell_far (p := ⟨aj, _, none⟩) ag.out _).trans (((cell_far (p := ⟨aj, _, none⟩) ag.out _).trans (hHeld.1)))), ((cell_far (p := ⟨aj, _, none⟩) ag.out _).trans (((cell_far (p := ⟨aj, _, none⟩) ag.out _).trans (hHeld.2))))⟩ (fun hHeld => ?_)
 clear hK K
 refine done_ (done_of HT_.out (by kernel_rfl)) ?_
 have dE := ak.out
 have dF := ag.out
 have dG := al.out
 have dH := ai.out
 obtain ⟨aJ, aK, aM, aN⟩ := zZ af
 try go_wp2
 go_loopg [25] k (fun kq ef w' => ∃ (ah : Int) (aa : List Int) (u111001 : ZV), ef = .int .i64 ah ∧ Zc (fe.l0 kq ao (ax.length : Int) ah am0 aa = some (r1, r2, r3)) ∧ Zc (kq ≤ k) ∧ Zc (Kd.R ZN 4 w' w.heap.size (fun _ => True) b7 ao) ∧ Zc (Kd.R (Zl .i64) 3 w' w.heap.size (fun _ => True) u111001 aa) ∧ Zc (w'.heap[ap]? = some (.cells #[.int .i64 am0, (.slice az au.length aA)] 24 (0, 0))) ∧ Zc (w'.heap[av]? = some (.cells #[.int .i64 0, (.slice none 0 0)] 24 (0, 0))) ∧ Zc (w'.heap[aj]? = some (.cells #[.int .i64 am0, u111001] 24 (0, 0))) ∧ Zc (Zy w.heap.size w w'))
 case atStart => exact ⟨(0), (ax), (.slice b9 ax.length ca), gR, H', ⟨Zs _⟩, ⟨by exact ZG (ZA (p := ⟨aj, 1, none⟩) (ZA (p := ⟨aj, 0, none⟩) (ZH aq.out af.out (by decide)) (fun _ hk => hk.2) (.int .i64 am0)) (fun _ hk => hk.2) (.slice b9 ax.length ca)) (fun _ hk => trivial)⟩, ⟨by exact ZG (ZA (p := ⟨aj, 1, none⟩) (ZA (p := ⟨aj, 0, none⟩) (ZH aC.out af.out (by decide)) (fun _ hk => hk.2) (.int .i64 am0)) (fun _ hk => hk.2) (.slice b9 ax.length ca)) (fun _ hk => trivial)⟩, ⟨by refine Zw ?_ ag.out _; refine Zw ?_ ag.out _; exact ac.out⟩, ⟨by refine Zw ?_ ai.out _; refine Zw ?_ ai.out _; exact ae.out⟩, ⟨by refine Zt (cs := #[.int .i64 am0, .slice none 0 0]) ?_ 1 _ rfl; refine Zt (cs := #[.int .i64 0, .slice none 0 0]) ?_ 0 _ rfl; exact af.out⟩, ⟨wB⟩⟩
 case round =>
  clear H'
  (try clear c1); (try clear c2); (try clear p2); (try clear c3); (try clear c4); (try clear c8); (try clear dI); (try clear dJ); (try clear dK); (try clear aJ); (try clear aK); (try clear aM); (try clear aN)
  obtain ⟨ah, aa, u111001, rfl, HA, HK1, ay, ab, ac, ae, af, HB⟩ := hrel
  cases gk with
  | zero => exact absurd HA.out (by simp [fe.l0])
  | succ k1 =>
   have H := HA.out
   clear HA
   simp only [fe.l0] at H
   by_cases bT : ah < (ax.length : Int)
   rotate_left
   ·rw [if_neg bT] at H
    have bg : decide (ah < (ax.length : Int)) = false := decide_eq_false bT
    clear bT
    simp only [Zi, Zo] at H
    obtain ⟨rfl, rfl, rfl⟩ := H
    have dL := ak.out
    have dM := ag.out
    have dN := al.out
    have dO := ai.out
    obtain ⟨bv, bw, bx, bz⟩ := zZ af
    have dP := aI.out
    have dQ := aH.out
    obtain ⟨bA, bC, bE, bF⟩ := zZ ae
    obtain ⟨ct, cu, dh⟩ := Zn ab.out
    subst dh
    go_wp2
    refine ZE (ZQ rfl _ _ av 24 #[.int .i64 am0, .slice ct aa.length cu] (0, 0) _ rfl (by (with_reducible repeat (first | refine kN ?_ _ | refine kD ?_ | refine kA ?_ _)); refine Zt (cs := #[.int .i64 am0, .slice none 0 0]) ?_ 1 _ rfl; (with_reducible repeat (first | refine kN ?_ _ | refine kD ?_ | refine kA ?_ _)); refine Zt (cs := #[.int .i64 0, .slice none 0 0]) ?_ 0 _ rfl; (with_reducible repeat (first | refine kN ?_ _ | refine kD ?_ | refine kA ?_ _)); exact ae.out) Tryz.underlying24 rfl (by kernel_rfl)) rfl ?_
    exact ⟨_, fR, by (with_reducible repeat (first | apply qA | apply qN | apply qD)); exact ZG (ZA (p := ⟨av, 1, none⟩) (ZA (p := ⟨av, 0, none⟩) (ZH ab.out ae.out (by decide)) (fun _ hk => hk.2) (.int .i64 am0)) (fun _ hk => hk.2) (.slice ct aa.length cu)) (fun _ hk => trivial), wB⟩
   rw [if_pos bT] at H
   have bg := decide_eq_true bT
   clear bT
   by_cases ck : 0 ≤ ah
   rotate_left
   ·rw [if_neg ck] at H
    exact absurd H (by simp)
   rw [if_pos ck] at H
   have bU := decide_eq_true ck
   clear ck
   by_cases cl : ah < (aa.length : Int)
   rotate_left
   ·rw [if_neg cl] at H
    exact absurd H (by simp)
   rw [if_pos cl] at H
   have bV := decide_eq_true cl
   clear cl
   have H' := Za H
   clear H
   have dT := ak.out
   have dU := ag.out
   have dV := al.out
   have dW := ai.out
   obtain ⟨a7, a8, bb, bc⟩ := zZ af
   obtain ⟨eh, aD, di⟩ := Zn ab.out
   subst di
   have bh : 0 ≤ (ah : Int) := oD
   have bi : ah < (aa.length : Int) := oD
   obtain ⟨aE, dj, aQ⟩ := ZO (Zg ab.out).2.2 ah bh bi
   cases dj
   replace bh := eq_true bh
   replace bi := eq_true bi
   obtain ⟨cv, bG, dl⟩ := Zn ay.out
   subst dl
   go_wp2
   go_loopg [7, 35] k1 (fun kq v7 ej w' => ∃ (aG : Int) (an0 : Int), v7 = .int .i64 aG ∧ ej = .int .i64 an0 ∧ Zc (fe.l1 kq ao ah aG (ax.length : Int) ah ao (ao.length : Int) an0 am0 aa = some (r1, r2, r3)) ∧ Zc (kq ≤ k1) ∧ Zc (Kd.R ZN 4 w' w.heap.size (fun _ => True) (.slice cv ao.length bG) ao) ∧ Zc (Kd.R ZN 4 w' w.heap.size (fun _ => True) (.slice cv ao.length bG) ao) ∧ Zc (Kd.R (Zl .i64) 3 w' w.heap.size (fun _ => True) (.slice (some aE) aa.length aD) aa) ∧ Zc (w'.heap[ap]? = some (.cells #[.int .i64 am0, (.slice az au.length aA)] 24 (0, 0))) ∧ Zc (w'.heap[av]? = some (.cells #[.int .i64 0, (.slice none 0 0)] 24 (0, 0))) ∧ Zc (w'.heap[aj]? = some (.cells #[.int .i64 am0, (.slice (some aE) aa.length aD)] 24 (0, 0))) ∧ Zc (Zy w.heap.size w w'))
   case atStart => exact ⟨(rd aa ah), (0), gR, gR, H', ⟨Zs _⟩, ⟨by exact ay.out⟩, ⟨by exact ay.out⟩, ⟨by exact ab.out⟩, ⟨by exact ac.out⟩, ⟨by exact ae.out⟩, ⟨by exact af.out⟩, ⟨wB⟩⟩
   case round =>
    clear H'
    (try clear c1); (try clear p1); (try clear q1); (try clear ek); (try clear c2); (try clear p2); (try clear c3); (try clear c4); (try clear c8); (try clear dX); (try clear dY); (try clear dm); (try clear dI); (try clear dJ); (try clear dK); (try clear bT); (try clear bg); (try clear ck); (try clear bU); (try clear cl); (try clear bV); (try clear el); (try clear en); (try clear aJ); (try clear aK); (try clear a7); (try clear a8); (try clear aM); (try clear aN); (try clear bb); (try clear bc); (try clear aQ); (try clear bh); (try clear p2); (try clear bi)
    obtain ⟨aG, an0, rfl, rfl, HA, HK2, ay, aw, ab, ac, ae, af, HB⟩ := hrel
    cases gk with
    | zero => exact absurd HA.out (by simp [fe.l1])
    | succ k2 =>
     have H := HA.out
     clear HA
     simp only [fe.l1] at H
     by_cases cb : an0 < (ao.length : Int)
     rotate_left
     ·rw [if_neg cb] at H
      have bW : decide (an0 < (ao.length : Int)) = false := decide_eq_false cb
      clear cb
      by_cases cW : 0 ≤ ah
      rotate_left
      ·rw [if_neg cW] at H
       exact absurd H (by simp)
      rw [if_pos cW] at H
      have dZ := decide_eq_true cW
      clear cW
      by_cases cX : ah < (aa.length : Int)
      rotate_left
      ·rw [if_neg cX] at H
       exact absurd H (by simp)
      rw [if_pos cX] at H
      have d3 := decide_eq_true cX
      clear cX
      obtain ⟨cd, aU⟩ : ∃ y_ : List Int, y_ = (aa.set (ah : Int).toNat (Zf ((rd aa ah) - aG))) := ⟨_, rfl⟩
      replace H : (fe.l0 k2 ao (ax.length : Int) (Zf (ah + 1)) am0 cd) = some (r1, r2, r3) := by first | (rw [aU]; with_reducible exact H) | (have H2_ := (Zd _ _).symm.trans H; rw [aU]; with_reducible exact H2_) | (have H2_ := (Zd _ _).symm.trans H; with_reducible exact H2_) | with_reducible exact H | (rw [aU]; exact H) | exact H
      have cw := Za aU
      clear aU
      have H' := Za H
      clear H
      have d4 := ak.out
      have d5 := ag.out
      have d6 := al.out
      have d7 := ai.out
      obtain ⟨bq, br, bt, bu⟩ := zZ af
      have ce : 0 ≤ (ah : Int) := oD
      have cg : ah < (aa.length : Int) := oD
      obtain ⟨cy, dn, bH⟩ := ZO (Zg ab.out).2.2 ah ce cg
      obtain rfl : aE = cy := (by injection dn)
      replace ce := eq_true ce
      replace cg := eq_true cg
      have dp : 0 ≤ (ah : Int) := oD
      have dq : (ah : Int) < ((aa.length : Int) : Int) := oD
      obtain ⟨aW, ep, cz, cA, gl47, cl47, HG47⟩ := Kd.R_form ab.out (by omega)
      (first | cases cz | (injection cz with ea_ en_ ec_; (first | subst ea_ | (injection ea_ with ea_; subst ea_)); subst ec_; clear en_))
      have GB47 := Za cA
      have GG47 := Za HG47
      clear cA gl47 HG47
      (first | simp only [add_plain] at aQ | skip)
      (first | simp only [add_plain] at bH | skip)
      obtain ⟨dr, dt⟩ := Kd.R_celln 0 ab.out (ah : Int) dp dq
      replace dp := eq_true dp
      replace dq := eq_true dq
      have ch := Kd.R_putg ab.out (ah : Int) (Zf ((rd aa ah) - aG))
      go_wp2_with (first | ((with_reducible refine gate_store (t := 3) (p := 64) rfl ?_); refine sE (t := 3) (p := 64) (w1 := (wr.setCell ⟨aW, (ah : Int).toNat, none⟩ (.int .i64 (Zf ((rd aa ah) - aG))))) ?_; intro du hw; have hg : wr.grownBy du (some aW) := (by rw [hw]; exact ch.2); have hp_ : Kd.R (Zl .i64) 3 du w.heap.size (fun _ => True) (.slice (some ⟨aW, 0, none⟩) aa.length aD) cd := (by rw [hw, cw.out]; exact ch.1); clear ch; replace ay := Za (Kd.R_over' (v := (.slice (some ⟨aW, 0, none⟩) aa.length aD)) (rQ ay) (Kd.R_typed ab.out) (by decide) hg); replace aw := Za (Kd.R_over' (v := (.slice (some ⟨aW, 0, none⟩) aa.length aD)) (rQ aw) (Kd.R_typed ab.out) (by decide) hg); replace ac := Za (Zv (g := ap) (o := .cells #[.int .i64 am0, .slice az au.length aA] 24 (0, 0)) (bQ ac) hg (ZB ab.out ac.out (by decide))); replace ae := Za (Zv (g := av) (o := .cells #[.int .i64 0, .slice none 0 0] 24 (0, 0)) (bQ ae) hg (ZB ab.out ae.out (by decide))); replace af := Za (Zv (g := aj) (o := .cells #[.int .i64 am0, .slice (some ⟨aW, 0, none⟩) aa.length aD] 24 (0, 0)) (bQ af) hg (ZB ab.out af.out (by decide))); replace ab := Za (hp_); replace HB := Za ((by rw [hw]; exact below_set (HB.out) GB47.out : Zy w.heap.size w du)); clear hg hw hp_))
      go_roundg k2
      case measure => have := HK1.out; have := HK2.out; omega
      case rel => exact ⟨(Zf (ah + 1)), (cd), (.slice (some ⟨aW, 0, none⟩) aa.length aD), gR, H', ⟨by have := HK1.out; have := HK2.out; omega⟩, ⟨rQ ay⟩, ⟨rQ ab⟩, ⟨bQ ac⟩, ⟨bQ ae⟩, ⟨bQ af⟩, ⟨wB⟩⟩
     rw [if_pos cb] at H
     have bW := decide_eq_true cb
     clear cb
     by_cases cB : 0 ≤ an0
     rotate_left
     ·rw [if_neg cB] at H
      exact absurd H (by simp)
     rw [if_pos cB] at H
     have cD := decide_eq_true cB
     clear cB
     by_cases cE : an0 < (ao.length : Int)
     rotate_left
     ·rw [if_neg cE] at H
      exact absurd H (by simp)
     rw [if_pos cE] at H
     have cF := decide_eq_true cE
     clear cE
     have bI := Za H
     clear H
     have bJ : 0 ≤ (an0 : Int) := oD
     have bK : an0 < (ao.length : Int) := oD
     obtain ⟨bX, dv, bL⟩ := Zx (Zg aw.out).2.2 an0 bJ bK
     cases dv
     replace bJ := eq_true bJ
     replace bK := eq_true bK
     go_upto_region 12 with (fail)
     obtain ⟨dw, bf⟩ : ∃ b_ : Bool, b_ = (rdOf false ao an0) := ⟨_, rfl⟩
     rw [← bf] at bI
     (try rw [← bf])
     have d8 := Za bf
     clear bf
     go_cut [47] (fun eq wc => ∃ (kq : Nat) (aT : Bool), eq = .bool aT ∧ Zc (fe.j2 kq ao ah aG an0 (ax.length : Int) ah ao (ao.length : Int) an0 aT am0 aa = some (r1, r2, r3)) ∧ Zc (kq ≤ k2) ∧ Zc (Kd.R ZN 4 wc w.heap.size (fun _ => True) (.slice (some bX) ao.length bG) ao) ∧ Zc (Kd.R ZN 4 wc w.heap.size (fun _ => True) (.slice (some bX) ao.length bG) ao) ∧ Zc (Kd.R (Zl .i64) 3 wc w.heap.size (fun _ => True) (.slice (some aE) aa.length aD) aa) ∧ Zc (wc.heap[ap]? = some (.cells #[.int .i64 am0, (.slice az au.length aA)] 24 (0, 0))) ∧ Zc (wc.heap[av]? = some (.cells #[.int .i64 0, (.slice none 0 0)] 24 (0, 0))) ∧ Zc (wc.heap[aj]? = some (.cells #[.int .i64 am0, (.slice (some aE) aa.length aD)] 24 (0, 0))) ∧ Zc (Zy w.heap.size w wc))
     case first =>
      have H := bI.out
      clear bI
      by_cases cG : dw = true
      rotate_left
      ·replace cG := Bool.eq_false_iff.mpr cG
       subst cG
       replace H := iF H
       have H' := Za H
       clear H
       go_wp2
       go_meet
       case rel => exact ⟨_, (false), gR, H', ⟨by have := HK1.out; have := HK2.out; first | omega | exact Zs _⟩, ⟨by exact ay.out⟩, ⟨by exact aw.out⟩, ⟨by exact ab.out⟩, ⟨by exact ac.out⟩, ⟨by exact ae.out⟩, ⟨by exact af.out⟩, ⟨wB⟩⟩
      subst cG
      replace H := iT H
      by_cases cm : 0 ≤ ah
      rotate_left
      ·rw [if_neg cm] at H
       exact absurd H (by simp)
      rw [if_pos cm] at H
      have cH := eq_true cm
      have cI := decide_eq_true cm
      clear cm
      obtain ⟨bM, aV⟩ : ∃ j_ : Int, (shr .i64 an0 ah) = j_ := ⟨_, rfl⟩
      replace H : (fe.j2 k2 ao ah aG an0 (ax.length : Int) ah ao (ao.length : Int) an0 ((Int.tmod (bM) 2) == 1) am0 aa) = some (r1, r2, r3) := by first | (rw [aV] at H; exact H) | (simp only [aV] at H ⊢; exact H)
      have hji39_ : (an0 / 2 ^ min ah.toNat 64) = bM := aV
      have hji39z : ah ≤ 64 → (an0 / 2 ^ ah.toNat) = bM := shr_small aV
      have H' := Za H
      clear H
      go_wp2
      go_meet
      case rel => exact ⟨_, (((Int.tmod (bM) 2) == 1)), (by first | rfl | (simp; done) | (simp only [← aV] <;> (first | rfl | simp)) | (simp [*]; done)), H', ⟨by have := HK1.out; have := HK2.out; first | omega | exact Zs _⟩, ⟨by exact ay.out⟩, ⟨by exact aw.out⟩, ⟨by exact ab.out⟩, ⟨by exact ac.out⟩, ⟨by exact ae.out⟩, ⟨by exact af.out⟩, ⟨wB⟩⟩
     case rest =>
      clear bI
      (try clear c1); (try clear p1); (try clear q1); (try clear ek); (try clear c2); (try clear p2); (try clear c3); (try clear q3); (try clear c4); (try clear c8); (try clear dX); (try clear dY); (try clear dm); (try clear dI); (try clear dJ); (try clear dK); (try clear bT); (try clear bg); (try clear ck); (try clear bU); (try clear cl); (try clear bV); (try clear el); (try clear en); (try clear cb); (try clear bW); (try clear cB); (try clear cD); (try clear cE); (try clear cF); (try clear eA); (try clear cG); (try clear cm); (try clear cH); (try clear cI); (try clear aJ); (try clear aK); (try clear a7); (try clear a8); (try clear aM); (try clear aN); (try clear bb); (try clear bc); (try clear aQ); (try clear bL); (try clear p1); (try clear dX); (try clear bh); (try clear bJ); (try clear p2); (try clear q1); (try clear dY); (try clear bi); (try clear bK)
      obtain ⟨kq, aT, rfl, HA, bN, ay, aw, ab, ac, ae, af, HB⟩ := hcut
      cases kq with
      | zero => exact absurd HA.out (by simp [fe.j2])
      | succ ci =>
       have H := HA.out
       clear HA
       simp only [fe.j2] at H
       by_cases cY : aT = true
       rotate_left
       ·replace cY := Bool.eq_false_iff.mpr cY
        subst cY
        replace H := iF H
        have H' := Za H
        clear H
        go_wp2
        go_roundg ci
        case measure => have := HK1.out; have := HK2.out; have := bN.out; omega
        case rel => exact ⟨(aG), (Zf (an0 + 1)), gR, gR, H', ⟨by have := HK1.out; have := HK2.out; have := bN.out; omega⟩, ⟨rQ ay⟩, ⟨rQ aw⟩, ⟨rQ ab⟩, ⟨bQ ac⟩, ⟨bQ ae⟩, ⟨bQ af⟩, ⟨wB⟩⟩
       subst cY
       replace H := iT H
       replace H := oA H
       obtain ⟨cj, er, H⟩ := H
       (try dsimp only at H)
       replace H := oA H
       obtain ⟨cJ, es, H⟩ := H
       (try dsimp only at H)
       have H' := Za H
       clear H
       try go_wp2
       replace ay := rD ay
       replace aw := rD aw
       replace ab := rD ab
       replace ac := bD ac
       replace ae := bD ae
       replace af := bD af
       replace HB := Za (ZL HB.out)
       refine start_ (n := 9) (S := fun w' => w'.cell? ⟨aj, 0, none⟩ = some (.int .i64 am0) ∧ w'.cell? ⟨aj, 1, none⟩ = some (.slice (some aE) aa.length aD)) (ds := []) #[F,F,F,F,F,F,F,F,F] (by kernel_rfl) rfl rfl ⟨(Zb af.out 0).trans rfl, (Zb af.out 1).trans rfl⟩ (fun hHeld => ?_); refine with_tabW fe.tab13 fe.bits13 (fun HT_ HW_ => ?_)
       generalize wc.drew = eB at ay aw ab ac ae af HB hHeld ⊢
       refine pU 0 HT_ ?_
       refine pU 2 HT_ ?_
       refine pU 4 HT_ ?_
       refine tK 1 HT_ HW_ hHeld (hy := by rintro w' ⟨s0, s1⟩; go_simp; with_reducible rfl) ?_
       refine tK 5 HT_ HW_ hHeld (hy := by rintro w' ⟨s0, s1⟩; go_simp; with_reducible rfl) ?_
       refine oN 3 HT_ (fun K hK => ?_)
       refine gE Tryz.func53 #[.agg #[.int .i64 am0, .slice (some aE) aa.length aD], .int .i64 an0] ?_
       with_reducible refine (fx.calls ci am0 _ _ aa an0 cj _ ?side1 ?side2 er.out).mono ?_
       (case side1 => have hx_ := (Zg ab.out).2.2; exact cC)
       (case side2 => exact (Zg ab.out).2.1)
       rintro e eC ⟨rfl, hb⟩
       refine ⟨_, rfl, ?_⟩
       replace ay := rB ay hb
       replace aw := rB aw hb
       replace ab := rB ab hb
       replace ac := bB ac hb
       replace ae := bB ae hb
       replace af := bB af hb
       replace HB := sB HB hb
       (try clear hb)
       (try clear hb2)
       (try clear hk)
       (try clear hi)
       refine hK.out _ _ ⟨(Zb af.out 0).trans rfl, (Zb af.out 1).trans rfl⟩ (fun hHeld => ?_)
       clear hK K
       refine nM ?_
       refine pU 6 HT_ ?_
       refine oN 7 HT_ (fun K hK => ?_)
       refine gE Tryz.func52 #[.int .i64 aG, .int .i64 (Zf (cj - am0))] ?_
       with_reducible refine (ga.calls aG (Zf (cj - am0)) cJ _ es.out).mono ?_
       rintro e w' ⟨rfl, ⟨nd, rfl⟩⟩
       refine ⟨_, rfl, ?_⟩
       refine hK.out _ _ ⟨(Zb af.out 0).trans rfl, (Zb af.out 1).trans rfl⟩ (fun hHeld => ?_)
       clear hK K
       refine nM ?_
       refine pU 8 HT_ ?_
       refine done_ (done_of HT_.out (by kernel_rfl)) ?_
       try go_wp2
       go_roundg ci
       case measure => have := HK1.out; have := HK2.out; have := bN.out; omega
       case rel => exact ⟨(cJ), (Zf (an0 + 1)), gR, gR, H', ⟨by have := HK1.out; have := HK2.out; have := bN.out; omega⟩, ⟨rQ ay⟩, ⟨rQ aw⟩, ⟨rQ ab⟩, ⟨bQ ac⟩, ⟨bQ ae⟩, ⟨bQ af⟩, ⟨wB⟩⟩
def fL.f (k : Nat) (aa : Int) (ae : List Int) : Option (Int × Int × Bool) := (fd.f k aa ae).bind fun af => (if af = true then ((fF.f k aa ae).bind fun ab => ((fv.f k ab.1 ab.2 ae).bind fun ac => (some (Zf (ac.1 - aa), Zf (aa - ac.2), true)))) else (some (0, 0, false)))
def fL.T3 : Bool × List (List Nat × List Nat) := (true, [([], []), ([0], [0]), ([], []), ([2], [2]), ([1, 3, 1], [1, 3]), ([4], [4]), ([5], [5]), ([5], [5]), ([6, 4, 0, 1, 2, 3, 4, 5, 6], [6]), ([7, 8, 0, 1, 2, 3, 4, 5, 6, 7, 8], [7])])
def fL.B3 : List Nat := [0, 1, 0, 4, 15, 31, 63, 63, 127, 511]
theorem fL.tab3 : rtab .any (opsOf Tryz.f13 3) = fL.T3 := by kernel_rfl
theorem fL.bits3 : waitsOk fL.T3.2 fL.B3 = true := by kernel_rfl
def fL.T4 : Bool × List (List Nat × List Nat) := (true, [([], []), ([], []), ([1], [1]), ([0, 2], [0, 2]), ([], []), ([4], [4]), ([], []), ([5, 6], [5, 6]), ([3, 0, 1, 2, 3], [3]), ([7, 8, 0, 1, 2, 3, 4, 5, 6, 7, 8], [7]), ([9, 0, 1, 2, 3, 4, 5, 6, 7, 8, 9], [])])
def fL.B4 : List Nat := [0, 0, 2, 7, 0, 16, 0, 112, 15, 511, 1023]
theorem fL.tab4 : rtab .any (opsOf Tryz.f13 4) = fL.T4 := by kernel_rfl
theorem fL.bits4 : waitsOk fL.T4.2 fL.B4 = true := by kernel_rfl
theorem fL.calls (k : Nat) (ae : Int) (af : Option Addr) (ag : Nat) (ab : List Int) (r1 : Int) (r2 : Int) (r3 : Bool) (w : ZF) (ak : Kd.C (Zl .i64) w af ab.length ab) (al : ab.length ≤ ag) (h : fL.f k ae ab = some (r1, r2, r3)) :
  ZK Tryz.prog 13 #[.agg #[.int .i64 ae, .slice af ab.length ag]] w fun e w' => e = .returned (.tuple #[.int .i64 r1, .int .i64 r2, .bool r3]) ∧ Zy w.heap.size w w' := by
 have hu24 := Tryz.underlying24
 have ai := Za ak
 have aj := Za al
 clear ak al
 have HB := Za (Zq w.heap.size w)
 have H := h
 unfold fL.f at H
 clear h
 replace H := oA H
 obtain ⟨av, A2, H⟩ := H
 (try dsimp only at H)
 have aC := Za H
 clear H
 go_enter Tryz.func13, Tryz.ntmps13
 go_upto_if 9 with (first | ((with_reducible refine Zp (N := 1) rfl ?_); refine xE (N := 1) (cs := #[.int .i64 ae, .slice af ab.length ag]) (t := 24) ?_; intro ah hg w6 aa hb; have aD := gS hg HB; have aE := gS hg HB; replace HB := sB HB hb; clear hb hg; obtain ⟨am0, an0, ao, ap⟩ := zZ aa) | ((with_reducible refine Zk (f := 16) rfl ?_); refine gL 8 Tryz.func16 #[.agg #[.int .i64 ae, .slice af ab.length ag]] ?_; (with_reducible refine (fd.calls k ae _ _ ab av _ (Ze ai.out HB.out) aj.out A2.out).mono ?_); rintro e w8 ⟨rfl, hb⟩; refine ⟨_, rfl, ?_⟩; replace aa := bB aa hb; replace HB := sB HB hb; (try clear hb)))
 have H := aC.out
 clear aC
 by_cases c3 : av = true
 rotate_left
 ·replace c3 := Bool.eq_false_iff.mpr c3
  subst c3
  replace H := iF H
  simp only [Zi, Zo] at H
  obtain ⟨rfl, rfl, rfl⟩ := H
  go_wp2_with (fail)
  go_ret3
  exact ⟨fR, wB⟩
 subst c3
 replace H := iT H
 replace H := oB H
 obtain ⟨⟨aq, au⟩, aG, H⟩ := H
 (try dsimp only at H)
 have A4 := Za aG
 clear aG
 replace H := oB H
 obtain ⟨⟨ax, ay⟩, aH, H⟩ := H
 (try dsimp only at H)
 have A5 := Za aH
 clear aH
 simp only [Zi, Zo] at H
 obtain ⟨rfl, rfl, rfl⟩ := H
 try go_wp2_with (fail)
 replace aa := bD aa
 replace HB := Za (ZL HB.out)
 refine start_ (n := 10) (S := fun w' => w'.cell? ⟨ah, 0, none⟩ = some (.int .i64 ae) ∧ w'.cell? ⟨ah, 1, none⟩ = some (.slice af ab.length ag)) (ds := []) #[F,F,F,F,F,F,F,F,F,F] (by kernel_rfl) rfl rfl ⟨(Zb aa.out 0).trans rfl, (Zb aa.out 1).trans rfl⟩ (fun hHeld => ?_); refine with_tabW fL.tab3 fL.bits3 (fun HT_ HW_ => ?_)
 (try clear am0 an0 ao ap)
 generalize w8.drew = w9 at aa HB hHeld ⊢
 refine pU 2 HT_ ?_
 refine tK 0 HT_ HW_ hHeld (hy := by rintro w' ⟨s0, s1⟩; go_simp; with_reducible rfl) ?_
 refine tK 3 HT_ HW_ hHeld (hy := by rintro w' ⟨s0, s1⟩; go_simp; with_reducible rfl) ?_
 refine oN 1 HT_ (fun K hK => ?_)
 refine gE Tryz.func40 #[.agg #[.int .i64 ae, .slice af ab.length ag]] ?_
 with_reducible refine (fF.calls k ae _ _ ab aq au _ (Ze ai.out HB.out) aj.out A4.out).mono ?_
 rintro e aM ⟨aJ, rfl, aI, hb⟩
 refine ⟨_, rfl, ?_⟩
 have ac := Za (Zu aI (Zm HB.out))
 replace aa := bB aa hb
 replace HB := sB HB hb
 (try clear hb)
 (try clear hb2)
 (try clear hk)
 (try clear hi)
 (try clear aI)
 obtain ⟨az, aA, aw⟩ := Zn ac.out
 (first | subst aw | (injection aw with f1_ f2_ f3_; have f4_ := f1_.symm; have f5_ := f3_.symm; clear f1_ f2_ f3_; subst f4_; subst f5_))
 refine hK.out _ _ ⟨(Zb aa.out 0).trans rfl, (Zb aa.out 1).trans rfl⟩ (fun hHeld => ?_)
 clear hK K
 refine nM ?_
 refine oN 4 HT_ (fun K hK => ?_)
 refine gE Tryz.func41 #[.agg #[.int .i64 aq, .slice az au.length aA], .slice af ab.length ag] ?_
 with_reducible refine (fv.calls k aq _ _ au _ _ ab ax ay _ ?side1 ?side2 ?side3 ?side4 A5.out).mono ?_
 (case side1 => have hx_ := (Zg ac.out).2.2; exact cC)
 (case side2 => exact (Zg ac.out).2.1)
 (case side3 => have hx_ := (Ze ai.out HB.out); exact cC)
 (case side4 => exact aj.out)
 rintro e aK ⟨rfl, hb⟩
 refine ⟨_, rfl, ?_⟩
 replace ac := rB ac hb
 replace aa := bB aa hb
 replace HB := sB HB hb
 (try clear hb)
 (try clear hb2)
 (try clear hk)
 (try clear hi)
 refine hK.out _ _ ⟨(Zb aa.out 0).trans rfl, (Zb aa.out 1).trans rfl⟩ (fun hHeld => ?_)
 clear hK K
 refine nM ?_
 refine pU 5 HT_ ?_
 refine pU 6 HT_ ?_
 refine pU 7 HT_ ?_
 refine pU 8 HT_ ?_
 refine pU 9 HT_ ?_
 refine done_ (done_of HT_.out (by kernel_rfl)) ?_
 try go_wp2
 replace ac := rD ac
 replace aa := bD aa
 replace HB := Za (ZL HB.out)
 refine start_ (n := 11) (S := fun w' => w'.cell? ⟨ah, 0, none⟩ = some (.int .i64 ae) ∧ w'.cell? ⟨ah, 1, none⟩ = some (.slice af ab.length ag)) (ds := []) #[F,F,F,F,F,F,F,F,F,F,F] (by kernel_rfl) rfl rfl ⟨(Zb aa.out 0).trans rfl, (Zb aa.out 1).trans rfl⟩ (fun hHeld => ?_); refine with_tabW fL.tab4 fL.bits4 (fun HT_ HW_ => ?_)
 generalize aK.drew = aN at ac aa HB hHeld ⊢
 refine pU 0 HT_ ?_
 refine pU 1 HT_ ?_
 refine pU 4 HT_ ?_
 refine pU 6 HT_ ?_
 refine tK 2 HT_ HW_ hHeld (hy := by rintro w' ⟨s0, s1⟩; go_simp; with_reducible rfl) ?_
 refine pU 3 HT_ ?_
 refine pU 8 HT_ ?_
 refine tK 5 HT_ HW_ hHeld (hy := by rintro w' ⟨s0, s1⟩; go_simp; with_reducible rfl) ?_
 refine pU 7 HT_ ?_
 refine pU 9 HT_ ?_
 refine pU 10 HT_ ?_
 refine done_ (done_of HT_.out (by kernel_rfl)) ?_
 try go_wp2
 go_ret3
 exact ⟨fR, wB⟩
def fW.l0 : Nat → Int → Int → List Bool → Int → Int → Int → List Int → Option (Int × Int × Bool)
 | 0, _, _, _, _, _, _, _ => none
 | k + 1, x5, x6, af, ag, ac, aa, ab => if ac < ag then (if 0 ≤ ac then (if ac < (af.length : Int) then ((fx.f k aa ab ac).bind fun ae => (if rdOf false af ac = true then ((ga.f x5 (Zf (ae - aa))).bind fun ah => (fW.l0 k ah x6 af ag (Zf (ac + 1)) aa ab)) else ((ga.f x6 (Zf (aa - ae))).bind fun ai => (fW.l0 k x5 ai af ag (Zf (ac + 1)) aa ab)))) else (none)) else (none)) else (some (x5, x6, true))
def fW.f (k : Nat) (aa : Int) (ab : List Int) : Option (Int × Int × Bool) := (fi.f k aa ab).bind fun ae => (if ae = true then ((fq.f k ab).bind fun af => ((fw.f k aa ab).bind fun ac => (fW.l0 k (Zf (af - aa)) aa ac (ac.length : Int) 0 aa ab))) else (some (0, 0, false)))
theorem fW.calls (k : Nat) (ac : Int) (aM : Option Addr) (aN : Nat) (ae : List Int) (r1 : Int) (r2 : Int) (r3 : Bool) (w : ZF) (bi : Kd.C (Zl .i64) w aM ae.length ae) (bj : ae.length ≤ aN) (h : fW.f k ac ae = some (r1, r2, r3)) :
  ZK Tryz.prog 14 #[.agg #[.int .i64 ac, .slice aM ae.length aN]] w fun e w' => e = .returned (.tuple #[.int .i64 r1, .int .i64 r2, .bool r3]) ∧ Zy w.heap.size w w' := by
 have hu24 := Tryz.underlying24
 have af := Za bi
 have ag := Za bj
 clear bi bj
 have HB := Za (Zq w.heap.size w)
 have H := h
 unfold fW.f at H
 clear h
 replace H := oA H
 obtain ⟨bu, A2, H⟩ := H
 (try dsimp only at H)
 have bH := Za H
 clear H
 go_enter Tryz.func14, Tryz.ntmps14
 go_upto_if 12 with (first | ((with_reducible refine Zp (N := 1) rfl ?_); refine xE (N := 1) (cs := #[.int .i64 ac, .slice aM ae.length aN]) (t := 24) ?_; intro ai hg w6 aa hb; have aU := gS hg HB; have ak := gS hg HB; replace HB := sB HB hb; clear hb hg; obtain ⟨ax, ay, az, aA⟩ := zZ aa) | (go_at_call 37; (with_reducible refine (fi.calls k ac _ _ ae bu _ (Ze af.out HB.out) ag.out A2.out).mono ?_); rintro e w8 ⟨rfl, hb⟩; replace aa := bB aa hb; replace HB := sB HB hb; (try clear hb); obtain ⟨aD, aE, aG, aH⟩ := zZ aa))
 have H := bH.out
 clear bH
 by_cases c3 : bu = true
 rotate_left
 ·replace c3 := Bool.eq_false_iff.mpr c3
  subst c3
  replace H := iF H
  simp only [Zi, Zo] at H
  obtain ⟨rfl, rfl, rfl⟩ := H
  go_wp2_with (fail)
  repeat (go_quiet (first | ((with_reducible refine Zp (N := 1) rfl ?_); refine xE (N := 1) (cs := #[.int .i64 ac, .slice aM ae.length aN]) (t := 24) ?_; intro ai hg w6 aa hb; have aU : Zc (w.heap.size ≤ ai) := gT hg; have ak : Zc (w.heap.size ≤ ai) := gT hg; replace HB := sQ hb; clear hb hg; (try clear al am0 an0 ao al am0 an0 ao al am0 an0 ao); obtain ⟨ax, ay, az, aA⟩ := zZ aa) | (go_at_call 37; (with_reducible refine (fi.calls k ac _ _ ae false _ ?side1 ?side2 A2.out).mono ?_); (case side1 => have hx_ := (Ze af.out HB.out); exact cC); (case side2 => exact ag.out); rintro e w8 ⟨rfl, hb⟩; replace aa := bP aa hb; replace HB := sQ hb; (try clear hb))); try go_wp2_with (first | ((with_reducible refine Zp (N := 1) rfl ?_); refine xE (N := 1) (cs := #[.int .i64 ac, .slice aM ae.length aN]) (t := 24) ?_; intro ai hg w6 aa hb; have aU : Zc (w.heap.size ≤ ai) := gT hg; have ak : Zc (w.heap.size ≤ ai) := gT hg; replace HB := sQ hb; clear hb hg; obtain ⟨ax, ay, az, aA⟩ := zZ aa) | (go_at_call 37; (with_reducible refine (fi.calls k ac _ _ ae false _ ?side1 ?side2 A2.out).mono ?_); (case side1 => have hx_ := (Ze af.out HB.out); exact cC); (case side2 => exact ag.out); rintro e w8 ⟨rfl, hb⟩; replace aa := bP aa hb; replace HB := sQ hb; (try clear hb))))
  go_ret3
  exact ⟨fR, wB⟩
 subst c3
 replace H := iT H
 replace H := oA H
 obtain ⟨aZ, A4, H⟩ := H
 (try dsimp only at H)
 replace H := oA H
 obtain ⟨aj, A5, H⟩ := H
 (try dsimp only at H)
 have H' := Za H
 clear H
 go_wp2_with (first | (go_at_call 54; (with_reducible refine (fq.calls k _ _ ae aZ _ (Ze af.out HB.out) ag.out A4.out).mono ?_); rintro e w' ⟨rfl, ⟨nd, rfl⟩⟩; (try exact dR)) | (go_at_call 44; (with_reducible refine (fw.calls k ac _ _ ae aj _ ?side1 ?side2 A5.out).mono ?_); (case side1 =>  repeat (first | exact (Ze af.out (by repeat (first | exact HB.out | apply ba | apply bd | apply be | refine bs ?_ ak.out))) | (with_reducible refine ZI ?_ _) | (with_reducible refine ZJ ?_ _) | (with_reducible refine ZP ?_))); (case side2 => exact ag.out); rintro e bI ⟨bv, rfl, bl, hb⟩; have aC := Za (Zu bl (Zm (by repeat (first | exact HB.out | apply ba | apply bd | apply be | refine bs ?_ ak.out)))); replace aa := bP aa hb; replace HB := sQ hb; (try clear hb); (try clear bl); obtain ⟨bn, bo, aX⟩ := Zn aC.out; subst aX))
 repeat (go_quiet (first | ((with_reducible refine Zp (N := 1) rfl ?_); refine xE (N := 1) (cs := #[.int .i64 ac, .slice aM ae.length aN]) (t := 24) ?_; intro ai hg w6 aa hb; have aU : Zc (w.heap.size ≤ ai) := gT hg; have ak : Zc (w.heap.size ≤ ai) := gT hg; replace HB := sQ hb; clear hb hg; (try clear aD aE aG aH); obtain ⟨ax, ay, az, aA⟩ := zZ aa) | (go_at_call 37; (with_reducible refine (fi.calls k ac _ _ ae true _ ?side1 ?side2 A2.out).mono ?_); (case side1 => have hx_ := (Ze af.out HB.out); exact cC); (case side2 => exact ag.out); rintro e w8 ⟨rfl, hb⟩; replace aa := bP aa hb; replace HB := sQ hb; (try clear hb); obtain ⟨aD, aE, aG, aH⟩ := zZ aa) | (go_at_call 54; (with_reducible refine (fq.calls k _ _ ae aZ _ ?side1 ?side2 A4.out).mono ?_); (case side1 => have hx_ := (Ze af.out HB.out); exact cC); (case side2 => exact ag.out); rintro e w' ⟨rfl, ⟨nd, rfl⟩⟩; (try exact dR)) | (go_at_call 44; (with_reducible refine (fw.calls k ac _ _ ae aj _ ?side1 ?side2 A5.out).mono ?_); (case side1 =>  repeat (first | exact (Ze af.out (by repeat (first | exact HB.out | apply ba | apply bd | apply be | refine bs ?_ ak.out))) | (with_reducible refine ZI ?_ _) | (with_reducible refine ZJ ?_ _) | (with_reducible refine ZP ?_))); (case side2 => exact ag.out); rintro e bI ⟨bv, rfl, bl, hb⟩; have aC := Za (Zu bl (Zm (by repeat (first | exact HB.out | apply ba | apply bd | apply be | refine bs ?_ ak.out)))); replace aa := bP aa hb; replace HB := sQ hb; (try clear hb); (try clear bl); obtain ⟨bn, bo, aX⟩ := Zn aC.out; subst aX)); try go_wp2_with (first | ((with_reducible refine Zp (N := 1) rfl ?_); refine xE (N := 1) (cs := #[.int .i64 ac, .slice aM ae.length aN]) (t := 24) ?_; intro ai hg w6 aa hb; have aU : Zc (w.heap.size ≤ ai) := gT hg; have ak : Zc (w.heap.size ≤ ai) := gT hg; replace HB := sQ hb; clear hb hg; (try clear aD aE aG aH); obtain ⟨ax, ay, az, aA⟩ := zZ aa) | (go_at_call 37; (with_reducible refine (fi.calls k ac _ _ ae true _ ?side1 ?side2 A2.out).mono ?_); (case side1 => have hx_ := (Ze af.out HB.out); exact cC); (case side2 => exact ag.out); rintro e w8 ⟨rfl, hb⟩; replace aa := bP aa hb; replace HB := sQ hb; (try clear hb); obtain ⟨aD, aE, aG, aH⟩ := zZ aa) | (go_at_call 54; (with_reducible refine (fq.calls k _ _ ae aZ _ ?side1 ?side2 A4.out).mono ?_); (case side1 => have hx_ := (Ze af.out HB.out); exact cC); (case side2 => exact ag.out); rintro e w' ⟨rfl, ⟨nd, rfl⟩⟩; (try exact dR)) | (go_at_call 44; (with_reducible refine (fw.calls k ac _ _ ae aj _ ?side1 ?side2 A5.out).mono ?_); (case side1 =>  repeat (first | exact (Ze af.out (by repeat (first | exact HB.out | apply ba | apply bd | apply be | refine bs ?_ ak.out))) | (with_reducible refine ZI ?_ _) | (with_reducible refine ZJ ?_ _) | (with_reducible refine ZP ?_))); (case side2 => exact ag.out); rintro e bI ⟨bv, rfl, bl, hb⟩; have aC := Za (Zu bl (Zm (by repeat (first | exact HB.out | apply ba | apply bd | apply be | refine bs ?_ ak.out)))); replace aa := bP aa hb; replace HB := sQ hb; (try clear hb); (try clear bl); obtain ⟨bn, bo, aX⟩ := Zn aC.out; subst aX)))
 go_loopg [5, 6, 24] k (fun kq v5 v6 bN w' => ∃ (aI : Int) (aJ : Int) (ab : Int), v5 = .int .i64 aI ∧ v6 = .int .i64 aJ ∧ bN = .int .i64 ab ∧ Zc (fW.l0 kq aI aJ aj (aj.length : Int) ab ac ae = some (r1, r2, r3)) ∧ Zc (kq ≤ k) ∧ Zc (Kd.R ZN 4 w' w.heap.size (fun _ => True) (.slice bn aj.length bo) aj) ∧ Zc (w'.heap[ai]? = some (.cells #[.int .i64 ac, (.slice aM ae.length aN)] 24 (0, 0))) ∧ Zc (Zy w.heap.size w w'))
 case atStart => exact ⟨(Zf (aZ - ac)), (ac), (0), gR, gR, gR, H', ⟨Zs _⟩, ⟨rQ aC⟩, ⟨bQ aa⟩, ⟨wB⟩⟩
 case round =>
  clear H'
  (try clear c1); (try clear p2); (try clear c3); (try clear p6); (try clear ax); (try clear ay); (try clear az); (try clear aA)
  obtain ⟨aI, aJ, ab, rfl, rfl, rfl, HA, HK1, ah, aa, HB⟩ := hrel
  cases gk with
  | zero => exact absurd HA.out (by simp [fW.l0])
  | succ k1 =>
   have H := HA.out
   clear HA
   simp only [fW.l0] at H
   by_cases br : ab < (aj.length : Int)
   rotate_left
   ·rw [if_neg br] at H
    have bw : decide (ab < (aj.length : Int)) = false := decide_eq_false br
    clear br
    simp only [Zi, Zo] at H
    obtain ⟨rfl, rfl, rfl⟩ := H
    go_wp2
    repeat (go_quiet (fail); try go_wp2)
    go_ret3
    exact ⟨fR, wB⟩
   rw [if_pos br] at H
   have bw := decide_eq_true br
   clear br
   by_cases bA : 0 ≤ ab
   rotate_left
   ·rw [if_neg bA] at H
    exact absurd H (by simp)
   rw [if_pos bA] at H
   have bJ := decide_eq_true bA
   clear bA
   by_cases bC : ab < (aj.length : Int)
   rotate_left
   ·rw [if_neg bC] at H
    exact absurd H (by simp)
   rw [if_pos bC] at H
   have bK := decide_eq_true bC
   clear bC
   replace H := oA H
   obtain ⟨ap, bt, H⟩ := H
   (try dsimp only at H)
   obtain ⟨bx, aY⟩ : ∃ b_ : Bool, b_ = (rdOf false aj ab) := ⟨_, rfl⟩
   replace H : (if bx = true then ((ga.f aI (Zf (ap - ac))).bind fun aV => (fW.l0 k1 aV aJ aj (aj.length : Int) (Zf (ab + 1)) ac ae)) else ((ga.f aJ (Zf (ac - ap))).bind fun aW => (fW.l0 k1 aI aW aj (aj.length : Int) (Zf (ab + 1)) ac ae))) = some (r1, r2, r3) := by rw [← aY] at H; exact H
   have bm := Za aY
   clear aY
   by_cases bE : bx = true
   ·subst bE
    replace H := iT H
    replace H := oA H
    obtain ⟨aV, bF, H⟩ := H
    (try dsimp only at H)
    have H' := Za H
    clear H
    have aQ : 0 ≤ (ab : Int) := oD
    have aT : ab < (aj.length : Int) := oD
    obtain ⟨bz, bq, aK⟩ := Zx (Zg ah.out).2.2 ab aQ aT
    (try rw [← bm.out] at aK)
    cases bq
    replace aQ := eq_true aQ
    replace aT := eq_true aT
    obtain ⟨a6, a7, a8, bb⟩ := zZ aa
    go_wp2_with (first | (go_at_call 53; (with_reducible refine (fx.calls k1 ac _ _ ae ab ap _ (Ze af.out HB.out) ag.out bt.out).mono ?_); rintro e bL ⟨rfl, hb⟩; replace ah := rB ah hb; replace aa := bB aa hb; replace HB := sB HB hb; (try clear hb); (try clear a6 a7 a8 bb); obtain ⟨aq, au, av, aw⟩ := zZ aa) | (go_at_call 52; (with_reducible refine (ga.calls aI (Zf (ap - ac)) aV _ bF.out).mono ?_); rintro e w' ⟨rfl, ⟨nd, rfl⟩⟩; (try exact dR)))
    repeat (go_quiet (first | (go_at_call 53; (with_reducible refine (fx.calls k1 ac _ _ ae ab ap _ ?side1 ?side2 bt.out).mono ?_); (case side1 => have hx_ := (Ze af.out HB.out); exact cC); (case side2 => exact ag.out); rintro e bL ⟨rfl, hb⟩; replace ah := rP ah hb; replace aa := bP aa hb; replace HB := sQ hb; (try clear hb); obtain ⟨aq, au, av, aw⟩ := zZ aa) | (go_at_call 52; (with_reducible refine (ga.calls aI (Zf (ap - ac)) aV _ bF.out).mono ?_); rintro e w' ⟨rfl, ⟨nd, rfl⟩⟩; (try exact dR))); try go_wp2_with (first | (go_at_call 53; (with_reducible refine (fx.calls k1 ac _ _ ae ab ap _ ?side1 ?side2 bt.out).mono ?_); (case side1 => have hx_ := (Ze af.out HB.out); exact cC); (case side2 => exact ag.out); rintro e bL ⟨rfl, hb⟩; replace ah := rP ah hb; replace aa := bP aa hb; replace HB := sQ hb; (try clear hb); obtain ⟨aq, au, av, aw⟩ := zZ aa) | (go_at_call 52; (with_reducible refine (ga.calls aI (Zf (ap - ac)) aV _ bF.out).mono ?_); rintro e w' ⟨rfl, ⟨nd, rfl⟩⟩; (try exact dR))))
    go_roundg k1
    case measure => have := HK1.out; omega
    case rel => exact ⟨(aV), (aJ), (Zf (ab + 1)), gR, gR, gR, H', ⟨by have := HK1.out; omega⟩, ⟨rQ ah⟩, ⟨bQ aa⟩, ⟨wB⟩⟩
   replace bE := Bool.eq_false_iff.mpr bE
   subst bE
   replace H := iF H
   replace H := oA H
   obtain ⟨aW, bG, H⟩ := H
   (try dsimp only at H)
   have H' := Za H
   clear H
   have aQ : 0 ≤ (ab : Int) := oD
   have aT : ab < (aj.length : Int) := oD
   obtain ⟨bz, bq, aK⟩ := Zx (Zg ah.out).2.2 ab aQ aT
   (try rw [← bm.out] at aK)
   cases bq
   replace aQ := eq_true aQ
   replace aT := eq_true aT
   (try clear aq au av aw aq au av aw aq au av aw)
   obtain ⟨bc, bf, bg, bh⟩ := zZ aa
   go_wp2_with (first | (go_at_call 53; (with_reducible refine (fx.calls k1 ac _ _ ae ab ap _ ?side1 ?side2 bt.out).mono ?_); (case side1 => have hx_ := (Ze af.out HB.out); exact cC); (case side2 => exact ag.out); rintro e bM ⟨rfl, hb⟩; replace ah := rP ah hb; replace aa := bP aa hb; replace HB := sQ hb; (try clear hb); (try clear bc bf bg bh); obtain ⟨al, am0, an0, ao⟩ := zZ aa) | (go_at_call 52; (with_reducible refine (ga.calls aJ (Zf (ac - ap)) aW _ bG.out).mono ?_); rintro e w' ⟨rfl, ⟨nd, rfl⟩⟩; (try exact dR)))
   repeat (go_quiet (first | (go_at_call 53; (with_reducible refine (fx.calls k1 ac _ _ ae ab ap _ ?side1 ?side2 bt.out).mono ?_); (case side1 => have hx_ := (Ze af.out HB.out); exact cC); (case side2 => exact ag.out); rintro e bM ⟨rfl, hb⟩; replace ah := rP ah hb; replace aa := bP aa hb; replace HB := sQ hb; (try clear hb); obtain ⟨al, am0, an0, ao⟩ := zZ aa) | (go_at_call 52; (with_reducible refine (ga.calls aJ (Zf (ac - ap)) aW _ bG.out).mono ?_); rintro e w' ⟨rfl, ⟨nd, rfl⟩⟩; (try exact dR))); try go_wp2_with (first | (go_at_call 53; (with_reducible refine (fx.calls k1 ac _ _ ae ab ap _ ?side1 ?side2 bt.out).mono ?_); (case side1 => have hx_ := (Ze af.out HB.out); exact cC); (case side2 => exact ag.out); rintro e bM ⟨rfl, hb⟩; replace ah := rP ah hb; replace aa := bP aa hb; replace HB := sQ hb; (try clear hb); obtain ⟨al, am0, an0, ao⟩ := zZ aa) | (go_at_call 52; (with_reducible refine (ga.calls aJ (Zf (ac - ap)) aW _ bG.out).mono ?_); rintro e w' ⟨rfl, ⟨nd, rfl⟩⟩; (try exact dR))))
   go_roundg k1
   case measure => have := HK1.out; omega
   case rel => exact ⟨(aI), (aW), (Zf (ab + 1)), gR, gR, gR, H', ⟨by have := HK1.out; omega⟩, ⟨rQ ah⟩, ⟨bQ aa⟩, ⟨wB⟩⟩
def gc.l0 : Nat → List Int → List Int → Int → Int → Option (Bool)
 | 0, _, _, _, _ => none
 | k + 1, x0, x1, ab, aa => if aa < ab then (if 0 ≤ aa then (if aa < (x0.length : Int) then (if aa < (x1.length : Int) then (if (rd x0 aa) = (rd x1 aa) then (gc.l0 k x0 x1 ab (Zf (aa + 1))) else (some false)) else (none)) else (none)) else (none)) else (some true)
def gc.f (k : Nat) (l0 : List Int) (l1 : List Int) : Option (Bool) := if (l0.length : Int) = (l1.length : Int) then (gc.l0 k l0 l1 (l0.length : Int) 0) else (some false)
theorem gc.calls (k : Nat) (A0 : Option Addr) (c0 : Nat) (l0 : List Int) (A1 : Option Addr) (c1 : Nat) (l1 : List Int) (r : Bool) (w : ZF) (hr0 : Kd.C (Zl .i64) w A0 l0.length l0) (hc0 : l0.length ≤ c0) (hr1 : Kd.C (Zl .i64) w A1 l1.length l1) (hc1 : l1.length ≤ c1) (h : gc.f k l0 l1 = some r) :
  ZK Tryz.prog 55 #[.slice A0 l0.length c0, .slice A1 l1.length c1] w fun e w' => e = .returned (.bool r) ∧ Drawn0 w w' := by
 have av := Za hr0
 have aC := Za hc0
 clear hr0 hc0
 have aw := Za hr1
 have aD := Za hc1
 clear hr1 hc1
 have H := h
 unfold gc.f at H
 clear h
 by_cases c3 : (l0.length : Int) = (l1.length : Int)
 rotate_left
 ·rw [if_neg c3] at H
  have ak : ((l0.length : Int) == (l1.length : Int)) = false := beq_eq_false_iff_ne.mpr c3
  have al : ((l0.length : Int) != (l1.length : Int)) = true := bne_iff_ne.mpr c3
  have am0 : (l0.length == l1.length) = false := by first | simpa using c3 | (simp at c3 ⊢; omega)
  obtain rfl := Zh H
  go_enter Tryz.func55, Tryz.ntmps55
  go_wp2
  repeat (go_quiet (fail); try go_wp2)
  go_ret
  exact ⟨by first | rfl | (simp; done) | (simp [*]; done), dS⟩
 rw [if_pos c3] at H
 have ak : ((l0.length : Int) == (l1.length : Int)) = true := beq_iff_eq.mpr c3
 have al : ((l0.length : Int) != (l1.length : Int)) = false := bne_eq_false_iff_eq.mpr c3
 have am0 : (l0.length == l1.length) = true := by first | simpa using c3 | (simp at c3 ⊢; omega)
 clear c3
 have H' := Za H
 clear H
 go_enter Tryz.func55, Tryz.ntmps55
 go_wp2
 repeat (go_quiet (fail); try go_wp2)
 go_loopg [13] k (fun kq ax w' => ∃ (aa : Int), ax = .int .i64 aa ∧ Zc (gc.l0 kq l0 l1 (l0.length : Int) aa = some r) ∧ Zc (kq ≤ k) ∧ Drawn0 w w')
 case atStart => exact ⟨(0), gR, H', ⟨Zs _⟩, dS⟩
 case round =>
  clear H'
  (try clear c1); (try clear p2); (try clear c3); (try clear ak); (try clear al); (try clear am0)
  obtain ⟨aa, rfl, HA, HK1, ⟨m1, rfl⟩⟩ := hrel
  cases gk with
  | zero => exact absurd HA.out (by simp [gc.l0])
  | succ k1 =>
   have H := HA.out
   clear HA
   simp only [gc.l0] at H
   by_cases c4 : aa < (l0.length : Int)
   rotate_left
   ·rw [if_neg c4] at H
    have ap : decide (aa < (l0.length : Int)) = false := decide_eq_false c4
    clear c4
    obtain rfl := Zh H
    go_wp2
    repeat (go_quiet (fail); try go_wp2)
    go_ret
    exact ⟨by first | rfl | (simp; done) | (simp [*]; done), dS⟩
   rw [if_pos c4] at H
   have ap := decide_eq_true c4
   clear c4
   by_cases c5 : 0 ≤ aa
   rotate_left
   ·rw [if_neg c5] at H
    exact absurd H (by simp)
   rw [if_pos c5] at H
   have ay := decide_eq_true c5
   clear c5
   by_cases c6 : aa < (l0.length : Int)
   rotate_left
   ·rw [if_neg c6] at H
    exact absurd H (by simp)
   rw [if_pos c6] at H
   have az := decide_eq_true c6
   clear c6
   by_cases c7 : aa < (l1.length : Int)
   rotate_left
   ·rw [if_neg c7] at H
    exact absurd H (by simp)
   rw [if_pos c7] at H
   have aA := decide_eq_true c7
   clear c7
   by_cases c8 : (rd l0 aa) = (rd l1 aa)
   rotate_left
   ·rw [if_neg c8] at H
    have aq : ((rd l0 aa) == (rd l1 aa)) = false := beq_eq_false_iff_ne.mpr c8
    have au : ((rd l0 aa) != (rd l1 aa)) = true := bne_iff_ne.mpr c8
    obtain rfl := Zh H
    have ab : 0 ≤ (aa : Int) := oD
    have ac : aa < (l0.length : Int) := oD
    obtain ⟨an0, ai, ag⟩ := ZO av.out aa ab ac
    cases ai
    replace ab := eq_true ab
    replace ac := eq_true ac
    have ae : 0 ≤ (aa : Int) := oD
    have af : aa < (l1.length : Int) := oD
    obtain ⟨ao, aj, ah⟩ := ZO aw.out aa ae af
    cases aj
    replace ae := eq_true ae
    replace af := eq_true af
    go_wp2
    repeat (go_quiet (fail); try go_wp2)
    go_ret
    exact ⟨by first | rfl | (simp; done) | (simp [*]; done), dS⟩
   rw [if_pos c8] at H
   have aq : ((rd l0 aa) == (rd l1 aa)) = true := beq_iff_eq.mpr c8
   have au : ((rd l0 aa) != (rd l1 aa)) = false := bne_eq_false_iff_eq.mpr c8
   clear c8
   have H' := Za H
   clear H
   have ab : 0 ≤ (aa : Int) := oD
   have ac : aa < (l0.length : Int) := oD
   obtain ⟨an0, ai, ag⟩ := ZO av.out aa ab ac
   cases ai
   replace ab := eq_true ab
   replace ac := eq_true ac
   have ae : 0 ≤ (aa : Int) := oD
   have af : aa < (l1.length : Int) := oD
   obtain ⟨ao, aj, ah⟩ := ZO aw.out aa ae af
   cases aj
   replace ae := eq_true ae
   replace af := eq_true af
   go_wp2
   repeat (go_quiet (fail); try go_wp2)
   go_roundg k1
   case measure => have := HK1.out; omega
   case rel => exact ⟨(Zf (aa + 1)), gR, H', ⟨by have := HK1.out; omega⟩, dS⟩
def fl.f (k : Nat) (aa : Int) (ab : List Int) (ac : Int) (ae : List Int) : Option (Bool) := if aa = ac then ((gc.f k ab ae).bind fun af => (some af)) else (some false)
theorem fl.calls (k : Nat) (ae : Int) (ak : Option Addr) (al : Nat) (ag : List Int) (ah : Int) (ao : Option Addr) (ap : Nat) (ai : List Int) (r : Bool) (w : ZF) (aq : Kd.C (Zl .i64) w ak ag.length ag) (au : ag.length ≤ al) (av : Kd.C (Zl .i64) w ao ai.length ai) (aw : ai.length ≤ ap) (h : fl.f k ae ag ah ai = some r) :
  ZK Tryz.prog 15 #[.agg #[.int .i64 ae, .slice ak ag.length al], .agg #[.int .i64 ah, .slice ao ai.length ap]] w fun e w' => e = .returned (.bool r) ∧ Zy w.heap.size w w' := by
 have hu24 := Tryz.underlying24
 have aH := Za aq
 have aI := Za au
 clear aq au
 have aJ := Za av
 have aK := Za aw
 clear av aw
 have HB := Za (Zq w.heap.size w)
 have H := h
 unfold fl.f at H
 clear h
 by_cases c3 : ae = ah
 ·rw [if_pos c3] at H
  have a7 : (ae == ah) = true := beq_iff_eq.mpr c3
  have a8 : (ae != ah) = false := bne_eq_false_iff_eq.mpr c3
  clear c3
  replace H := oA H
  obtain ⟨bb, A4, H⟩ := H
  (try dsimp only at H)
  obtain rfl := Zh H
  go_enter Tryz.func15, Tryz.ntmps15
  go_wp2_with (first | ((with_reducible refine Zp (N := 2) rfl ?_); refine xE (N := 2) (cs := #[.int .i64 ae, .slice ak ag.length al]) (t := 24) ?_; intro af hg w5 aa hb; have aM := gS hg HB; have am0 := gS hg HB; replace HB := sB HB hb; clear hb hg) | ((with_reducible refine Zp (N := 3) rfl ?_); refine xE (N := 3) (cs := #[.int .i64 ah, .slice ao ai.length ap]) (t := 24) ?_; intro aj hg w6 an0 hb; have aN := gS hg HB; have aQ := gS hg HB; have ab := nL hg (Zr aa.out); have ac := nG hg (Zr aa.out); replace aa := bB aa hb; replace HB := sB HB hb; clear hb hg; have bg := ab.out; have bh := ac.out; obtain ⟨ax, ay, az, aA⟩ := zZ aa; obtain ⟨aC, aD, aE, aG⟩ := zZ an0) | (go_at_call 55; (with_reducible refine (gc.calls k _ _ ag _ _ ai bb _ (Ze aH.out HB.out) aI.out (Ze aJ.out HB.out) aK.out A4.out).mono ?_); rintro e w' ⟨rfl, ⟨nd, rfl⟩⟩))
  go_ret
  exact ⟨fR, wB⟩
 rw [if_neg c3] at H
 have a7 : (ae == ah) = false := beq_eq_false_iff_ne.mpr c3
 have a8 : (ae != ah) = true := bne_iff_ne.mpr c3
 obtain rfl := Zh H
 go_enter Tryz.func15, Tryz.ntmps15
 go_wp2_with (first | ((with_reducible refine Zp (N := 2) rfl ?_); refine xE (N := 2) (cs := #[.int .i64 ae, .slice ak ag.length al]) (t := 24) ?_; intro af hg bi aa hb; have aM : Zc (w.heap.size ≤ af) := gT hg; have am0 : Zc (w.heap.size ≤ af) := gT hg; replace HB := sQ hb; clear hb hg) | ((with_reducible refine Zp (N := 3) rfl ?_); refine xE (N := 3) (cs := #[.int .i64 ah, .slice ao ai.length ap]) (t := 24) ?_; intro aj hg bj an0 hb; have aN := Za ((by rw [hg]; exact (Zm (by repeat (first | exact HB.out | apply ba | apply bd | apply be | refine bs ?_ am0.out))) : w.heap.size ≤ aj)); have aQ := Za ((by rw [hg]; exact (Zm (by repeat (first | exact HB.out | apply ba | apply bd | apply be | refine bs ?_ am0.out))) : w.heap.size ≤ aj)); have ab := Za ((by rw [hg]; exact Z4 (Zr (g := af) (o := .cells #[.int .i64 ae, .slice ak ag.length al] 24 (0, 0)) (bQ aa)) : af ≠ aj)); have ac := Za ((by rw [hg]; exact Z5 (Zr (g := af) (o := .cells #[.int .i64 ae, .slice ak ag.length al] 24 (0, 0)) (bQ aa)) : aj ≠ af)); replace aa := bP aa hb; replace HB := sQ hb; clear hb hg; have bc := ab.out; have bf := ac.out; (try clear ax ay az aA aC aD aE aG); obtain ⟨aT, aU, aV, aW⟩ := zZ aa; obtain ⟨aX, aY, aZ, a6⟩ := zZ an0))
 go_ret
 exact ⟨fR, wB⟩
def gj.l0 : Nat → List Bool → List Bool → Int → Int → Option (Bool)
 | 0, _, _, _, _ => none
 | k + 1, x0, x1, ab, aa => if aa < ab then (if 0 ≤ aa then (if aa < (x0.length : Int) then (if aa < (x1.length : Int) then (if ((rdOf false x0 aa) != (rdOf false x1 aa)) = true then (some false) else (gj.l0 k x0 x1 ab (Zf (aa + 1)))) else (none)) else (none)) else (none)) else (some true)
def gj.f (k : Nat) (l0 : List Bool) (l1 : List Bool) : Option (Bool) := if (l0.length : Int) = (l1.length : Int) then (gj.l0 k l0 l1 (l0.length : Int) 0) else (some false)
theorem gj.calls (k : Nat) (A0 : Option Addr) (c0 : Nat) (l0 : List Bool) (A1 : Option Addr) (c1 : Nat) (l1 : List Bool) (r : Bool) (w : ZF) (hr0 : Kd.C ZN w A0 l0.length l0) (hc0 : l0.length ≤ c0) (hr1 : Kd.C ZN w A1 l1.length l1) (hc1 : l1.length ≤ c1) (h : gj.f k l0 l1 = some r) :
  ZK Tryz.prog 84 #[.slice A0 l0.length c0, .slice A1 l1.length c1] w fun e w' => e = .returned (.bool r) ∧ Drawn0 w w' := by
 have aw := Za hr0
 have aE := Za hc0
 clear hr0 hc0
 have ax := Za hr1
 have aG := Za hc1
 clear hr1 hc1
 have H := h
 unfold gj.f at H
 clear h
 by_cases c3 : (l0.length : Int) = (l1.length : Int)
 rotate_left
 ·rw [if_neg c3] at H
  have ak : ((l0.length : Int) == (l1.length : Int)) = false := beq_eq_false_iff_ne.mpr c3
  have al : ((l0.length : Int) != (l1.length : Int)) = true := bne_iff_ne.mpr c3
  have am0 : (l0.length == l1.length) = false := by first | simpa using c3 | (simp at c3 ⊢; omega)
  obtain rfl := Zh H
  go_enter Tryz.func84, Tryz.ntmps84
  go_wp2
  repeat (go_quiet (fail); try go_wp2)
  go_ret
  exact ⟨by first | rfl | (simp; done) | (simp [*]; done), dS⟩
 rw [if_pos c3] at H
 have ak : ((l0.length : Int) == (l1.length : Int)) = true := beq_iff_eq.mpr c3
 have al : ((l0.length : Int) != (l1.length : Int)) = false := bne_eq_false_iff_eq.mpr c3
 have am0 : (l0.length == l1.length) = true := by first | simpa using c3 | (simp at c3 ⊢; omega)
 clear c3
 have H' := Za H
 clear H
 go_enter Tryz.func84, Tryz.ntmps84
 go_wp2
 repeat (go_quiet (fail); try go_wp2)
 go_loopg [13] k (fun kq ay w' => ∃ (aa : Int), ay = .int .i64 aa ∧ Zc (gj.l0 kq l0 l1 (l0.length : Int) aa = some r) ∧ Zc (kq ≤ k) ∧ Drawn0 w w')
 case atStart => exact ⟨(0), gR, H', ⟨Zs _⟩, dS⟩
 case round =>
  clear H'
  (try clear c1); (try clear p2); (try clear c3); (try clear ak); (try clear al); (try clear am0)
  obtain ⟨aa, rfl, HA, HK1, ⟨m1, rfl⟩⟩ := hrel
  cases gk with
  | zero => exact absurd HA.out (by simp [gj.l0])
  | succ k1 =>
   have H := HA.out
   clear HA
   simp only [gj.l0] at H
   by_cases c4 : aa < (l0.length : Int)
   rotate_left
   ·rw [if_neg c4] at H
    have ap : decide (aa < (l0.length : Int)) = false := decide_eq_false c4
    clear c4
    obtain rfl := Zh H
    go_wp2
    repeat (go_quiet (fail); try go_wp2)
    go_ret
    exact ⟨by first | rfl | (simp; done) | (simp [*]; done), dS⟩
   rw [if_pos c4] at H
   have ap := decide_eq_true c4
   clear c4
   by_cases c5 : 0 ≤ aa
   rotate_left
   ·rw [if_neg c5] at H
    exact absurd H (by simp)
   rw [if_pos c5] at H
   have az := decide_eq_true c5
   clear c5
   by_cases c6 : aa < (l0.length : Int)
   rotate_left
   ·rw [if_neg c6] at H
    exact absurd H (by simp)
   rw [if_pos c6] at H
   have aA := decide_eq_true c6
   clear c6
   by_cases c7 : aa < (l1.length : Int)
   rotate_left
   ·rw [if_neg c7] at H
    exact absurd H (by simp)
   rw [if_pos c7] at H
   have aC := decide_eq_true c7
   clear c7
   by_cases c8 : ((rdOf false l0 aa) != (rdOf false l1 aa)) = true
   ·rw [if_pos c8] at H
    have aq : ((rdOf false l0 aa) != (rdOf false l1 aa)) = true := c8
    (try (have au : decide ((rdOf false l0 aa) = (rdOf false l1 aa)) = false := by simpa using c8))
    (try (have av : ((rdOf false l0 aa) == (rdOf false l1 aa)) = false := by simpa using c8))
    (try (have aD : ¬ ((rdOf false l0 aa) = (rdOf false l1 aa)) := by simpa using c8))
    clear c8
    obtain rfl := Zh H
    have ab : 0 ≤ (aa : Int) := oD
    have ac : aa < (l0.length : Int) := oD
    obtain ⟨an0, ai, ag⟩ := Zx aw.out aa ab ac
    cases ai
    replace ab := eq_true ab
    replace ac := eq_true ac
    have ae : 0 ≤ (aa : Int) := oD
    have af : aa < (l1.length : Int) := oD
    obtain ⟨ao, aj, ah⟩ := Zx ax.out aa ae af
    cases aj
    replace ae := eq_true ae
    replace af := eq_true af
    go_wp2
    repeat (go_quiet (fail); try go_wp2)
    go_ret
    exact ⟨by first | rfl | (simp; done) | (simp [*]; done), dS⟩
   rw [if_neg c8] at H
   have aq : ((rdOf false l0 aa) != (rdOf false l1 aa)) = false := by simpa using c8
   (try (have au : decide ((rdOf false l0 aa) = (rdOf false l1 aa)) = true := by simpa using c8))
   (try (have av : ((rdOf false l0 aa) == (rdOf false l1 aa)) = true := by simpa using c8))
   clear c8
   have H' := Za H
   clear H
   have ab : 0 ≤ (aa : Int) := oD
   have ac : aa < (l0.length : Int) := oD
   obtain ⟨an0, ai, ag⟩ := Zx aw.out aa ab ac
   cases ai
   replace ab := eq_true ab
   replace ac := eq_true ac
   have ae : 0 ≤ (aa : Int) := oD
   have af : aa < (l1.length : Int) := oD
   obtain ⟨ao, aj, ah⟩ := Zx ax.out aa ae af
   cases aj
   replace ae := eq_true ae
   replace af := eq_true af
   go_wp2
   repeat (go_quiet (fail); try go_wp2)
   go_roundg k1
   case measure => have := HK1.out; omega
   case rel => exact ⟨(Zf (aa + 1)), gR, H', ⟨by have := HK1.out; omega⟩, dS⟩
def gU.f (k : Nat) (ae : Int) (aa : List Bool) (af : Int) (ab : List Bool) : Option (Bool) := (gj.f k aa ab).bind fun ac => (some ac)
theorem gU.calls (k : Nat) (ao : Int) (ag : Option Addr) (ah : Nat) (aa : List Bool) (ap : Int) (ai : Option Addr) (aj : Nat) (ab : List Bool) (r : Bool) (w : ZF) (ak : Kd.C ZN w ag aa.length aa) (al : aa.length ≤ ah) (am0 : Kd.C ZN w ai ab.length ab) (an0 : ab.length ≤ aj) (h : gU.f k ao aa ap ab = some r) :
  ZK Tryz.prog 58 #[.agg #[.int .i64 ao, .slice ag aa.length ah], .agg #[.int .i64 ap, .slice ai ab.length aj]] w fun e w' => e = .returned (.bool r) ∧ Zy w.heap.size w w' := by
 have hu53 := Tryz.underlying53
 have aq := Za ak
 have au := Za al
 clear ak al
 have av := Za am0
 have aw := Za an0
 clear am0 an0
 have HB := Za (Zq w.heap.size w)
 have H := h
 unfold gU.f at H
 clear h
 replace H := oA H
 obtain ⟨ay, A3, H⟩ := H
 (try dsimp only at H)
 obtain rfl := Zh H
 go_enter Tryz.func58, Tryz.ntmps58
 go_wp2_with (first | ((with_reducible refine Zp (N := 2) rfl ?_); refine xE (N := 2) (cs := #[.int .i64 ao, .slice ag aa.length ah]) (t := 53) ?_; intro aJ hg w4 ac hb; have aK := gS hg HB; have aM := gS hg HB; replace HB := sB HB hb; clear hb hg) | ((with_reducible refine Zp (N := 3) rfl ?_); refine xE (N := 3) (cs := #[.int .i64 ap, .slice ai ab.length aj]) (t := 53) ?_; intro aN hg w5 ax hb; have aQ := gS hg HB; have aT := gS hg HB; have ae := nL hg (Zr ac.out); have af := nG hg (Zr ac.out); replace ac := bB ac hb; replace HB := sB HB hb; clear hb hg; have aU := ae.out; have aV := af.out; obtain ⟨az, aA, aC, aD⟩ := zZ ac; obtain ⟨aE, aG, aH, aI⟩ := zZ ax) | ((with_reducible refine Zk (f := 84) rfl ?_); refine gL 9 Tryz.func84 #[.slice ag aa.length ah, .slice ai ab.length aj] ?_; (with_reducible refine (gj.calls k _ _ aa _ _ ab ay _ (Ze aq.out HB.out) au.out (Ze av.out HB.out) aw.out A3.out).mono ?_); rintro e w' ⟨rfl, ⟨nd, rfl⟩⟩; refine ⟨_, rfl, ?_⟩))
 go_ret
 exact ⟨fR, wB⟩
def fJ.j0 : Nat → Bool → Int → List Int → Int → List Int → Option (Bool × Bool)
 | 0, _, _, _, _, _ => none
 | k + 1, ai, aa, ab, ac, ae => if ai = true then (some (false, false)) else ((fF.f k aa ab).bind fun af => ((fF.f k ac ae).bind fun ag => ((gU.f k af.1 af.2 ag.1 ag.2).bind fun ah => (some (ah, true)))))
def fJ.f (k : Nat) (aa : Int) (ab : List Int) (ac : Int) (ae : List Int) : Option (Bool × Bool) := (fd.f k aa ab).bind fun af => (if af = true then ((fd.f k ac ae).bind fun ag => (fJ.j0 k (!ag) aa ab ac ae)) else (fJ.j0 k true aa ab ac ae))
theorem fJ.calls (k : Nat) (af : Int) (ak : Option Addr) (al : Nat) (ac : List Int) (aj : Int) (ao : Option Addr) (ap : Nat) (ag : List Int) (r1 : Bool) (r2 : Bool) (w : ZF) (aM : Kd.C (Zl .i64) w ak ac.length ac) (aN : ac.length ≤ al) (aQ : Kd.C (Zl .i64) w ao ag.length ag) (aT : ag.length ≤ ap) (h : fJ.f k af ac aj ag = some (r1, r2)) :
  ZK Tryz.prog 17 #[.agg #[.int .i64 af, .slice ak ac.length al], .agg #[.int .i64 aj, .slice ao ag.length ap]] w fun e w' => e = .returned (.tuple #[.bool r1, .bool r2]) ∧ Zy w.heap.size w w' := by
 have hu24 := Tryz.underlying24
 have aq := Za aM
 have au := Za aN
 clear aM aN
 have aU := Za aQ
 have aV := Za aT
 clear aQ aT
 have HB := Za (Zq w.heap.size w)
 have H := h
 unfold fJ.f at H
 clear h
 have bh := Za H
 clear H
 go_enter Tryz.func17, Tryz.ntmps17
 go_upto_region 1 with (first | ((with_reducible refine Zp (N := 2) rfl ?_); refine xE (N := 2) (cs := #[.int .i64 af, .slice ak ac.length al]) (t := 24) ?_; intro av hg w4 aa hb; have br := gS hg HB; have bt := gS hg HB; replace HB := sB HB hb; clear hb hg) | ((with_reducible refine Zp (N := 3) rfl ?_); refine xE (N := 3) (cs := #[.int .i64 aj, .slice ao ag.length ap]) (t := 24) ?_; intro aw hg w5 ab hb; have bu := gS hg HB; have bv := gS hg HB; have ah := nL hg (Zr aa.out); have ai := nG hg (Zr aa.out); replace aa := bB aa hb; replace HB := sB HB hb; clear hb hg))
 (try simp only [ZW, sA, sZ, sS])
 go_cut [13] (fun bz wc => ∃ (kq : Nat) (an0 : Bool), bz = .bool an0 ∧ Zc (fJ.j0 kq an0 af ac aj ag = some (r1, r2)) ∧ Zc (kq ≤ k) ∧ Zc (wc.heap[av]? = some (.cells #[.int .i64 af, (.slice ak ac.length al)] 24 (0, 0))) ∧ Zc (wc.heap[aw]? = some (.cells #[.int .i64 aj, (.slice ao ag.length ap)] 24 (0, 0))) ∧ Zc (Zy w.heap.size w wc))
 case first =>
  have H := bh.out
  clear bh
  replace H := oA H
  obtain ⟨bi, A6, H⟩ := H
  (try dsimp only at H)
  by_cases c7 : bi = true
  rotate_left
  ·replace c7 := Bool.eq_false_iff.mpr c7
   subst c7
   replace H := iF H
   have H' := Za H
   clear H
   have bw := ah.out
   have bx := ai.out
   (try clear ax ay az aA)
   obtain ⟨aC, aD, aE, aG⟩ := zZ aa
   go_wp2_with (first | ((with_reducible refine Zk (f := 16) rfl ?_); refine gL 7 Tryz.func16 #[.agg #[.int .i64 af, .slice ak ac.length al]] ?_; (with_reducible refine (fd.calls k af _ _ ac false _ (Ze aq.out HB.out) au.out A6.out).mono ?_); rintro e bJ ⟨rfl, hb⟩; refine ⟨_, rfl, ?_⟩; replace aa := bB aa hb; replace ab := bB ab hb; replace HB := sB HB hb; (try clear hb)))
   go_meet
   case rel => exact ⟨_, (true), gR, H', ⟨by first | omega | exact Zs _⟩, ⟨by exact aa.out⟩, ⟨by exact ab.out⟩, ⟨wB⟩⟩
  subst c7
  replace H := iT H
  replace H := oA H
  obtain ⟨a7, A8, H⟩ := H
  (try dsimp only at H)
  have H' := Za H
  clear H
  have bA := ah.out
  have bC := ai.out
  obtain ⟨aH, aI, aJ, aK⟩ := zZ aa
  go_wp2_with (first | ((with_reducible refine Zk (f := 16) rfl ?_); refine gL 7 Tryz.func16 #[.agg #[.int .i64 af, .slice ak ac.length al]] ?_; (with_reducible refine (fd.calls k af _ _ ac true _ (Ze aq.out HB.out) au.out A6.out).mono ?_); rintro e bK ⟨rfl, hb⟩; refine ⟨_, rfl, ?_⟩; replace aa := bB aa hb; replace ab := bB ab hb; replace HB := sB HB hb; (try clear hb); (try clear aH aI aJ aK); obtain ⟨ax, ay, az, aA⟩ := zZ ab) | (go_at_call 16; (with_reducible refine (fd.calls k aj _ _ ag a7 _ (Ze aU.out HB.out) aV.out A8.out).mono ?_); rintro e bL ⟨rfl, hb⟩; replace aa := bB aa hb; replace ab := bB ab hb; replace HB := sB HB hb; (try clear hb)))
  go_meet
  case rel => exact ⟨_, (!a7), gR, H', ⟨by first | omega | exact Zs _⟩, ⟨by exact aa.out⟩, ⟨by exact ab.out⟩, ⟨wB⟩⟩
 case rest =>
  clear bh
  (try clear c1); (try clear p2); (try clear c7); (try clear c9); (try clear bM); (try clear bN); (try clear aC); (try clear aD); (try clear aE); (try clear aG)
  obtain ⟨kq, an0, rfl, HA, bO, aa, ab, HB⟩ := hcut
  cases kq with
  | zero => exact absurd HA.out (by simp [fJ.j0])
  | succ bj =>
   have H := HA.out
   clear HA
   simp only [fJ.j0] at H
   by_cases bg : an0 = true
   ·subst bg
    replace H := iT H
    simp only [Zi, Zo] at H
    obtain ⟨rfl, rfl⟩ := H
    go_wp2
    go_ret2
    exact ⟨fR, wB⟩
   replace bg := Bool.eq_false_iff.mpr bg
   subst bg
   replace H := iF H
   replace H := oB H
   obtain ⟨⟨aW, aX⟩, a8, H⟩ := H
   (try dsimp only at H)
   have bE := Za a8
   clear a8
   replace H := oB H
   obtain ⟨⟨aY, aZ⟩, bb, H⟩ := H
   (try dsimp only at H)
   have bF := Za bb
   clear bb
   replace H := oA H
   obtain ⟨bl, bG, H⟩ := H
   (try dsimp only at H)
   simp only [Zi, Zo] at H
   obtain ⟨rfl, rfl⟩ := H
   try go_wp2
   replace aa := bD aa
   replace ab := bD ab
   replace HB := Za (ZL HB.out)
   refine start_ (n := 7) (S := fun w' => w'.cell? ⟨av, 0, none⟩ = some (.int .i64 af) ∧ w'.cell? ⟨av, 1, none⟩ = some (.slice ak ac.length al) ∧ w'.cell? ⟨aw, 0, none⟩ = some (.int .i64 aj) ∧ w'.cell? ⟨aw, 1, none⟩ = some (.slice ao ag.length ap)) (ds := []) #[F,F,F,F,F,F,F] (by kernel_rfl) rfl rfl ⟨(Zb aa.out 0).trans rfl, (Zb aa.out 1).trans rfl, (Zb ab.out 0).trans rfl, (Zb ab.out 1).trans rfl⟩ (fun hHeld => ?_)
   generalize wc.drew = bR at aa ab HB hHeld ⊢
   refine take_ (i := 0) (N := some 14) (v := ?_) (a' := ?_) #[T,F,F,F,F,F,F] rfl rfl (by kernel_rfl) (fun _ _ _ h => h) (Or.inl ⟨by rfl, ?_⟩) hHeld ?_ ?_
   rotate_left
   ·rintro w' ⟨s0, s1, s2, s3⟩
    go_simp
    with_reducible rfl
   rotate_left
   ·simp only [ZW, sA, sZ, sS, i64_w, i32_w]
    rfl
   refine take_ (i := 2) (N := some 16) (v := ?_) (a' := ?_) #[T,F,T,F,F,F,F] rfl rfl (by kernel_rfl) (fun _ _ _ h => h) (Or.inl ⟨by rfl, ?_⟩) hHeld ?_ ?_
   rotate_left
   ·rintro w' ⟨s0, s1, s2, s3⟩
    go_simp
    with_reducible rfl
   rotate_left
   ·simp only [ZW, sA, sZ, sS, i64_w, i32_w]
    rfl
   refine one_ (i := 1) (N := some 15) #[T,T,T,F,F,F,F] rfl rfl (by kernel_rfl) (by decide) (fun K hK => ?_)
   refine gE Tryz.func40 #[.agg #[.int .i64 af, .slice ak ac.length al]] ?_
   with_reducible refine (fF.calls bj af _ _ ac aW aX _ (Ze aq.out HB.out) au.out bE.out).mono ?_
   rintro e bS ⟨bH, rfl, a6, hb⟩
   refine ⟨_, rfl, ?_⟩
   have ae := Za (Zu a6 (Zm HB.out))
   replace aa := bB aa hb
   replace ab := bB ab hb
   replace HB := sB HB hb
   (try clear hb)
   (try clear hb2)
   (try clear hk)
   (try clear hi)
   (try clear a6)
   refine hK.out _ _ ⟨(Zb aa.out 0).trans rfl, (Zb aa.out 1).trans rfl, (Zb ab.out 0).trans rfl, (Zb ab.out 1).trans rfl⟩ (fun hHeld => ?_)
   clear hK K
   refine nM ?_
   refine one_ (i := 3) (N := some 17) #[T,T,T,T,F,F,F] rfl rfl (by kernel_rfl) (by decide) (fun K hK => ?_)
   refine gE Tryz.func40 #[.agg #[.int .i64 aj, .slice ao ag.length ap]] ?_
   with_reducible refine (fF.calls bj aj _ _ ag aY aZ _ (Ze aU.out HB.out) aV.out bF.out).mono ?_
   rintro e bT ⟨bI, rfl, a6, hb⟩
   refine ⟨_, rfl, ?_⟩
   have am0 := Za (Zu (Kd.R_new' a6 (Kd.R_lt ae.out)) (Zm HB.out))
   replace ae := rE ae (Kd.R_base a6) hb
   replace aa := bB aa hb
   replace ab := bB ab hb
   replace HB := sB HB hb
   (try clear hb)
   (try clear hb2)
   (try clear hk)
   (try clear hi)
   (try clear a6)
   obtain ⟨bm, bn, bc⟩ := Zn ae.out
   (first | subst bc | (injection bc with f1_ f2_ f3_; have f4_ := f1_.symm; have f5_ := f3_.symm; clear f1_ f2_ f3_; subst f4_; subst f5_))
   obtain ⟨bo, bq, bf⟩ := Zn am0.out
   (first | subst bf | (injection bf with f1_ f2_ f3_; have f4_ := f1_.symm; have f5_ := f3_.symm; clear f1_ f2_ f3_; subst f4_; subst f5_))
   refine hK.out _ _ ⟨(Zb aa.out 0).trans rfl, (Zb aa.out 1).trans rfl, (Zb ab.out 0).trans rfl, (Zb ab.out 1).trans rfl⟩ (fun hHeld => ?_)
   clear hK K
   refine nM ?_
   refine one_ (i := 4) (N := some 18) #[T,T,T,T,T,F,F] rfl rfl (by kernel_rfl) (by decide) (fun K hK => ?_)
   refine gE Tryz.func58 #[.agg #[.int .i64 aW, .slice bm aX.length bn], .agg #[.int .i64 aY, .slice bo aZ.length bq]] ?_
   with_reducible refine (gU.calls bj aW _ _ aX aY _ _ aZ bl _ ?side1 ?side2 ?side3 ?side4 bG.out).mono ?_
   (case side1 => have hx_ := (Zg ae.out).2.2; exact cC)
   (case side2 => exact (Zg ae.out).2.1)
   (case side3 => have hx_ := (Zg am0.out).2.2; exact cC)
   (case side4 => exact (Zg am0.out).2.1)
   rintro e bU ⟨rfl, hb⟩
   refine ⟨_, rfl, ?_⟩
   replace ae := rB ae hb
   replace am0 := rB am0 hb
   replace aa := bB aa hb
   replace ab := bB ab hb
   replace HB := sB HB hb
   (try clear hb)
   (try clear hb2)
   (try clear hk)
   (try clear hi)
   refine hK.out _ _ ⟨(Zb aa.out 0).trans rfl, (Zb aa.out 1).trans rfl, (Zb ab.out 0).trans rfl, (Zb ab.out 1).trans rfl⟩ (fun hHeld => ?_)
   clear hK K
   refine nM ?_
   refine pure_ (i := 5) (N := some 4) (v := ?_) (a' := ?_) #[T,T,T,T,T,T,F] rfl rfl (by kernel_rfl) (fun _ _ _ h => h) (Or.inl ⟨by rfl, ?_⟩) ?_ ?_
   rotate_left
   ·intro w'
    go_simp
    with_reducible rfl
   rotate_left
   ·simp only [ZW, sA, sZ, sS, i64_w, i32_w]
    rfl
   refine pure_ (i := 6) (N := some 5) (v := ?_) (a' := ?_) #[T,T,T,T,T,T,T] rfl rfl (by kernel_rfl) (fun _ _ _ h => h) (Or.inl ⟨by rfl, ?_⟩) ?_ ?_
   rotate_left
   ·intro w'
    go_simp
    with_reducible rfl
   rotate_left
   ·simp only [ZW, sA, sZ, sS, i64_w, i32_w]
    rfl
   refine done_ (by kernel_rfl) ?_
   try go_wp2
   go_ret2
   exact ⟨fR, wB⟩
def gZ.f (l0 : List Int) : Option (List Int) := if 0 < l0.length ∧ l0.length < 4611686018427387904 then some (l0.mergeSort fun x y => decide (x ≤ y)) else none
theorem gZ.calls (P0_ : Nat → Prop) (u9000_ : ZV) (l0 : List Int) (r : List Int) (w0 w : ZF) (hB : Zy w0.heap.size w0 w) (aa : Kd.R (Zl .i64) 3 w w0.heap.size P0_ u9000_ l0) (h : gZ.f l0 = some r) :
  ZK Tryz.prog 85 #[u9000_] w fun e w' => e = .returned (.tuple #[]) ∧ Kd.R (Zl .i64) 3 w' w0.heap.size (fun k_ => (P0_ k_ ∨ w.heap.size ≤ k_)) u9000_ r ∧ Zy w0.heap.size w0 w' ∧ Kept w w' (fun k_ => P0_ k_) := by
 unfold gZ.f at h
 by_cases hl : 0 < l0.length ∧ l0.length < 4611686018427387904
 case neg => rw [if_neg hl] at h; cases h
 rw [if_pos hl] at h
 obtain rfl := Zh h
 obtain ⟨gb, cap, cur, rfl, hok, hbase, hh, hnc, hmax, hcs, hH⟩ := ZS aa hl.1
 have hc := Go.Proofs.AnyG.slices_Sort_int Go.Proofs.YtaambkdiokbdgabGreatL.sortOI gb 0 cap l0 w hH (Array.getElem?_eq_some_iff.1 hh).1 hl.2
 change ZK Tryz.prog 85 _ _ _ at hc
 refine hc.mono ?_
 rintro e w' ⟨rfl, n, os, rfl⟩
 have hlen : (l0.mergeSort fun x y => decide (x ≤ y)).length = l0.length := List.length_mergeSort ..
 have hw := ZR (zs := l0.mergeSort fun x y => decide (x ≤ y)) l0.length n os hB hok hbase hh hmax hcs (by omega) (by omega)
 rw [List.take_of_length_le (by omega), hlen] at hw
 exact ⟨rfl, hw⟩
def g0.f (l0 : List Int) : Option (List Int) := if 0 < l0.length then some (ZC l0) else none
theorem g0.calls (P0_ : Nat → Prop) (u9000_ : ZV) (l0 : List Int) (r : List Int) (w0 w : ZF) (hB : Zy w0.heap.size w0 w) (aa : Kd.R (Zl .i64) 3 w w0.heap.size P0_ u9000_ l0) (h : g0.f l0 = some r) :
  ZK Tryz.prog 86 #[u9000_] w fun e w' => ∃ v0_ : ZV, e = .returned (v0_) ∧ Kd.R (Zl .i64) 3 w' w0.heap.size (fun k_ => (P0_ k_ ∨ w.heap.size ≤ k_)) v0_ r ∧ Zy w0.heap.size w0 w' ∧ Kept w w' (fun k_ => P0_ k_) := by
 unfold g0.f at h
 by_cases hl : 0 < l0.length
 case neg => rw [if_neg hl] at h; cases h
 rw [if_pos hl] at h
 obtain rfl := Zh h
 obtain ⟨gb, cap, cur, rfl, hok, hbase, hh, hnc, hmax, hcs, hH⟩ := ZS aa hl
 have hmx : cap ≤ 9223372036854775807 := Z0 hmax (by decide)
 have hc := calls_of_every_depth fun D => Go.Proofs.AnySG.slices_Compact_int_in Go.Proofs.YtaambkdiokbdgabGreatL.compI D gb 0 cap l0 w hH (by omega) hnc
 change ZK Tryz.prog 86 _ _ _ at hc
 refine hc.mono ?_
 rintro e w' ⟨rfl, n, rfl⟩
 have hle : (ZC l0).length ≤ l0.length := by
  unfold ZC Go.Lib.compactUpTo
  rw [List.length_map]
  exact Z0 (List.length_filter_le _ _) (by rw [List.length_range]; exact Zs _)
 have hw := ZR (zs := ZC l0 ++ Z2 (l0.length - (ZC l0).length) 0) (ZC l0).length n #[] hB hok hbase hh hmax hcs (by rw [Z3, List.length_replicate]; omega) (by rw [Z3]; omega)
 rw [List.take_left] at hw
 have e1 : Go.Proofs.sortWorld (Value.int .i64) w gb 0 n (ZC l0 ++ Z2 (l0.length - (ZC l0).length) 0).toArray #[] = Go.Sort.putRow (Value.int .i64) (Go.Sort.ahead w n) gb 0 (ZC l0 ++ Z2 (l0.length - (ZC l0).length) 0).toArray := Go.Sort.grow_empty _
 rw [e1] at hw
 exact ⟨_, rfl, hw⟩
def gf.l0 : Nat → List Int → Int → Int → Int → List Int → Option (List Int)
 | 0, _, _, _, _, _ => none
 | k + 1, x3, x9, ac, aa, ab => if ac < x9 then ((fI.f k aa ab ac).bind fun ae => (if x3.length < 17592186044416 then (gf.l0 k (x3 ++ [ae]) x9 (Zf (ac + 1)) aa ab) else (none))) else ((gZ.f x3).bind fun af => ((g0.f af).bind fun ag => (some ag)))
def gf.f (k : Nat) (ab : Int) (aa : List Int) : Option (List Int) := gf.l0 k (([] : List Int)) (shl .i64 1 (aa.length : Int)) 0 ab aa
theorem gf.calls (k : Nat) (af : Int) (ak : Option Addr) (al : Nat) (aa : List Int) (r : List Int) (w : ZF) (aq : Kd.C (Zl .i64) w ak aa.length aa) (au : aa.length ≤ al) (h : gf.f k af aa = some r) :
  ZK Tryz.prog 59 #[.agg #[.int .i64 af, .slice ak aa.length al]] w fun e w' => ∃ v0_ : ZV, e = .returned (v0_) ∧ Kd.R (Zl .i64) 3 w' w.heap.size (fun _ => True) v0_ r ∧ Zy w.heap.size w w' := by
 have hu24 := Tryz.underlying24
 have aE := Za aq
 have aG := Za au
 clear aq au
 have HB := Za (Zq w.heap.size w)
 have H := h
 unfold gf.f at H
 clear h
 obtain ⟨ay, ah⟩ : ∃ y_ : List Int, y_ = (([] : List Int)) := ⟨_, rfl⟩
 replace H : (gf.l0 k ay (shl .i64 1 (aa.length : Int)) 0 af aa) = some r := by first | (rw [ah]; with_reducible exact H) | (have H2_ := (Zd _ _).symm.trans H; rw [ah]; with_reducible exact H2_) | (have H2_ := (Zd _ _).symm.trans H; with_reducible exact H2_) | with_reducible exact H | (rw [ah]; exact H) | exact H
 have av := Za ah
 clear ah
 obtain ⟨aj, ao⟩ : ∃ j_ : Int, (shl .i64 1 (aa.length : Int)) = j_ := ⟨_, rfl⟩
 replace H : (gf.l0 k ay aj 0 af aa) = some r := by first | (rw [ao] at H; exact H) | (simp only [ao] at H ⊢; exact H)
 have hji2_ : (IntKind.i64.wrap (1 * 2 ^ min (aa.length : Int).toNat 64)) = aj := ao
 have hji2z : (aa.length : Int) ≤ 64 → (IntKind.i64.wrap (1 * 2 ^ (aa.length : Int).toNat)) = aj := shl_small ao
 have hji2p : (IntKind.i64.wrap (1 * 2 ^ min aa.length 64)) = aj := hji2_
 have hji2q : (aa.length : Int) ≤ 64 → (IntKind.i64.wrap (1 * 2 ^ aa.length)) = aj := hji2z
 have hji2r : (IntKind.i64.wrap (2 ^ min aa.length 64)) = aj := by have h_ := hji2p; rw [ZY] at h_; exact h_
 have hji2s : (aa.length : Int) ≤ 64 → (IntKind.i64.wrap (2 ^ aa.length)) = aj := fun hle_ => by have h_ := hji2q hle_; rw [ZY] at h_; exact h_
 have hji2u : (IntKind.i64.wrap (2 ^ min (aa.length : Int).toNat 64)) = aj := by have h_ := hji2_; rw [ZY] at h_; exact h_
 have hji2v : (aa.length : Int) ≤ 64 → (IntKind.i64.wrap (2 ^ (aa.length : Int).toNat)) = aj := fun hle_ => by have h_ := hji2z hle_; rw [ZY] at h_; exact h_
 have hji2y : (Zf (1 * 2 ^ min (aa.length : Int).toNat 64)) = aj := (i64_w _).symm.trans hji2_
 have hji2x : (aa.length : Int) ≤ 64 → (Zf (1 * 2 ^ (aa.length : Int).toNat)) = aj := fun h_ => (i64_w _).symm.trans (hji2z h_)
 have H' := Za H
 clear H
 go_enter Tryz.func59, Tryz.ntmps59
 go_wp2_with (first | ((with_reducible refine Zp (N := 1) rfl ?_); refine xE (N := 1) (cs := #[.int .i64 af, .slice ak aa.length al]) (t := 24) ?_; intro aw hg w3 ab hb; have a7 := gS hg HB; have ax := gS hg HB; replace HB := sB HB hb; clear hb hg) | ((with_reducible refine Zp (N := 5) rfl ?_); refine Kd.R_lit (Zl .i64) _ 3 ?hg (N := 5) ?hd (xs := ([] : List Int)) (inner := []) (ok := fun _ => True) (okp := fun _ => True) ?hr ?hp (fun _ hk => hk) trivial (Zq _ _) (Zs _) (by simp) ?_; (case hd => rfl); (case hg => rfl); (case hr => first | (go_simp; done) | (go_simp; rfl)); (case hp => exact (Reps.none _ _)); intro bc w4 aH hb hg_ hnew_; clear hg_ hnew_; (first | rw [← av.out] at aH | (simp only [Z1] at aH; rw [← av.out] at aH)); have aI := Za (Zu aH (Zm HB.out)); replace ab := bB ab hb; replace HB := sB HB hb; clear hb aH; obtain ⟨az, aA, aC, aD⟩ := zZ ab))
 go_loopg [3, 10] k (fun kq v3 bf w' => ∃ (ae : List Int) (ac : Int), bf = .int .i64 ac ∧ Zc (gf.l0 kq ae aj ac af aa = some r) ∧ Zc (kq ≤ k) ∧ Zc (Kd.R (Zl .i64) 3 w' w.heap.size (fun _ => True) v3 ae) ∧ Zc (w'.heap[aw]? = some (.cells #[.int .i64 af, (.slice ak aa.length al)] 24 (0, 0))) ∧ Zc (Zy w.heap.size w w'))
 case atStart => exact ⟨(ay), (0), gR, H', ⟨Zs _⟩, ⟨by exact aI.out⟩, ⟨by exact ab.out⟩, ⟨wB⟩⟩
 case round =>
  clear H'
  (try clear p2); (try clear c5); (try clear p6); (try clear az); (try clear aA); (try clear aC); (try clear aD)
  obtain ⟨ae, ac, rfl, HA, HK1, ag, ab, HB⟩ := hrel
  cases gk with
  | zero => exact absurd HA.out (by simp [gf.l0])
  | succ k1 =>
   have H := HA.out
   clear HA
   simp only [gf.l0] at H
   by_cases c7 : ac < aj
   rotate_left
   ·rw [if_neg c7] at H
    have aX : decide (ac < aj) = false := decide_eq_false c7
    clear c7
    replace H := oA H
    obtain ⟨aJ, bg, H⟩ := H
    (try dsimp only at H)
    replace H := oA H
    obtain ⟨aY, bh, H⟩ := H
    (try dsimp only at H)
    obtain rfl := Zh H
    obtain ⟨am0, an0, aZ⟩ := Zn ag.out
    subst aZ
    go_wp2_with (first | ((with_reducible refine Zk (f := 85) rfl ?_); refine gL 21 Tryz.func85 #[.slice am0 ae.length an0] ?_; (with_reducible refine (gZ.calls (fun k_ => some k_ = (.slice am0 ae.length an0 : ZV).ownBlock) (.slice am0 ae.length an0) ae aJ w _ ?side1 ?side2 bg.out).mono ?_); (case side1 => repeat (first | (with_reducible first | exact HB.out | apply ba | apply bd | apply be | refine bs ?_ ax.out) | exact HB.out)); (case side2 => exact Kd.R_tight rfl ag.out); rintro e bl ⟨rfl, a8, hb, hkp⟩; refine ⟨_, rfl, ?_⟩; replace ab := Za (blk_kept ab.out hkp (fun hs_ => (fun e_ => (ZB ag.out ab.out (by decide)) e_) hs_)); replace ag := Za (Kd.R_reok rfl a8 (fun k_ e_ => ag.out.1 k_ e_)); replace HB := Za (hb); (try clear hb); (try clear hkp); (try clear a8)) | ((with_reducible refine Zk (f := 86) rfl ?_); refine gL 23 Tryz.func86 #[.slice am0 ae.length an0] ?_; (with_reducible refine (g0.calls (fun k_ => some k_ = (.slice am0 ae.length an0 : ZV).ownBlock) (.slice am0 ae.length an0) aJ aY w _ ?side1 ?side2 bh.out).mono ?_); (case side1 => repeat (first | (with_reducible first | exact HB.out | apply ba | apply bd | apply be | refine bs ?_ ax.out) | exact HB.out)); (case side2 => exact Kd.R_tight rfl ag.out); rintro e bm ⟨bi, rfl, bb, hb, hkp⟩; refine ⟨_, rfl, ?_⟩; have aK := Za (ZG (ok' := fun k_ => True) bb (fun k_ hk_ => trivial)); replace ab := Za (blk_kept ab.out hkp (fun hs_ => (fun e_ => (ZB ag.out ab.out (by decide)) e_) hs_)); replace HB := Za (hb); (try clear hb); (try clear hkp); (try clear bb)))
    go_ret
    exact ⟨_, by first | rfl | (simp <;> rfl) | (simp only [← ao]; first | rfl | (simp <;> rfl)) | (simp [*] <;> rfl), by exact aK.out, wB⟩
   rw [if_pos c7] at H
   have aX := decide_eq_true c7
   clear c7
   replace H := oA H
   obtain ⟨ap, A8, H⟩ := H
   (try dsimp only at H)
   by_cases c9 : ae.length < 17592186044416
   rotate_left
   ·rw [if_neg c9] at H
    exact absurd H (by simp)
   rw [if_pos c9] at H
   have a6 := Za c9
   clear c9
   obtain ⟨aM, ai⟩ : ∃ y_ : List Int, y_ = (ae ++ [ap]) := ⟨_, rfl⟩
   replace H : (gf.l0 k1 aM aj (Zf (ac + 1)) af aa) = some r := by first | (rw [ai]; with_reducible exact H) | (have H2_ := (Zd _ _).symm.trans H; rw [ai]; with_reducible exact H2_) | (have H2_ := (Zd _ _).symm.trans H; with_reducible exact H2_) | with_reducible exact H | (rw [ai]; exact H) | exact H
   have aN := Za ai
   clear ai
   have H' := Za H
   clear H
   obtain ⟨aT, aU, aV, aW⟩ := zZ ab
   go_wp2_with (first | ((with_reducible refine Zk (f := 51) rfl ?_); refine gL 16 Tryz.func51 #[.agg #[.int .i64 af, .slice ak aa.length al], .int .i64 ac] ?_; (with_reducible refine (fI.calls k1 af _ _ aa ac ap _ (Ze aE.out HB.out) aG.out A8.out).mono ?_); rintro e bn ⟨rfl, hb⟩; refine ⟨_, rfl, ?_⟩; replace ag := rB ag hb; replace ab := bB ab hb; replace HB := sB HB hb; (try clear hb)) | ((with_reducible refine ZU (b := .append) (xs := #[.tmp 13, .tmp 17]) rfl ?_); at_builtin; refine Kd.R_append (Zl .i64) (w0 := w) w.heap.size rfl (.tmp 13) (.tmp 17) 22 3 (.int .i64 0) 8 rfl Tryz.underlying22 info3 rfl (by decide) (by omega) u3 ae ap [.int .i64 ap] (fun _ => True) (fun _ => False) rfl rfl ?aP (fun _ hk => hk.elim) ?aF ?aO ?aB ?aS ?aL ?_; (case aP => exact rfl); (case aB => exact HB.out); (case aF => exact (fun _ _ => trivial)); (case aO => exact ag.out); (case aS => exact (Zm HB.out)); (case aL => have := a6.out; omega); intro bj bo ho hb hg hat; rw [← aN.out] at ho; have aQ := Za (ho); replace ab := Za (Zv (g := aw) (o := .cells #[.int .i64 af, .slice ak aa.length al] 24 (0, 0)) ab.out hg (ZB ag.out ab.out (by decide))); replace HB := Za (hb); clear ho hb hg hat))
   go_roundg k1
   case measure => have := HK1.out; omega
   case rel => exact ⟨(aM), (Zf (ac + 1)), gR, H', ⟨by have := HK1.out; omega⟩, ⟨by exact aQ.out⟩, ⟨by exact ab.out⟩, ⟨wB⟩⟩
def fX.p (q n : Int) : Bool := decide (n ≥ q)
def fX.g (q : Int) (s : List Int) : Option (Int × Int × Bool) :=
 if 0 ≤ Zf (idxOf (fX.p q) s - 1) then (if Zf (idxOf (fX.p q) s - 1) < (s.length : Int) then (if 0 ≤ idxOf (fX.p q) s then (if idxOf (fX.p q) s < (s.length : Int) then some (Zf (rd s (Zf (idxOf (fX.p q) s - 1)) + 1), rd s (idxOf (fX.p q) s), true) else none) else none) else none) else none
def fX.f (k : Nat) (aa : Int) (ab : List Int) : Option (Int × Int × Bool) := (fd.f k aa ab).bind fun t => if t = true then (gf.f k aa ab).bind (fX.g aa) else some (0, 0, false)
theorem sh.clo (q n : Int) (B : Nat) (W : ZF) (h0 : W.cell? ⟨B, 0, none⟩ = some (.int .i64 q)) : ZK Tryz.prog 61 (#[.int .i64 n] ++ #[.pointer (some ⟨B, 0, none⟩)]) W fun e W' => e = .returned (.bool (fX.p q n)) ∧ Zy W.heap.size W W' := by
 have huC := Tryz.underlying24
 have HD := Za (show W.drew.cell? ⟨B, 0, none⟩ = some (.int .i64 q) from h0)
 obtain ⟨b, hb⟩ : ∃ b, b = decide (n ≥ q) := ⟨_, rfl⟩
 have HBV := Za hb
 show ZK Tryz.prog 61 #[.int .i64 n, .pointer (some ⟨B, 0, none⟩)] W fun e W' => e = .returned (.bool (decide (n ≥ q))) ∧ Zy W.heap.size W W'
 clear hb
 go_enter Tryz.func61, Tryz.ntmps61
 have hD := HD.out
 go_wp2
 go_ret
 exact ⟨rfl, Zq _ _⟩
theorem fX.calls (k : Nat) (aa : Int) (ac : Option Addr) (ae : Nat) (ab : List Int) (r1 : Int) (r2 : Int) (r3 : Bool) (w : ZF) (af : Kd.C (Zl .i64) w ac ab.length ab) (ag : ab.length ≤ ae) (h : fX.f k aa ab = some (r1, r2, r3)) :
  ZK Tryz.prog 18 #[.agg #[.int .i64 aa, .slice ac ab.length ae]] w fun e w' => e = .returned (.tuple #[.int .i64 r1, .int .i64 r2, .bool r3]) ∧ Zy w.heap.size w w' := by
 have eg : ∀ args w, (callFunc 61 args).run Tryz.prog w = .ok (.enter 61 args) w := enters_of Tryz.func61 (by kernel_rfl) rfl
 have hmf : ∀ (fn : Fn) (first cap : Array ZV) (w : ZF), (Instr.makeFunc fn first cap).run Tryz.prog w = .ok (.func fn first cap) w := fun _ _ _ _ => rfl
 have huC := Tryz.underlying24
 obtain ⟨t, ht, h2⟩ := oB h
 have HB1 := Za (show Zy w.heap.size w (w.alloc (.cells #[.int .i64 aa, .slice ac ab.length ae] 24)) from (Zq _ _).alloc (Zs _) _)
 have an0 := Za (blk_new w (.cells #[.int .i64 aa, .slice ac ab.length ae] 24))
 have HR := Za af
 have HC := Za ag
 have HT := Za ht
 clear af ag h ht
 cases t with
 | false =>
  rw [if_neg (by decide)] at h2
  simp only [Zi, Zo] at h2
  obtain ⟨rfl, rfl, rfl⟩ := h2
  go_enter Tryz.func18, Tryz.ntmps18
  go_wp2_with fail
  refine (fd.calls k aa ac ae ab false _ (Ze HR.out HB1.out) HC.out HT.out).mono ?_
  rintro e w1 ⟨rfl, hb⟩
  have HB2 := Za (HB1.out.trans (hb.mono HB1.out.size))
  clear hb
  go_wp2
  go_ret3
  exact ⟨rfl, HB2.out⟩
 | true =>
  rw [if_pos rfl] at h2
  obtain ⟨s, hs, h3⟩ := oB h2
  have HS := Za hs
  clear h2 hs
  go_enter Tryz.func18, Tryz.ntmps18
  go_wp2_with fail
  refine (fd.calls k aa ac ae ab true _ (Ze HR.out HB1.out) HC.out HT.out).mono ?_
  rintro e w1 ⟨rfl, hb⟩
  have ah := bB an0 hb
  have HB2 := Za (HB1.out.trans (hb.mono HB1.out.size))
  clear hb
  have hz0 : w1.cell? ⟨w.heap.size, 0, none⟩ = some (.int .i64 aa) := (Zb ah.out 0).trans rfl
  have hz1 : w1.cell? ⟨w.heap.size, 1, none⟩ = some (.slice ac ab.length ae) := (Zb ah.out 1).trans rfl
  go_wp2_with fail
  refine (gf.calls k aa ac ae ab s _ (Ze HR.out HB2.out) HC.out HS.out).mono ?_
  rintro e w2 ⟨v0, rfl, hO, hb⟩
  obtain ⟨A1, c1, rfl, ao, hC1⟩ := Kd.R_reads hO
  have ai := bB ah hb
  have HB3 := Za (HB2.out.trans (hb.mono HB2.out.size))
  have aj := Za hC1
  clear hO hb ao hC1 hz0 hz1
  go_wp2_with fail
  refine (sb.hof A1 c1 s 61 #[.pointer (some ⟨w.heap.size, 0, none⟩)] (fX.p aa) _ aj.out eg (fun W x _ hW => sh.clo aa x w.heap.size W ((hW.cell (Zj _ _ ((Zb ai.out 0).trans rfl))).trans ((Zb ai.out 0).trans rfl)))).mono ?_
  rintro e w3 ⟨rfl, hb⟩
  have HB4 := Za (HB3.out.trans (hb.mono HB3.out.size))
  have ak := Za (Ze aj.out hb)
  clear hb
  unfold fX.g at h3
  generalize idxOf (fX.p aa) s = i at *
  by_cases p1 : 0 ≤ Zf (i - 1)
  case neg => rw [if_neg p1] at h3; cases h3
  rw [if_pos p1] at h3
  by_cases q1 : Zf (i - 1) < (s.length : Int)
  case neg => rw [if_neg q1] at h3; cases h3
  rw [if_pos q1] at h3
  by_cases p2 : 0 ≤ i
  case neg => rw [if_neg p2] at h3; cases h3
  rw [if_pos p2] at h3
  by_cases q2 : i < (s.length : Int)
  case neg => rw [if_neg q2] at h3; cases h3
  rw [if_pos q2] at h3
  simp only [Zi, Zo] at h3
  obtain ⟨rfl, rfl, rfl⟩ := h3
  obtain ⟨ad, e1, al⟩ := ZO ak.out _ p1 q1
  obtain ⟨ap, e2, am0⟩ := ZO ak.out _ p2 q2
  rw [e1] at e2
  obtain rfl := Zh e2
  subst e1
  have HX1 := Za (show w3.drew.cell? _ = _ from al)
  have HX2 := Za (show w3.drew.cell? _ = _ from am0)
  replace p1 := eq_true p1
  replace q1 := eq_true q1
  replace p2 := eq_true p2
  replace q2 := eq_true q2
  have aq : IntKind.i64.wrap (i - 1) = Zf (i - 1) := by simp only [i64_w]
  generalize hj : Zf (i - 1) = j at *
  generalize hv1 : rd s j = v1 at *
  generalize hv2 : rd s i = v2 at *
  have HV1 := Za hv1
  have HV2 := Za hv2
  clear al am0 hv1 hv2
  go_wp2
  go_region_held3 (fun w' => w'.cell? (ad.add j.toNat) = some (.int .i64 v1) ∧ w'.cell? (ad.add i.toNat) = some (.int .i64 v2)) (first | exact ⟨HX1.out, HX2.out⟩ | go_keep) (fail)
  go_wp2
  go_ret3
  exact ⟨by simp [i64_w, hj, HV1.out, HV2.out], ZL HB4.out⟩
def fY.l0 : Nat → Int → List Bool → Int → Int → Option (Int)
 | 0, _, _, _, _ => none
 | k + 1, x3, x7, x8, x9 => if x9 < x8 then (if 0 ≤ x9 then (if x9 < (x7.length : Int) then (if rdOf false x7 x9 = true then (fY.l0 k (Zf (x3 + 1)) x7 x8 (Zf (x9 + 1))) else (fY.l0 k x3 x7 x8 (Zf (x9 + 1)))) else (none)) else (none)) else (some x3)
def fY.f (k : Nat) (ab : Int) (aa : List Bool) : Option (Int) := fY.l0 k 0 aa (aa.length : Int) 0
theorem fY.calls (k : Nat) (ai : Int) (aj : Option Addr) (ak : Nat) (ab : List Bool) (r : Int) (w : ZF) (al : Kd.C ZN w aj ab.length ab) (am0 : ab.length ≤ ak) (h : fY.f k ai ab = some r) :
  ZK Tryz.prog 62 #[.agg #[.int .i64 ai, .slice aj ab.length ak]] w fun e w' => e = .returned (.int .i64 r) ∧ Zy w.heap.size w w' := by
 have hu53 := Tryz.underlying53
 have an0 := Za al
 have aC := Za am0
 clear al am0
 have HB := Za (Zq w.heap.size w)
 have H := h
 unfold fY.f at H
 clear h
 have H' := Za H
 clear H
 go_enter Tryz.func62, Tryz.ntmps62
 go_wp2_with (first | ((with_reducible refine Zp (N := 1) rfl ?_); refine xE (N := 1) (cs := #[.int .i64 ai, .slice aj ab.length ak]) (t := 53) ?_; intro ax hg w2 ae hb; have aD := gS hg HB; have aE := gS hg HB; replace HB := sB HB hb; clear hb hg; obtain ⟨ao, ap, aq, au⟩ := zZ ae))
 go_loopg [3, 9] k (fun kq v3 v9 w' => ∃ (af : Int) (ac : Int), v3 = .int .i64 af ∧ v9 = .int .i64 ac ∧ Zc (fY.l0 kq af ab (ab.length : Int) ac = some r) ∧ Zc (kq ≤ k) ∧ Zc (w'.heap[ax]? = some (.cells #[.int .i64 ai, (.slice aj ab.length ak)] 53 (0, 0))) ∧ Zc (Zy w.heap.size w w'))
 case atStart => exact ⟨(0), (0), gR, gR, H', ⟨Zs _⟩, ⟨by exact ae.out⟩, ⟨wB⟩⟩
 case round =>
  clear H'
  (try clear p2); (try clear ao); (try clear ap); (try clear aq); (try clear au)
  obtain ⟨af, ac, rfl, rfl, HA, HK1, ae, HB⟩ := hrel
  cases gk with
  | zero => exact absurd HA.out (by simp [fY.l0])
  | succ k1 =>
   have H := HA.out
   clear HA
   simp only [fY.l0] at H
   by_cases c4 : ac < (ab.length : Int)
   rotate_left
   ·rw [if_neg c4] at H
    have aA : decide (ac < (ab.length : Int)) = false := decide_eq_false c4
    clear c4
    obtain rfl := Zh H
    go_wp2
    go_ret
    exact ⟨fR, wB⟩
   rw [if_pos c4] at H
   have aA := decide_eq_true c4
   clear c4
   by_cases c5 : 0 ≤ ac
   rotate_left
   ·rw [if_neg c5] at H
    exact absurd H (by simp)
   rw [if_pos c5] at H
   have aH := decide_eq_true c5
   clear c5
   by_cases c6 : ac < (ab.length : Int)
   rotate_left
   ·rw [if_neg c6] at H
    exact absurd H (by simp)
   rw [if_pos c6] at H
   have aI := decide_eq_true c6
   clear c6
   obtain ⟨aG, av⟩ : ∃ b_ : Bool, b_ = (rdOf false ab ac) := ⟨_, rfl⟩
   replace H : (if aG = true then (fY.l0 k1 (Zf (af + 1)) ab (ab.length : Int) (Zf (ac + 1))) else (fY.l0 k1 af ab (ab.length : Int) (Zf (ac + 1)))) = some r := by rw [← av] at H; exact H
   have ay := Za av
   clear av
   by_cases c8 : aG = true
   ·subst c8
    replace H := iT H
    have H' := Za H
    clear H
    have ag : 0 ≤ (ac : Int) := oD
    have ah : ac < (ab.length : Int) := oD
    obtain ⟨az, aw, aa⟩ := Zx an0.out ac ag ah
    (try rw [← ay.out] at aa)
    cases aw
    replace aa := (HB.out.cell (Zj w _ aa)).trans aa
    replace ag := eq_true ag
    replace ah := eq_true ah
    go_wp2
    go_roundg k1
    case measure => have := HK1.out; omega
    case rel => exact ⟨(Zf (af + 1)), (Zf (ac + 1)), gR, gR, H', ⟨by have := HK1.out; omega⟩, ⟨by exact ae.out⟩, ⟨wB⟩⟩
   replace c8 := Bool.eq_false_iff.mpr c8
   subst c8
   replace H := iF H
   have H' := Za H
   clear H
   have ag : 0 ≤ (ac : Int) := oD
   have ah : ac < (ab.length : Int) := oD
   obtain ⟨az, aw, aa⟩ := Zx an0.out ac ag ah
   (try rw [← ay.out] at aa)
   cases aw
   replace aa := (HB.out.cell (Zj w _ aa)).trans aa
   replace ag := eq_true ag
   replace ah := eq_true ah
   go_wp2
   go_roundg k1
   case measure => have := HK1.out; omega
   case rel => exact ⟨(af), (Zf (ac + 1)), gR, gR, H', ⟨by have := HK1.out; omega⟩, ⟨by exact ae.out⟩, ⟨wB⟩⟩
def fy.f (k : Nat) (ab : Int) (ac : List Int) : Option (Int × Bool) := (fd.f k ab ac).bind fun ae => (if ae = true then ((fF.f k ab ac).bind fun aa => ((fY.f k aa.1 aa.2).bind fun af => (some (af, true)))) else (some (0, false)))
theorem fy.calls (k : Nat) (ae : Int) (af : Option Addr) (ag : Nat) (ab : List Int) (r1 : Int) (r2 : Bool) (w : ZF) (ah : Kd.C (Zl .i64) w af ab.length ab) (ai : ab.length ≤ ag) (h : fy.f k ae ab = some (r1, r2)) :
  ZK Tryz.prog 19 #[.agg #[.int .i64 ae, .slice af ab.length ag]] w fun e w' => e = .returned (.tuple #[.int .i64 r1, .bool r2]) ∧ Zy w.heap.size w w' := by
 have hu24 := Tryz.underlying24
 have aj := Za ah
 have ak := Za ai
 clear ah ai
 have HB := Za (Zq w.heap.size w)
 have H := h
 unfold fy.f at H
 clear h
 replace H := oA H
 obtain ⟨au, A2, H⟩ := H
 (try dsimp only at H)
 have aE := Za H
 clear H
 go_enter Tryz.func19, Tryz.ntmps19
 go_upto_if 6 with (first | ((with_reducible refine Zp (N := 1) rfl ?_); refine xE (N := 1) (cs := #[.int .i64 ae, .slice af ab.length ag]) (t := 24) ?_; intro aG hg w6 aa hb; have aH := gS hg HB; have aI := gS hg HB; replace HB := sB HB hb; clear hb hg; obtain ⟨al, am0, an0, ao⟩ := zZ aa) | ((with_reducible refine Zk (f := 16) rfl ?_); refine gL 5 Tryz.func16 #[.agg #[.int .i64 ae, .slice af ab.length ag]] ?_; (with_reducible refine (fd.calls k ae _ _ ab au _ (Ze aj.out HB.out) ak.out A2.out).mono ?_); rintro e w8 ⟨rfl, hb⟩; refine ⟨_, rfl, ?_⟩; replace aa := bB aa hb; replace HB := sB HB hb; (try clear hb); (try clear al am0 an0 ao); obtain ⟨av, aw, ax, ay⟩ := zZ aa))
 have H := aE.out
 clear aE
 by_cases c3 : au = true
 rotate_left
 ·replace c3 := Bool.eq_false_iff.mpr c3
  subst c3
  replace H := iF H
  simp only [Zi, Zo] at H
  obtain ⟨rfl, rfl⟩ := H
  go_wp2_with (fail)
  go_ret2
  exact ⟨fR, wB⟩
 subst c3
 replace H := iT H
 replace H := oB H
 obtain ⟨⟨ap, aq⟩, aJ, H⟩ := H
 (try dsimp only at H)
 have A4 := Za aJ
 clear aJ
 replace H := oA H
 obtain ⟨az, A5, H⟩ := H
 (try dsimp only at H)
 simp only [Zi, Zo] at H
 obtain ⟨rfl, rfl⟩ := H
 go_wp2_with (first | ((with_reducible refine Zk (f := 40) rfl ?_); refine gL 8 Tryz.func40 #[.agg #[.int .i64 ae, .slice af ab.length ag]] ?_; (with_reducible refine (fF.calls k ae _ _ ab ap aq _ (Ze aj.out HB.out) ak.out A4.out).mono ?_); rintro e aN ⟨aM, rfl, aK, hb⟩; refine ⟨_, rfl, ?_⟩; have ac := Za (Zu aK (Zm HB.out)); replace aa := bB aa hb; replace HB := sB HB hb; (try clear hb); (try clear aK); obtain ⟨aA, aC, aD⟩ := Zn ac.out; subst aD) | ((with_reducible refine Zk (f := 62) rfl ?_); refine gL 9 Tryz.func62 #[.agg #[.int .i64 ap, .slice aA aq.length aC]] ?_; (with_reducible refine (fY.calls k ap _ _ aq az _ ?side1 ?side2 A5.out).mono ?_); (case side1 => have hx_ := (Zg ac.out).2.2; exact cC); (case side2 => exact (Zg ac.out).2.1); rintro e aQ ⟨rfl, hb⟩; refine ⟨_, rfl, ?_⟩; replace ac := rB ac hb; replace aa := bB aa hb; replace HB := sB HB hb; (try clear hb)))
 go_ret2
 exact ⟨fR, wB⟩
def g7.f (a0 : Int) (a1 : Int) : Option (Int × Int) := some (IntKind.u64.wrap ((IntKind.u64.wrap ((IntKind.u64.wrap ((a0 / 4294967296) * (a1 / 4294967296))) + ((IntKind.u64.wrap ((IntKind.u64.wrap ((a0 / 4294967296) * (Zz .and .u64 a1 4294967295))) + ((IntKind.u64.wrap ((Zz .and .u64 a0 4294967295) * (Zz .and .u64 a1 4294967295))) / 4294967296))) / 4294967296))) + ((IntKind.u64.wrap ((Zz .and .u64 (IntKind.u64.wrap ((IntKind.u64.wrap ((a0 / 4294967296) * (Zz .and .u64 a1 4294967295))) + ((IntKind.u64.wrap ((Zz .and .u64 a0 4294967295) * (Zz .and .u64 a1 4294967295))) / 4294967296))) 4294967295) + (IntKind.u64.wrap ((Zz .and .u64 a0 4294967295) * (a1 / 4294967296))))) / 4294967296)), IntKind.u64.wrap (a0 * a1))
theorem g7.calls (a0 : Int) (a1 : Int) (r1 : Int) (r2 : Int) (w : ZF) (h : g7.f a0 a1 = some (r1, r2)) :
  ZK Tryz.prog 107 #[.int .u64 a0, .int .u64 a1] w fun e w' => e = .returned (.tuple #[.int .u64 r1, .int .u64 r2]) ∧ Drawn0 w w' := by
 have H := h
 unfold g7.f at H
 clear h
 simp only [Zi, Zo] at H
 obtain ⟨rfl, rfl⟩ := H
 go_enter Tryz.func107, Tryz.ntmps107
 go_wp2
 go_ret2
 exact ⟨by first | rfl | (simp; done) | (simp [*]; done), dS⟩
def g8.f (a0 : Int) (a1 : Int) : Option (Int × Int) := (g7.f a0 a1).bind fun aa => (some (aa.1, aa.2))
theorem g8.calls (a0 : Int) (a1 : Int) (r1 : Int) (r2 : Int) (w : ZF) (h : g8.f a0 a1 = some (r1, r2)) :
  ZK Tryz.prog 87 #[.int .u64 a0, .int .u64 a1] w fun e w' => e = .returned (.tuple #[.int .u64 r1, .int .u64 r2]) ∧ Drawn0 w w' := by
 have H := h
 unfold g8.f at H
 clear h
 replace H := oB H
 obtain ⟨⟨aa, ab⟩, ac, H⟩ := H
 (try dsimp only at H)
 have A3 := Za ac
 clear ac
 simp only [Zi, Zo] at H
 obtain ⟨rfl, rfl⟩ := H
 go_enter Tryz.func87, Tryz.ntmps87
 go_wp2_with (first | ((with_reducible refine Zk (f := 107) rfl ?_); refine gL 25 Tryz.func107 #[.int .u64 a0, .int .u64 a1] ?_; (with_reducible refine (g7.calls a0 a1 aa ab _ A3.out).mono ?_); rintro e w' ⟨rfl, ⟨nd, rfl⟩⟩; refine ⟨_, rfl, ?_⟩))
 go_ret2
 exact ⟨by first | rfl | (simp; done) | (simp [*]; done), dS⟩
end Go.Proofs.YtaambkdiokbdgabGreat.Q
