/- Printed functions, their contracts and plain facts on them: QSlicesRepeatIntInt; QImplEvenCommittee; QSpecEvenCommittee; QImplWithMember; QImplAddVeto; QSpecAddVeto; QImplAddDummy; QSpecAddDummy; QBitsOnesCount64; QBitsO. Conditions: as each theorem states. -/
import Derived.Test.YtaambkdiokbdgabGreatGWeightsMadex1
import Derived.Test.YtaambkdiokbdgabGreatGWeightsMadex2
set_option maxHeartbeats 40000000
set_option maxRecDepth 100000
open Go renaming bits → Zb, bodyPost_ret → Zz, Value → ZB, World → ZG, Calls → ZM, callFunc → Z8, madeCells → Yf
open Go.Act renaming put → Zn
open Go.Instr renaming makeFunc → Z9
open Go.Proofs.YtaambkdiokbdgabGreatM renaming cmpL → ZA, ev_pos → Z6
open Go.Proofs.YtaambkdiokbdgabGreatW.PrintLast renaming putAll → Zv, norm_ → ZQ
open Go.Proofs.YtaambkdiokbdgabGreatW.PrintWords renaming Aside0 → Zc, blk_cell → Zd, below_size → Ze, gate_callee → Zq, gate_dst → Zu, blk_put → Zw, blk_lt → Zy, results_ct → ZJ, cell_far → ZO, blk_grown → ZV
open Go.Proofs.YtaambkdiokbdgabGreatW.PrintWords.Aside0 renaming mk → Za
open Go.Proofs.YtaambkdiokbdgabGreatW.PrintWords.Kd renaming int → Zf, C_below → Zo, R_mono → Zp, R_lower → Zs, R_slice → Zx, at_bool → ZF, R_reads' → ZH, R_far → ZI, R_types → ZR, R_lit_step → ZS, C_alloc → ZX, at_int → ZY, R_lt → ZZ, R_base → Z0, R_nil → Z1, slice → Z2, R_ne → Z3
open Go.Proofs.YtaambkdiokbdgabGreatW.PrintWords.Reps renaming none → ZU
open Go.RowKit renaming wrap64 → Zg, Below → Zt
open Go.RowKit.Below renaming refl → Zk
open Go.Value renaming int → Yc
open Go.World renaming block_lt_of_cell? → Zj, drewN → Ye
open Int renaming reduceToNat → ZE, one_mul → Z7, eq_ofNat_of_zero_le → Yb
open List renaming drop_eq_getElem_cons → ZC, length_replicate → ZD, replicate → ZN, getD_eq_getElem?_getD → ZP, getElem?_eq_getElem → ZT, drop_of_length_le → ZW, findIdx?_eq_some_iff_getElem → Z4, take_succ_eq_append_getElem → Z5, findIdx?_eq_none_iff → Ya
open Nat renaming le_refl → Zl, ne_of_lt → ZK, ne_of_gt → ZL
open Option renaming bind_some → Zm
open Option.some renaming inj → Zh, injEq → Zi
open Or renaming inl → Yd
open Prod.mk renaming injEq → Zr
namespace Go.Proofs.YtaambkdiokbdgabGreat.Q
open Go.RowKit Go.Proofs.YtaambkdiokbdgabGreatX Go.Proofs.YtaambkdiokbdgabGreatY Go.Proofs.YtaambkdiokbdgabGreatX Go.Proofs.YtaambkdiokbdgabGreatW.PrintWords Go.Proofs.YtaambkdiokbdgabGreatW.PrintLast Go.Proofs.YtaambkdiokbdgabGreatW.PrintMore
attribute [local go_sem] max2_int min2_int max_two min_two max_three min_three max_four min_four   -- for this text's walks alone
set_option linter.unusedVariables false
set_option linter.unusedSimpArgs false
def gV.f (l0 : List Int) (a1 : Int) : Option (List Int) := if l0.length = 1 ∧ 1 ≤ a1 ∧ a1 ≤ 9 then some (ZN a1.toNat (rd l0 0)) else none
theorem si (a : Int) (h1 : 1 ≤ a) (h9 : a ≤ 9) : g8.f 1 a = some (0, a) := by
 have h : a = 1 ∨ a = 2 ∨ a = 3 ∨ a = 4 ∨ a = 5 ∨ a = 6 ∨ a = 7 ∨ a = 8 ∨ a = 9 := by omega
 rcases h with rfl | rfl | rfl | rfl | rfl | rfl | rfl | rfl | rfl <;> decide +kernel
def repCells (x : Int) (m N : Nat) : List ZB := ZN m (.int .i64 x) ++ ZN (N - m) (.int .i64 0)
theorem repCells_made (x : Int) (N : Nat) : Yf #[.int .i64 0] N = (repCells x 0 N).toArray := by
 apply Array.ext
 ·simp [Yf, repCells]
 intro i h1 h2
 simp [Yf, repCells, Nat.mod_one]
theorem repCells_length (x : Int) (m N : Nat) (h : m ≤ N) : (repCells x m N).length = N := by simp [repCells]; omega
theorem repCells_splice (x : Int) (m j N : Nat) (h : m + j ≤ N) : splice (repCells x m N) m (ZN j (.int .i64 x)) = repCells x (m + j) N := by
 unfold splice repCells
 rw [List.take_left' (by simp)]
 simp only [ZD]
 rw [List.drop_append, List.drop_eq_nil_of_le (by simp), List.nil_append, ZD, List.drop_replicate, ← List.append_assoc, List.replicate_append_replicate]
 congr 2
 omega
theorem repCells_get (x : Int) (m N j : Nat) (h : j < m) : (repCells x m N)[j]? = some (.int .i64 x) := by
 unfold repCells
 rw [List.getElem?_append_left (by simpa using h)]
 simp [h]
theorem gV.calls (A0 : Option Addr) (c0 : Nat) (l0 : List Int) (a1 : Int) (r : List Int) (w : ZG) (hr0 : Kd.C (Zf .i64) w A0 l0.length l0) (hc0 : l0.length ≤ c0) (h : gV.f l0 a1 = some r) :
  ZM Tryz.prog 63 #[.slice A0 l0.length c0, .int .i64 a1] w fun e w' => ∃ v0_ : ZB, e = .returned (v0_) ∧ Kd.R (Zf .i64) 3 w' w.heap.size (fun _ => True) v0_ r ∧ Zt w.heap.size w w' := by
 unfold gV.f at h
 by_cases hcond : l0.length = 1 ∧ 1 ≤ a1 ∧ a1 ≤ 9
 case neg =>
  rw [if_neg hcond] at h
  exact absurd h (by simp)
 rw [if_pos hcond] at h
 obtain ⟨hl, h1, h9⟩ := hcond
 obtain ⟨ad, e0, hcell⟩ := ZY hr0 0 (by omega) (by omega)
 subst e0
 have HM := Za (si a1 h1 h9)
 obtain ⟨N, rfl⟩ := Yb (show 0 ≤ a1 by omega)
 have hN1 : 1 ≤ N := by omega
 have hN9 : N ≤ 9 := by omega
 rw [Int.toNat_natCast] at h
 generalize hx : rd l0 0 = x at h hcell
 clear hx
 have HRES := Za (Zh h)
 clear h hr0
 rw [hl]
 have hmk := print_make (P := Tryz.prog) 22 3 .i64 8 Tryz.underlying22 info3 (by omega) N (by omega)
 have hn0 : decide ((N : Int) < 0) = false := by simp
 have HCELL := Za hcell
 clear hcell
 go_enter Tryz.func63, Tryz.ntmps63
 go_wp2_with fail
 refine (g8.calls 1 N 0 N _ HM.out).mono ?_
 rintro e w' ⟨rfl, ⟨nd, rfl⟩⟩
 have hg3 : ((w.drewN nd).alloc (.cells (Yf #[.int .i64 0] N) 3)).heap[w.heap.size]? = some (.cells (repCells x 0 N).toArray 3 (0, 0)) := by rw [repCells_made x N]; exact blk_new (w.drewN nd) _
 have HG3 := Za hg3
 clear hg3
 have HPOS := Za (show ∀ j v, [Yc .i64 x][j]? = some v → ((w.drewN nd).alloc (.cells (Yf #[.int .i64 0] N) 3)).cell? (ad.add j) = some v from fun j v hj => by
  match j, hj with
  | 0, hj =>
   obtain rfl : Yc .i64 x = v := by simpa using hj
   exact pw_cell_below (Below.alloc (Zk _ _) (Zl _) _) (show (w.drewN nd).cell? (ad.add 0) = _ from HCELL.out)
  | j + 1, hj => simp at hj)
 go_wp2_with ((with_reducible refine gate_builtin (b := .copy) (xs := #[.tmp 31, .tmp 32]) rfl ?_); go_must (refine wpList_copy_splice rfl (.tmp 31) (.tmp 32) 22 22 rfl 3 Tryz.underlying22 (by kernel_rfl) (some ⟨w.heap.size, 0, none⟩) (some ad) N N 1 c0 rfl rfl w.heap.size 0 (repCells x 0 N) 3 HG3.out [.int .i64 x] (Nat.min_eq_left hN1).symm (fun _ => ⟨rfl, ad, rfl, HPOS.out⟩) (by rw [repCells_length x 0 N (Nat.zero_le _)]; exact hN1) (by intro v hv; rw [List.mem_singleton.1 hv]; rfl) w.heap.size w (below_alloc (pw_below_drewN (Zk _ _) _) _) (Zl _) ?_); intro w4 hh hb4)
 have HH := Za (show w4.heap[w.heap.size]? = some (.cells (repCells x 1 N).toArray 3 (0, 0)) from by have := hh; rw [show [Yc .i64 x] = ZN 1 (Yc .i64 x) from rfl] at this; have e := repCells_splice x 0 1 N (by omega); rw [e] at this; exact this)
 have HB4 := Za hb4
 clear hh hb4
 go_loopg [8] N (fun gg v8 w' => ∃ m : Nat, v8 = .int .i64 (m : Int) ∧ Zc (1 ≤ m ∧ m ≤ N ∧ N - m ≤ gg) ∧ Zc (w'.heap[w.heap.size]? = some (.cells (repCells x m N).toArray 3 (0, 0))) ∧ Zc (Zt w.heap.size w w'))
 case atStart => exact ⟨1, rfl, ⟨by omega⟩, HH, HB4⟩
 case round =>
  clear HH HB4 hmk HG3 HPOS
  obtain ⟨m, rfl, HM1, HH, HB⟩ := hrel
  have hm1 := HM1.out
  by_cases hlt : m < N
  ·have c1 : decide ((m : Int) < (N : Int)) = true := by simpa using hlt
   have hmN : (m : Int) ≤ (N : Int) := by omega
   have hm0 : (0 : Int) ≤ (m : Int) := by omega
   obtain ⟨j, hj⟩ : ∃ j, j = Nat.min m (N - m) := ⟨_, rfl⟩
   have ab : 1 ≤ j ∧ m + j ≤ N := by
    have h1 := HM1.out
    have h2 : Nat.min m (N - m) = m ∨ Nat.min m (N - m) = N - m := by
     rcases Nat.le_total m (N - m) with h | h
     ·exact .inl (Nat.min_eq_left h)
     exact .inr (Nat.min_eq_right h)
    have h3 : Nat.min m (N - m) ≤ m := Nat.min_le_left _ _
    have h4 : Nat.min m (N - m) ≤ N - m := Nat.min_le_right _ _
    omega
   have HJ := Za hj
   have aa := Za ab
   clear hj ab
   have hcap : (N = m) = False := by simp; omega
   go_wp2
   have HHd := Za (show wr.drew.heap[w.heap.size]? = some (.cells (repCells x m N).toArray 3 (0, 0)) from HH.out)
   have HBd := Za (below_drew1 HB.out)
   clear HH HB
   refine start_ (n := 10) (S := fun _ => True) (ds := []) #[F,F,F,F,F,F,F,F,F,F] (by kernel_rfl) rfl rfl trivial (fun _ => ?_)
   generalize wr.drew = w9 at HHd HBd ⊢
   refine pure_ (i := 0) (N := some 38) (v := ?_) (a' := ?_) #[T,F,F,F,F,F,F,F,F,F] rfl rfl (by kernel_rfl) (fun _ _ _ h => h) (Yd ⟨by rfl, ?_⟩) ?_ ?_
   rotate_left
   ·intro w'
    go_simp
    with_reducible rfl
   rotate_left
   ·simp only [Zn, sA, sZ, sS, i64_w, i32_w]
    rfl
   refine pure_ (i := 1) (N := some 39) (v := ?_) (a' := ?_) #[T,T,F,F,F,F,F,F,F,F] rfl rfl (by kernel_rfl) (fun _ _ _ h => h) (Yd ⟨by rfl, ?_⟩) ?_ ?_
   rotate_left
   ·intro w'
    go_simp
    with_reducible rfl
   rotate_left
   ·simp only [Zn, sA, sZ, sS, i64_w, i32_w]
    rfl
   refine pure_ (i := 2) (N := some 40) (v := ?_) (a' := ?_) #[T,T,T,F,F,F,F,F,F,F] rfl rfl (by kernel_rfl) (fun _ _ _ h => h) (Yd ⟨by rfl, ?_⟩) ?_ ?_
   rotate_left
   ·intro w'
    go_simp
    with_reducible rfl
   rotate_left
   ·simp only [Zn, sA, sZ, sS, i64_w, i32_w]
    rfl
   refine pure_ (i := 4) (N := some 42) (v := ?_) (a' := ?_) #[T,T,T,F,T,F,F,F,F,F] rfl rfl (by kernel_rfl) (fun _ _ _ h => h) (Yd ⟨by rfl, ?_⟩) ?_ ?_
   rotate_left
   ·intro w'
    go_simp
    with_reducible rfl
   rotate_left
   ·simp only [Zn, sA, sZ, sS, i64_w, i32_w]
    rfl
   refine pure_ (i := 5) (N := some 43) (v := ?_) (a' := ?_) #[T,T,T,F,T,T,F,F,F,F] rfl rfl (by kernel_rfl) (fun _ _ _ h => h) (Yd ⟨by rfl, ?_⟩) ?_ ?_
   rotate_left
   ·intro w'
    go_simp
    with_reducible rfl
   rotate_left
   ·simp only [Zn, sA, sZ, sS, i64_w, i32_w]
    rfl
   refine pure_ (i := 3) (N := some 41) (v := ?_) (a' := ?_) #[T,T,T,T,T,T,F,F,F,F] rfl rfl (by kernel_rfl) (fun _ _ _ h => h) (Yd ⟨by rfl, ?_⟩) ?_ ?_
   rotate_left
   ·intro w'
    go_simp
    with_reducible rfl
   rotate_left
   ·simp only [Zn, sA, sZ, sS, i64_w, i32_w]
    rfl
   refine pure_ (i := 6) (N := some 44) (v := ?_) (a' := ?_) #[T,T,T,T,T,T,T,F,F,F] rfl rfl (by kernel_rfl) (fun _ _ _ h => h) (Yd ⟨by rfl, ?_⟩) ?_ ?_
   rotate_left
   ·intro w'
    go_simp
    with_reducible rfl
   rotate_left
   ·simp only [Zn, sA, sZ, sS, i64_w, i32_w]
    rfl
   refine one_ (i := 7) (N := some 45) #[T,T,T,T,T,T,T,T,F,F] rfl rfl (by kernel_rfl) (by decide) (fun K hK => ?_)
   refine step_copy_splice rfl (.tmp 41) (.tmp 44) 22 22 rfl 3 Tryz.underlying22 (by kernel_rfl) (some ⟨w.heap.size, m, none⟩) (some ⟨w.heap.size, 0, none⟩) (N - m) (N - m) m N ?hd ?hs w.heap.size m (repCells x m N) 3 HHd.out (ZN j (.int .i64 x)) ?hn ?hpos ?hfit ?h1 w.heap.size w HBd.out (Zl _) ?_
   case hd => simp [Act.eval, go_sem]
   case hs => simp [Act.eval, go_sem]
   case hn => rw [ZD]; exact HJ.out
   case hfit => rw [ZD, repCells_length x m N HM1.out.2.1]; exact aa.out.2
   case h1 => intro v hv; rw [(List.mem_replicate.1 hv).2]; rfl
   case hpos =>
    refine fun _ => ⟨rfl, _, rfl, fun i v hv => ?_⟩
    have hi : i < j := by have := (List.getElem?_eq_some_iff.1 hv).1; simpa using this
    have hv' : v = .int .i64 x := by rw [List.getElem?_replicate] at hv; simpa [hi] using hv.symm
    have him : i < m := Nat.lt_of_lt_of_le hi (by rw [HJ.out]; exact Nat.min_le_left _ _)
    rw [show (⟨w.heap.size, 0, none⟩ : Addr).add i = ⟨w.heap.size, i, none⟩ by (unfold Addr.add; cases i <;> simp), Zd HHd.out i, hv', List.getElem?_toArray]
    exact repCells_get x m N i him
   intro w5 hh5 hb5
   have HH5 := Za (show w5.heap[w.heap.size]? = some (.cells (repCells x (m + j) N).toArray 3 (0, 0)) from by have := hh5; rw [repCells_splice x m j N aa.out.2] at this; exact this)
   have HB5 := Za hb5
   clear hh5 hb5
   refine hK.out _ _ trivial (fun _ => ?_)
   clear hK K
   rw [ZD]
   have hw1 : Zg ((m : Int) + (j : Int)) = ((m + j : Nat) : Int) := by have := aa.out; unfold Zg; omega
   have HW1 := Za hw1
   clear hw1
   refine nM ?_
   refine pure_ (i := 8) (N := some 46) (v := ?_) (a' := ?_) #[T,T,T,T,T,T,T,T,T,F] rfl rfl (by kernel_rfl) (fun _ _ _ h => h) (Yd ⟨by rfl, ?_⟩) ?_ ?_
   rotate_left
   ·intro w'
    go_simp
    with_reducible rfl
   rotate_left
   ·simp only [Zn, sA, sZ, sS, i64_w, i32_w]
    rfl
   refine pure_ (i := 9) (N := some 8) (v := ?_) (a' := ?_) #[T,T,T,T,T,T,T,T,T,T] rfl rfl (by kernel_rfl) (fun _ _ _ h => h) (Yd ⟨by rfl, ?_⟩) ?_ ?_
   rotate_left
   ·intro w'
    go_simp
    with_reducible rfl
   rotate_left
   ·simp only [Zn, sA, sZ, sS, i64_w, i32_w]
    rfl
   refine done_ (by kernel_rfl) ?_
   try go_wp2
   go_roundg (gk - 1)
   case measure => have := HM1.out; have := aa.out; omega
   case rel => exact ⟨m + j, by rw [HW1.out], ⟨by have := HM1.out; have := aa.out; omega⟩, HH5, HB5⟩
  have c1 : decide ((m : Int) < (N : Int)) = false := by simpa using hlt
  obtain rfl : m = N := by omega
  go_wp2
  go_ret
  refine ⟨.slice (some ⟨w.heap.size, 0, none⟩) m m, rfl, ?_, HB.out⟩
  rw [← HRES.out]
  have hcs : repCells x m m = (ZN m x).map (Yc .i64) := by simp [repCells]
  have hh := HH.out
  rw [hcs] at hh
  have hr := R_scalar_of_block (enc := Yc .i64) (h1 := fun _ => rfl) (base := w.heap.size) (ok := fun _ => True) (ZN m x) hh (Zl _) (by rw [ZD]; unfold maxLen; omega) trivial
  rw [ZD] at hr
  exact hr
def gF.f (a0 : Int) (a1 : Int) : Option (Int × List Int × Bool) := (fU.f a0 1 9).bind fun aa => (if aa = true then ((fU.f a1 1 a0).bind fun ab => (if ab = true then ((gV.f (([1] : List Int)) a0).bind fun ac => (some (a1, ac, true))) else (some (0, ([] : List Int), false)))) else (some (0, ([] : List Int), false)))
theorem gF.calls (a0 : Int) (a1 : Int) (r1 : Int) (r2 : List Int) (r3 : Bool) (w : ZG) (h : gF.f a0 a1 = some (r1, r2, r3)) :
  ZM Tryz.prog 20 #[.int .i64 a0, .int .i64 a1] w fun e w' => ∃ v1_ : ZB, e = .returned (.tuple #[.agg #[.int .i64 r1, v1_], .bool r3]) ∧ Kd.R (Zf .i64) 3 w' w.heap.size (fun _ => True) v1_ r2 ∧ Zt w.heap.size w w' := by
 have hu24 := Tryz.underlying24
 have HB := Za (Zk w.heap.size w)
 have H := h
 unfold gF.f at H
 clear h
 replace H := oA H
 obtain ⟨aH, A3, H⟩ := H
 (try dsimp only at H)
 by_cases c4 : aH = true
 rotate_left
 ·replace c4 := Bool.eq_false_iff.mpr c4
  subst c4
  replace H := iF H
  simp only [Zi, Zr] at H
  obtain ⟨rfl, rfl, rfl⟩ := H
  go_enter Tryz.func20, Tryz.ntmps20
  go_wp2_with (first | ((with_reducible refine Zu (N := 4) rfl ?_); refine xE (N := 4) (cs := #[.int .i64 0, .slice none 0 0]) (t := 24) ?_; intro ab hg aw aa hb; have ax : Zc (w.heap.size ≤ ab) := gT hg; have ae : Zc (w.heap.size ≤ ab) := gT hg; replace HB := sQ hb; clear hb hg) | ((with_reducible refine Zq (f := 35) rfl ?_); refine gL 7 Tryz.func35 #[.int .i64 a0, .int .i64 1, .int .i64 9] ?_; (with_reducible refine (fU.calls a0 1 9 false _ A3.out).mono ?_); rintro e w' ⟨rfl, ⟨nd, rfl⟩⟩; refine ⟨_, rfl, ?_⟩; (try (rw [drewN_self aw]; generalize hq_ : Ye aw _ = aw; have n0_ : Zc (aw.heap[ab]? = some (.cells #[.int .i64 0, .slice none 0 0] 24 (0, 0))) := ⟨by rw [← hq_]; exact (bQ aa)⟩; have n1_ : Zc (Zt w.heap.size w aw) := ⟨by rw [← hq_]; exact (by repeat (first | exact HB.out | apply ba | apply bd | apply be | refine bs ?_ ae.out))⟩; clear aa HB hq_; have aa := n0_; have HB := n1_; clear n0_ n1_)); (try clear ai aj ak al); obtain ⟨aC, aD, aE, aG⟩ := zZ aa))
  refine Zz (ZJ rfl _ _ ab 24 #[.int .i64 0, .slice none 0 0] (0, 0) _ rfl (by (with_reducible repeat (first | refine kN ?_ _ | refine kD ?_ | refine kA ?_ _)); refine Zw (cs := #[.int .i64 0, .slice none 0 0]) ?_ 1 _ rfl; (with_reducible repeat (first | refine kN ?_ _ | refine kD ?_ | refine kA ?_ _)); refine Zw (cs := #[.int .i64 0, .slice none 0 0]) ?_ 0 _ rfl; (with_reducible repeat (first | refine kN ?_ _ | refine kD ?_ | refine kA ?_ _)); exact aa.out) Tryz.underlying24 rfl (by kernel_rfl)) rfl ?_
  exact ⟨_, fR, by first | exact Z1 _ _ _ _ _ | exact Kd.N_nil _ _ _ _ _ | exact Kd.V_nil _ _ _ _ _ | exact Kd.Q_nil _ _ _ _ _ | exact Kd.S_nil _ _ _ _ _, wB⟩
 subst c4
 replace H := iT H
 replace H := oA H
 obtain ⟨ay, A5, H⟩ := H
 (try dsimp only at H)
 have aQ := Za H
 clear H
 go_enter Tryz.func20, Tryz.ntmps20
 go_upto_if 14 with (first | ((with_reducible refine Zu (N := 4) rfl ?_); refine xE (N := 4) (cs := #[.int .i64 0, .slice none 0 0]) (t := 24) ?_; intro ab hg w8 aa hb; have ax := gS hg HB; have ae := gS hg HB; replace HB := sB HB hb; clear hb hg) | ((with_reducible refine Zq (f := 35) rfl ?_); refine gL 7 Tryz.func35 #[.int .i64 a0, .int .i64 1, .int .i64 9] ?_; (with_reducible refine (fU.calls a0 1 9 true _ A3.out).mono ?_); rintro e w' ⟨rfl, ⟨nd, rfl⟩⟩; refine ⟨_, rfl, ?_⟩; (try (rw [drewN_self w8]; generalize hq_ : Ye w8 _ = w8; have n0_ : Zc (w8.heap[ab]? = some (.cells #[.int .i64 0, .slice none 0 0] 24 (0, 0))) := ⟨by rw [← hq_]; exact aa.out⟩; have n1_ : Zc (Zt w.heap.size w w8) := ⟨by rw [← hq_]; exact HB.out⟩; clear aa HB hq_; have aa := n0_; have HB := n1_; clear n0_ n1_))) | (go_at_call 35; (with_reducible refine (fU.calls a1 1 a0 ay _ A5.out).mono ?_); rintro e w' ⟨rfl, ⟨nd, rfl⟩⟩; (try (rw [drewN_self w8]; generalize hq_ : Ye w8 _ = w8; have n0_ : Zc (w8.heap[ab]? = some (.cells #[.int .i64 0, .slice none 0 0] 24 (0, 0))) := ⟨by rw [← hq_]; exact (bQ aa)⟩; have n1_ : Zc (Zt w.heap.size w w8) := ⟨by rw [← hq_]; exact (by repeat (first | exact HB.out | apply ba | apply bd | apply be | refine bs ?_ ae.out))⟩; clear aa HB hq_; have aa := n0_; have HB := n1_; clear n0_ n1_))))
 have H := aQ.out
 clear aQ
 by_cases c6 : ay = true
 rotate_left
 ·replace c6 := Bool.eq_false_iff.mpr c6
  subst c6
  replace H := iF H
  simp only [Zi, Zr] at H
  obtain ⟨rfl, rfl, rfl⟩ := H
  (try clear am0 an0 ao ap)
  obtain ⟨ai, aj, ak, al⟩ := zZ aa
  go_wp2_with (fail)
  refine Zz (ZJ rfl _ _ ab 24 #[.int .i64 0, .slice none 0 0] (0, 0) _ rfl (by (with_reducible repeat (first | refine kN ?_ _ | refine kD ?_ | refine kA ?_ _)); refine Zw (cs := #[.int .i64 0, .slice none 0 0]) ?_ 1 _ rfl; (with_reducible repeat (first | refine kN ?_ _ | refine kD ?_ | refine kA ?_ _)); refine Zw (cs := #[.int .i64 0, .slice none 0 0]) ?_ 0 _ rfl; (with_reducible repeat (first | refine kN ?_ _ | refine kD ?_ | refine kA ?_ _)); exact aa.out) Tryz.underlying24 rfl (by kernel_rfl)) rfl ?_
  exact ⟨_, fR, by first | exact Z1 _ _ _ _ _ | exact Kd.N_nil _ _ _ _ _ | exact Kd.V_nil _ _ _ _ _ | exact Kd.Q_nil _ _ _ _ _ | exact Kd.S_nil _ _ _ _ _, wB⟩
 subst c6
 replace H := iT H
 obtain ⟨av, af⟩ : ∃ y_ : List Int, y_ = (([1] : List Int)) := ⟨_, rfl⟩
 replace H : ((gV.f av a0).bind fun ag => (some (a1, ag, true))) = some (r1, r2, r3) := by first | (rw [af]; with_reducible exact H) | (have H2_ := (Zm _ _).symm.trans H; rw [af]; with_reducible exact H2_) | (have H2_ := (Zm _ _).symm.trans H; with_reducible exact H2_) | with_reducible exact H | (rw [af]; exact H) | exact H
 have aq := Za af
 clear af
 replace H := oA H
 obtain ⟨ag, A7, H⟩ := H
 (try dsimp only at H)
 simp only [Zi, Zr] at H
 obtain ⟨rfl, rfl, rfl⟩ := H
 go_wp2_with (first | ((with_reducible refine Zu (N := 17) rfl ?_); refine Kd.R_lit (Zf .i64) _ 3 ?hg (N := 17) ?hd (xs := ([1] : List Int)) (inner := [.int .i64 1]) (ok := fun _ => True) (okp := fun _ => True) ?hr ?hp (fun _ hk => hk) trivial (Zk _ _) (Zl _) (by simp) ?_; (case hd => rfl); (case hg => rfl); (case hr => first | (go_simp; done) | (go_simp; rfl)); (case hp => exact (Reps.one (show Kd.M (Zf .i64) _ _ _ 1 [.int .i64 1] from rfl) (ZU _ _))); intro aT w9 ah hb hg_ hnew_; clear hg_ hnew_; (first | rw [← aq.out] at ah | (simp only [ZE] at ah; rw [← aq.out] at ah)); have ac := Za (Zs ah (Ze (by repeat (first | exact HB.out | apply ba | apply bd | apply be | refine bs ?_ ae.out)))); replace aa := bP aa hb; replace HB := sQ hb; clear hb ah; obtain ⟨aI, aJ, aK⟩ := Zx ac.out; subst aK) | ((with_reducible refine Zq (f := 63) rfl ?_); refine gL 19 Tryz.func63 #[.slice aI av.length aJ, .int .i64 a0] ?_; (with_reducible refine (gV.calls _ _ av a0 ag _ ?side1 ?side2 A7.out).mono ?_); (case side1 => have hx_ := (ZH ac.out).2.2; exact cC); (case side2 => exact (ZH ac.out).2.1); rintro e aV ⟨aU, rfl, aM, hb⟩; refine ⟨_, rfl, ?_⟩; have au := Za (Zs (Kd.R_new' aM (ZZ (rQ ac))) (Ze (by repeat (first | exact HB.out | apply ba | apply bd | apply be | refine bs ?_ ae.out)))); replace ac := rE ac (Z0 aM) hb; replace aa := bP aa hb; replace HB := sQ hb; (try clear hb); (try clear aM); obtain ⟨az, aA, aN⟩ := Zx au.out; subst aN; obtain ⟨am0, an0, ao, ap⟩ := zZ aa))
 refine Zz (ZJ rfl _ _ ab 24 #[.int .i64 a1, .slice az ag.length aA] (0, 0) _ rfl (by (with_reducible repeat (first | refine kN ?_ _ | refine kD ?_ | refine kA ?_ _)); refine Zw (cs := #[.int .i64 a1, .slice none 0 0]) ?_ 1 _ rfl; (with_reducible repeat (first | refine kN ?_ _ | refine kD ?_ | refine kA ?_ _)); refine Zw (cs := #[.int .i64 0, .slice none 0 0]) ?_ 0 _ rfl; (with_reducible repeat (first | refine kN ?_ _ | refine kD ?_ | refine kA ?_ _)); exact aa.out) Tryz.underlying24 rfl (by kernel_rfl)) rfl ?_
 exact ⟨_, fR, by (with_reducible repeat (first | apply qA | apply qN | apply qD)); exact Zp (ZI (p := ⟨ab, 1, none⟩) (ZI (p := ⟨ab, 0, none⟩) (ZR au.out aa.out (by decide)) (fun _ hk => hk.2) (.int .i64 a1)) (fun _ hk => hk.2) (.slice az ag.length aA)) (fun _ hk => trivial), wB⟩
mutual
def fG.j0 : Nat → Int → Int → Bool → Option (Int × List Int × Bool)
 | 0, _, _, _ => none
 | k + 1, x0, x1, ac => if ac = true then (some (0, ([] : List Int), false)) else (fG.l0 k x0 x1 ([] : List Int))
def fG.l0 : Nat → Int → Int → List Int → Option (Int × List Int × Bool)
 | 0, _, _, _ => none
 | k + 1, x0, ab, aa => if x0 > 0 then (if aa.length < 17592186044416 then (fG.l0 k (Zg (x0 - 1)) ab (aa ++ [1])) else (none)) else (some (ab, aa, true))
end
def fG.f (k : Nat) (a0 : Int) (a1 : Int) : Option (Int × List Int × Bool) := (fB.f a0 1 9).bind fun aa => (if aa = true then ((fB.f a1 1 a0).bind fun ab => (fG.j0 k a0 a1 (!ab))) else (fG.j0 k a0 a1 true))
theorem fG.calls (k : Nat) (a0 : Int) (a1 : Int) (r1 : Int) (r2 : List Int) (r3 : Bool) (w : ZG) (h : fG.f k a0 a1 = some (r1, r2, r3)) :
  ZM Tryz.prog 21 #[.int .i64 a0, .int .i64 a1] w fun e w' => ∃ v1_ : ZB, e = .returned (.tuple #[.agg #[.int .i64 r1, v1_], .bool r3]) ∧ Kd.R (Zf .i64) 3 w' w.heap.size (fun _ => True) v1_ r2 ∧ Zt w.heap.size w w' := by
 have hu24 := Tryz.underlying24
 have HB := Za (Zk w.heap.size w)
 have H := h
 unfold fG.f at H
 clear h
 have bg := Za H
 clear H
 go_enter Tryz.func21, Tryz.ntmps21
 go_upto_region 1 with (first | ((with_reducible refine Zu (N := 4) rfl ?_); refine xE (N := 4) (cs := #[.int .i64 0, .slice none 0 0]) (t := 24) ?_; intro ah hg w4 ab hb; have bl := gS hg HB; have bm := gS hg HB; replace HB := sB HB hb; clear hb hg))
 (try simp only [Zn, sA, sZ, sS])
 go_cut [15] (fun bA wc => ∃ (kq : Nat) (ak : Bool), bA = .bool ak ∧ Zc (fG.j0 kq a0 a1 ak = some (r1, r2, r3)) ∧ Zc (kq ≤ k) ∧ Zc (wc.heap[ah]? = some (.cells #[.int .i64 0, (.slice none 0 0)] 24 (0, 0))) ∧ Zc (Zt w.heap.size w wc))
 case first =>
  have H := bg.out
  clear bg
  replace H := oA H
  obtain ⟨bh, A5, H⟩ := H
  (try dsimp only at H)
  by_cases c6 : bh = true
  rotate_left
  ·replace c6 := Bool.eq_false_iff.mpr c6
   subst c6
   replace H := iF H
   have H' := Za H
   clear H
   go_wp2_with (first | ((with_reducible refine Zq (f := 38) rfl ?_); refine gL 8 Tryz.func38 #[.int .i64 a0, .int .i64 1, .int .i64 9] ?_; (with_reducible refine (fB.calls a0 1 9 false _ A5.out).mono ?_); rintro e w' ⟨rfl, ⟨nd, rfl⟩⟩; refine ⟨_, rfl, ?_⟩))
   go_meet
   case rel => exact ⟨_, (true), gR, H', ⟨by first | omega | exact Zl _⟩, ⟨bQ ab⟩, ⟨wB⟩⟩
  subst c6
  replace H := iT H
  replace H := oA H
  obtain ⟨aK, A7, H⟩ := H
  (try dsimp only at H)
  have H' := Za H
  clear H
  go_wp2_with (first | ((with_reducible refine Zq (f := 38) rfl ?_); refine gL 8 Tryz.func38 #[.int .i64 a0, .int .i64 1, .int .i64 9] ?_; (with_reducible refine (fB.calls a0 1 9 true _ A5.out).mono ?_); rintro e w' ⟨rfl, ⟨nd, rfl⟩⟩; refine ⟨_, rfl, ?_⟩) | (go_at_call 38; (with_reducible refine (fB.calls a1 1 a0 aK _ A7.out).mono ?_); rintro e w' ⟨rfl, ⟨nd, rfl⟩⟩))
  go_meet
  case rel => exact ⟨_, (!aK), gR, H', ⟨by first | omega | exact Zl _⟩, ⟨bQ ab⟩, ⟨wB⟩⟩
 case rest =>
  clear bg
  (try clear c2); (try clear p2); (try clear c3); (try clear c6)
  obtain ⟨kq, ak, rfl, HA, bn, ab, HB⟩ := hcut
  cases kq with
  | zero => exact absurd HA.out (by simp [fG.j0])
  | succ bo =>
   have H := HA.out
   clear HA
   simp only [fG.j0] at H
   by_cases c8 : ak = true
   ·subst c8
    replace H := iT H
    simp only [Zi, Zr] at H
    obtain ⟨rfl, rfl, rfl⟩ := H
    obtain ⟨aE, aG, aH, aI⟩ := zZ ab
    go_wp2
    refine Zz (ZJ rfl _ _ ah 24 #[.int .i64 0, .slice none 0 0] (0, 0) _ rfl (by refine Zw (cs := #[.int .i64 0, .slice none 0 0]) ?_ 1 _ rfl; refine Zw (cs := #[.int .i64 0, .slice none 0 0]) ?_ 0 _ rfl; exact ab.out) Tryz.underlying24 rfl (by kernel_rfl)) rfl ?_
    exact ⟨_, fR, by first | exact Z1 _ _ _ _ _ | exact Kd.N_nil _ _ _ _ _ | exact Kd.V_nil _ _ _ _ _ | exact Kd.Q_nil _ _ _ _ _ | exact Kd.S_nil _ _ _ _ _, wB⟩
   replace c8 := Bool.eq_false_iff.mpr c8
   subst c8
   replace H := iF H
   have H' := Za H
   clear H
   go_wp2_with (first | ((with_reducible refine Zu (N := 6) rfl ?_); refine xE (N := 6) (cs := #[.int .i64 0, .slice none 0 0]) (t := 24) ?_; intro al hg bE af hb; have bq := gS hg HB; have br := gS hg HB; have ac := nL hg (Zy ab.out); have ag := nG hg (Zy ab.out); replace ab := bB ab hb; replace HB := sB HB hb; clear hb hg; have bt := ag.out; have bu := ac.out; (try clear aE aG aH aI); obtain ⟨am0, an0, ao, ap⟩ := zZ af))
   go_loopg [0] bo (fun kq v0 w' => ∃ (ai : Int) (aa : List Int) (u105001 : ZB), v0 = .int .i64 ai ∧ Zc (fG.l0 kq ai a1 aa = some (r1, r2, r3)) ∧ Zc (kq ≤ bo) ∧ Zc (Kd.R (Zf .i64) 3 w' w.heap.size (fun _ => True) u105001 aa) ∧ Zc (w'.heap[ah]? = some (.cells #[.int .i64 0, (.slice none 0 0)] 24 (0, 0))) ∧ Zc (w'.heap[al]? = some (.cells #[.int .i64 a1, u105001] 24 (0, 0))) ∧ Zc (Zt w.heap.size w w'))
   case atStart => exact ⟨(a0), (([] : List Int)), (.slice none 0 0), gR, H', ⟨Zl _⟩, ⟨by first | exact Z1 _ _ _ _ _ | exact Kd.N_nil _ _ _ _ _ | exact Kd.V_nil _ _ _ _ _ | exact Kd.Q_nil _ _ _ _ _ | exact Kd.S_nil _ _ _ _ _⟩, ⟨by refine blk_far ?_ ac.out _; refine blk_far ?_ ac.out _; exact ab.out⟩, ⟨by refine Zw (cs := #[.int .i64 a1, .slice none 0 0]) ?_ 1 _ rfl; refine Zw (cs := #[.int .i64 0, .slice none 0 0]) ?_ 0 _ rfl; exact af.out⟩, ⟨wB⟩⟩
   case round =>
    clear H'
    (try clear c1); (try clear c2); (try clear p2); (try clear c3); (try clear c6); (try clear c8); (try clear bF); (try clear am0); (try clear an0); (try clear ao); (try clear ap); (try clear p2)
    obtain ⟨ai, aa, u105001, rfl, HA, HK2, ae, ab, af, HB⟩ := hrel
    cases gk with
    | zero => exact absurd HA.out (by simp [fG.l0])
    | succ k2 =>
     have H := HA.out
     clear HA
     simp only [fG.l0] at H
     by_cases aJ : ai > 0
     rotate_left
     ·rw [if_neg aJ] at H
      have aM : decide (0 < ai) = false := decide_eq_false aJ
      clear aJ
      simp only [Zi, Zr] at H
      obtain ⟨rfl, rfl, rfl⟩ := H
      have bv := ag.out
      have bw := ac.out
      (try clear aq au av aw)
      obtain ⟨aX, aY, aZ, a6⟩ := zZ af
      obtain ⟨a7, a8, bb, bc⟩ := zZ ab
      obtain ⟨aN, aQ, bi⟩ := Zx ae.out
      subst bi
      go_wp2
      refine Zz (ZJ rfl _ _ ah 24 #[.int .i64 a1, .slice aN aa.length aQ] (0, 0) _ rfl (by refine Zw (cs := #[.int .i64 a1, .slice none 0 0]) ?_ 1 _ rfl; refine Zw (cs := #[.int .i64 0, .slice none 0 0]) ?_ 0 _ rfl; exact ab.out) Tryz.underlying24 rfl (by kernel_rfl)) rfl ?_
      exact ⟨_, fR, by exact Zp (ZI (p := ⟨ah, 1, none⟩) (ZI (p := ⟨ah, 0, none⟩) (ZR ae.out ab.out (by decide)) (fun _ hk => hk.2) (.int .i64 a1)) (fun _ hk => hk.2) (.slice aN aa.length aQ)) (fun _ hk => trivial), wB⟩
     rw [if_pos aJ] at H
     have aM : decide (0 < ai) = true := decide_eq_true aJ
     clear aJ
     by_cases bf : aa.length < 17592186044416
     rotate_left
     ·rw [if_neg bf] at H
      exact absurd H (by simp)
     rw [if_pos bf] at H
     have aT := Za bf
     clear bf
     obtain ⟨ax, aj⟩ : ∃ y_ : List Int, y_ = (aa ++ [1]) := ⟨_, rfl⟩
     replace H : (fG.l0 k2 (Zg (ai - 1)) a1 ax) = some (r1, r2, r3) := by first | (rw [aj]; with_reducible exact H) | (have H2_ := (Zm _ _).symm.trans H; rw [aj]; with_reducible exact H2_) | (have H2_ := (Zm _ _).symm.trans H; with_reducible exact H2_) | with_reducible exact H | (rw [aj]; exact H) | exact H
     have aU := Za aj
     clear aj
     have H' := Za H
     clear H
     have bx := ag.out
     have bz := ac.out
     obtain ⟨ay, az, aA, aC⟩ := zZ af
     go_wp2_with (first | ((with_reducible refine gate_builtin (b := .append) (xs := #[.tmp 24, .tmp 25]) rfl ?_); at_builtin; refine Kd.R_append (Zf .i64) (w0 := w) w.heap.size rfl (.tmp 24) (.tmp 25) 22 3 (.int .i64 0) 8 rfl Tryz.underlying22 info3 rfl (by decide) (by omega) u105001 aa 1 [.int .i64 1] (fun _ => True) (fun _ => False) rfl rfl ?aP (fun _ hk => hk.elim) ?aF ?aO ?aB ?aS ?aL ?_; (case aP => exact rfl); (case aB => exact HB.out); (case aF => exact (fun _ _ => trivial)); (case aO => exact ae.out); (case aS => exact (Ze HB.out)); (case aL => have := aT.out; omega); intro bC bG ho hb hg hat; rw [← aU.out] at ho; have aD := Za (ho); replace ab := Za (ZV (g := ah) (o := .cells #[.int .i64 0, .slice none 0 0] 24 (0, 0)) ab.out hg (Z3 ae.out ab.out (by decide))); replace af := Za (ZV (g := al) (o := .cells #[.int .i64 a1, u105001] 24 (0, 0)) af.out hg (Z3 ae.out af.out (by decide))); replace HB := Za (hb); clear ho hb hg hat; obtain ⟨aV, aW, bj⟩ := Zx aD.out; subst bj; (try clear ay az aA aC); obtain ⟨aq, au, av, aw⟩ := zZ af))
     go_roundg k2
     case measure => have := bn.out; have := HK2.out; omega
     case rel => exact ⟨(Zg (ai - 1)), (ax), (.slice aV ax.length aW), gR, H', ⟨by have := bn.out; have := HK2.out; omega⟩, ⟨by exact Zp (ZI (p := ⟨al, 1, none⟩) (ZR aD.out af.out (by decide)) (fun _ hk => hk.2) (.slice aV ax.length aW)) (fun _ hk => trivial)⟩, ⟨by refine blk_far ?_ ac.out _; exact ab.out⟩, ⟨by refine Zw (cs := #[.int .i64 a1, u105001]) ?_ 1 _ rfl; exact af.out⟩, ⟨wB⟩⟩
def gh.f (k : Nat) (ab : Int) (ac : List Int) (a1 : Int) (a2 : Int) : Option (Int × List Int × Bool) := (fd.f k ab ac).bind fun ag => (if ag = true then ((gr.f ac).bind fun ae => ((some (([a1] : List Int) : List Int)).bind fun af => (if ae.length + af.length < 17592186044416 then ((gy.f k (Zg (ab + a2)) (ae ++ af)).bind fun aa => (some (aa.1, aa.2.1, aa.2.2))) else (none)))) else (some (0, ([] : List Int), false)))
def gh.T3 : Bool × List (List Nat × List Nat) := (true, [([], []), ([0], [0]), ([], []), ([1, 2], [1, 2]), ([], []), ([4], [4]), ([5], [5]), ([], []), ([7], [7]), ([6, 8, 6], [6, 8]), ([3, 9], [3, 9]), ([10, 9], [10]), ([11], [11]), ([11], [11]), ([12, 11, 0, 1, 2, 3, 4, 5, 6, 7, 8, 9, 10, 11, 12, 13], [12]), ([13, 14, 0, 1, 2, 3, 4, 5, 6, 7, 8, 9, 10, 11, 12, 13, 14], [13])])
def gh.B3 : List Nat := [0, 1, 0, 7, 0, 16, 48, 0, 128, 496, 1023, 2047, 4095, 4095, 16383, 32767]
theorem gh.tab3 : rtab .any (opsOf Tryz.f64 3) = gh.T3 := by kernel_rfl
theorem gh.bits3 : waitsOk gh.T3.2 gh.B3 = true := by kernel_rfl
theorem gh.calls (k : Nat) (ai : Int) (al : Option Addr) (am0 : Nat) (ag : List Int) (a1 : Int) (a2 : Int) (r1 : Int) (r2 : List Int) (r3 : Bool) (w : ZG) (aV : Kd.C (Zf .i64) w al ag.length ag) (aW : ag.length ≤ am0) (h : gh.f k ai ag a1 a2 = some (r1, r2, r3)) :
  ZM Tryz.prog 64 #[.agg #[.int .i64 ai, .slice al ag.length am0], .int .i64 a1, .int .i64 a2] w fun e w' => ∃ v1_ : ZB, e = .returned (.tuple #[.agg #[.int .i64 r1, v1_], .bool r3]) ∧ Kd.R (Zf .i64) 3 w' w.heap.size (fun _ => True) v1_ r2 ∧ Zt w.heap.size w w' := by
 have hu24 := Tryz.underlying24
 have aw := Za aV
 have ax := Za aW
 clear aV aW
 have HB := Za (Zk w.heap.size w)
 have H := h
 unfold gh.f at H
 clear h
 replace H := oA H
 obtain ⟨bA, A4, H⟩ := H
 (try dsimp only at H)
 by_cases c5 : bA = true
 rotate_left
 ·replace c5 := Bool.eq_false_iff.mpr c5
  subst c5
  replace H := iF H
  simp only [Zi, Zr] at H
  obtain ⟨rfl, rfl, rfl⟩ := H
  go_enter Tryz.func64, Tryz.ntmps64
  go_wp2_with (first | ((with_reducible refine Zu (N := 3) rfl ?_); refine xE (N := 3) (cs := #[.int .i64 ai, .slice al ag.length am0]) (t := 24) ?_; intro aj hg bT aa hb; have bc := gS hg HB; have aX := gS hg HB; replace HB := sB HB hb; clear hb hg) | ((with_reducible refine Zu (N := 6) rfl ?_); refine xE (N := 6) (cs := #[.int .i64 0, .slice none 0 0]) (t := 24) ?_; intro af hg bU ab hb; have bf := gS hg HB; have aY := gS hg HB; have ac := nL hg (Zy aa.out); have ah := nG hg (Zy aa.out); replace aa := bB aa hb; replace HB := sB HB hb; clear hb hg; have bG := ac.out; have bH := ah.out; obtain ⟨aH, aI, aJ, aK⟩ := zZ aa) | ((with_reducible refine Zq (f := 16) rfl ?_); refine gL 9 Tryz.func16 #[.agg #[.int .i64 ai, .slice al ag.length am0]] ?_; (with_reducible refine (fd.calls k ai _ _ ag false _ (Zo aw.out HB.out) ax.out A4.out).mono ?_); rintro e bV ⟨rfl, hb⟩; refine ⟨_, rfl, ?_⟩; replace aa := bB aa hb; replace ab := bB ab hb; replace HB := sB HB hb; (try clear hb); (try clear aH aI aJ aK); obtain ⟨bq, br, bt, bu⟩ := zZ ab))
  refine Zz (ZJ rfl _ _ af 24 #[.int .i64 0, .slice none 0 0] (0, 0) _ rfl (by refine Zw (cs := #[.int .i64 0, .slice none 0 0]) ?_ 1 _ rfl; refine Zw (cs := #[.int .i64 0, .slice none 0 0]) ?_ 0 _ rfl; exact ab.out) Tryz.underlying24 rfl (by kernel_rfl)) rfl ?_
  exact ⟨_, fR, by first | exact Z1 _ _ _ _ _ | exact Kd.N_nil _ _ _ _ _ | exact Kd.V_nil _ _ _ _ _ | exact Kd.Q_nil _ _ _ _ _ | exact Kd.S_nil _ _ _ _ _, wB⟩
 subst c5
 replace H := iT H
 replace H := oA H
 obtain ⟨ao, A6, H⟩ := H
 (try dsimp only at H)
 obtain ⟨ap, aq⟩ : ∃ y_ : List Int, y_ = (([a1] : List Int)) := ⟨_, rfl⟩
 replace H : (if ao.length + ap.length < 17592186044416 then ((gy.f k (Zg (ai + a2)) (ao ++ ap)).bind fun an0 => (some (an0.1, an0.2.1, an0.2.2))) else (none)) = some (r1, r2, r3) := by first | (rw [aq]; with_reducible exact H) | (have H2_ := (Zm _ _).symm.trans H; rw [aq]; with_reducible exact H2_) | (have H2_ := (Zm _ _).symm.trans H; with_reducible exact H2_) | with_reducible exact H | (rw [aq]; exact H) | exact H
 have ay := Za aq
 clear aq
 by_cases c7 : ao.length + ap.length < 17592186044416
 rotate_left
 ·rw [if_neg c7] at H
  exact absurd H (by simp)
 rw [if_pos c7] at H
 have bC := Za c7
 clear c7
 obtain ⟨aD, au⟩ : ∃ y_ : List Int, y_ = (ao ++ ap) := ⟨_, rfl⟩
 replace H : ((gy.f k (Zg (ai + a2)) aD).bind fun an0 => (some (an0.1, an0.2.1, an0.2.2))) = some (r1, r2, r3) := by first | (rw [au]; with_reducible exact H) | (have H2_ := (Zm _ _).symm.trans H; rw [au]; with_reducible exact H2_) | (have H2_ := (Zm _ _).symm.trans H; with_reducible exact H2_) | with_reducible exact H | (rw [au]; exact H) | exact H
 have bg := Za au
 clear au
 replace H := oB H
 obtain ⟨⟨aM, a6, bE⟩, bI, H⟩ := H
 (try dsimp only at H)
 have A8 := Za bI
 clear bI
 simp only [Zi, Zr] at H
 obtain ⟨rfl, rfl, rfl⟩ := H
 go_enter Tryz.func64, Tryz.ntmps64
 try go_wp2_with (first | ((with_reducible refine Zu (N := 3) rfl ?_); refine xE (N := 3) (cs := #[.int .i64 ai, .slice al ag.length am0]) (t := 24) ?_; intro aj hg w9 aa hb; have bc := gS hg HB; have aX := gS hg HB; replace HB := sB HB hb; clear hb hg) | ((with_reducible refine Zu (N := 6) rfl ?_); refine xE (N := 6) (cs := #[.int .i64 0, .slice none 0 0]) (t := 24) ?_; intro af hg bW ab hb; have bf := gS hg HB; have aY := gS hg HB; have ac := nL hg (Zy aa.out); have ah := nG hg (Zy aa.out); replace aa := bB aa hb; replace HB := sB HB hb; clear hb hg; have bJ := ac.out; have bK := ah.out; obtain ⟨aN, aQ, aT, aU⟩ := zZ aa) | ((with_reducible refine Zq (f := 16) rfl ?_); refine gL 9 Tryz.func16 #[.agg #[.int .i64 ai, .slice al ag.length am0]] ?_; (with_reducible refine (fd.calls k ai _ _ ag true _ (Zo aw.out HB.out) ax.out A4.out).mono ?_); rintro e bO ⟨rfl, hb⟩; refine ⟨_, rfl, ?_⟩; replace aa := bB aa hb; replace ab := bB ab hb; replace HB := sB HB hb; (try clear hb)))
 replace aa := bD aa
 replace ab := bD ab
 replace HB := Za (below_drew1 HB.out)
 refine start_ (n := 16) (S := fun w' => w'.cell? ⟨aj, 0, none⟩ = some (.int .i64 ai) ∧ w'.cell? ⟨aj, 1, none⟩ = some (.slice al ag.length am0)) (ds := []) #[F,F,F,F,F,F,F,F,F,F,F,F,F,F,F,F] (by kernel_rfl) rfl rfl ⟨(Zd aa.out 0).trans rfl, (Zd aa.out 1).trans rfl⟩ (fun hHeld => ?_); refine with_tabW gh.tab3 gh.bits3 (fun HT_ HW_ => ?_)
 (try clear aN aQ aT aU)
 generalize bO.drew = bX at aa ab HB hHeld ⊢
 refine pU 0 HT_ ?_
 refine pU 2 HT_ ?_
 refine pU 4 HT_ ?_
 refine pU 7 HT_ ?_
 refine tK 1 HT_ HW_ hHeld (hy := by rintro w' ⟨s0, s1⟩; go_simp; with_reducible rfl) ?_
 refine pU 3 HT_ ?_
 refine tK 5 HT_ HW_ hHeld (hy := by rintro w' ⟨s0, s1⟩; go_simp; with_reducible rfl) ?_
 refine join_ (σ := ZB × ZB) 7 #[T,T,T,T,T,T,T,T,T,F,F,F,F,F,F,F] (fun s_ => [(18, s_.1), (20, s_.2)]) (fun s_ w' => (w'.cell? ⟨aj, 0, none⟩ = some (.int .i64 ai) ∧ w'.cell? ⟨aj, 1, none⟩ = some (.slice al ag.length am0)) ∧ (Kd.R (Zf .i64) 3 w' w.heap.size (fun k_ => nb (s_.2) k_) s_.1 ao) ∧ (Kd.R (Zf .i64) 3 w' w.heap.size (fun k_ => nb (s_.1) k_) s_.2 ap) ∧ (w'.heap[aj]? = some (.cells #[.int .i64 ai, .slice al ag.length am0] 24 (0, 0))) ∧ (w'.heap[af]? = some (.cells #[.int .i64 0, .slice none 0 0] 24 (0, 0))) ∧ (Zt w.heap.size w w')) ?_ ?_
 rotate_left
 ·intro hCont
  refine two_ (i := 6) (j := 8) (Ni := some 18) (Nj := some 20) #[T,T,T,T,T,T,T,T,F,F,F,F,F,F,F,F] #[T,T,T,T,T,T,F,T,T,F,F,F,F,F,F,F] rfl rfl rfl rfl (two_of HT_.out (by kernel_rfl)) (by decide) (by decide) (fun K hK => ?_) (fun K hK => ?_)
  ·skip
   refine gE Tryz.func45 #[.slice al ag.length am0] ?_
   with_reducible refine (gr.calls _ _ ag ao _ (Zo aw.out HB.out) ax.out A6.out).mono ?_
   rintro e bR ⟨av, rfl, aG, hb⟩
   refine ⟨_, rfl, ?_⟩
   have ak := Za (Zs aG (Ze HB.out))
   replace aa := bB aa hb
   replace ab := bB ab hb
   replace HB := sB HB hb
   (try clear hb)
   (try clear hb2)
   (try clear hk)
   (try clear hi)
   (try clear aG)
   refine hK.out _ _ ⟨(Zd aa.out 0).trans rfl, (Zd aa.out 1).trans rfl⟩ (fun hHeld => ?_)
   clear hK K
   refine nM ?_
   refine oN 8 HT_ (fun K hK => ?_)
   refine ZS (Zf .i64) _ 3 ?hg (N := 20) ?hd (xs := ([a1] : List Int)) (inner := [.int .i64 a1]) (ok := fun _ => True) (okp := fun _ => True) ?hr ?hp (fun _ hk => hk) trivial (Zk _ _) (Zl _) (by simp) ?_; (case hd => rfl); (case hg => rfl); (case hr => first | (go_simp; done) | (go_simp; rfl)); (case hp => exact (Reps.one (show Kd.M (Zf .i64) _ _ _ a1 [.int .i64 a1] from rfl) (ZU _ _)))
   intro aA bY aC hb hg_ hnew_
   clear hg_ hnew_
   (first | rw [← ay.out] at aC | (simp only [ZE] at aC; rw [← ay.out] at aC))
   have ae := Za (Zs (Kd.R_new' aC (ZZ ak.out)) (Ze HB.out))
   replace ak := rE ak (Z0 aC) hb
   replace aa := bB aa hb
   replace ab := bB ab hb
   replace HB := sB HB hb
   clear hb aC
   refine hK.out _ _ ⟨(Zd aa.out 0).trans rfl, (Zd aa.out 1).trans rfl⟩ (fun hHeld => ?_)
   clear hK K
   refine nM ?_
   exact ZQ (by simp only [Zv, Zn, sA, sZ, sS]) (hCont (av, aA) _ ⟨hHeld, (by exact Zp ak.out (fun _ hk => hk.2)), (by exact Zp ae.out (fun _ hk => hk.2)), aa.out, ab.out, HB.out⟩)
  skip
  refine ZS (Zf .i64) _ 3 ?hg (N := 20) ?hd (xs := ([a1] : List Int)) (inner := [.int .i64 a1]) (ok := fun _ => True) (okp := fun _ => True) ?hr ?hp (fun _ hk => hk) trivial (Zk _ _) (Zl _) (by simp) ?_; (case hd => rfl); (case hg => rfl); (case hr => first | (go_simp; done) | (go_simp; rfl)); (case hp => exact (Reps.one (show Kd.M (Zf .i64) _ _ _ a1 [.int .i64 a1] from rfl) (ZU _ _)))
  intro aA bR aE hb hg_ hnew_
  clear hg_ hnew_
  (first | rw [← ay.out] at aE | (simp only [ZE] at aE; rw [← ay.out] at aE))
  have ae := Za (Zs aE (Ze HB.out))
  replace aa := bB aa hb
  replace ab := bB ab hb
  replace HB := sB HB hb
  clear hb aE
  refine hK.out _ _ ⟨(Zd aa.out 0).trans rfl, (Zd aa.out 1).trans rfl⟩ (fun hHeld => ?_)
  clear hK K
  refine nM ?_
  refine oN 6 HT_ (fun K hK => ?_)
  refine gE Tryz.func45 #[.slice al ag.length am0] ?_
  with_reducible refine (gr.calls _ _ ag ao _ (Zo aw.out HB.out) ax.out A6.out).mono ?_
  rintro e bZ ⟨av, rfl, aG, hb⟩
  refine ⟨_, rfl, ?_⟩
  have ak := Za (Zs (Kd.R_new' aG (ZZ ae.out)) (Ze HB.out))
  replace ae := rE ae (Z0 aG) hb
  replace aa := bB aa hb
  replace ab := bB ab hb
  replace HB := sB HB hb
  (try clear hb)
  (try clear hb2)
  (try clear hk)
  (try clear hi)
  (try clear aG)
  refine hK.out _ _ ⟨(Zd aa.out 0).trans rfl, (Zd aa.out 1).trans rfl⟩ (fun hHeld => ?_)
  clear hK K
  refine nM ?_
  exact ZQ (by simp only [Zv, Zn, sA, sZ, sS]) (hCont (av, aA) _ ⟨hHeld, (by exact Zp ak.out (fun _ hk => hk.2)), (by exact Zp ae.out (fun _ hk => hk.2)), aa.out, ab.out, HB.out⟩)
 rintro ⟨av, aA⟩ a7 ⟨hS_, h0_, h1_, h2_, h3_, h4_⟩
 have n0_ : Zc (Kd.R (Zf .i64) 3 a7 w.heap.size (fun k_ => nb aA k_) av ao) := ⟨h0_⟩
 have n1_ : Zc (Kd.R (Zf .i64) 3 a7 w.heap.size (fun k_ => nb av k_) aA ap) := ⟨h1_⟩
 have n2_ : Zc (a7.heap[aj]? = some (.cells #[.int .i64 ai, .slice al ag.length am0] 24 (0, 0))) := ⟨h2_⟩
 have n3_ : Zc (a7.heap[af]? = some (.cells #[.int .i64 0, .slice none 0 0] 24 (0, 0))) := ⟨h3_⟩
 have n4_ : Zc (Zt w.heap.size w a7) := ⟨h4_⟩
 clear aa
 clear ab
 clear HB
 clear h0_ h1_ h2_ h3_ h4_
 have ak := n0_
 have ae := n1_
 have aa := n2_
 have ab := n3_
 have HB := n4_
 clear n0_ n1_ n2_ n3_ n4_
 have hHeld : a7.cell? ⟨aj, 0, none⟩ = some (.int .i64 ai) ∧ a7.cell? ⟨aj, 1, none⟩ = some (.slice al ag.length am0) := hS_
 obtain ⟨bh, bi, bj⟩ := Zx ae.out
 (first | subst bj | (injection bj with f1_ f2_ f3_; have f4_ := f1_.symm; have f5_ := f3_.symm; clear f1_ f2_ f3_; subst f4_; subst f5_))
 refine ZQ (a' := ?_) ?_ ?_
 rotate_left
 ·simp only [Zv, Zn, sA, sZ, sS]
  rfl
 refine oN 9 HT_ (fun K hK => ?_)
 refine Kd.R_append_rows_step (Zf .i64) (w0 := w) w.heap.size (by rfl) (.tmp 18) (.tmp 20) 22 3 (.int .i64 0) 8 rfl Tryz.underlying22 info3 rfl (by decide) (by omega) av ao ap _ _ _ (fun k_ => nb (.slice bh ap.length bi) k_) (fun _ => False) rfl rfl ?aO ?aR (fun _ _ h => h) (fun _ h => h.elim) ?aF ?aB ?aS ?aL ?_
 (case aR => repeat (first | exact (ZH ae.out).2.2 | (with_reducible refine ZX ?_ _) | (with_reducible refine Kd.C_drewN ?_ _) | (with_reducible refine Kd.C_drew ?_)))
 (case aB => exact HB.out)
 (case aF => exact (fun k_ hk => Kd.fresh' (ZZ ae.out) k_ hk))
 (case aO => exact ak.out)
 (case aS => exact (Ze HB.out))
 (case aL => have := bC.out; omega)
 intro bS b5 ho hb hg hat
 rw [← bg.out] at ho
 have az := Za (ho)
 replace aa := Za (ZV (g := aj) (o := .cells #[.int .i64 ai, .slice al ag.length am0] 24 (0, 0)) aa.out hg (Z3 ak.out aa.out (by decide)))
 replace ab := Za (ZV (g := af) (o := .cells #[.int .i64 0, .slice none 0 0] 24 (0, 0)) ab.out hg (Z3 ak.out ab.out (by decide)))
 replace ae := Za (Kd.R_after (ok := (fun _ => True)) (by exact Zp ae.out (fun _ hk => ⟨trivial, hk⟩)) hg hat)
 replace HB := Za (hb)
 clear ho hb hg hat
 obtain ⟨a8, bb, bl⟩ := Zx az.out
 (first | subst bl | (injection bl with f1_ f2_ f3_; have f4_ := f1_.symm; have f5_ := f3_.symm; clear f1_ f2_ f3_; subst f4_; subst f5_))
 refine hK.out _ _ ⟨(Zd aa.out 0).trans rfl, (Zd aa.out 1).trans rfl⟩ (fun hHeld => ?_)
 clear hK K
 refine nM ?_
 refine pU 10 HT_ ?_
 refine oN 11 HT_ (fun K hK => ?_)
 refine gE Tryz.func36 #[.agg #[.int .i64 (Zg (ai + a2)), .slice a8 aD.length bb]] ?_
 with_reducible refine (gy.calls k (Zg (ai + a2)) (fun k_ => some k_ = (.slice a8 aD.length bb : ZB).ownBlock) (.slice a8 aD.length bb) aD aM a6 bE w _ ?side1 ?side2 A8.out).mono ?_
 (case side1 => repeat (first | (with_reducible first | exact HB.out | apply ba | apply bd | apply be | refine bs ?_ aX.out | refine bs ?_ aY.out) | exact HB.out))
 (case side2 => exact Kd.R_tight rfl az.out)
 rintro e bL ⟨bF, rfl, aG, hb, hkp⟩
 refine ⟨_, rfl, ?_⟩
 have aZ := Za (Zp (ok' := fun k_ => nb (.slice bh ap.length bi) k_) aG (fun k_ hk_ => Or.elim hk_ (fun hs_ => fun e_ => (((ae.out).1 k_ e_.symm).2) hs_) (fun hn_ => (Kd.fresh' (ZZ ae.out) k_ hn_))))
 replace aa := Za (blk_kept aa.out hkp (fun hs_ => (fun e_ => (Z3 az.out aa.out (by decide)) e_) hs_))
 replace ab := Za (blk_kept ab.out hkp (fun hs_ => (fun e_ => (Z3 az.out ab.out (by decide)) e_) hs_))
 replace ae := Za (Zp (ok' := fun k_ => nb bF k_) (Kd.R_keptB (ae.out) hkp (fun k_ hk_ hs_ => (hk_.2) hs_)) (fun k_ hk_ => fun e_ => Or.elim (aG.1 k_ e_.symm) (fun hs_ => hk_.2.1 hs_) (fun hn_ => Nat.not_le.2 hk_.2.2 hn_)))
 replace HB := Za (hb)
 (try clear hb)
 (try clear hkp)
 (try clear aG)
 obtain ⟨bm, bn, bo⟩ := Zx aZ.out
 (first | subst bo | (injection bo with f1_ f2_ f3_; have f4_ := f1_.symm; have f5_ := f3_.symm; clear f1_ f2_ f3_; subst f4_; subst f5_))
 refine hK.out _ _ ⟨(Zd aa.out 0).trans rfl, (Zd aa.out 1).trans rfl⟩ (fun hHeld => ?_)
 clear hK K
 refine nM ?_
 refine pU 12 HT_ ?_
 refine pU 13 HT_ ?_
 refine oN 14 HT_ (fun K hK => ?_)
 have hs23 : bL.cell? ⟨af, 0, none⟩ = some (.int .i64 0) := (Zd ab.out 0).trans rfl
 have bM := blk_frozen ab.out 0
 have bv := ac.out
 have bw := ah.out
 have hs25 : bL.cell? ⟨af, 1, none⟩ = some (.slice none 0 0) := (Zd ab.out 1).trans rfl
 have bN := blk_frozen ab.out 1
 have bx := ac.out
 have bz := ah.out
 refine skip_ (w1 := ?_) (by rfl) rfl ?_ ?_
 rotate_left
 ·go_simp
  rfl
 refine hK.out _ _ ⟨((ZO (p := ⟨af, _, none⟩) ac.out _).trans (((ZO (p := ⟨af, _, none⟩) ac.out _).trans (hHeld.1)))), ((ZO (p := ⟨af, _, none⟩) ac.out _).trans (((ZO (p := ⟨af, _, none⟩) ac.out _).trans (hHeld.2))))⟩ (fun hHeld => ?_)
 clear hK K
 refine pU 15 HT_ ?_
 refine done_ (done_of HT_.out (by kernel_rfl)) ?_
 try go_wp2
 refine Zz (ZJ rfl _ _ af 24 #[.int .i64 aM, .slice bm a6.length bn] (0, 0) _ rfl (by refine Zw (cs := #[.int .i64 aM, .slice none 0 0]) ?_ 1 _ rfl; refine Zw (cs := #[.int .i64 0, .slice none 0 0]) ?_ 0 _ rfl; exact ab.out) Tryz.underlying24 rfl (by kernel_rfl)) rfl ?_
 exact ⟨_, fR, by exact Zp (ZI (p := ⟨af, 1, none⟩) (ZI (p := ⟨af, 0, none⟩) (ZR aZ.out ab.out (by decide)) (fun _ hk => hk.2) (.int .i64 aM)) (fun _ hk => hk.2) (.slice bm a6.length bn)) (fun _ hk => trivial), wB⟩
def gl.f (k : Nat) (ac : Int) (ab : List Int) : Option (Int × List Int × Bool) := (fV.f k ab).bind fun ae => ((fV.f k ab).bind fun af => ((gh.f k ac ab ae af).bind fun aa => (some (aa.1, aa.2.1, aa.2.2))))
def gl.T1 : Bool × List (List Nat × List Nat) := (true, [([], []), ([], []), ([1], [1]), ([2], [2]), ([], []), ([4], [4]), ([5, 3], [5]), ([0, 3, 6, 6], [0, 3, 6]), ([7], [7]), ([7], [7]), ([8, 7, 0, 1, 2, 3, 4, 5, 6, 7, 8, 9], [8]), ([9, 10, 0, 1, 2, 3, 4, 5, 6, 7, 8, 9, 10], [9])])
def gl.B1 : List Nat := [0, 0, 2, 6, 0, 16, 62, 127, 255, 255, 1023, 2047]
theorem gl.tab1 : rtab .any (opsOf Tryz.f22 1) = gl.T1 := by kernel_rfl
theorem gl.bits1 : waitsOk gl.T1.2 gl.B1 = true := by kernel_rfl
theorem gl.calls (k : Nat) (aj : Int) (ah : Option Addr) (ai : Nat) (af : List Int) (r1 : Int) (r2 : List Int) (r3 : Bool) (w : ZG) (ap : Kd.C (Zf .i64) w ah af.length af) (aq : af.length ≤ ai) (h : gl.f k aj af = some (r1, r2, r3)) :
  ZM Tryz.prog 22 #[.agg #[.int .i64 aj, .slice ah af.length ai]] w fun e w' => ∃ v1_ : ZB, e = .returned (.tuple #[.agg #[.int .i64 r1, v1_], .bool r3]) ∧ Kd.R (Zf .i64) 3 w' w.heap.size (fun _ => True) v1_ r2 ∧ Zt w.heap.size w w' := by
 have hu24 := Tryz.underlying24
 have ak := Za ap
 have al := Za aq
 clear ap aq
 have HB := Za (Zk w.heap.size w)
 have H := h
 unfold gl.f at H
 clear h
 replace H := oA H
 obtain ⟨aw, A2, H⟩ := H
 (try dsimp only at H)
 replace H := oA H
 obtain ⟨ax, A3, H⟩ := H
 (try dsimp only at H)
 replace H := oB H
 obtain ⟨⟨ao, ay, aG⟩, aJ, H⟩ := H
 (try dsimp only at H)
 have A4 := Za aJ
 clear aJ
 simp only [Zi, Zr] at H
 obtain ⟨rfl, rfl, rfl⟩ := H
 go_enter Tryz.func22, Tryz.ntmps22
 try go_wp2_with (first | ((with_reducible refine Zu (N := 1) rfl ?_); refine xE (N := 1) (cs := #[.int .i64 aj, .slice ah af.length ai]) (t := 24) ?_; intro au hg w5 aa hb; have aK := gS hg HB; have am0 := gS hg HB; replace HB := sB HB hb; clear hb hg) | ((with_reducible refine Zu (N := 2) rfl ?_); refine xE (N := 2) (cs := #[.int .i64 0, .slice none 0 0]) (t := 24) ?_; intro ae hg w6 ac hb; have aM := gS hg HB; have an0 := gS hg HB; have ab := nL hg (Zy aa.out); have ag := nG hg (Zy aa.out); replace aa := bB aa hb; replace HB := sB HB hb; clear hb hg))
 replace aa := bD aa
 replace ac := bD ac
 replace HB := Za (below_drew1 HB.out)
 refine start_ (n := 12) (S := fun w' => w'.cell? ⟨au, 0, none⟩ = some (.int .i64 aj) ∧ w'.cell? ⟨au, 1, none⟩ = some (.slice ah af.length ai)) (ds := []) #[F,F,F,F,F,F,F,F,F,F,F,F] (by kernel_rfl) rfl rfl ⟨(Zd aa.out 0).trans rfl, (Zd aa.out 1).trans rfl⟩ (fun hHeld => ?_); refine with_tabW gl.tab1 gl.bits1 (fun HT_ HW_ => ?_)
 generalize w6.drew = w7 at aa ac HB hHeld ⊢
 refine pU 1 HT_ ?_
 refine pU 4 HT_ ?_
 refine tK 0 HT_ HW_ hHeld (hy := by rintro w' ⟨s0, s1⟩; go_simp; with_reducible rfl) ?_
 refine tK 2 HT_ HW_ hHeld (hy := by rintro w' ⟨s0, s1⟩; go_simp; with_reducible rfl) ?_
 refine tK 5 HT_ HW_ hHeld (hy := by rintro w' ⟨s0, s1⟩; go_simp; with_reducible rfl) ?_
 refine oN 3 HT_ (fun K hK => ?_)
 refine gE Tryz.func57 #[.slice ah af.length ai] ?_
 with_reducible refine (fV.calls k _ _ af aw _ (Zo ak.out HB.out) al.out A2.out).mono ?_
 rintro e w' ⟨rfl, ⟨nd, rfl⟩⟩
 refine ⟨_, rfl, ?_⟩
 refine hK.out _ _ ⟨(Zd aa.out 0).trans rfl, (Zd aa.out 1).trans rfl⟩ (fun hHeld => ?_)
 clear hK K
 refine nM ?_
 refine oN 6 HT_ (fun K hK => ?_)
 refine gE Tryz.func57 #[.slice ah af.length ai] ?_
 with_reducible refine (fV.calls k _ _ af ax _ ?side1 ?side2 A3.out).mono ?_
 (case side1 =>  repeat (first | exact (Zo ak.out (by repeat (first | exact HB.out | apply ba | apply bd | apply be | refine bs ?_ am0.out | refine bs ?_ an0.out))) | (with_reducible refine ZX ?_ _) | (with_reducible refine Kd.C_drewN ?_ _) | (with_reducible refine Kd.C_drew ?_)))
 (case side2 => exact al.out)
 rintro e w' ⟨rfl, ⟨nd, rfl⟩⟩
 refine ⟨_, rfl, ?_⟩
 refine hK.out _ _ ⟨(Zd aa.out 0).trans rfl, (Zd aa.out 1).trans rfl⟩ (fun hHeld => ?_)
 clear hK K
 refine nM ?_
 refine oN 7 HT_ (fun K hK => ?_)
 refine gE Tryz.func64 #[.agg #[.int .i64 aj, .slice ah af.length ai], .int .i64 aw, .int .i64 ax] ?_
 with_reducible refine (gh.calls k aj _ _ af aw ax ao ay aG _ ?side1 ?side2 A4.out).mono ?_
 (case side1 =>  repeat (first | exact (Zo ak.out (by repeat (first | exact HB.out | apply ba | apply bd | apply be | refine bs ?_ am0.out | refine bs ?_ an0.out))) | (with_reducible refine ZX ?_ _) | (with_reducible refine Kd.C_drewN ?_ _) | (with_reducible refine Kd.C_drew ?_)))
 (case side2 => exact al.out)
 rintro e w8 ⟨aT, rfl, aN, hb⟩
 refine ⟨_, rfl, ?_⟩
 have av := Za (Zs aN (Ze (by repeat (first | exact HB.out | apply ba | apply bd | apply be | refine bs ?_ am0.out | refine bs ?_ an0.out))))
 replace aa := bP aa hb
 replace ac := bP ac hb
 replace HB := sQ hb
 (try clear hb)
 (try clear hb2)
 (try clear hk)
 (try clear hi)
 (try clear aN)
 obtain ⟨az, aA, aC⟩ := Zx av.out
 (first | subst aC | (injection aC with f1_ f2_ f3_; have f4_ := f1_.symm; have f5_ := f3_.symm; clear f1_ f2_ f3_; subst f4_; subst f5_))
 refine hK.out _ _ ⟨(Zd aa.out 0).trans rfl, (Zd aa.out 1).trans rfl⟩ (fun hHeld => ?_)
 clear hK K
 refine nM ?_
 refine pU 8 HT_ ?_
 refine pU 9 HT_ ?_
 refine oN 10 HT_ (fun K hK => ?_)
 have hs9 : w8.cell? ⟨ae, 0, none⟩ = some (.int .i64 0) := (Zd ac.out 0).trans rfl
 have aU := blk_frozen ac.out 0
 have aH := ab.out
 have aI := ag.out
 have hs11 : w8.cell? ⟨ae, 1, none⟩ = some (.slice none 0 0) := (Zd ac.out 1).trans rfl
 have aQ := blk_frozen ac.out 1
 have aD := ab.out
 have aE := ag.out
 refine skip_ (w1 := ?_) (by rfl) rfl ?_ ?_
 rotate_left
 ·go_simp
  rfl
 refine hK.out _ _ ⟨((ZO (p := ⟨ae, _, none⟩) ab.out _).trans (((ZO (p := ⟨ae, _, none⟩) ab.out _).trans (hHeld.1)))), ((ZO (p := ⟨ae, _, none⟩) ab.out _).trans (((ZO (p := ⟨ae, _, none⟩) ab.out _).trans (hHeld.2))))⟩ (fun hHeld => ?_)
 clear hK K
 refine pU 11 HT_ ?_
 refine done_ (done_of HT_.out (by kernel_rfl)) ?_
 try go_wp2
 refine Zz (ZJ rfl _ _ ae 24 #[.int .i64 ao, .slice az ay.length aA] (0, 0) _ rfl (by (with_reducible repeat (first | refine kN ?_ _ | refine kD ?_ | refine kA ?_ _)); refine Zw (cs := #[.int .i64 ao, .slice none 0 0]) ?_ 1 _ rfl; (with_reducible repeat (first | refine kN ?_ _ | refine kD ?_ | refine kA ?_ _)); refine Zw (cs := #[.int .i64 0, .slice none 0 0]) ?_ 0 _ rfl; (with_reducible repeat (first | refine kN ?_ _ | refine kD ?_ | refine kA ?_ _)); exact ac.out) Tryz.underlying24 rfl (by kernel_rfl)) rfl ?_
 exact ⟨_, fR, by (with_reducible repeat (first | apply qA | apply qN | apply qD)); exact Zp (ZI (p := ⟨ae, 1, none⟩) (ZI (p := ⟨ae, 0, none⟩) (ZR av.out ac.out (by decide)) (fun _ hk => hk.2) (.int .i64 ao)) (fun _ hk => hk.2) (.slice az ay.length aA)) (fun _ hk => trivial), wB⟩
end Go.Proofs.YtaambkdiokbdgabGreat.Q
namespace Go.Proofs.YtaambkdiokbdgabGreat.Q
open Go.RowKit Go.Proofs.YtaambkdiokbdgabGreatX Go.Proofs.YtaambkdiokbdgabGreatY Go.Proofs.YtaambkdiokbdgabGreatW.PrintWords Go.Proofs.YtaambkdiokbdgabGreatW.PrintLast Go.Proofs.YtaambkdiokbdgabGreatW.PrintMore
attribute [local go_sem] max2_int min2_int max_two min_two max_three min_three max_four min_four   -- for this text's walks alone
set_option linter.unusedVariables false
set_option linter.unusedSimpArgs false
def gm.f (k : Nat) (aa : Int) (ab : List Int) : Option (Int × List Int × Bool) := (fi.f k aa ab).bind fun ah => (if ah = true then ((fq.f k ab).bind fun ac => ((fN.f ab).bind fun ae => ((some (([ac] : List Int) : List Int)).bind fun af => (if ae.length + af.length < 17592186044416 then ((some (ae ++ af : List Int)).bind fun ag => ((fi.f k (Zg (aa + ac)) ag).bind fun ai => (if ai = true then (some (Zg (aa + ac), ag, true)) else (some (0, ([] : List Int), false))))) else (none))))) else (some (0, ([] : List Int), false)))
def gm.T4 : Bool × List (List Nat × List Nat) := (true, [([], []), ([0], [0]), ([], []), ([1, 2], [1, 2]), ([], []), ([4], [4]), ([5], [5]), ([], []), ([7], [7]), ([6, 8, 6], [6, 8]), ([3, 9], [3, 9]), ([], []), ([11, 10, 9, 0, 1, 2, 3, 4, 5, 6, 7, 8, 9, 10, 11], [10, 11])])
def gm.B4 : List Nat := [0, 1, 0, 7, 0, 16, 48, 0, 128, 496, 1023, 0, 4095]
theorem gm.tab4 : rtab .any (opsOf Tryz.f23 4) = gm.T4 := by kernel_rfl
theorem gm.bits4 : waitsOk gm.T4.2 gm.B4 = true := by kernel_rfl
theorem gm.calls (k : Nat) (ai : Int) (ao : Option Addr) (ap : Nat) (al : List Int) (r1 : Int) (r2 : List Int) (r3 : Bool) (w : ZG) (bi : Kd.C (Zf .i64) w ao al.length al) (bj : al.length ≤ ap) (h : gm.f k ai al = some (r1, r2, r3)) :
  ZM Tryz.prog 23 #[.agg #[.int .i64 ai, .slice ao al.length ap]] w fun e w' => ∃ v1_ : ZB, e = .returned (.tuple #[.agg #[.int .i64 r1, v1_], .bool r3]) ∧ Kd.R (Zf .i64) 3 w' w.heap.size (fun _ => True) v1_ r2 ∧ Zt w.heap.size w w' := by
 have hu24 := Tryz.underlying24
 have aK := Za bi
 have aM := Za bj
 clear bi bj
 have HB := Za (Zk w.heap.size w)
 have H := h
 unfold gm.f at H
 clear h
 replace H := oB H
 obtain ⟨br, cu, H⟩ := H
 replace H : (if br = true then ((fq.f k al).bind fun au => ((fN.f al).bind fun aC => ((some (([au] : List Int) : List Int)).bind fun av => (if aC.length + av.length < 17592186044416 then ((some (aC ++ av : List Int)).bind fun aw => ((fi.f k (Zg (ai + au)) aw).bind fun aE => (if aE = true then (some (Zg (ai + au), aw, true)) else (some (0, ([] : List Int), false))))) else (none))))) else (some (0, ([] : List Int), false))) = some (r1, r2, r3) := H
 have A2 := Za cu
 clear cu
 by_cases c3 : br = true
 rotate_left
 ·replace c3 := Bool.eq_false_iff.mpr c3
  subst c3
  replace H := iF H
  simp only [Zi, Zr] at H
  obtain ⟨rfl, rfl, rfl⟩ := H
  go_enter Tryz.func23, Tryz.ntmps23
  go_wp2_with (first | ((with_reducible refine Zu (N := 1) rfl ?_); refine box_event ?hg (N := 1) ?hd (cs := #[.int .i64 ai, .slice ao al.length ap]) (t := 24) ?hr ?_; (case hd => rfl); (case hg => rfl); (case hr => first | (go_simp; done) | (go_simp; rfl)); intro ac hg cM hbox hb; have n0_ := sQ hb; have n1_ := Za (hbox); have n2_ := Za ((by rw [hg]; exact (Ze (wB)) : w.heap.size ≤ ac)); have n3_ := Za ((by rw [hg]; exact (Ze (wB)) : w.heap.size ≤ ac)); clear HB; have HB := n0_; have aa := n1_; have bt := n2_; have bu := n3_; clear n0_ n1_ n2_ n3_; clear hb hbox hg) | ((with_reducible refine Zu (N := 2) rfl ?_); refine box_event ?hg (N := 2) ?hd (cs := #[.int .i64 0, .slice none 0 0]) (t := 24) ?hr ?_; (case hd => rfl); (case hg => rfl); (case hr => first | (go_simp; done) | (go_simp; rfl)); intro af hg cN hbox hb; have n0_ := bP aa hb; have n1_ := sQ hb; have n2_ := Za (hbox); have n3_ := Za ((by rw [hg]; exact (Ze (wB)) : w.heap.size ≤ af)); have n4_ := Za ((by rw [hg]; exact (Ze (wB)) : w.heap.size ≤ af)); have n5_ := Za ((by rw [hg]; exact ZK (Zy (g := ac) (o := .cells #[.int .i64 ai, .slice ao al.length ap] 24 (0, 0)) (bQ aa)) : ac ≠ af)); have n6_ := Za ((by rw [hg]; exact ZL (Zy (g := ac) (o := .cells #[.int .i64 ai, .slice ao al.length ap] 24 (0, 0)) (bQ aa)) : af ≠ ac)); clear aa; clear HB; have aa := n0_; have HB := n1_; have ab := n2_; have bv := n3_; have bw := n4_; have aG := n5_; have aH := n6_; clear n0_ n1_ n2_ n3_ n4_ n5_ n6_; clear hb hbox hg; have cv := aG.out; have cw := aH.out; obtain ⟨bF, bG, bH, bI⟩ := zZ aa) | ((with_reducible refine Zq (f := 37) rfl ?_); refine gL 7 Tryz.func37 #[.agg #[.int .i64 ai, .slice ao al.length ap]] ?_; (with_reducible refine (fi.calls k ai _ _ al false _ ?side1 ?side2 A2.out).mono ?_); (case side1 => have hx_ := (Zo aK.out HB.out); exact cC); (case side2 => exact aM.out); rintro e cO ⟨rfl, hb⟩; refine ⟨_, rfl, ?_⟩; have n0_ := bP aa hb; have n1_ := bP ab hb; have n2_ := sQ hb; clear aa; clear ab; clear HB; have aa := n0_; have ab := n1_; have HB := n2_; clear n0_ n1_ n2_; (try clear hb); (try clear hb2); (try clear hk); (try clear hi); obtain ⟨bJ, bK, bL, bM⟩ := zZ ab))
  refine Zz (ZJ rfl _ _ af 24 #[.int .i64 0, .slice none 0 0] (0, 0) _ rfl (by (try refine bp ?_); refine Zw (cs := #[.int .i64 0, .slice none 0 0]) ?_ 1 _ rfl; (try refine bp ?_); refine Zw (cs := #[.int .i64 0, .slice none 0 0]) ?_ 0 _ rfl; (first | exact bp ab.out | exact ab.out)) Tryz.underlying24 rfl (by kernel_rfl)) rfl ?_
  exact ⟨_, fR, by first | exact Z1 _ _ _ _ _ | exact Kd.N_nil _ _ _ _ _ | exact Kd.V_nil _ _ _ _ _ | exact Kd.Q_nil _ _ _ _ _ | exact Kd.S_nil _ _ _ _ _, wB⟩
 subst c3
 replace H := iT H
 replace H := oB H
 obtain ⟨au, cy, H⟩ := H
 replace H : ((fN.f al).bind fun aC => ((some (([au] : List Int) : List Int)).bind fun av => (if aC.length + av.length < 17592186044416 then ((some (aC ++ av : List Int)).bind fun aw => ((fi.f k (Zg (ai + au)) aw).bind fun aE => (if aE = true then (some (Zg (ai + au), aw, true)) else (some (0, ([] : List Int), false))))) else (none)))) = some (r1, r2, r3) := H
 have A4 := Za cy
 clear cy
 replace H := oB H
 obtain ⟨aC, cz, H⟩ := H
 replace H : ((some (([au] : List Int) : List Int)).bind fun av => (if aC.length + av.length < 17592186044416 then ((some (aC ++ av : List Int)).bind fun aw => ((fi.f k (Zg (ai + au)) aw).bind fun aE => (if aE = true then (some (Zg (ai + au), aw, true)) else (some (0, ([] : List Int), false))))) else (none))) = some (r1, r2, r3) := H
 have A5 := Za cz
 clear cz
 obtain ⟨av, aT⟩ : ∃ y_ : List Int, y_ = (([au] : List Int)) := ⟨_, rfl⟩
 replace H : (if aC.length + av.length < 17592186044416 then ((some (aC ++ av : List Int)).bind fun aw => ((fi.f k (Zg (ai + au)) aw).bind fun aE => (if aE = true then (some (Zg (ai + au), aw, true)) else (some (0, ([] : List Int), false))))) else (none)) = some (r1, r2, r3) := by first | (rw [aT]; with_reducible exact H) | (have H2_ := (Zm _ _).symm.trans H; rw [aT]; with_reducible exact H2_) | (have H2_ := (Zm _ _).symm.trans H; with_reducible exact H2_) | with_reducible exact H | (rw [aT]; exact H) | exact H
 have aI := Za aT
 clear aT
 by_cases c6 : aC.length + av.length < 17592186044416
 rotate_left
 ·rw [if_neg c6] at H
  exact absurd H (by simp)
 rw [if_pos c6] at H
 have bx := Za c6
 clear c6
 obtain ⟨aw, aU⟩ : ∃ y_ : List Int, y_ = (aC ++ av) := ⟨_, rfl⟩
 replace H : ((fi.f k (Zg (ai + au)) aw).bind fun aE => (if aE = true then (some (Zg (ai + au), aw, true)) else (some (0, ([] : List Int), false)))) = some (r1, r2, r3) := by first | (rw [aU]; with_reducible exact H) | (have H2_ := (Zm _ _).symm.trans H; rw [aU]; with_reducible exact H2_) | (have H2_ := (Zm _ _).symm.trans H; with_reducible exact H2_) | with_reducible exact H | (rw [aU]; exact H) | exact H
 have bl := Za aU
 clear aU
 replace H := oB H
 obtain ⟨aE, cA, H⟩ := H
 replace H : (if aE = true then (some (Zg (ai + au), aw, true)) else (some (0, ([] : List Int), false))) = some (r1, r2, r3) := H
 have A7 := Za cA
 clear cA
 have cB := Za H
 clear H
 go_enter Tryz.func23, Tryz.ntmps23
 try go_wp2_with (first | ((with_reducible refine Zu (N := 1) rfl ?_); refine box_event ?hg (N := 1) ?hd (cs := #[.int .i64 ai, .slice ao al.length ap]) (t := 24) ?hr ?_; (case hd => rfl); (case hg => rfl); (case hr => first | (go_simp; done) | (go_simp; rfl)); intro ac hg w9 hbox hb; have n0_ := sQ hb; have n1_ := Za (hbox); have n2_ := Za ((by rw [hg]; exact (Ze (wB)) : w.heap.size ≤ ac)); have n3_ := Za ((by rw [hg]; exact (Ze (wB)) : w.heap.size ≤ ac)); clear HB; have HB := n0_; have aa := n1_; have bt := n2_; have bu := n3_; clear n0_ n1_ n2_ n3_; clear hb hbox hg) | ((with_reducible refine Zu (N := 2) rfl ?_); refine box_event ?hg (N := 2) ?hd (cs := #[.int .i64 0, .slice none 0 0]) (t := 24) ?hr ?_; (case hd => rfl); (case hg => rfl); (case hr => first | (go_simp; done) | (go_simp; rfl)); intro af hg cP hbox hb; have n0_ := bP aa hb; have n1_ := sQ hb; have n2_ := Za (hbox); have n3_ := Za ((by rw [hg]; exact (Ze (wB)) : w.heap.size ≤ af)); have n4_ := Za ((by rw [hg]; exact (Ze (wB)) : w.heap.size ≤ af)); have n5_ := Za ((by rw [hg]; exact ZK (Zy (g := ac) (o := .cells #[.int .i64 ai, .slice ao al.length ap] 24 (0, 0)) (bQ aa)) : ac ≠ af)); have n6_ := Za ((by rw [hg]; exact ZL (Zy (g := ac) (o := .cells #[.int .i64 ai, .slice ao al.length ap] 24 (0, 0)) (bQ aa)) : af ≠ ac)); clear aa; clear HB; have aa := n0_; have HB := n1_; have ab := n2_; have bv := n3_; have bw := n4_; have aG := n5_; have aH := n6_; clear n0_ n1_ n2_ n3_ n4_ n5_ n6_; clear hb hbox hg; have cD := aG.out; have cE := aH.out; obtain ⟨bN, bO, bR, bS⟩ := zZ aa) | ((with_reducible refine Zq (f := 37) rfl ?_); refine gL 7 Tryz.func37 #[.agg #[.int .i64 ai, .slice ao al.length ap]] ?_; (with_reducible refine (fi.calls k ai _ _ al true _ ?side1 ?side2 A2.out).mono ?_); (case side1 => have hx_ := (Zo aK.out HB.out); exact cC); (case side2 => exact aM.out); rintro e bm ⟨rfl, hb⟩; refine ⟨_, rfl, ?_⟩; have n0_ := bP aa hb; have n1_ := bP ab hb; have n2_ := sQ hb; clear aa; clear ab; clear HB; have aa := n0_; have ab := n1_; have HB := n2_; clear n0_ n1_ n2_; (try clear hb); (try clear hb2); (try clear hk); (try clear hi); obtain ⟨bT, bU, bV, bW⟩ := zZ aa) | ((with_reducible refine Zq (f := 54) rfl ?_); refine gL 12 Tryz.func54 #[.slice ao al.length ap] ?_; (with_reducible refine (fq.calls k _ _ al au _ ?side1 ?side2 A4.out).mono ?_); (case side1 => have hx_ := (Zo aK.out HB.out); exact cC); (case side2 => exact aM.out); rintro e w' ⟨rfl, ⟨nd, rfl⟩⟩; refine ⟨_, rfl, ?_⟩; (try (rw [drewN_self bm]; generalize hq_ : Ye bm _ = bm; have n0_ : Zc (bm.heap[ac]? = some (.cells #[.int .i64 ai, .slice ao al.length ap] 24 (0, 0))) := ⟨by rw [← hq_]; exact (bQ aa)⟩; have n1_ : Zc (bm.heap[af]? = some (.cells #[.int .i64 0, .slice none 0 0] 24 (0, 0))) := ⟨by rw [← hq_]; exact (bQ ab)⟩; have n2_ : Zc (Zt w.heap.size w bm) := ⟨by rw [← hq_]; exact (wB)⟩; clear aa ab HB hq_; have aa := n0_; have ab := n1_; have HB := n2_; clear n0_ n1_ n2_))))
 have n0_ := bD aa
 have n1_ := bD ab
 have n2_ := Za (below_drew1 HB.out)
 clear aa
 clear ab
 clear HB
 have aa := n0_
 have ab := n1_
 have HB := n2_
 clear n0_ n1_ n2_
 refine start_ (n := 13) (S := fun w' => w'.cell? ⟨ac, 0, none⟩ = some (.int .i64 ai) ∧ w'.cell? ⟨ac, 1, none⟩ = some (.slice ao al.length ap)) (ds := []) #[false, false, false, false, false, false, false, false, false, false, false, false, false] (by kernel_rfl) rfl rfl ⟨(Zd aa.out 0).trans rfl, (Zd aa.out 1).trans rfl⟩ (fun hHeld => ?_); refine with_tabW gm.tab4 gm.bits4 (fun HT_ HW_ => ?_)
 generalize bm.drew = cQ at aa ab HB hHeld ⊢
 refine pU 0 HT_ ?_
 refine pU 2 HT_ ?_
 refine pU 4 HT_ ?_
 refine pU 7 HT_ ?_
 refine tK 1 HT_ HW_ hHeld (hy := by rintro w' ⟨s0, s1⟩; go_simp; with_reducible rfl) ?_
 refine pU 3 HT_ ?_
 refine tK 5 HT_ HW_ hHeld (hy := by rintro w' ⟨s0, s1⟩; go_simp; with_reducible rfl) ?_
 refine join_ (σ := ZB × ZB × ZB × Nat) 1 #[true, true, true, true, true, true, true, true, true, true, true, true, false] (fun s_ => [(19, s_.1), (21, s_.2.1), (22, s_.2.2.1), (5, .pointer (some ⟨s_.2.2.2, 0, none⟩)), (23, .agg #[.int .i64 (Zg (ai + au)), s_.2.2.1])]) (fun s_ w' => (w'.cell? ⟨ac, 0, none⟩ = some (.int .i64 ai) ∧ w'.cell? ⟨ac, 1, none⟩ = some (.slice ao al.length ap)) ∧ (Kd.R (Zf .i64) 3 w' w.heap.size (fun k_ => nb (s_.2.2.1) k_) s_.2.1 av) ∧ (Kd.R (Zf .i64) 3 w' w.heap.size (fun k_ => nb (s_.2.1) k_) s_.2.2.1 aw) ∧ (w'.heap[ac]? = some (.cells #[.int .i64 ai, .slice ao al.length ap] 24 (0, 0))) ∧ (w'.heap[af]? = some (.cells #[.int .i64 0, .slice none 0 0] 24 (0, 0))) ∧ (w'.heap[s_.2.2.2]? = some (.cells #[.int .i64 0, .slice none 0 0] 24 (0, 0))) ∧ (w.heap.size ≤ s_.2.2.2) ∧ (w.heap.size ≤ s_.2.2.2) ∧ (ac ≠ s_.2.2.2) ∧ (s_.2.2.2 ≠ ac) ∧ (af ≠ s_.2.2.2) ∧ (s_.2.2.2 ≠ af) ∧ (Zt w.heap.size w w')) ?_ ?_
 rotate_left
 ·intro hJ6_8_9_11
  refine join_ (σ := ZB × ZB × ZB) 2 #[true, true, true, true, true, true, true, true, true, true, true, false, false] (fun s_ => [(19, s_.1), (21, s_.2.1), (22, s_.2.2), (23, .agg #[.int .i64 (Zg (ai + au)), s_.2.2])]) (fun s_ w' => (w'.cell? ⟨ac, 0, none⟩ = some (.int .i64 ai) ∧ w'.cell? ⟨ac, 1, none⟩ = some (.slice ao al.length ap)) ∧ (Kd.R (Zf .i64) 3 w' w.heap.size (fun k_ => nb (s_.2.2) k_) s_.2.1 av) ∧ (Kd.R (Zf .i64) 3 w' w.heap.size (fun k_ => nb (s_.2.1) k_) s_.2.2 aw) ∧ (w'.heap[ac]? = some (.cells #[.int .i64 ai, .slice ao al.length ap] 24 (0, 0))) ∧ (w'.heap[af]? = some (.cells #[.int .i64 0, .slice none 0 0] 24 (0, 0))) ∧ (Zt w.heap.size w w')) ?_ ?_
  rotate_left
  ·intro hJ6_8_9
   refine join_ (σ := ZB × ZB × Nat) 3 #[true, true, true, true, true, true, true, true, true, false, false, true, false] (fun s_ => [(19, s_.1), (21, s_.2.1), (5, .pointer (some ⟨s_.2.2, 0, none⟩))]) (fun s_ w' => (w'.cell? ⟨ac, 0, none⟩ = some (.int .i64 ai) ∧ w'.cell? ⟨ac, 1, none⟩ = some (.slice ao al.length ap)) ∧ (Kd.R (Zf .i64) 3 w' w.heap.size (fun k_ => nb (s_.2.1) k_) s_.1 aC) ∧ (Kd.R (Zf .i64) 3 w' w.heap.size (fun k_ => nb (s_.1) k_) s_.2.1 av) ∧ (w'.heap[ac]? = some (.cells #[.int .i64 ai, .slice ao al.length ap] 24 (0, 0))) ∧ (w'.heap[af]? = some (.cells #[.int .i64 0, .slice none 0 0] 24 (0, 0))) ∧ (w'.heap[s_.2.2]? = some (.cells #[.int .i64 0, .slice none 0 0] 24 (0, 0))) ∧ (w.heap.size ≤ s_.2.2) ∧ (w.heap.size ≤ s_.2.2) ∧ (ac ≠ s_.2.2) ∧ (s_.2.2 ≠ ac) ∧ (af ≠ s_.2.2) ∧ (s_.2.2 ≠ af) ∧ (Zt w.heap.size w w')) ?_ ?_
   rotate_left
   ·intro hJ6_8_11
    refine join_ (σ := ZB × ZB) 4 #[true, true, true, true, true, true, true, true, true, false, false, false, false] (fun s_ => [(19, s_.1), (21, s_.2)]) (fun s_ w' => (w'.cell? ⟨ac, 0, none⟩ = some (.int .i64 ai) ∧ w'.cell? ⟨ac, 1, none⟩ = some (.slice ao al.length ap)) ∧ (Kd.R (Zf .i64) 3 w' w.heap.size (fun k_ => nb (s_.2) k_) s_.1 aC) ∧ (Kd.R (Zf .i64) 3 w' w.heap.size (fun k_ => nb (s_.1) k_) s_.2 av) ∧ (w'.heap[ac]? = some (.cells #[.int .i64 ai, .slice ao al.length ap] 24 (0, 0))) ∧ (w'.heap[af]? = some (.cells #[.int .i64 0, .slice none 0 0] 24 (0, 0))) ∧ (Zt w.heap.size w w')) ?_ ?_
    rotate_left
    ·intro hJ6_8
     refine join_ (σ := ZB × Nat) 4 #[true, true, true, true, true, true, true, true, false, false, false, true, false] (fun s_ => [(19, s_.1), (5, .pointer (some ⟨s_.2, 0, none⟩))]) (fun s_ w' => (w'.cell? ⟨ac, 0, none⟩ = some (.int .i64 ai) ∧ w'.cell? ⟨ac, 1, none⟩ = some (.slice ao al.length ap)) ∧ (Kd.R (Zf .i64) 3 w' w.heap.size (fun _ => True) s_.1 aC) ∧ (w'.heap[ac]? = some (.cells #[.int .i64 ai, .slice ao al.length ap] 24 (0, 0))) ∧ (w'.heap[af]? = some (.cells #[.int .i64 0, .slice none 0 0] 24 (0, 0))) ∧ (w'.heap[s_.2]? = some (.cells #[.int .i64 0, .slice none 0 0] 24 (0, 0))) ∧ (w.heap.size ≤ s_.2) ∧ (w.heap.size ≤ s_.2) ∧ (ac ≠ s_.2) ∧ (s_.2 ≠ ac) ∧ (af ≠ s_.2) ∧ (s_.2 ≠ af) ∧ (Zt w.heap.size w w')) ?_ ?_
     rotate_left
     ·intro hJ6_11
      refine join_ (σ := ZB × Nat) 4 #[true, true, true, true, true, true, false, true, true, false, false, true, false] (fun s_ => [(21, s_.1), (5, .pointer (some ⟨s_.2, 0, none⟩))]) (fun s_ w' => (w'.cell? ⟨ac, 0, none⟩ = some (.int .i64 ai) ∧ w'.cell? ⟨ac, 1, none⟩ = some (.slice ao al.length ap)) ∧ (Kd.R (Zf .i64) 3 w' w.heap.size (fun _ => True) s_.1 av) ∧ (w'.heap[ac]? = some (.cells #[.int .i64 ai, .slice ao al.length ap] 24 (0, 0))) ∧ (w'.heap[af]? = some (.cells #[.int .i64 0, .slice none 0 0] 24 (0, 0))) ∧ (w'.heap[s_.2]? = some (.cells #[.int .i64 0, .slice none 0 0] 24 (0, 0))) ∧ (w.heap.size ≤ s_.2) ∧ (w.heap.size ≤ s_.2) ∧ (ac ≠ s_.2) ∧ (s_.2 ≠ ac) ∧ (af ≠ s_.2) ∧ (s_.2 ≠ af) ∧ (Zt w.heap.size w w')) ?_ ?_
      rotate_left
      ·intro hJ8_11
       refine join_ (σ := ZB) 5 #[true, true, true, true, true, true, true, true, false, false, false, false, false] (fun s_ => [(19, s_)]) (fun s_ w' => (w'.cell? ⟨ac, 0, none⟩ = some (.int .i64 ai) ∧ w'.cell? ⟨ac, 1, none⟩ = some (.slice ao al.length ap)) ∧ (Kd.R (Zf .i64) 3 w' w.heap.size (fun _ => True) s_ aC) ∧ (w'.heap[ac]? = some (.cells #[.int .i64 ai, .slice ao al.length ap] 24 (0, 0))) ∧ (w'.heap[af]? = some (.cells #[.int .i64 0, .slice none 0 0] 24 (0, 0))) ∧ (Zt w.heap.size w w')) ?_ ?_
       rotate_left
       ·intro hJ6
        refine join_ (σ := ZB) 5 #[true, true, true, true, true, true, false, true, true, false, false, false, false] (fun s_ => [(21, s_)]) (fun s_ w' => (w'.cell? ⟨ac, 0, none⟩ = some (.int .i64 ai) ∧ w'.cell? ⟨ac, 1, none⟩ = some (.slice ao al.length ap)) ∧ (Kd.R (Zf .i64) 3 w' w.heap.size (fun _ => True) s_ av) ∧ (w'.heap[ac]? = some (.cells #[.int .i64 ai, .slice ao al.length ap] 24 (0, 0))) ∧ (w'.heap[af]? = some (.cells #[.int .i64 0, .slice none 0 0] 24 (0, 0))) ∧ (Zt w.heap.size w w')) ?_ ?_
        rotate_left
        ·intro hJ8
         refine join_ (σ := Nat) 5 #[true, true, true, true, true, true, false, true, false, false, false, true, false] (fun s_ => [(5, .pointer (some ⟨s_, 0, none⟩))]) (fun s_ w' => (w'.cell? ⟨ac, 0, none⟩ = some (.int .i64 ai) ∧ w'.cell? ⟨ac, 1, none⟩ = some (.slice ao al.length ap)) ∧ (w'.heap[ac]? = some (.cells #[.int .i64 ai, .slice ao al.length ap] 24 (0, 0))) ∧ (w'.heap[af]? = some (.cells #[.int .i64 0, .slice none 0 0] 24 (0, 0))) ∧ (w'.heap[s_]? = some (.cells #[.int .i64 0, .slice none 0 0] 24 (0, 0))) ∧ (w.heap.size ≤ s_) ∧ (w.heap.size ≤ s_) ∧ (ac ≠ s_) ∧ (s_ ≠ ac) ∧ (af ≠ s_) ∧ (s_ ≠ af) ∧ (Zt w.heap.size w w')) ?_ ?_
         rotate_left
         ·intro hJ11
          refine three_ (i := 6) (j := 8) (k := 11) (Ni := some 19) (Nj := some 21) (Nk := some 5) #[true, true, true, true, true, true, true, true, false, false, false, false, false] #[true, true, true, true, true, true, false, true, true, false, false, false, false] #[true, true, true, true, true, true, false, true, false, false, false, true, false] rfl rfl rfl rfl rfl rfl (three_of HT_.out (by kernel_rfl)) (by decide) (by decide) (by decide) (fun K hK => ?_) (fun K hK => ?_) (fun K hK => ?_)
          ·skip
           refine gE Tryz.func49 #[.slice ao al.length ap] ?_
           with_reducible refine (fN.calls _ _ al aC _ ?side1 ?side2 A5.out).mono ?_
           (case side1 => have hx_ := (Zo aK.out HB.out); exact cC)
           (case side2 => exact aM.out)
           rintro e cF ⟨aA, rfl, aY, hb⟩
           refine ⟨_, rfl, ?_⟩
           have n0_ := Za (Zs aY (Ze (wB)))
           have n1_ := bP aa hb
           have n2_ := bP ab hb
           have n3_ := sQ hb
           clear aa
           clear ab
           clear HB
           have aq := n0_
           have aa := n1_
           have ab := n2_
           have HB := n3_
           clear n0_ n1_ n2_ n3_
           (try clear hb)
           (try clear hb2)
           (try clear hk)
           (try clear hi)
           (try clear aY)
           refine hK.out _ _ ⟨(Zd aa.out 0).trans rfl, (Zd aa.out 1).trans rfl⟩ (fun hHeld => ?_)
           clear hK K
           refine nM ?_
           exact ZQ (by first | (simp only [Zv, Zn, sA, sZ, sS]; done) | (simp only [Zv, Zn, sA, sZ, sS]; rfl)) (hJ6 (aA) _ ⟨hHeld, (rQ aq), (bQ aa), (bQ ab), (wB)⟩)
          ·skip
           refine ZS (Zf .i64) _ 3 ?hg (N := 21) ?hd (xs := ([au] : List Int)) (inner := [.int .i64 au]) (ok := fun _ => True) (okp := fun _ => True) ?hr ?hp (fun _ hk => hk) trivial (Zk _ _) (Zl _) (by simp) ?_; (case hd => rfl); (case hg => rfl); (case hr => first | (go_simp; done) | (go_simp; rfl)); (case hp => exact (Reps.one (show Kd.M (Zf .i64) _ _ _ au [.int .i64 au] from rfl) (ZU _ _)))
           intro aD cF a7 hb hg_ hnew_
           clear hg_ hnew_
           (first | rw [← aI.out] at a7 | (simp only [ZE] at a7; rw [← aI.out] at a7))
           have n0_ := Za (Zs a7 (Ze (wB)))
           have n1_ := bP aa hb
           have n2_ := bP ab hb
           have n3_ := sQ hb
           clear aa
           clear ab
           clear HB
           have am0 := n0_
           have aa := n1_
           have ab := n2_
           have HB := n3_
           clear n0_ n1_ n2_ n3_
           clear hb a7
           refine hK.out _ _ ⟨(Zd aa.out 0).trans rfl, (Zd aa.out 1).trans rfl⟩ (fun hHeld => ?_)
           clear hK K
           refine nM ?_
           exact ZQ (by first | (simp only [Zv, Zn, sA, sZ, sS]; done) | (simp only [Zv, Zn, sA, sZ, sS]; rfl)) (hJ8 (aD) _ ⟨hHeld, (rQ am0), (bQ aa), (bQ ab), (wB)⟩)
          skip
          refine box_step ?hg (N := 5) ?hd (cs := #[.int .i64 0, .slice none 0 0]) (t := 24) ?hr ?_; (case hd => rfl); (case hg => rfl); (case hr => first | (go_simp; done) | (go_simp; rfl))
          intro ae hg cF hbox hb
          have n0_ := bP aa hb
          have n1_ := bP ab hb
          have n2_ := sQ hb
          have n3_ := Za (hbox)
          have n4_ := Za ((by rw [hg]; exact (Ze (wB)) : w.heap.size ≤ ae))
          have n5_ := Za ((by rw [hg]; exact (Ze (wB)) : w.heap.size ≤ ae))
          have n6_ := Za ((by rw [hg]; exact ZK (Zy (g := ac) (o := .cells #[.int .i64 ai, .slice ao al.length ap] 24 (0, 0)) (bQ aa)) : ac ≠ ae))
          have n7_ := Za ((by rw [hg]; exact ZL (Zy (g := ac) (o := .cells #[.int .i64 ai, .slice ao al.length ap] 24 (0, 0)) (bQ aa)) : ae ≠ ac))
          have n8_ := Za ((by rw [hg]; exact ZK (Zy (g := af) (o := .cells #[.int .i64 0, .slice none 0 0] 24 (0, 0)) (bQ ab)) : af ≠ ae))
          have n9_ := Za ((by rw [hg]; exact ZL (Zy (g := af) (o := .cells #[.int .i64 0, .slice none 0 0] 24 (0, 0)) (bQ ab)) : ae ≠ af))
          clear aa
          clear ab
          clear HB
          have aa := n0_
          have ab := n1_
          have HB := n2_
          have an0 := n3_
          have ax := n4_
          have ay := n5_
          have ag := n6_
          have aj := n7_
          have ah := n8_
          have ak := n9_
          clear n0_ n1_ n2_ n3_ n4_ n5_ n6_ n7_ n8_ n9_
          clear hb hg
          refine hK.out _ _ ⟨(Zd aa.out 0).trans rfl, (Zd aa.out 1).trans rfl⟩ (fun hHeld => ?_)
          clear hK K
          refine nM ?_
          exact ZQ (by first | (simp only [Zv, Zn, sA, sZ, sS]; done) | (simp only [Zv, Zn, sA, sZ, sS]; rfl)) (hJ11 (ae) _ ⟨hHeld, (bQ aa), (bQ ab), (bQ an0), ax.out, ay.out, ag.out, aj.out, ah.out, ak.out, (wB)⟩)
         skip
         rintro ae aZ ⟨hS_, h0_, h1_, h2_, h3_, h4_, h5_, h6_, h7_, h8_, h9_⟩
         have n0_ : Zc (aZ.heap[ac]? = some (.cells #[.int .i64 ai, .slice ao al.length ap] 24 (0, 0))) := ⟨h0_⟩
         have n1_ : Zc (aZ.heap[af]? = some (.cells #[.int .i64 0, .slice none 0 0] 24 (0, 0))) := ⟨h1_⟩
         have n2_ : Zc (aZ.heap[ae]? = some (.cells #[.int .i64 0, .slice none 0 0] 24 (0, 0))) := ⟨h2_⟩
         have n3_ : Zc (w.heap.size ≤ ae) := ⟨h3_⟩
         have n4_ : Zc (w.heap.size ≤ ae) := ⟨h4_⟩
         have n5_ : Zc (ac ≠ ae) := ⟨h5_⟩
         have n6_ : Zc (ae ≠ ac) := ⟨h6_⟩
         have n7_ : Zc (af ≠ ae) := ⟨h7_⟩
         have n8_ : Zc (ae ≠ af) := ⟨h8_⟩
         have n9_ : Zc (Zt w.heap.size w aZ) := ⟨h9_⟩
         clear aa
         clear ab
         clear HB
         clear h0_ h1_ h2_ h3_ h4_ h5_ h6_ h7_ h8_ h9_
         have aa := n0_
         have ab := n1_
         have an0 := n2_
         have ax := n3_
         have ay := n4_
         have ag := n5_
         have aj := n6_
         have ah := n7_
         have ak := n8_
         have HB := n9_
         clear n0_ n1_ n2_ n3_ n4_ n5_ n6_ n7_ n8_ n9_
         have hHeld : aZ.cell? ⟨ac, 0, none⟩ = some (.int .i64 ai) ∧ aZ.cell? ⟨ac, 1, none⟩ = some (.slice ao al.length ap) := hS_
         refine ZQ (a' := ?_) ?_ ?_
         rotate_left
         ·simp only [Zv, Zn, sA, sZ, sS]
          rfl
         refine two_ (i := 6) (j := 8) (Ni := some 19) (Nj := some 21) #[true, true, true, true, true, true, true, true, false, false, false, true, false] #[true, true, true, true, true, true, false, true, true, false, false, true, false] rfl rfl rfl rfl (two_of HT_.out (by kernel_rfl)) (by decide) (by decide) (fun K hK => ?_) (fun K hK => ?_)
         ·skip
          refine gE Tryz.func49 #[.slice ao al.length ap] ?_
          with_reducible refine (fN.calls _ _ al aC _ ?side1 ?side2 A5.out).mono ?_
          (case side1 => have hx_ := (Zo aK.out HB.out); exact cC)
          (case side2 => exact aM.out)
          rintro e aN ⟨aA, rfl, aY, hb⟩
          refine ⟨_, rfl, ?_⟩
          have n0_ := Za (Zs aY (Ze (wB)))
          have n1_ := bP aa hb
          have n2_ := bP ab hb
          have n3_ := bP an0 hb
          have n4_ := sQ hb
          clear aa
          clear ab
          clear an0
          clear HB
          have aq := n0_
          have aa := n1_
          have ab := n2_
          have an0 := n3_
          have HB := n4_
          clear n0_ n1_ n2_ n3_ n4_
          (try clear hb)
          (try clear hb2)
          (try clear hk)
          (try clear hi)
          (try clear aY)
          refine hK.out _ _ ⟨(Zd aa.out 0).trans rfl, (Zd aa.out 1).trans rfl⟩ (fun hHeld => ?_)
          clear hK K
          refine nM ?_
          exact ZQ (by first | (simp only [Zv, Zn, sA, sZ, sS]; done) | (simp only [Zv, Zn, sA, sZ, sS]; rfl)) (hJ6_11 (aA, ae) _ ⟨hHeld, (rQ aq), (bQ aa), (bQ ab), (bQ an0), ax.out, ay.out, ag.out, aj.out, ah.out, ak.out, (wB)⟩)
         skip
         refine ZS (Zf .i64) _ 3 ?hg (N := 21) ?hd (xs := ([au] : List Int)) (inner := [.int .i64 au]) (ok := fun _ => True) (okp := fun _ => True) ?hr ?hp (fun _ hk => hk) trivial (Zk _ _) (Zl _) (by simp) ?_; (case hd => rfl); (case hg => rfl); (case hr => first | (go_simp; done) | (go_simp; rfl)); (case hp => exact (Reps.one (show Kd.M (Zf .i64) _ _ _ au [.int .i64 au] from rfl) (ZU _ _)))
         intro aD aN aJ hb hg_ hnew_
         clear hg_ hnew_
         (first | rw [← aI.out] at aJ | (simp only [ZE] at aJ; rw [← aI.out] at aJ))
         have n0_ := Za (Zs aJ (Ze (wB)))
         have n1_ := bP aa hb
         have n2_ := bP ab hb
         have n3_ := bP an0 hb
         have n4_ := sQ hb
         clear aa
         clear ab
         clear an0
         clear HB
         have am0 := n0_
         have aa := n1_
         have ab := n2_
         have an0 := n3_
         have HB := n4_
         clear n0_ n1_ n2_ n3_ n4_
         clear hb aJ
         refine hK.out _ _ ⟨(Zd aa.out 0).trans rfl, (Zd aa.out 1).trans rfl⟩ (fun hHeld => ?_)
         clear hK K
         refine nM ?_
         exact ZQ (by first | (simp only [Zv, Zn, sA, sZ, sS]; done) | (simp only [Zv, Zn, sA, sZ, sS]; rfl)) (hJ8_11 (aD, ae) _ ⟨hHeld, (rQ am0), (bQ aa), (bQ ab), (bQ an0), ax.out, ay.out, ag.out, aj.out, ah.out, ak.out, (wB)⟩)
        skip
        rintro aD aN ⟨hS_, h0_, h1_, h2_, h3_⟩
        have n0_ : Zc (Kd.R (Zf .i64) 3 aN w.heap.size (fun _ => True) aD av) := ⟨h0_⟩
        have n1_ : Zc (aN.heap[ac]? = some (.cells #[.int .i64 ai, .slice ao al.length ap] 24 (0, 0))) := ⟨h1_⟩
        have n2_ : Zc (aN.heap[af]? = some (.cells #[.int .i64 0, .slice none 0 0] 24 (0, 0))) := ⟨h2_⟩
        have n3_ : Zc (Zt w.heap.size w aN) := ⟨h3_⟩
        clear aa
        clear ab
        clear HB
        clear h0_ h1_ h2_ h3_
        have am0 := n0_
        have aa := n1_
        have ab := n2_
        have HB := n3_
        clear n0_ n1_ n2_ n3_
        have hHeld : aN.cell? ⟨ac, 0, none⟩ = some (.int .i64 ai) ∧ aN.cell? ⟨ac, 1, none⟩ = some (.slice ao al.length ap) := hS_
        refine ZQ (a' := ?_) ?_ ?_
        rotate_left
        ·simp only [Zv, Zn, sA, sZ, sS]
         rfl
        refine two_ (i := 6) (j := 11) (Ni := some 19) (Nj := some 5) #[true, true, true, true, true, true, true, true, true, false, false, false, false] #[true, true, true, true, true, true, false, true, true, false, false, true, false] rfl rfl rfl rfl (two_of HT_.out (by kernel_rfl)) (by decide) (by decide) (fun K hK => ?_) (fun K hK => ?_)
        ·skip
         refine gE Tryz.func49 #[.slice ao al.length ap] ?_
         with_reducible refine (fN.calls _ _ al aC _ ?side1 ?side2 A5.out).mono ?_
         (case side1 => have hx_ := (Zo aK.out HB.out); exact cC)
         (case side2 => exact aM.out)
         rintro e aQ ⟨aA, rfl, aY, hb⟩
         refine ⟨_, rfl, ?_⟩
         have n0_ := rE am0 (Z0 aY) hb
         have n1_ := Za (Zs (Kd.R_new' aY (ZZ (rQ am0))) (Ze (wB)))
         have n2_ := bP aa hb
         have n3_ := bP ab hb
         have n4_ := sQ hb
         clear am0
         clear aa
         clear ab
         clear HB
         have am0 := n0_
         have aq := n1_
         have aa := n2_
         have ab := n3_
         have HB := n4_
         clear n0_ n1_ n2_ n3_ n4_
         (try clear hb)
         (try clear hb2)
         (try clear hk)
         (try clear hi)
         (try clear aY)
         refine hK.out _ _ ⟨(Zd aa.out 0).trans rfl, (Zd aa.out 1).trans rfl⟩ (fun hHeld => ?_)
         clear hK K
         refine nM ?_
         exact ZQ (by first | (simp only [Zv, Zn, sA, sZ, sS]; done) | (simp only [Zv, Zn, sA, sZ, sS]; rfl)) (hJ6_8 (aA, aD) _ ⟨hHeld, (by (try refine rp ?_); exact Zp aq.out (fun _ hk => hk.2)), (by (try refine rp ?_); exact Zp am0.out (fun _ hk => hk.2)), (bQ aa), (bQ ab), (wB)⟩)
        skip
        refine box_step ?hg (N := 5) ?hd (cs := #[.int .i64 0, .slice none 0 0]) (t := 24) ?hr ?_; (case hd => rfl); (case hg => rfl); (case hr => first | (go_simp; done) | (go_simp; rfl))
        intro ae hg aQ hbox hb
        have n0_ := rP am0 hb
        have n1_ := bP aa hb
        have n2_ := bP ab hb
        have n3_ := sQ hb
        have n4_ := Za (hbox)
        have n5_ := Za ((by rw [hg]; exact (Ze (wB)) : w.heap.size ≤ ae))
        have n6_ := Za ((by rw [hg]; exact (Ze (wB)) : w.heap.size ≤ ae))
        have n7_ := Za ((by rw [hg]; exact ZK (Zy (g := ac) (o := .cells #[.int .i64 ai, .slice ao al.length ap] 24 (0, 0)) (bQ aa)) : ac ≠ ae))
        have n8_ := Za ((by rw [hg]; exact ZL (Zy (g := ac) (o := .cells #[.int .i64 ai, .slice ao al.length ap] 24 (0, 0)) (bQ aa)) : ae ≠ ac))
        have n9_ := Za ((by rw [hg]; exact ZK (Zy (g := af) (o := .cells #[.int .i64 0, .slice none 0 0] 24 (0, 0)) (bQ ab)) : af ≠ ae))
        have n10_ := Za ((by rw [hg]; exact ZL (Zy (g := af) (o := .cells #[.int .i64 0, .slice none 0 0] 24 (0, 0)) (bQ ab)) : ae ≠ af))
        clear am0
        clear aa
        clear ab
        clear HB
        have am0 := n0_
        have aa := n1_
        have ab := n2_
        have HB := n3_
        have an0 := n4_
        have ax := n5_
        have ay := n6_
        have ag := n7_
        have aj := n8_
        have ah := n9_
        have ak := n10_
        clear n0_ n1_ n2_ n3_ n4_ n5_ n6_ n7_ n8_ n9_ n10_
        clear hb hg
        refine hK.out _ _ ⟨(Zd aa.out 0).trans rfl, (Zd aa.out 1).trans rfl⟩ (fun hHeld => ?_)
        clear hK K
        refine nM ?_
        exact ZQ (by first | (simp only [Zv, Zn, sA, sZ, sS]; done) | (simp only [Zv, Zn, sA, sZ, sS]; rfl)) (hJ8_11 (aD, ae) _ ⟨hHeld, (rQ am0), (bQ aa), (bQ ab), (bQ an0), ax.out, ay.out, ag.out, aj.out, ah.out, ak.out, (wB)⟩)
       skip
       rintro aA aZ ⟨hS_, h0_, h1_, h2_, h3_⟩
       have n0_ : Zc (Kd.R (Zf .i64) 3 aZ w.heap.size (fun _ => True) aA aC) := ⟨h0_⟩
       have n1_ : Zc (aZ.heap[ac]? = some (.cells #[.int .i64 ai, .slice ao al.length ap] 24 (0, 0))) := ⟨h1_⟩
       have n2_ : Zc (aZ.heap[af]? = some (.cells #[.int .i64 0, .slice none 0 0] 24 (0, 0))) := ⟨h2_⟩
       have n3_ : Zc (Zt w.heap.size w aZ) := ⟨h3_⟩
       clear aa
       clear ab
       clear HB
       clear h0_ h1_ h2_ h3_
       have aq := n0_
       have aa := n1_
       have ab := n2_
       have HB := n3_
       clear n0_ n1_ n2_ n3_
       have hHeld : aZ.cell? ⟨ac, 0, none⟩ = some (.int .i64 ai) ∧ aZ.cell? ⟨ac, 1, none⟩ = some (.slice ao al.length ap) := hS_
       refine ZQ (a' := ?_) ?_ ?_
       rotate_left
       ·simp only [Zv, Zn, sA, sZ, sS]
        rfl
       refine two_ (i := 8) (j := 11) (Ni := some 21) (Nj := some 5) #[true, true, true, true, true, true, true, true, true, false, false, false, false] #[true, true, true, true, true, true, true, true, false, false, false, true, false] rfl rfl rfl rfl (two_of HT_.out (by kernel_rfl)) (by decide) (by decide) (fun K hK => ?_) (fun K hK => ?_)
       ·skip
        refine ZS (Zf .i64) _ 3 ?hg (N := 21) ?hd (xs := ([au] : List Int)) (inner := [.int .i64 au]) (ok := fun _ => True) (okp := fun _ => True) ?hr ?hp (fun _ hk => hk) trivial (Zk _ _) (Zl _) (by simp) ?_; (case hd => rfl); (case hg => rfl); (case hr => first | (go_simp; done) | (go_simp; rfl)); (case hp => exact (Reps.one (show Kd.M (Zf .i64) _ _ _ au [.int .i64 au] from rfl) (ZU _ _)))
        intro aD aN aJ hb hg_ hnew_
        clear hg_ hnew_
        (first | rw [← aI.out] at aJ | (simp only [ZE] at aJ; rw [← aI.out] at aJ))
        have n0_ := rE aq (Z0 aJ) hb
        have n1_ := Za (Zs (Kd.R_new' aJ (ZZ (rQ aq))) (Ze (wB)))
        have n2_ := bP aa hb
        have n3_ := bP ab hb
        have n4_ := sQ hb
        clear aq
        clear aa
        clear ab
        clear HB
        have aq := n0_
        have am0 := n1_
        have aa := n2_
        have ab := n3_
        have HB := n4_
        clear n0_ n1_ n2_ n3_ n4_
        clear hb aJ
        refine hK.out _ _ ⟨(Zd aa.out 0).trans rfl, (Zd aa.out 1).trans rfl⟩ (fun hHeld => ?_)
        clear hK K
        refine nM ?_
        exact ZQ (by first | (simp only [Zv, Zn, sA, sZ, sS]; done) | (simp only [Zv, Zn, sA, sZ, sS]; rfl)) (hJ6_8 (aA, aD) _ ⟨hHeld, (by (try refine rp ?_); exact Zp aq.out (fun _ hk => hk.2)), (by (try refine rp ?_); exact Zp am0.out (fun _ hk => hk.2)), (bQ aa), (bQ ab), (wB)⟩)
       skip
       refine box_step ?hg (N := 5) ?hd (cs := #[.int .i64 0, .slice none 0 0]) (t := 24) ?hr ?_; (case hd => rfl); (case hg => rfl); (case hr => first | (go_simp; done) | (go_simp; rfl))
       intro ae hg aN hbox hb
       have n0_ := rP aq hb
       have n1_ := bP aa hb
       have n2_ := bP ab hb
       have n3_ := sQ hb
       have n4_ := Za (hbox)
       have n5_ := Za ((by rw [hg]; exact (Ze (wB)) : w.heap.size ≤ ae))
       have n6_ := Za ((by rw [hg]; exact (Ze (wB)) : w.heap.size ≤ ae))
       have n7_ := Za ((by rw [hg]; exact ZK (Zy (g := ac) (o := .cells #[.int .i64 ai, .slice ao al.length ap] 24 (0, 0)) (bQ aa)) : ac ≠ ae))
       have n8_ := Za ((by rw [hg]; exact ZL (Zy (g := ac) (o := .cells #[.int .i64 ai, .slice ao al.length ap] 24 (0, 0)) (bQ aa)) : ae ≠ ac))
       have n9_ := Za ((by rw [hg]; exact ZK (Zy (g := af) (o := .cells #[.int .i64 0, .slice none 0 0] 24 (0, 0)) (bQ ab)) : af ≠ ae))
       have n10_ := Za ((by rw [hg]; exact ZL (Zy (g := af) (o := .cells #[.int .i64 0, .slice none 0 0] 24 (0, 0)) (bQ ab)) : ae ≠ af))
       clear aq
       clear aa
       clear ab
       clear HB
       have aq := n0_
       have aa := n1_
       have ab := n2_
       have HB := n3_
       have an0 := n4_
       have ax := n5_
       have ay := n6_
       have ag := n7_
       have aj := n8_
       have ah := n9_
       have ak := n10_
       clear n0_ n1_ n2_ n3_ n4_ n5_ n6_ n7_ n8_ n9_ n10_
       clear hb hg
       refine hK.out _ _ ⟨(Zd aa.out 0).trans rfl, (Zd aa.out 1).trans rfl⟩ (fun hHeld => ?_)
       clear hK K
       refine nM ?_
       exact ZQ (by first | (simp only [Zv, Zn, sA, sZ, sS]; done) | (simp only [Zv, Zn, sA, sZ, sS]; rfl)) (hJ6_11 (aA, ae) _ ⟨hHeld, (rQ aq), (bQ aa), (bQ ab), (bQ an0), ax.out, ay.out, ag.out, aj.out, ah.out, ak.out, (wB)⟩)
      skip
      rintro ⟨aD, ae⟩ aQ ⟨hS_, h0_, h1_, h2_, h3_, h4_, h5_, h6_, h7_, h8_, h9_, h10_⟩
      have n0_ : Zc (Kd.R (Zf .i64) 3 aQ w.heap.size (fun _ => True) aD av) := ⟨h0_⟩
      have n1_ : Zc (aQ.heap[ac]? = some (.cells #[.int .i64 ai, .slice ao al.length ap] 24 (0, 0))) := ⟨h1_⟩
      have n2_ : Zc (aQ.heap[af]? = some (.cells #[.int .i64 0, .slice none 0 0] 24 (0, 0))) := ⟨h2_⟩
      have n3_ : Zc (aQ.heap[ae]? = some (.cells #[.int .i64 0, .slice none 0 0] 24 (0, 0))) := ⟨h3_⟩
      have n4_ : Zc (w.heap.size ≤ ae) := ⟨h4_⟩
      have n5_ : Zc (w.heap.size ≤ ae) := ⟨h5_⟩
      have n6_ : Zc (ac ≠ ae) := ⟨h6_⟩
      have n7_ : Zc (ae ≠ ac) := ⟨h7_⟩
      have n8_ : Zc (af ≠ ae) := ⟨h8_⟩
      have n9_ : Zc (ae ≠ af) := ⟨h9_⟩
      have n10_ : Zc (Zt w.heap.size w aQ) := ⟨h10_⟩
      clear aa
      clear ab
      clear HB
      clear h0_ h1_ h2_ h3_ h4_ h5_ h6_ h7_ h8_ h9_ h10_
      have am0 := n0_
      have aa := n1_
      have ab := n2_
      have an0 := n3_
      have ax := n4_
      have ay := n5_
      have ag := n6_
      have aj := n7_
      have ah := n8_
      have ak := n9_
      have HB := n10_
      clear n0_ n1_ n2_ n3_ n4_ n5_ n6_ n7_ n8_ n9_ n10_
      have hHeld : aQ.cell? ⟨ac, 0, none⟩ = some (.int .i64 ai) ∧ aQ.cell? ⟨ac, 1, none⟩ = some (.slice ao al.length ap) := hS_
      refine ZQ (a' := ?_) ?_ ?_
      rotate_left
      ·simp only [Zv, Zn, sA, sZ, sS]
       rfl
      refine oN 6 HT_ (fun K hK => ?_)
      refine gE Tryz.func49 #[.slice ao al.length ap] ?_
      with_reducible refine (fN.calls _ _ al aC _ ?side1 ?side2 A5.out).mono ?_
      (case side1 => have hx_ := (Zo aK.out HB.out); exact cC)
      (case side2 => exact aM.out)
      rintro e a8 ⟨aA, rfl, aY, hb⟩
      refine ⟨_, rfl, ?_⟩
      have n0_ := rE am0 (Z0 aY) hb
      have n1_ := Za (Zs (Kd.R_new' aY (ZZ (rQ am0))) (Ze (wB)))
      have n2_ := bP aa hb
      have n3_ := bP ab hb
      have n4_ := bP an0 hb
      have n5_ := sQ hb
      clear am0
      clear aa
      clear ab
      clear an0
      clear HB
      have am0 := n0_
      have aq := n1_
      have aa := n2_
      have ab := n3_
      have an0 := n4_
      have HB := n5_
      clear n0_ n1_ n2_ n3_ n4_ n5_
      (try clear hb)
      (try clear hb2)
      (try clear hk)
      (try clear hi)
      (try clear aY)
      refine hK.out _ _ ⟨(Zd aa.out 0).trans rfl, (Zd aa.out 1).trans rfl⟩ (fun hHeld => ?_)
      clear hK K
      refine nM ?_
      exact ZQ (by first | (simp only [Zv, Zn, sA, sZ, sS]; done) | (simp only [Zv, Zn, sA, sZ, sS]; rfl)) (hJ6_8_11 (aA, _, ae) _ ⟨hHeld, (by (try refine rp ?_); exact Zp aq.out (fun _ hk => hk.2)), (by (try refine rp ?_); exact Zp am0.out (fun _ hk => hk.2)), (bQ aa), (bQ ab), (bQ an0), ax.out, ay.out, ag.out, aj.out, ah.out, ak.out, (wB)⟩)
     skip
     rintro ⟨aA, ae⟩ aN ⟨hS_, h0_, h1_, h2_, h3_, h4_, h5_, h6_, h7_, h8_, h9_, h10_⟩
     have n0_ : Zc (Kd.R (Zf .i64) 3 aN w.heap.size (fun _ => True) aA aC) := ⟨h0_⟩
     have n1_ : Zc (aN.heap[ac]? = some (.cells #[.int .i64 ai, .slice ao al.length ap] 24 (0, 0))) := ⟨h1_⟩
     have n2_ : Zc (aN.heap[af]? = some (.cells #[.int .i64 0, .slice none 0 0] 24 (0, 0))) := ⟨h2_⟩
     have n3_ : Zc (aN.heap[ae]? = some (.cells #[.int .i64 0, .slice none 0 0] 24 (0, 0))) := ⟨h3_⟩
     have n4_ : Zc (w.heap.size ≤ ae) := ⟨h4_⟩
     have n5_ : Zc (w.heap.size ≤ ae) := ⟨h5_⟩
     have n6_ : Zc (ac ≠ ae) := ⟨h6_⟩
     have n7_ : Zc (ae ≠ ac) := ⟨h7_⟩
     have n8_ : Zc (af ≠ ae) := ⟨h8_⟩
     have n9_ : Zc (ae ≠ af) := ⟨h9_⟩
     have n10_ : Zc (Zt w.heap.size w aN) := ⟨h10_⟩
     clear aa
     clear ab
     clear HB
     clear h0_ h1_ h2_ h3_ h4_ h5_ h6_ h7_ h8_ h9_ h10_
     have aq := n0_
     have aa := n1_
     have ab := n2_
     have an0 := n3_
     have ax := n4_
     have ay := n5_
     have ag := n6_
     have aj := n7_
     have ah := n8_
     have ak := n9_
     have HB := n10_
     clear n0_ n1_ n2_ n3_ n4_ n5_ n6_ n7_ n8_ n9_ n10_
     have hHeld : aN.cell? ⟨ac, 0, none⟩ = some (.int .i64 ai) ∧ aN.cell? ⟨ac, 1, none⟩ = some (.slice ao al.length ap) := hS_
     refine ZQ (a' := ?_) ?_ ?_
     rotate_left
     ·simp only [Zv, Zn, sA, sZ, sS]
      rfl
     refine oN 8 HT_ (fun K hK => ?_)
     refine ZS (Zf .i64) _ 3 ?hg (N := 21) ?hd (xs := ([au] : List Int)) (inner := [.int .i64 au]) (ok := fun _ => True) (okp := fun _ => True) ?hr ?hp (fun _ hk => hk) trivial (Zk _ _) (Zl _) (by simp) ?_; (case hd => rfl); (case hg => rfl); (case hr => first | (go_simp; done) | (go_simp; rfl)); (case hp => exact (Reps.one (show Kd.M (Zf .i64) _ _ _ au [.int .i64 au] from rfl) (ZU _ _)))
     intro aD aQ a6 hb hg_ hnew_
     clear hg_ hnew_
     (first | rw [← aI.out] at a6 | (simp only [ZE] at a6; rw [← aI.out] at a6))
     have n0_ := rE aq (Z0 a6) hb
     have n1_ := Za (Zs (Kd.R_new' a6 (ZZ (rQ aq))) (Ze (wB)))
     have n2_ := bP aa hb
     have n3_ := bP ab hb
     have n4_ := bP an0 hb
     have n5_ := sQ hb
     clear aq
     clear aa
     clear ab
     clear an0
     clear HB
     have aq := n0_
     have am0 := n1_
     have aa := n2_
     have ab := n3_
     have an0 := n4_
     have HB := n5_
     clear n0_ n1_ n2_ n3_ n4_ n5_
     clear hb a6
     refine hK.out _ _ ⟨(Zd aa.out 0).trans rfl, (Zd aa.out 1).trans rfl⟩ (fun hHeld => ?_)
     clear hK K
     refine nM ?_
     exact ZQ (by first | (simp only [Zv, Zn, sA, sZ, sS]; done) | (simp only [Zv, Zn, sA, sZ, sS]; rfl)) (hJ6_8_11 (aA, _, ae) _ ⟨hHeld, (by (try refine rp ?_); exact Zp aq.out (fun _ hk => hk.2)), (by (try refine rp ?_); exact Zp am0.out (fun _ hk => hk.2)), (bQ aa), (bQ ab), (bQ an0), ax.out, ay.out, ag.out, aj.out, ah.out, ak.out, (wB)⟩)
    skip
    rintro ⟨aA, aD⟩ aQ ⟨hS_, h0_, h1_, h2_, h3_, h4_⟩
    have n0_ : Zc (Kd.R (Zf .i64) 3 aQ w.heap.size (fun k_ => nb aD k_) aA aC) := ⟨h0_⟩
    have n1_ : Zc (Kd.R (Zf .i64) 3 aQ w.heap.size (fun k_ => nb aA k_) aD av) := ⟨h1_⟩
    have n2_ : Zc (aQ.heap[ac]? = some (.cells #[.int .i64 ai, .slice ao al.length ap] 24 (0, 0))) := ⟨h2_⟩
    have n3_ : Zc (aQ.heap[af]? = some (.cells #[.int .i64 0, .slice none 0 0] 24 (0, 0))) := ⟨h3_⟩
    have n4_ : Zc (Zt w.heap.size w aQ) := ⟨h4_⟩
    clear aa
    clear ab
    clear HB
    clear h0_ h1_ h2_ h3_ h4_
    have aq := n0_
    have am0 := n1_
    have aa := n2_
    have ab := n3_
    have HB := n4_
    clear n0_ n1_ n2_ n3_ n4_
    have hHeld : aQ.cell? ⟨ac, 0, none⟩ = some (.int .i64 ai) ∧ aQ.cell? ⟨ac, 1, none⟩ = some (.slice ao al.length ap) := hS_
    obtain ⟨bz, bA, bC⟩ := Zx am0.out
    (first | subst bC | (injection bC with f1_ f2_ f3_; have f4_ := f1_.symm; have f5_ := f3_.symm; clear f1_ f2_ f3_; subst f4_; subst f5_))
    refine ZQ (a' := ?_) ?_ ?_
    rotate_left
    ·simp only [Zv, Zn, sA, sZ, sS]
     rfl
    refine two_ (i := 9) (j := 11) (Ni := some 22) (Nj := some 5) #[true, true, true, true, true, true, true, true, true, true, false, false, false] #[true, true, true, true, true, true, true, true, true, false, false, true, false] rfl rfl rfl rfl (two_of HT_.out (by kernel_rfl)) (by decide) (by decide) (fun K hK => ?_) (fun K hK => ?_)
    ·skip
     refine Kd.R_append_rows_step (Zf .i64) (w0 := w) w.heap.size (by rfl) (.tmp 19) (.tmp 21) 22 3 (.int .i64 0) 8 rfl Tryz.underlying22 info3 rfl (by decide) (by omega) aA aC av _ _ _ (fun k_ => nb (.slice bz av.length bA) k_) (fun _ => False) rfl rfl ?aO ?aR (fun _ _ h => h) (fun _ h => h.elim) ?aF ?aB ?aS ?aL ?_
     (case aR => repeat (first | exact (ZH am0.out).2.2 | (with_reducible refine ZX ?_ _) | (with_reducible refine Kd.C_drewN ?_ _) | (with_reducible refine Kd.C_drew ?_)))
     (case aB => exact (wB))
     (case aF => exact (fun k_ hk => Kd.fresh' (ZZ (rQ am0)) k_ hk))
     (case aO => exact (rQ aq))
     (case aS => exact (Ze (wB)))
     (case aL => have := bx.out; omega)
     intro aW a8 ho hb hg hat
     rw [← bl.out] at ho
     have n0_ := Za (ZV (g := ac) (o := .cells #[.int .i64 ai, .slice ao al.length ap] 24 (0, 0)) (bQ aa) hg (Z3 aq.out aa.out (by decide)))
     have n1_ := Za (ZV (g := af) (o := .cells #[.int .i64 0, .slice none 0 0] 24 (0, 0)) (bQ ab) hg (Z3 aq.out ab.out (by decide)))
     have n2_ := Za (Kd.R_after (ok := (fun _ => True)) (by (try refine rp ?_); exact Zp am0.out (fun _ hk => ⟨trivial, hk⟩)) hg hat)
     have n3_ := Za (hb)
     have n4_ := Za (ho)
     clear aa
     clear ab
     clear am0
     clear HB
     clear aq
     have aa := n0_
     have ab := n1_
     have am0 := n2_
     have HB := n3_
     have az := n4_
     clear n0_ n1_ n2_ n3_ n4_
     clear ho hb hg hat
     obtain ⟨bg, bh, bb⟩ := Zx az.out
     (first | subst bb | (injection bb with f1_ f2_ f3_; have f4_ := f1_.symm; have f5_ := f3_.symm; clear f1_ f2_ f3_; subst f4_; subst f5_))
     refine hK.out _ _ ⟨(Zd aa.out 0).trans rfl, (Zd aa.out 1).trans rfl⟩ (fun hHeld => ?_)
     clear hK K
     refine nM ?_
     refine pU 10 HT_ ?_
     exact ZQ (by first | (simp only [Zv, Zn, sA, sZ, sS]; done) | (simp only [Zv, Zn, sA, sZ, sS]; rfl)) (hJ6_8_9 (aA, .slice bz av.length bA, .slice bg aw.length bh) _ ⟨hHeld, (by (try refine rp ?_); exact Zp am0.out (fun _ hk => hk.2)), (rQ az), (bQ aa), (bQ ab), (wB)⟩)
    skip
    refine box_step ?hg (N := 5) ?hd (cs := #[.int .i64 0, .slice none 0 0]) (t := 24) ?hr ?_; (case hd => rfl); (case hg => rfl); (case hr => first | (go_simp; done) | (go_simp; rfl))
    intro ae hg a8 hbox hb
    have n0_ := rP aq hb
    have n1_ := rP am0 hb
    have n2_ := bP aa hb
    have n3_ := bP ab hb
    have n4_ := sQ hb
    have n5_ := Za (hbox)
    have n6_ := Za ((by rw [hg]; exact (Ze (wB)) : w.heap.size ≤ ae))
    have n7_ := Za ((by rw [hg]; exact (Ze (wB)) : w.heap.size ≤ ae))
    have n8_ := Za ((by rw [hg]; exact ZK (Zy (g := ac) (o := .cells #[.int .i64 ai, .slice ao al.length ap] 24 (0, 0)) (bQ aa)) : ac ≠ ae))
    have n9_ := Za ((by rw [hg]; exact ZL (Zy (g := ac) (o := .cells #[.int .i64 ai, .slice ao al.length ap] 24 (0, 0)) (bQ aa)) : ae ≠ ac))
    have n10_ := Za ((by rw [hg]; exact ZK (Zy (g := af) (o := .cells #[.int .i64 0, .slice none 0 0] 24 (0, 0)) (bQ ab)) : af ≠ ae))
    have n11_ := Za ((by rw [hg]; exact ZL (Zy (g := af) (o := .cells #[.int .i64 0, .slice none 0 0] 24 (0, 0)) (bQ ab)) : ae ≠ af))
    clear aq
    clear am0
    clear aa
    clear ab
    clear HB
    have aq := n0_
    have am0 := n1_
    have aa := n2_
    have ab := n3_
    have HB := n4_
    have an0 := n5_
    have ax := n6_
    have ay := n7_
    have ag := n8_
    have aj := n9_
    have ah := n10_
    have ak := n11_
    clear n0_ n1_ n2_ n3_ n4_ n5_ n6_ n7_ n8_ n9_ n10_ n11_
    clear hb hg
    refine hK.out _ _ ⟨(Zd aa.out 0).trans rfl, (Zd aa.out 1).trans rfl⟩ (fun hHeld => ?_)
    clear hK K
    refine nM ?_
    exact ZQ (by first | (simp only [Zv, Zn, sA, sZ, sS]; done) | (simp only [Zv, Zn, sA, sZ, sS]; rfl)) (hJ6_8_11 (aA, _, ae) _ ⟨hHeld, (rQ aq), (rQ am0), (bQ aa), (bQ ab), (bQ an0), ax.out, ay.out, ag.out, aj.out, ah.out, ak.out, (wB)⟩)
   skip
   rintro ⟨aA, aD, ae⟩ a8 ⟨hS_, h0_, h1_, h2_, h3_, h4_, h5_, h6_, h7_, h8_, h9_, h10_, h11_⟩
   have n0_ : Zc (Kd.R (Zf .i64) 3 a8 w.heap.size (fun k_ => nb aD k_) aA aC) := ⟨h0_⟩
   have n1_ : Zc (Kd.R (Zf .i64) 3 a8 w.heap.size (fun k_ => nb aA k_) aD av) := ⟨h1_⟩
   have n2_ : Zc (a8.heap[ac]? = some (.cells #[.int .i64 ai, .slice ao al.length ap] 24 (0, 0))) := ⟨h2_⟩
   have n3_ : Zc (a8.heap[af]? = some (.cells #[.int .i64 0, .slice none 0 0] 24 (0, 0))) := ⟨h3_⟩
   have n4_ : Zc (a8.heap[ae]? = some (.cells #[.int .i64 0, .slice none 0 0] 24 (0, 0))) := ⟨h4_⟩
   have n5_ : Zc (w.heap.size ≤ ae) := ⟨h5_⟩
   have n6_ : Zc (w.heap.size ≤ ae) := ⟨h6_⟩
   have n7_ : Zc (ac ≠ ae) := ⟨h7_⟩
   have n8_ : Zc (ae ≠ ac) := ⟨h8_⟩
   have n9_ : Zc (af ≠ ae) := ⟨h9_⟩
   have n10_ : Zc (ae ≠ af) := ⟨h10_⟩
   have n11_ : Zc (Zt w.heap.size w a8) := ⟨h11_⟩
   clear aa
   clear ab
   clear HB
   clear h0_ h1_ h2_ h3_ h4_ h5_ h6_ h7_ h8_ h9_ h10_ h11_
   have aq := n0_
   have am0 := n1_
   have aa := n2_
   have ab := n3_
   have an0 := n4_
   have ax := n5_
   have ay := n6_
   have ag := n7_
   have aj := n8_
   have ah := n9_
   have ak := n10_
   have HB := n11_
   clear n0_ n1_ n2_ n3_ n4_ n5_ n6_ n7_ n8_ n9_ n10_ n11_
   have hHeld : a8.cell? ⟨ac, 0, none⟩ = some (.int .i64 ai) ∧ a8.cell? ⟨ac, 1, none⟩ = some (.slice ao al.length ap) := hS_
   obtain ⟨bg, bh, bb⟩ := Zx am0.out
   (first | subst bb | (injection bb with f1_ f2_ f3_; have f4_ := f1_.symm; have f5_ := f3_.symm; clear f1_ f2_ f3_; subst f4_; subst f5_))
   refine ZQ (a' := ?_) ?_ ?_
   rotate_left
   ·simp only [Zv, Zn, sA, sZ, sS]
    rfl
   refine oN 9 HT_ (fun K hK => ?_)
   refine Kd.R_append_rows_step (Zf .i64) (w0 := w) w.heap.size (by rfl) (.tmp 19) (.tmp 21) 22 3 (.int .i64 0) 8 rfl Tryz.underlying22 info3 rfl (by decide) (by omega) aA aC av _ _ _ (fun k_ => nb (.slice bg av.length bh) k_) (fun _ => False) rfl rfl ?aO ?aR (fun _ _ h => h) (fun _ h => h.elim) ?aF ?aB ?aS ?aL ?_
   (case aR => repeat (first | exact (ZH am0.out).2.2 | (with_reducible refine ZX ?_ _) | (with_reducible refine Kd.C_drewN ?_ _) | (with_reducible refine Kd.C_drew ?_)))
   (case aB => exact (wB))
   (case aF => exact (fun k_ hk => Kd.fresh' (ZZ (rQ am0)) k_ hk))
   (case aO => exact (rQ aq))
   (case aS => exact (Ze (wB)))
   (case aL => have := bx.out; omega)
   intro aW cR ho hb hg hat
   rw [← bl.out] at ho
   have n0_ := Za (ZV (g := ac) (o := .cells #[.int .i64 ai, .slice ao al.length ap] 24 (0, 0)) (bQ aa) hg (Z3 aq.out aa.out (by decide)))
   have n1_ := Za (ZV (g := af) (o := .cells #[.int .i64 0, .slice none 0 0] 24 (0, 0)) (bQ ab) hg (Z3 aq.out ab.out (by decide)))
   have n2_ := Za (Kd.R_after (ok := (fun _ => True)) (by (try refine rp ?_); exact Zp am0.out (fun _ hk => ⟨trivial, hk⟩)) hg hat)
   have n3_ := Za (ZV (g := ae) (o := .cells #[.int .i64 0, .slice none 0 0] 24 (0, 0)) (bQ an0) hg (Z3 aq.out an0.out (by decide)))
   have n4_ := Za (hb)
   have n5_ := Za (ho)
   clear aa
   clear ab
   clear am0
   clear an0
   clear HB
   clear aq
   have aa := n0_
   have ab := n1_
   have am0 := n2_
   have an0 := n3_
   have HB := n4_
   have az := n5_
   clear n0_ n1_ n2_ n3_ n4_ n5_
   clear ho hb hg hat
   obtain ⟨bn, bo, bc⟩ := Zx az.out
   (first | subst bc | (injection bc with f1_ f2_ f3_; have f4_ := f1_.symm; have f5_ := f3_.symm; clear f1_ f2_ f3_; subst f4_; subst f5_))
   refine hK.out _ _ ⟨(Zd aa.out 0).trans rfl, (Zd aa.out 1).trans rfl⟩ (fun hHeld => ?_)
   clear hK K
   refine nM ?_
   refine pU 10 HT_ ?_
   exact ZQ (by first | (simp only [Zv, Zn, sA, sZ, sS]; done) | (simp only [Zv, Zn, sA, sZ, sS]; rfl)) (hJ6_8_9_11 (aA, .slice bg av.length bh, .slice bn aw.length bo, ae) _ ⟨hHeld, (by (try refine rp ?_); exact Zp am0.out (fun _ hk => hk.2)), (rQ az), (bQ aa), (bQ ab), (bQ an0), ax.out, ay.out, ag.out, aj.out, ah.out, ak.out, (wB)⟩)
  skip
  rintro ⟨aA, aD, aW⟩ bq ⟨hS_, h0_, h1_, h2_, h3_, h4_⟩
  have n0_ : Zc (Kd.R (Zf .i64) 3 bq w.heap.size (fun k_ => nb aW k_) aD av) := ⟨h0_⟩
  have n1_ : Zc (Kd.R (Zf .i64) 3 bq w.heap.size (fun k_ => nb aD k_) aW aw) := ⟨h1_⟩
  have n2_ : Zc (bq.heap[ac]? = some (.cells #[.int .i64 ai, .slice ao al.length ap] 24 (0, 0))) := ⟨h2_⟩
  have n3_ : Zc (bq.heap[af]? = some (.cells #[.int .i64 0, .slice none 0 0] 24 (0, 0))) := ⟨h3_⟩
  have n4_ : Zc (Zt w.heap.size w bq) := ⟨h4_⟩
  clear aa
  clear ab
  clear HB
  clear h0_ h1_ h2_ h3_ h4_
  have am0 := n0_
  have az := n1_
  have aa := n2_
  have ab := n3_
  have HB := n4_
  clear n0_ n1_ n2_ n3_ n4_
  have hHeld : bq.cell? ⟨ac, 0, none⟩ = some (.int .i64 ai) ∧ bq.cell? ⟨ac, 1, none⟩ = some (.slice ao al.length ap) := hS_
  obtain ⟨bn, bo, bc⟩ := Zx az.out
  (first | subst bc | (injection bc with f1_ f2_ f3_; have f4_ := f1_.symm; have f5_ := f3_.symm; clear f1_ f2_ f3_; subst f4_; subst f5_))
  refine ZQ (a' := ?_) ?_ ?_
  rotate_left
  ·simp only [Zv, Zn, sA, sZ, sS]
   rfl
  refine oN 11 HT_ (fun K hK => ?_)
  refine box_step ?hg (N := 5) ?hd (cs := #[.int .i64 0, .slice none 0 0]) (t := 24) ?hr ?_; (case hd => rfl); (case hg => rfl); (case hr => first | (go_simp; done) | (go_simp; rfl))
  intro ae hg cS hbox hb
  have n0_ := rP am0 hb
  have n1_ := rP az hb
  have n2_ := bP aa hb
  have n3_ := bP ab hb
  have n4_ := sQ hb
  have n5_ := Za (hbox)
  have n6_ := Za ((by rw [hg]; exact (Ze (wB)) : w.heap.size ≤ ae))
  have n7_ := Za ((by rw [hg]; exact (Ze (wB)) : w.heap.size ≤ ae))
  have n8_ := Za ((by rw [hg]; exact ZK (Zy (g := ac) (o := .cells #[.int .i64 ai, .slice ao al.length ap] 24 (0, 0)) (bQ aa)) : ac ≠ ae))
  have n9_ := Za ((by rw [hg]; exact ZL (Zy (g := ac) (o := .cells #[.int .i64 ai, .slice ao al.length ap] 24 (0, 0)) (bQ aa)) : ae ≠ ac))
  have n10_ := Za ((by rw [hg]; exact ZK (Zy (g := af) (o := .cells #[.int .i64 0, .slice none 0 0] 24 (0, 0)) (bQ ab)) : af ≠ ae))
  have n11_ := Za ((by rw [hg]; exact ZL (Zy (g := af) (o := .cells #[.int .i64 0, .slice none 0 0] 24 (0, 0)) (bQ ab)) : ae ≠ af))
  clear am0
  clear az
  clear aa
  clear ab
  clear HB
  have am0 := n0_
  have az := n1_
  have aa := n2_
  have ab := n3_
  have HB := n4_
  have an0 := n5_
  have ax := n6_
  have ay := n7_
  have ag := n8_
  have aj := n9_
  have ah := n10_
  have ak := n11_
  clear n0_ n1_ n2_ n3_ n4_ n5_ n6_ n7_ n8_ n9_ n10_ n11_
  clear hb hg
  refine hK.out _ _ ⟨(Zd aa.out 0).trans rfl, (Zd aa.out 1).trans rfl⟩ (fun hHeld => ?_)
  clear hK K
  refine nM ?_
  exact ZQ (by first | (simp only [Zv, Zn, sA, sZ, sS]; done) | (simp only [Zv, Zn, sA, sZ, sS]; rfl)) (hJ6_8_9_11 (aA, aD, .slice bn aw.length bo, ae) _ ⟨hHeld, (rQ am0), (rQ az), (bQ aa), (bQ ab), (bQ an0), ax.out, ay.out, ag.out, aj.out, ah.out, ak.out, (wB)⟩)
 rintro ⟨aA, aD, aW, ae⟩ bf ⟨hS_, h0_, h1_, h2_, h3_, h4_, h5_, h6_, h7_, h8_, h9_, h10_, h11_⟩
 have n0_ : Zc (Kd.R (Zf .i64) 3 bf w.heap.size (fun k_ => nb aW k_) aD av) := ⟨h0_⟩
 have n1_ : Zc (Kd.R (Zf .i64) 3 bf w.heap.size (fun k_ => nb aD k_) aW aw) := ⟨h1_⟩
 have n2_ : Zc (bf.heap[ac]? = some (.cells #[.int .i64 ai, .slice ao al.length ap] 24 (0, 0))) := ⟨h2_⟩
 have n3_ : Zc (bf.heap[af]? = some (.cells #[.int .i64 0, .slice none 0 0] 24 (0, 0))) := ⟨h3_⟩
 have n4_ : Zc (bf.heap[ae]? = some (.cells #[.int .i64 0, .slice none 0 0] 24 (0, 0))) := ⟨h4_⟩
 have n5_ : Zc (w.heap.size ≤ ae) := ⟨h5_⟩
 have n6_ : Zc (w.heap.size ≤ ae) := ⟨h6_⟩
 have n7_ : Zc (ac ≠ ae) := ⟨h7_⟩
 have n8_ : Zc (ae ≠ ac) := ⟨h8_⟩
 have n9_ : Zc (af ≠ ae) := ⟨h9_⟩
 have n10_ : Zc (ae ≠ af) := ⟨h10_⟩
 have n11_ : Zc (Zt w.heap.size w bf) := ⟨h11_⟩
 clear aa
 clear ab
 clear HB
 clear h0_ h1_ h2_ h3_ h4_ h5_ h6_ h7_ h8_ h9_ h10_ h11_
 have am0 := n0_
 have az := n1_
 have aa := n2_
 have ab := n3_
 have an0 := n4_
 have ax := n5_
 have ay := n6_
 have ag := n7_
 have aj := n8_
 have ah := n9_
 have ak := n10_
 have HB := n11_
 clear n0_ n1_ n2_ n3_ n4_ n5_ n6_ n7_ n8_ n9_ n10_ n11_
 have hHeld : bf.cell? ⟨ac, 0, none⟩ = some (.int .i64 ai) ∧ bf.cell? ⟨ac, 1, none⟩ = some (.slice ao al.length ap) := hS_
 obtain ⟨aX, aV, bE⟩ := Zx az.out
 (first | subst bE | (injection bE with f1_ f2_ f3_; have f4_ := f1_.symm; have f5_ := f3_.symm; clear f1_ f2_ f3_; subst f4_; subst f5_))
 refine ZQ (a' := ?_) ?_ ?_
 rotate_left
 ·simp only [Zv, Zn, sA, sZ, sS]
  rfl
 refine oN 12 HT_ (fun K hK => ?_)
 have hs25 : bf.cell? ⟨ae, 0, none⟩ = some (.int .i64 0) := (Zd an0.out 0).trans rfl
 have cG := blk_frozen an0.out 0
 have bX := ag.out
 have bY := ah.out
 have bZ := aj.out
 have b5 := ak.out
 have hs26 : bf.cell? ⟨ae, 1, none⟩ = some (.slice none 0 0) := (Zd an0.out 1).trans rfl
 have cH := blk_frozen an0.out 1
 have b6 := ag.out
 have b7 := ah.out
 have b8 := aj.out
 have b9 := ak.out
 refine skip_ (w1 := ?_) (by rfl) rfl ?_ ?_
 rotate_left
 ·go_simp
  rfl
 refine hK.out _ _ ⟨((ZO (p := ⟨ae, _, none⟩) ag.out _).trans (((ZO (p := ⟨ae, _, none⟩) ag.out _).trans (hHeld.1)))), ((ZO (p := ⟨ae, _, none⟩) ag.out _).trans (((ZO (p := ⟨ae, _, none⟩) ag.out _).trans (hHeld.2))))⟩ (fun hHeld => ?_)
 clear hK K
 refine done_ (done_of HT_.out (by kernel_rfl)) ?_
 have cI := aj.out
 have cJ := ag.out
 have cK := ak.out
 have cL := ah.out
 obtain ⟨ca, cb, cd, ce⟩ := zZ an0
 go_upto_if 26 with (first | ((with_reducible refine Zq (f := 37) rfl ?_); refine gL 25 Tryz.func37 #[.agg #[.int .i64 (Zg (ai + au)), .slice aX aw.length aV]] ?_; (with_reducible refine (fi.calls k (Zg (ai + au)) _ _ aw aE _ ?side1 ?side2 A7.out).mono ?_); (case side1 => refine (ZH (e := 3) (base := w.heap.size) (ok := fun k_ => nb aD k_) (n := aw.length) (c := aV) ?_).2.2; exact (by (try refine rp ?_); exact (Zp (ZI (p := ⟨ae, 1, none⟩) (ZI (p := ⟨ae, 0, none⟩) (ZR az.out an0.out (by decide)) (fun _ hk => hk.2) (.int .i64 (Zg (ai + au)))) (fun _ hk => hk.2) (.slice aX aw.length aV)) (fun _ h_ => h_.1)))); (case side2 => exact (ZH az.out).2.1); rintro e cT ⟨rfl, hb⟩; refine ⟨_, rfl, ?_⟩; have n0_ := Za (Kd.R_below (by (try refine rp ?_); exact (Zp (ZI (p := ⟨ae, 1, none⟩) (ZI (p := ⟨ae, 0, none⟩) (ZR am0.out an0.out (by decide)) (fun _ hk => hk.2) (.int .i64 (Zg (ai + au)))) (fun _ hk => hk.2) (.slice aX aw.length aV)) (fun _ h_ => h_.1))) hb); have n1_ := Za (Kd.R_below (by (try refine rp ?_); exact (Zp (ZI (p := ⟨ae, 1, none⟩) (ZI (p := ⟨ae, 0, none⟩) (ZR az.out an0.out (by decide)) (fun _ hk => hk.2) (.int .i64 (Zg (ai + au)))) (fun _ hk => hk.2) (.slice aX aw.length aV)) (fun _ h_ => h_.1))) hb); have n2_ := Za (blk_below (g := ac) (o := .cells #[.int .i64 ai, .slice ao al.length ap] 24 (0, 0)) (by (try refine bp ?_); refine blk_far ?_ ag.out _; (try refine bp ?_); refine blk_far ?_ ag.out _; (first | exact bp aa.out | exact aa.out)) hb); have n3_ := Za (blk_below (g := af) (o := .cells #[.int .i64 0, .slice none 0 0] 24 (0, 0)) (by (try refine bp ?_); refine blk_far ?_ ah.out _; (try refine bp ?_); refine blk_far ?_ ah.out _; (first | exact bp ab.out | exact ab.out)) hb); have n4_ := Za (blk_below (g := ae) (o := .cells #[.int .i64 (Zg (ai + au)), .slice aX aw.length aV] 24 (0, 0)) (by (try refine bp ?_); refine Zw (cs := #[.int .i64 (Zg (ai + au)), .slice none 0 0]) ?_ 1 _ rfl; (try refine bp ?_); refine Zw (cs := #[.int .i64 0, .slice none 0 0]) ?_ 0 _ rfl; (first | exact bp an0.out | exact an0.out)) hb); have n5_ := sQ hb; clear am0; clear az; clear aa; clear ab; clear an0; clear HB; have am0 := n0_; have az := n1_; have aa := n2_; have ab := n3_; have an0 := n4_; have HB := n5_; clear n0_ n1_ n2_ n3_ n4_ n5_; (try clear hb); (try clear hb2); (try clear hk); (try clear hi); obtain ⟨cg, ch, ci, cj⟩ := zZ an0; obtain ⟨ck, cl, cm, cn⟩ := zZ ab))
 have H := cB.out
 clear cB
 by_cases c8 : aE = true
 rotate_left
 ·replace c8 := Bool.eq_false_iff.mpr c8
  subst c8
  replace H := iF H
  simp only [Zi, Zr] at H
  obtain ⟨rfl, rfl, rfl⟩ := H
  obtain ⟨cp, cq, cr, ct⟩ := zZ ab
  try go_wp2_with (fail)
  refine Zz (ZJ rfl _ _ af 24 #[.int .i64 0, .slice none 0 0] (0, 0) _ rfl (by (try refine bp ?_); refine Zw (cs := #[.int .i64 0, .slice none 0 0]) ?_ 1 _ rfl; (try refine bp ?_); refine Zw (cs := #[.int .i64 0, .slice none 0 0]) ?_ 0 _ rfl; (first | exact bp ab.out | exact ab.out)) Tryz.underlying24 rfl (by kernel_rfl)) rfl ?_
  exact ⟨_, fR, by first | exact Z1 _ _ _ _ _ | exact Kd.N_nil _ _ _ _ _ | exact Kd.V_nil _ _ _ _ _ | exact Kd.Q_nil _ _ _ _ _ | exact Kd.S_nil _ _ _ _ _, wB⟩
 subst c8
 replace H := iT H
 simp only [Zi, Zr] at H
 obtain ⟨rfl, rfl, rfl⟩ := H
 try go_wp2_with (fail)
 refine Zz (ZJ rfl _ _ af 24 #[.int .i64 (Zg (ai + au)), .slice aX aw.length aV] (0, 0) _ rfl (by (try refine bp ?_); refine Zw (cs := #[.int .i64 (Zg (ai + au)), .slice none 0 0]) ?_ 1 _ rfl; (try refine bp ?_); refine Zw (cs := #[.int .i64 0, .slice none 0 0]) ?_ 0 _ rfl; (first | exact bp ab.out | exact ab.out)) Tryz.underlying24 rfl (by kernel_rfl)) rfl ?_
 exact ⟨_, fR, by (try refine rp ?_); exact Zp (ZI (p := ⟨af, 1, none⟩) (ZI (p := ⟨af, 0, none⟩) (ZR az.out ab.out (by decide)) (fun _ hk => hk.2) (.int .i64 (Zg (ai + au)))) (fun _ hk => hk.2) (.slice aX aw.length aV)) (fun _ hk => trivial), wB⟩
end Go.Proofs.YtaambkdiokbdgabGreat.Q
namespace Go.Proofs.YtaambkdiokbdgabGreat.Q
open Go.RowKit Go.Proofs.YtaambkdiokbdgabGreatX Go.Proofs.YtaambkdiokbdgabGreatY Go.Proofs.YtaambkdiokbdgabGreatX Go.Proofs.YtaambkdiokbdgabGreatW.PrintWords Go.Proofs.YtaambkdiokbdgabGreatW.PrintLast Go.Proofs.YtaambkdiokbdgabGreatW.PrintMore
attribute [local go_sem] max2_int min2_int max_two min_two max_three min_three max_four min_four   -- for this text's walks alone
set_option linter.unusedVariables false
set_option linter.unusedSimpArgs false
def gG.f (k : Nat) (ab : Int) (ac : List Int) : Option (Int × List Int × Bool) := (gh.f k ab ac 0 0).bind fun aa => (some (aa.1, aa.2.1, aa.2.2))
theorem gG.calls (k : Nat) (ag : Int) (ai : Option Addr) (aj : Nat) (ab : List Int) (r1 : Int) (r2 : List Int) (r3 : Bool) (w : ZG) (al : Kd.C (Zf .i64) w ai ab.length ab) (am0 : ab.length ≤ aj) (h : gG.f k ag ab = some (r1, r2, r3)) :
  ZM Tryz.prog 24 #[.agg #[.int .i64 ag, .slice ai ab.length aj]] w fun e w' => ∃ v1_ : ZB, e = .returned (.tuple #[.agg #[.int .i64 r1, v1_], .bool r3]) ∧ Kd.R (Zf .i64) 3 w' w.heap.size (fun _ => True) v1_ r2 ∧ Zt w.heap.size w w' := by
 have hu24 := Tryz.underlying24
 have aw := Za al
 have ax := Za am0
 clear al am0
 have HB := Za (Zk w.heap.size w)
 have H := h
 unfold gG.f at H
 clear h
 replace H := oB H
 obtain ⟨⟨ak, ao, ay⟩, aE, H⟩ := H
 (try dsimp only at H)
 have A2 := Za aE
 clear aE
 simp only [Zi, Zr] at H
 obtain ⟨rfl, rfl, rfl⟩ := H
 go_enter Tryz.func24, Tryz.ntmps24
 go_wp2_with (first | ((with_reducible refine Zu (N := 1) rfl ?_); refine xE (N := 1) (cs := #[.int .i64 ag, .slice ai ab.length aj]) (t := 24) ?_; intro aG hg w3 aa hb; have aH := gS hg HB; have aI := gS hg HB; replace HB := sB HB hb; clear hb hg) | ((with_reducible refine Zu (N := 2) rfl ?_); refine xE (N := 2) (cs := #[.int .i64 0, .slice none 0 0]) (t := 24) ?_; intro ah hg w4 ac hb; have aJ := gS hg HB; have aK := gS hg HB; have ae := nL hg (Zy aa.out); have af := nG hg (Zy aa.out); replace aa := bB aa hb; replace HB := sB HB hb; clear hb hg; have aT := ae.out; have aU := af.out; obtain ⟨ap, aq, au, av⟩ := zZ aa) | ((with_reducible refine Zq (f := 64) rfl ?_); refine gL 5 Tryz.func64 #[.agg #[.int .i64 ag, .slice ai ab.length aj], .int .i64 0, .int .i64 0] ?_; (with_reducible refine (gh.calls k ag _ _ ab 0 0 ak ao ay _ (Zo aw.out HB.out) ax.out A2.out).mono ?_); rintro e w7 ⟨aV, rfl, aM, hb⟩; refine ⟨_, rfl, ?_⟩; have an0 := Za (Zs aM (Ze HB.out)); replace aa := bB aa hb; replace ac := bB ac hb; replace HB := sB HB hb; (try clear hb); (try clear aM); (try clear ap aq au av); obtain ⟨az, aA, aC, aD⟩ := zZ ac; obtain ⟨aN, aQ, aW⟩ := Zx an0.out; subst aW))
 refine Zz (ZJ rfl _ _ ah 24 #[.int .i64 ak, .slice aN ao.length aQ] (0, 0) _ rfl (by refine Zw (cs := #[.int .i64 ak, .slice none 0 0]) ?_ 1 _ rfl; refine Zw (cs := #[.int .i64 0, .slice none 0 0]) ?_ 0 _ rfl; exact ac.out) Tryz.underlying24 rfl (by kernel_rfl)) rfl ?_
 exact ⟨_, fR, by exact Zp (ZI (p := ⟨ah, 1, none⟩) (ZI (p := ⟨ah, 0, none⟩) (ZR an0.out ac.out (by decide)) (fun _ hk => hk.2) (.int .i64 ak)) (fun _ hk => hk.2) (.slice aN ao.length aQ)) (fun _ hk => trivial), wB⟩
def gn.f (k : Nat) (ab : Int) (aa : List Int) : Option (Int × List Int × Bool) := (fi.f k ab aa).bind fun af => (if af = true then (if (aa.length : Int) = 9 then (some (0, ([] : List Int), false)) else ((fN.f aa).bind fun ac => ((some (([0] : List Int) : List Int)).bind fun ae => (if ac.length + ae.length < 17592186044416 then (some (ab, (ac ++ ae), true)) else (none))))) else (some (0, ([] : List Int), false)))
def gn.T3 : Bool × List (List Nat × List Nat) := (true, [([], []), ([0], [0]), ([], []), ([2], [2]), ([3], [3]), ([], []), ([4, 5, 4], [4, 5]), ([1, 6], [1, 6]), ([7, 6, 0, 1, 2, 3, 4, 5, 6, 7], [7]), ([8, 0, 1, 2, 3, 4, 5, 6, 7, 8], [])])
def gn.B3 : List Nat := [0, 1, 0, 4, 12, 0, 60, 127, 255, 511]
theorem gn.tab3 : rtab .any (opsOf Tryz.f25 3) = gn.T3 := by kernel_rfl
theorem gn.bits3 : waitsOk gn.T3.2 gn.B3 = true := by kernel_rfl
theorem gn.calls (k : Nat) (ah : Int) (ak : Option Addr) (al : Nat) (ae : List Int) (r1 : Int) (r2 : List Int) (r3 : Bool) (w : ZG) (a8 : Kd.C (Zf .i64) w ak ae.length ae) (bb : ae.length ≤ al) (h : gn.f k ah ae = some (r1, r2, r3)) :
  ZM Tryz.prog 25 #[.agg #[.int .i64 ah, .slice ak ae.length al]] w fun e w' => ∃ v1_ : ZB, e = .returned (.tuple #[.agg #[.int .i64 r1, v1_], .bool r3]) ∧ Kd.R (Zf .i64) 3 w' w.heap.size (fun _ => True) v1_ r2 ∧ Zt w.heap.size w w' := by
 have hu24 := Tryz.underlying24
 have ao := Za a8
 have ap := Za bb
 clear a8 bb
 have HB := Za (Zk w.heap.size w)
 have H := h
 unfold gn.f at H
 clear h
 replace H := oA H
 obtain ⟨bL, A2, H⟩ := H
 (try dsimp only at H)
 by_cases c3 : bL = true
 rotate_left
 ·replace c3 := Bool.eq_false_iff.mpr c3
  subst c3
  replace H := iF H
  simp only [Zi, Zr] at H
  obtain ⟨rfl, rfl, rfl⟩ := H
  go_enter Tryz.func25, Tryz.ntmps25
  go_wp2_with (first | ((with_reducible refine Zu (N := 1) rfl ?_); (try (refine gate_guard (by rfl) ?_; dsimp only)); refine xE (N := 1) (cs := #[.int .i64 ah, .slice ak ae.length al]) (t := 24) ?_; intro aj hg ca aa hb; have bc := gS hg HB; have bf := gS hg HB; replace HB := sB HB hb; clear hb hg) | ((with_reducible refine Zu (N := 2) rfl ?_); (try (refine gate_guard (by rfl) ?_; dsimp only)); refine xE (N := 2) (cs := #[.int .i64 0, .slice none 0 0]) (t := 24) ?_; intro ag hg cb ab hb; have bg := gS hg HB; have bh := gS hg HB; have ac := nL hg (Zy aa.out); have af := nG hg (Zy aa.out); replace aa := bB aa hb; replace HB := sB HB hb; clear hb hg; have bS := ac.out; have bT := af.out; obtain ⟨aC, aD, aE, aG⟩ := zZ aa) | ((with_reducible refine Zq (f := 37) rfl ?_); refine gL 5 Tryz.func37 #[.agg #[.int .i64 ah, .slice ak ae.length al]] ?_; (with_reducible refine (fi.calls k ah _ _ ae false _ (Zo ao.out HB.out) ap.out A2.out).mono ?_); rintro e cd ⟨rfl, hb⟩; refine ⟨_, rfl, ?_⟩; replace aa := bB aa hb; replace ab := bB ab hb; replace HB := sB HB hb; (try clear hb); (try clear aC aD aE aG); obtain ⟨bA, bC, bE, bF⟩ := zZ ab))
  refine Zz (ZJ rfl _ _ ag 24 #[.int .i64 0, .slice none 0 0] (0, 0) _ rfl (by refine Zw (cs := #[.int .i64 0, .slice none 0 0]) ?_ 1 _ rfl; refine Zw (cs := #[.int .i64 0, .slice none 0 0]) ?_ 0 _ rfl; exact ab.out) Tryz.underlying24 rfl (by kernel_rfl)) rfl ?_
  exact ⟨_, fR, by first | exact Z1 _ _ _ _ _ | exact Kd.N_nil _ _ _ _ _ | exact Kd.V_nil _ _ _ _ _ | exact Kd.Q_nil _ _ _ _ _ | exact Kd.S_nil _ _ _ _ _, wB⟩
 subst c3
 replace H := iT H
 by_cases c4 : (ae.length : Int) = 9
 ·rw [if_pos c4] at H
  have bM : ((ae.length : Int) == 9) = true := beq_iff_eq.mpr c4
  have bN : ((ae.length : Int) != 9) = false := bne_eq_false_iff_eq.mpr c4
  clear c4
  simp only [Zi, Zr] at H
  obtain ⟨rfl, rfl, rfl⟩ := H
  go_enter Tryz.func25, Tryz.ntmps25
  go_wp2_with (first | ((with_reducible refine Zu (N := 1) rfl ?_); (try (refine gate_guard (by rfl) ?_; dsimp only)); refine xE (N := 1) (cs := #[.int .i64 ah, .slice ak ae.length al]) (t := 24) ?_; intro aj hg w5 aa hb; have bc := gS hg HB; have bf := gS hg HB; replace HB := sB HB hb; clear hb hg) | ((with_reducible refine Zu (N := 2) rfl ?_); (try (refine gate_guard (by rfl) ?_; dsimp only)); refine xE (N := 2) (cs := #[.int .i64 0, .slice none 0 0]) (t := 24) ?_; intro ag hg w6 ab hb; have bg := gS hg HB; have bh := gS hg HB; have ac := nL hg (Zy aa.out); have af := nG hg (Zy aa.out); replace aa := bB aa hb; replace HB := sB HB hb; clear hb hg; have b5 := ac.out; have b6 := af.out; obtain ⟨bj, bl, bm, bn⟩ := zZ aa) | ((with_reducible refine Zq (f := 37) rfl ?_); refine gL 5 Tryz.func37 #[.agg #[.int .i64 ah, .slice ak ae.length al]] ?_; (with_reducible refine (fi.calls k ah _ _ ae true _ (Zo ao.out HB.out) ap.out A2.out).mono ?_); rintro e w9 ⟨rfl, hb⟩; refine ⟨_, rfl, ?_⟩; replace aa := bB aa hb; replace ab := bB ab hb; replace HB := sB HB hb; (try clear hb); (try clear bj bl bm bn); obtain ⟨aH, aI, aJ, aK⟩ := zZ aa; obtain ⟨aM, aN, aQ, aT⟩ := zZ ab))
  refine Zz (ZJ rfl _ _ ag 24 #[.int .i64 0, .slice none 0 0] (0, 0) _ rfl (by refine Zw (cs := #[.int .i64 0, .slice none 0 0]) ?_ 1 _ rfl; refine Zw (cs := #[.int .i64 0, .slice none 0 0]) ?_ 0 _ rfl; exact ab.out) Tryz.underlying24 rfl (by kernel_rfl)) rfl ?_
  exact ⟨_, fR, by first | exact Z1 _ _ _ _ _ | exact Kd.N_nil _ _ _ _ _ | exact Kd.V_nil _ _ _ _ _ | exact Kd.Q_nil _ _ _ _ _ | exact Kd.S_nil _ _ _ _ _, wB⟩
 rw [if_neg c4] at H
 have bM : ((ae.length : Int) == 9) = false := beq_eq_false_iff_ne.mpr c4
 have bN : ((ae.length : Int) != 9) = true := bne_iff_ne.mpr c4
 replace H := oA H
 obtain ⟨an0, bU, H⟩ := H
 (try dsimp only at H)
 obtain ⟨aq, au⟩ : ∃ y_ : List Int, y_ = (([0] : List Int)) := ⟨_, rfl⟩
 replace H : (if an0.length + aq.length < 17592186044416 then (some (ah, (an0 ++ aq), true)) else (none)) = some (r1, r2, r3) := by first | (rw [au]; with_reducible exact H) | (have H2_ := (Zm _ _).symm.trans H; rw [au]; with_reducible exact H2_) | (have H2_ := (Zm _ _).symm.trans H; with_reducible exact H2_) | with_reducible exact H | (rw [au]; exact H) | exact H
 have ax := Za au
 clear au
 by_cases bG : an0.length + aq.length < 17592186044416
 rotate_left
 ·rw [if_neg bG] at H
  exact absurd H (by simp)
 rw [if_pos bG] at H
 have bt := Za bG
 clear bG
 obtain ⟨bo, av⟩ : ∃ y_ : List Int, y_ = (an0 ++ aq) := ⟨_, rfl⟩
 replace H : (some (ah, bo, true)) = some (r1, r2, r3) := by first | (rw [av]; with_reducible exact H) | (have H2_ := (Zm _ _).symm.trans H; rw [av]; with_reducible exact H2_) | (have H2_ := (Zm _ _).symm.trans H; with_reducible exact H2_) | with_reducible exact H | (rw [av]; exact H) | exact H
 have bu := Za av
 clear av
 simp only [Zi, Zr] at H
 obtain ⟨rfl, rfl, rfl⟩ := H
 go_enter Tryz.func25, Tryz.ntmps25
 try go_wp2_with (first | ((with_reducible refine Zu (N := 1) rfl ?_); (try (refine gate_guard (by rfl) ?_; dsimp only)); refine xE (N := 1) (cs := #[.int .i64 ah, .slice ak ae.length al]) (t := 24) ?_; intro aj hg ce aa hb; have bc := gS hg HB; have bf := gS hg HB; replace HB := sB HB hb; clear hb hg) | ((with_reducible refine Zu (N := 2) rfl ?_); (try (refine gate_guard (by rfl) ?_; dsimp only)); refine xE (N := 2) (cs := #[.int .i64 0, .slice none 0 0]) (t := 24) ?_; intro ag hg cg ab hb; have bg := gS hg HB; have bh := gS hg HB; have ac := nL hg (Zy aa.out); have af := nG hg (Zy aa.out); replace aa := bB aa hb; replace HB := sB HB hb; clear hb hg; have bV := ac.out; have bW := af.out; (try clear aH aI aJ aK aM aN aQ aT); obtain ⟨aU, aV, aW, aX⟩ := zZ aa) | ((with_reducible refine Zq (f := 37) rfl ?_); refine gL 5 Tryz.func37 #[.agg #[.int .i64 ah, .slice ak ae.length al]] ?_; (with_reducible refine (fi.calls k ah _ _ ae true _ (Zo ao.out HB.out) ap.out A2.out).mono ?_); rintro e b7 ⟨rfl, hb⟩; refine ⟨_, rfl, ?_⟩; replace aa := bB aa hb; replace ab := bB ab hb; replace HB := sB HB hb; (try clear hb); (try clear aU aV aW aX); obtain ⟨aY, aZ, a6, a7⟩ := zZ aa))
 replace aa := bD aa
 replace ab := bD ab
 replace HB := Za (below_drew1 HB.out)
 refine start_ (n := 10) (S := fun w' => w'.cell? ⟨aj, 0, none⟩ = some (.int .i64 ah) ∧ w'.cell? ⟨aj, 1, none⟩ = some (.slice ak ae.length al)) (ds := []) #[F,F,F,F,F,F,F,F,F,F] (by kernel_rfl) rfl rfl ⟨(Zd aa.out 0).trans rfl, (Zd aa.out 1).trans rfl⟩ (fun hHeld => ?_); refine with_tabW gn.tab3 gn.bits3 (fun HT_ HW_ => ?_)
 (try clear aY aZ a6 a7)
 generalize b7.drew = ch at aa ab HB hHeld ⊢
 refine pU 0 HT_ ?_
 refine pU 2 HT_ ?_
 refine tK 1 HT_ HW_ hHeld (hy := by rintro w' ⟨s0, s1⟩; go_simp; with_reducible rfl) ?_
 refine tK 3 HT_ HW_ hHeld (hy := by rintro w' ⟨s0, s1⟩; go_simp; with_reducible rfl) ?_
 refine join_ (σ := ZB × ZB) 4 #[T,T,T,T,T,T,F,F,F,F] (fun s_ => [(18, s_.1), (19, s_.2)]) (fun s_ w' => (w'.cell? ⟨aj, 0, none⟩ = some (.int .i64 ah) ∧ w'.cell? ⟨aj, 1, none⟩ = some (.slice ak ae.length al)) ∧ (Kd.R (Zf .i64) 3 w' w.heap.size (fun k_ => nb (s_.2) k_) s_.1 an0) ∧ (Kd.R (Zf .i64) 3 w' w.heap.size (fun k_ => nb (s_.1) k_) s_.2 aq) ∧ (w'.heap[aj]? = some (.cells #[.int .i64 ah, .slice ak ae.length al] 24 (0, 0))) ∧ (w'.heap[ag]? = some (.cells #[.int .i64 0, .slice none 0 0] 24 (0, 0))) ∧ (Zt w.heap.size w w')) ?_ ?_
 rotate_left
 ·intro hCont
  refine two_ (i := 4) (j := 5) (Ni := some 18) (Nj := some 19) #[T,T,T,T,T,F,F,F,F,F] #[T,T,T,T,F,T,F,F,F,F] rfl rfl rfl rfl (two_of HT_.out (by kernel_rfl)) (by decide) (by decide) (fun K hK => ?_) (fun K hK => ?_)
  ·skip
   refine gE Tryz.func49 #[.slice ak ae.length al] ?_
   with_reducible refine (fN.calls _ _ ae an0 _ (Zo ao.out HB.out) ap.out bU.out).mono ?_
   rintro e b8 ⟨aw, rfl, br, hb⟩
   refine ⟨_, rfl, ?_⟩
   have am0 := Za (Zs br (Ze HB.out))
   replace aa := bB aa hb
   replace ab := bB ab hb
   replace HB := sB HB hb
   (try clear hb)
   (try clear hb2)
   (try clear hk)
   (try clear hi)
   (try clear br)
   refine hK.out _ _ ⟨(Zd aa.out 0).trans rfl, (Zd aa.out 1).trans rfl⟩ (fun hHeld => ?_)
   clear hK K
   refine nM ?_
   refine oN 5 HT_ (fun K hK => ?_)
   refine ZS (Zf .i64) _ 3 ?hg (N := 19) ?hd (xs := ([0] : List Int)) (inner := [.int .i64 0]) (ok := fun _ => True) (okp := fun _ => True) ?hr ?hp (fun _ hk => hk) trivial (Zk _ _) (Zl _) (by simp) ?_; (case hd => rfl); (case hg => rfl); (case hr => first | (go_simp; done) | (go_simp; rfl)); (case hp => exact (Reps.one (show Kd.M (Zf .i64) _ _ _ 0 [.int .i64 0] from rfl) (ZU _ _)))
   intro ay ci az hb hg_ hnew_
   clear hg_ hnew_
   (first | rw [← ax.out] at az | (simp only [ZE] at az; rw [← ax.out] at az))
   have ai := Za (Zs (Kd.R_new' az (ZZ am0.out)) (Ze HB.out))
   replace am0 := rE am0 (Z0 az) hb
   replace aa := bB aa hb
   replace ab := bB ab hb
   replace HB := sB HB hb
   clear hb az
   refine hK.out _ _ ⟨(Zd aa.out 0).trans rfl, (Zd aa.out 1).trans rfl⟩ (fun hHeld => ?_)
   clear hK K
   refine nM ?_
   exact ZQ (by simp only [Zv, Zn, sA, sZ, sS]) (hCont (aw, ay) _ ⟨hHeld, (by exact Zp am0.out (fun _ hk => hk.2)), (by exact Zp ai.out (fun _ hk => hk.2)), aa.out, ab.out, HB.out⟩)
  skip
  refine ZS (Zf .i64) _ 3 ?hg (N := 19) ?hd (xs := ([0] : List Int)) (inner := [.int .i64 0]) (ok := fun _ => True) (okp := fun _ => True) ?hr ?hp (fun _ hk => hk) trivial (Zk _ _) (Zl _) (by simp) ?_; (case hd => rfl); (case hg => rfl); (case hr => first | (go_simp; done) | (go_simp; rfl)); (case hp => exact (Reps.one (show Kd.M (Zf .i64) _ _ _ 0 [.int .i64 0] from rfl) (ZU _ _)))
  intro ay b8 aA hb hg_ hnew_
  clear hg_ hnew_
  (first | rw [← ax.out] at aA | (simp only [ZE] at aA; rw [← ax.out] at aA))
  have ai := Za (Zs aA (Ze HB.out))
  replace aa := bB aa hb
  replace ab := bB ab hb
  replace HB := sB HB hb
  clear hb aA
  refine hK.out _ _ ⟨(Zd aa.out 0).trans rfl, (Zd aa.out 1).trans rfl⟩ (fun hHeld => ?_)
  clear hK K
  refine nM ?_
  refine oN 4 HT_ (fun K hK => ?_)
  refine gE Tryz.func49 #[.slice ak ae.length al] ?_
  with_reducible refine (fN.calls _ _ ae an0 _ (Zo ao.out HB.out) ap.out bU.out).mono ?_
  rintro e cj ⟨aw, rfl, br, hb⟩
  refine ⟨_, rfl, ?_⟩
  have am0 := Za (Zs (Kd.R_new' br (ZZ ai.out)) (Ze HB.out))
  replace ai := rE ai (Z0 br) hb
  replace aa := bB aa hb
  replace ab := bB ab hb
  replace HB := sB HB hb
  (try clear hb)
  (try clear hb2)
  (try clear hk)
  (try clear hi)
  (try clear br)
  refine hK.out _ _ ⟨(Zd aa.out 0).trans rfl, (Zd aa.out 1).trans rfl⟩ (fun hHeld => ?_)
  clear hK K
  refine nM ?_
  exact ZQ (by simp only [Zv, Zn, sA, sZ, sS]) (hCont (aw, ay) _ ⟨hHeld, (by exact Zp am0.out (fun _ hk => hk.2)), (by exact Zp ai.out (fun _ hk => hk.2)), aa.out, ab.out, HB.out⟩)
 rintro ⟨aw, ay⟩ bq ⟨hS_, h0_, h1_, h2_, h3_, h4_⟩
 have n0_ : Zc (Kd.R (Zf .i64) 3 bq w.heap.size (fun k_ => nb ay k_) aw an0) := ⟨h0_⟩
 have n1_ : Zc (Kd.R (Zf .i64) 3 bq w.heap.size (fun k_ => nb aw k_) ay aq) := ⟨h1_⟩
 have n2_ : Zc (bq.heap[aj]? = some (.cells #[.int .i64 ah, .slice ak ae.length al] 24 (0, 0))) := ⟨h2_⟩
 have n3_ : Zc (bq.heap[ag]? = some (.cells #[.int .i64 0, .slice none 0 0] 24 (0, 0))) := ⟨h3_⟩
 have n4_ : Zc (Zt w.heap.size w bq) := ⟨h4_⟩
 clear aa
 clear ab
 clear HB
 clear h0_ h1_ h2_ h3_ h4_
 have am0 := n0_
 have ai := n1_
 have aa := n2_
 have ab := n3_
 have HB := n4_
 clear n0_ n1_ n2_ n3_ n4_
 have hHeld : bq.cell? ⟨aj, 0, none⟩ = some (.int .i64 ah) ∧ bq.cell? ⟨aj, 1, none⟩ = some (.slice ak ae.length al) := hS_
 obtain ⟨bO, bR, bv⟩ := Zx ai.out
 (first | subst bv | (injection bv with f1_ f2_ f3_; have f4_ := f1_.symm; have f5_ := f3_.symm; clear f1_ f2_ f3_; subst f4_; subst f5_))
 refine ZQ (a' := ?_) ?_ ?_
 rotate_left
 ·simp only [Zv, Zn, sA, sZ, sS]
  rfl
 refine oN 6 HT_ (fun K hK => ?_)
 refine Kd.R_append_rows_step (Zf .i64) (w0 := w) w.heap.size (by rfl) (.tmp 18) (.tmp 19) 22 3 (.int .i64 0) 8 rfl Tryz.underlying22 info3 rfl (by decide) (by omega) aw an0 aq _ _ _ (fun k_ => nb (.slice bO aq.length bR) k_) (fun _ => False) rfl rfl ?aO ?aR (fun _ _ h => h) (fun _ h => h.elim) ?aF ?aB ?aS ?aL ?_
 (case aR => repeat (first | exact (ZH ai.out).2.2 | (with_reducible refine ZX ?_ _) | (with_reducible refine Kd.C_drewN ?_ _) | (with_reducible refine Kd.C_drew ?_)))
 (case aB => exact HB.out)
 (case aF => exact (fun k_ hk => Kd.fresh' (ZZ ai.out) k_ hk))
 (case aO => exact am0.out)
 (case aS => exact (Ze HB.out))
 (case aL => have := bt.out; omega)
 intro b9 bX ho hb hg hat
 rw [← bu.out] at ho
 have bi := Za (ho)
 replace aa := Za (ZV (g := aj) (o := .cells #[.int .i64 ah, .slice ak ae.length al] 24 (0, 0)) aa.out hg (Z3 am0.out aa.out (by decide)))
 replace ab := Za (ZV (g := ag) (o := .cells #[.int .i64 0, .slice none 0 0] 24 (0, 0)) ab.out hg (Z3 am0.out ab.out (by decide)))
 replace ai := Za (Kd.R_after (ok := (fun _ => True)) (by exact Zp ai.out (fun _ hk => ⟨trivial, hk⟩)) hg hat)
 replace HB := Za (hb)
 clear ho hb hg hat
 obtain ⟨bw, bx, bz⟩ := Zx bi.out
 (first | subst bz | (injection bz with f1_ f2_ f3_; have f4_ := f1_.symm; have f5_ := f3_.symm; clear f1_ f2_ f3_; subst f4_; subst f5_))
 refine hK.out _ _ ⟨(Zd aa.out 0).trans rfl, (Zd aa.out 1).trans rfl⟩ (fun hHeld => ?_)
 clear hK K
 refine nM ?_
 refine pU 7 HT_ ?_
 refine oN 8 HT_ (fun K hK => ?_)
 have hs28 : bX.cell? ⟨ag, 0, none⟩ = some (.int .i64 0) := (Zd ab.out 0).trans rfl
 have bY := blk_frozen ab.out 0
 have bH := ac.out
 have bI := af.out
 have hs29 : bX.cell? ⟨ag, 1, none⟩ = some (.slice none 0 0) := (Zd ab.out 1).trans rfl
 have bZ := blk_frozen ab.out 1
 have bJ := ac.out
 have bK := af.out
 refine skip_ (w1 := ?_) (by rfl) rfl ?_ ?_
 rotate_left
 ·go_simp
  rfl
 refine hK.out _ _ ⟨((ZO (p := ⟨ag, _, none⟩) ac.out _).trans (((ZO (p := ⟨ag, _, none⟩) ac.out _).trans (hHeld.1)))), ((ZO (p := ⟨ag, _, none⟩) ac.out _).trans (((ZO (p := ⟨ag, _, none⟩) ac.out _).trans (hHeld.2))))⟩ (fun hHeld => ?_)
 clear hK K
 refine pU 9 HT_ ?_
 refine done_ (done_of HT_.out (by kernel_rfl)) ?_
 try go_wp2
 refine Zz (ZJ rfl _ _ ag 24 #[.int .i64 ah, .slice bw bo.length bx] (0, 0) _ rfl (by refine Zw (cs := #[.int .i64 ah, .slice none 0 0]) ?_ 1 _ rfl; refine Zw (cs := #[.int .i64 0, .slice none 0 0]) ?_ 0 _ rfl; exact ab.out) Tryz.underlying24 rfl (by kernel_rfl)) rfl ?_
 exact ⟨_, fR, by exact Zp (ZI (p := ⟨ag, 1, none⟩) (ZI (p := ⟨ag, 0, none⟩) (ZR bi.out ab.out (by decide)) (fun _ hk => hk.2) (.int .i64 ah)) (fun _ hk => hk.2) (.slice bw bo.length bx)) (fun _ hk => trivial), wB⟩
def g9.f (a0 : Int) : Option (Int) := some (Zb .and .i64 (Zg (IntKind.u64.wrap ((IntKind.u64.wrap ((IntKind.u64.wrap ((Zb .and .u64 (IntKind.u64.wrap (((IntKind.u64.wrap ((Zb .and .u64 ((IntKind.u64.wrap ((Zb .and .u64 (a0 / 2) 6148914691236517205) + (Zb .and .u64 a0 6148914691236517205))) / 4) 3689348814741910323) + (Zb .and .u64 (IntKind.u64.wrap ((Zb .and .u64 (a0 / 2) 6148914691236517205) + (Zb .and .u64 a0 6148914691236517205))) 3689348814741910323))) / 16) + (IntKind.u64.wrap ((Zb .and .u64 ((IntKind.u64.wrap ((Zb .and .u64 (a0 / 2) 6148914691236517205) + (Zb .and .u64 a0 6148914691236517205))) / 4) 3689348814741910323) + (Zb .and .u64 (IntKind.u64.wrap ((Zb .and .u64 (a0 / 2) 6148914691236517205) + (Zb .and .u64 a0 6148914691236517205))) 3689348814741910323))))) 1085102592571150095) + ((Zb .and .u64 (IntKind.u64.wrap (((IntKind.u64.wrap ((Zb .and .u64 ((IntKind.u64.wrap ((Zb .and .u64 (a0 / 2) 6148914691236517205) + (Zb .and .u64 a0 6148914691236517205))) / 4) 3689348814741910323) + (Zb .and .u64 (IntKind.u64.wrap ((Zb .and .u64 (a0 / 2) 6148914691236517205) + (Zb .and .u64 a0 6148914691236517205))) 3689348814741910323))) / 16) + (IntKind.u64.wrap ((Zb .and .u64 ((IntKind.u64.wrap ((Zb .and .u64 (a0 / 2) 6148914691236517205) + (Zb .and .u64 a0 6148914691236517205))) / 4) 3689348814741910323) + (Zb .and .u64 (IntKind.u64.wrap ((Zb .and .u64 (a0 / 2) 6148914691236517205) + (Zb .and .u64 a0 6148914691236517205))) 3689348814741910323))))) 1085102592571150095) / 256))) + ((IntKind.u64.wrap ((Zb .and .u64 (IntKind.u64.wrap (((IntKind.u64.wrap ((Zb .and .u64 ((IntKind.u64.wrap ((Zb .and .u64 (a0 / 2) 6148914691236517205) + (Zb .and .u64 a0 6148914691236517205))) / 4) 3689348814741910323) + (Zb .and .u64 (IntKind.u64.wrap ((Zb .and .u64 (a0 / 2) 6148914691236517205) + (Zb .and .u64 a0 6148914691236517205))) 3689348814741910323))) / 16) + (IntKind.u64.wrap ((Zb .and .u64 ((IntKind.u64.wrap ((Zb .and .u64 (a0 / 2) 6148914691236517205) + (Zb .and .u64 a0 6148914691236517205))) / 4) 3689348814741910323) + (Zb .and .u64 (IntKind.u64.wrap ((Zb .and .u64 (a0 / 2) 6148914691236517205) + (Zb .and .u64 a0 6148914691236517205))) 3689348814741910323))))) 1085102592571150095) + ((Zb .and .u64 (IntKind.u64.wrap (((IntKind.u64.wrap ((Zb .and .u64 ((IntKind.u64.wrap ((Zb .and .u64 (a0 / 2) 6148914691236517205) + (Zb .and .u64 a0 6148914691236517205))) / 4) 3689348814741910323) + (Zb .and .u64 (IntKind.u64.wrap ((Zb .and .u64 (a0 / 2) 6148914691236517205) + (Zb .and .u64 a0 6148914691236517205))) 3689348814741910323))) / 16) + (IntKind.u64.wrap ((Zb .and .u64 ((IntKind.u64.wrap ((Zb .and .u64 (a0 / 2) 6148914691236517205) + (Zb .and .u64 a0 6148914691236517205))) / 4) 3689348814741910323) + (Zb .and .u64 (IntKind.u64.wrap ((Zb .and .u64 (a0 / 2) 6148914691236517205) + (Zb .and .u64 a0 6148914691236517205))) 3689348814741910323))))) 1085102592571150095) / 256))) / 65536))) + ((IntKind.u64.wrap ((IntKind.u64.wrap ((Zb .and .u64 (IntKind.u64.wrap (((IntKind.u64.wrap ((Zb .and .u64 ((IntKind.u64.wrap ((Zb .and .u64 (a0 / 2) 6148914691236517205) + (Zb .and .u64 a0 6148914691236517205))) / 4) 3689348814741910323) + (Zb .and .u64 (IntKind.u64.wrap ((Zb .and .u64 (a0 / 2) 6148914691236517205) + (Zb .and .u64 a0 6148914691236517205))) 3689348814741910323))) / 16) + (IntKind.u64.wrap ((Zb .and .u64 ((IntKind.u64.wrap ((Zb .and .u64 (a0 / 2) 6148914691236517205) + (Zb .and .u64 a0 6148914691236517205))) / 4) 3689348814741910323) + (Zb .and .u64 (IntKind.u64.wrap ((Zb .and .u64 (a0 / 2) 6148914691236517205) + (Zb .and .u64 a0 6148914691236517205))) 3689348814741910323))))) 1085102592571150095) + ((Zb .and .u64 (IntKind.u64.wrap (((IntKind.u64.wrap ((Zb .and .u64 ((IntKind.u64.wrap ((Zb .and .u64 (a0 / 2) 6148914691236517205) + (Zb .and .u64 a0 6148914691236517205))) / 4) 3689348814741910323) + (Zb .and .u64 (IntKind.u64.wrap ((Zb .and .u64 (a0 / 2) 6148914691236517205) + (Zb .and .u64 a0 6148914691236517205))) 3689348814741910323))) / 16) + (IntKind.u64.wrap ((Zb .and .u64 ((IntKind.u64.wrap ((Zb .and .u64 (a0 / 2) 6148914691236517205) + (Zb .and .u64 a0 6148914691236517205))) / 4) 3689348814741910323) + (Zb .and .u64 (IntKind.u64.wrap ((Zb .and .u64 (a0 / 2) 6148914691236517205) + (Zb .and .u64 a0 6148914691236517205))) 3689348814741910323))))) 1085102592571150095) / 256))) + ((IntKind.u64.wrap ((Zb .and .u64 (IntKind.u64.wrap (((IntKind.u64.wrap ((Zb .and .u64 ((IntKind.u64.wrap ((Zb .and .u64 (a0 / 2) 6148914691236517205) + (Zb .and .u64 a0 6148914691236517205))) / 4) 3689348814741910323) + (Zb .and .u64 (IntKind.u64.wrap ((Zb .and .u64 (a0 / 2) 6148914691236517205) + (Zb .and .u64 a0 6148914691236517205))) 3689348814741910323))) / 16) + (IntKind.u64.wrap ((Zb .and .u64 ((IntKind.u64.wrap ((Zb .and .u64 (a0 / 2) 6148914691236517205) + (Zb .and .u64 a0 6148914691236517205))) / 4) 3689348814741910323) + (Zb .and .u64 (IntKind.u64.wrap ((Zb .and .u64 (a0 / 2) 6148914691236517205) + (Zb .and .u64 a0 6148914691236517205))) 3689348814741910323))))) 1085102592571150095) + ((Zb .and .u64 (IntKind.u64.wrap (((IntKind.u64.wrap ((Zb .and .u64 ((IntKind.u64.wrap ((Zb .and .u64 (a0 / 2) 6148914691236517205) + (Zb .and .u64 a0 6148914691236517205))) / 4) 3689348814741910323) + (Zb .and .u64 (IntKind.u64.wrap ((Zb .and .u64 (a0 / 2) 6148914691236517205) + (Zb .and .u64 a0 6148914691236517205))) 3689348814741910323))) / 16) + (IntKind.u64.wrap ((Zb .and .u64 ((IntKind.u64.wrap ((Zb .and .u64 (a0 / 2) 6148914691236517205) + (Zb .and .u64 a0 6148914691236517205))) / 4) 3689348814741910323) + (Zb .and .u64 (IntKind.u64.wrap ((Zb .and .u64 (a0 / 2) 6148914691236517205) + (Zb .and .u64 a0 6148914691236517205))) 3689348814741910323))))) 1085102592571150095) / 256))) / 65536))) / 4294967296)))) 127)
theorem g9.calls (a0 : Int) (r : Int) (w : ZG) (h : g9.f a0 = some r) :
  ZM Tryz.prog 109 #[.int .u64 a0] w fun e w' => e = .returned (.int .i64 r) ∧ Drawn0 w w' := by
 have H := h
 unfold g9.f at H
 clear h
 obtain rfl := Zh H
 go_enter Tryz.func109, Tryz.ntmps109
 go_wp2
 go_ret
 exact ⟨by first | rfl | (simp; done) | (simp [*]; done), dS⟩
def hF.f (a0 : Int) : Option (Int) := (g9.f a0).bind fun aa => (some aa)
theorem hF.calls (a0 : Int) (r : Int) (w : ZG) (h : hF.f a0 = some r) :
  ZM Tryz.prog 88 #[.int .u64 a0] w fun e w' => e = .returned (.int .i64 r) ∧ Drawn0 w w' := by
 have H := h
 unfold hF.f at H
 clear h
 replace H := oA H
 obtain ⟨aa, A2, H⟩ := H
 (try dsimp only at H)
 obtain rfl := Zh H
 go_enter Tryz.func88, Tryz.ntmps88
 go_wp2_with (first | ((with_reducible refine Zq (f := 109) rfl ?_); refine gL 7 Tryz.func109 #[.int .u64 a0] ?_; (with_reducible refine (g9.calls a0 aa _ A2.out).mono ?_); rintro e w' ⟨rfl, ⟨nd, rfl⟩⟩; refine ⟨_, rfl, ?_⟩))
 go_ret
 exact ⟨by first | rfl | (simp; done) | (simp [*]; done), dS⟩
def gH.f (a0 : Int) : Option (Int) := (hF.f (IntKind.u64.wrap (a0))).bind fun aa => (some aa)
theorem gH.calls (a0 : Int) (r : Int) (w : ZG) (h : gH.f a0 = some r) :
  ZM Tryz.prog 65 #[.int .i64 a0] w fun e w' => e = .returned (.int .i64 r) ∧ Drawn0 w w' := by
 have H := h
 unfold gH.f at H
 clear h
 replace H := oA H
 obtain ⟨aa, A2, H⟩ := H
 (try dsimp only at H)
 obtain rfl := Zh H
 go_enter Tryz.func65, Tryz.ntmps65
 go_wp2_with (first | ((with_reducible refine Zq (f := 88) rfl ?_); refine gL 5 Tryz.func88 #[.int .u64 (IntKind.u64.wrap (a0))] ?_; (with_reducible refine (hF.calls (IntKind.u64.wrap (a0)) aa _ A2.out).mono ?_); rintro e w' ⟨rfl, ⟨nd, rfl⟩⟩; refine ⟨_, rfl, ?_⟩))
 go_ret
 exact ⟨by first | rfl | (simp; done) | (simp [*]; done), dS⟩
mutual
def fA.j0 : Nat → Int → Bool → Int → List Int → Option (Int × Bool)
 | 0, _, _, _, _ => none
 | k + 1, x1, ai, aa, ab => if ai = true then (some (0, false)) else ((fF.f k aa ab).bind fun ac => (fA.l0 k x1 0 ac.2 (ac.2.length : Int) 0))
def fA.l0 : Nat → Int → Int → List Bool → Int → Int → Option (Int × Bool)
 | 0, _, _, _, _, _ => none
 | k + 1, x1, x6, af, ag, ae => if ae < ag then (if 0 ≤ ae then (if ae < (af.length : Int) then (if rdOf false af ae = true then ((gH.f ae).bind fun ah => (if ah = x1 then (fA.l0 k x1 (Zg (x6 + 1)) af ag (Zg (ae + 1))) else (fA.l0 k x1 x6 af ag (Zg (ae + 1))))) else (fA.l0 k x1 x6 af ag (Zg (ae + 1)))) else (none)) else (none)) else (some (x6, true))
end
def fA.f (k : Nat) (ab : Int) (aa : List Int) (a1 : Int) : Option (Int × Bool) := (fd.f k ab aa).bind fun ac => (if ac = true then ((fU.f a1 0 (aa.length : Int)).bind fun ae => (fA.j0 k a1 (!ae) ab aa)) else (fA.j0 k a1 true ab aa))
theorem fA.calls (k : Nat) (ag : Int) (am0 : Option Addr) (an0 : Nat) (ae : List Int) (a1 : Int) (r1 : Int) (r2 : Bool) (w : ZG) (aM : Kd.C (Zf .i64) w am0 ae.length ae) (aN : ae.length ≤ an0) (h : fA.f k ag ae a1 = some (r1, r2)) :
  ZM Tryz.prog 26 #[.agg #[.int .i64 ag, .slice am0 ae.length an0], .int .i64 a1] w fun e w' => e = .returned (.tuple #[.int .i64 r1, .bool r2]) ∧ Zt w.heap.size w w' := by
 have hu24 := Tryz.underlying24
 have hu53 := Tryz.underlying53
 have hfd0 : ∀ (v0_ v1_ : ZB) (W_ : ZG), (Instr.field 53 (.agg #[v0_, v1_]) 1).run Tryz.prog W_ = .ok v1_ W_ := fun v0_ v1_ W_ => by kernel_rfl
 have aw := Za aM
 have ax := Za aN
 clear aM aN
 have HB := Za (Zk w.heap.size w)
 have H := h
 unfold fA.f at H
 clear h
 have bn := Za H
 clear H
 go_enter Tryz.func26, Tryz.ntmps26
 go_upto_region 1 with (first | ((with_reducible refine Zu (N := 2) rfl ?_); (try (refine gate_guard (by rfl) ?_; dsimp only)); refine xE (N := 2) (cs := #[.int .i64 ag, .slice am0 ae.length an0]) (t := 24) ?_; intro aQ hg w4 ab hb; have bw := gS hg HB; have bx := gS hg HB; replace HB := sB HB hb; clear hb hg))
 (try simp only [Zn, sA, sZ, sS])
 go_cut [19] (fun bF wc => ∃ (kq : Nat) (ao : Bool), bF = .bool ao ∧ Zc (fA.j0 kq a1 ao ag ae = some (r1, r2)) ∧ Zc (kq ≤ k) ∧ Zc (wc.heap[aQ]? = some (.cells #[.int .i64 ag, (.slice am0 ae.length an0)] 24 (0, 0))) ∧ Zc (Zt w.heap.size w wc))
 case first =>
  have H := bn.out
  clear bn
  replace H := oA H
  obtain ⟨bo, A5, H⟩ := H
  (try dsimp only at H)
  by_cases c6 : bo = true
  rotate_left
  ·replace c6 := Bool.eq_false_iff.mpr c6
   subst c6
   replace H := iF H
   have H' := Za H
   clear H
   (try clear aC aD aE aG)
   obtain ⟨ap, aq, au, av⟩ := zZ ab
   go_wp2_with (first | ((with_reducible refine Zq (f := 16) rfl ?_); refine gL 10 Tryz.func16 #[.agg #[.int .i64 ag, .slice am0 ae.length an0]] ?_; (with_reducible refine (fd.calls k ag _ _ ae false _ ?side1 ?side2 A5.out).mono ?_); (case side1 => have hx_ := (Zo aw.out HB.out); exact cC); (case side2 => exact ax.out); rintro e bJ ⟨rfl, hb⟩; refine ⟨_, rfl, ?_⟩; replace ab := bP ab hb; replace HB := sQ hb; (try clear hb)))
   go_meet
   case rel => exact ⟨_, (true), gR, H', ⟨by first | omega | exact Zl _⟩, ⟨bQ ab⟩, ⟨wB⟩⟩
  subst c6
  replace H := iT H
  replace H := oA H
  obtain ⟨a8, A7, H⟩ := H
  (try dsimp only at H)
  have H' := Za H
  clear H
  obtain ⟨aV, aW, aX, aY⟩ := zZ ab
  go_wp2_with (first | ((with_reducible refine Zq (f := 16) rfl ?_); refine gL 10 Tryz.func16 #[.agg #[.int .i64 ag, .slice am0 ae.length an0]] ?_; (with_reducible refine (fd.calls k ag _ _ ae true _ (Zo aw.out HB.out) ax.out A5.out).mono ?_); rintro e w9 ⟨rfl, hb⟩; refine ⟨_, rfl, ?_⟩; replace ab := bB ab hb; replace HB := sB HB hb; (try clear hb); (try clear aV aW aX aY); obtain ⟨aC, aD, aE, aG⟩ := zZ ab) | (go_at_call 35; (with_reducible refine (fU.calls a1 0 (ae.length : Int) a8 _ A7.out).mono ?_); rintro e w' ⟨rfl, ⟨nd, rfl⟩⟩))
  go_meet
  case rel => exact ⟨_, (!a8), gR, H', ⟨by first | omega | exact Zl _⟩, ⟨bQ ab⟩, ⟨wB⟩⟩
 case rest =>
  clear bn
  (try clear c1); (try clear c2); (try clear p2); (try clear c6); (try clear ap); (try clear aq); (try clear au); (try clear av)
  obtain ⟨kq, ao, rfl, HA, a6, ab, HB⟩ := hcut
  cases kq with
  | zero => exact absurd HA.out (by simp [fA.j0])
  | succ bq =>
   have H := HA.out
   clear HA
   simp only [fA.j0] at H
   by_cases bb : ao = true
   ·subst bb
    replace H := iT H
    simp only [Zi, Zr] at H
    obtain ⟨rfl, rfl⟩ := H
    go_wp2
    go_ret2
    exact ⟨fR, wB⟩
   replace bb := Bool.eq_false_iff.mpr bb
   subst bb
   replace H := iF H
   replace H := oB H
   obtain ⟨⟨br, ac⟩, bc, H⟩ := H
   (try dsimp only at H)
   have bG := Za bc
   clear bc
   have H' := Za H
   clear H
   obtain ⟨aH, aI, aJ, aK⟩ := zZ ab
   go_wp2_with (first | ((with_reducible refine Zq (f := 40) rfl ?_); refine gL 21 Tryz.func40 #[.agg #[.int .i64 ag, .slice am0 ae.length an0]] ?_; (with_reducible refine (fF.calls bq ag _ _ ae br ac _ (Zo aw.out HB.out) ax.out bG.out).mono ?_); rintro e bK ⟨bH, rfl, bz, hb⟩; refine ⟨_, rfl, ?_⟩; have aT := Za (Zs bz (Ze HB.out)); replace ab := bB ab hb; replace HB := sB HB hb; (try clear hb); (try clear bz); obtain ⟨bt, bu, bv⟩ := Zx aT.out; subst bv))
   go_loopg [6, 24] bq (fun kq v6 bI w' => ∃ (ak : Int) (aa : Int), v6 = .int .i64 ak ∧ bI = .int .i64 aa ∧ Zc (fA.l0 kq a1 ak ac (ac.length : Int) aa = some (r1, r2)) ∧ Zc (kq ≤ bq) ∧ Zc (Kd.R Kd.bool 4 w' w.heap.size (fun _ => True) (.slice bt ac.length bu) ac) ∧ Zc (w'.heap[aQ]? = some (.cells #[.int .i64 ag, (.slice am0 ae.length an0)] 24 (0, 0))) ∧ Zc (Zt w.heap.size w w'))
   case atStart => exact ⟨(0), (0), gR, gR, H', ⟨Zl _⟩, ⟨by exact aT.out⟩, ⟨by exact ab.out⟩, ⟨wB⟩⟩
   case round =>
    clear H'
    (try clear c1); (try clear c2); (try clear p2); (try clear c4); (try clear c6); (try clear bb); (try clear bL); (try clear ap); (try clear aq); (try clear aH); (try clear aI); (try clear au); (try clear av); (try clear aJ); (try clear aK); (try clear p2)
    obtain ⟨ak, aa, rfl, rfl, HA, HK2, aj, ab, HB⟩ := hrel
    cases gk with
    | zero => exact absurd HA.out (by simp [fA.l0])
    | succ k2 =>
     have H := HA.out
     clear HA
     simp only [fA.l0] at H
     by_cases a7 : aa < (ac.length : Int)
     rotate_left
     ·rw [if_neg a7] at H
      have bf : decide (aa < (ac.length : Int)) = false := decide_eq_false a7
      clear a7
      simp only [Zi, Zr] at H
      obtain ⟨rfl, rfl⟩ := H
      go_wp2
      go_ret2
      exact ⟨fR, wB⟩
     rw [if_pos a7] at H
     have bf := decide_eq_true a7
     clear a7
     by_cases bj : 0 ≤ aa
     rotate_left
     ·rw [if_neg bj] at H
      exact absurd H (by simp)
     rw [if_pos bj] at H
     have bA := decide_eq_true bj
     clear bj
     by_cases bl : aa < (ac.length : Int)
     rotate_left
     ·rw [if_neg bl] at H
      exact absurd H (by simp)
     rw [if_pos bl] at H
     have bC := decide_eq_true bl
     clear bl
     obtain ⟨bg, ay⟩ : ∃ b_ : Bool, b_ = (rdOf false ac aa) := ⟨_, rfl⟩
     replace H : (if bg = true then ((gH.f aa).bind fun al => (if al = a1 then (fA.l0 k2 a1 (Zg (ak + 1)) ac (ac.length : Int) (Zg (aa + 1))) else (fA.l0 k2 a1 ak ac (ac.length : Int) (Zg (aa + 1))))) else (fA.l0 k2 a1 ak ac (ac.length : Int) (Zg (aa + 1)))) = some (r1, r2) := by rw [← ay] at H; exact H
     have az := Za ay
     clear ay
     by_cases bm : bg = true
     rotate_left
     ·replace bm := Bool.eq_false_iff.mpr bm
      subst bm
      replace H := iF H
      have H' := Za H
      clear H
      have ah : 0 ≤ (aa : Int) := oD
      have ai : aa < (ac.length : Int) := oD
      obtain ⟨aU, aA, af⟩ := ZF (ZH aj.out).2.2 aa ah ai
      (try rw [← az.out] at af)
      cases aA
      replace ah := eq_true ah
      replace ai := eq_true ai
      go_wp2
      go_roundg k2
      case measure => have := a6.out; have := HK2.out; omega
      case rel => exact ⟨(ak), (Zg (aa + 1)), gR, gR, H', ⟨by have := a6.out; have := HK2.out; omega⟩, ⟨rQ aj⟩, ⟨bQ ab⟩, ⟨wB⟩⟩
     subst bm
     replace H := iT H
     replace H := oA H
     obtain ⟨al, bE, H⟩ := H
     (try dsimp only at H)
     by_cases aZ : al = a1
     rotate_left
     ·rw [if_neg aZ] at H
      have bh : (al == a1) = false := beq_eq_false_iff_ne.mpr aZ
      have bi : (al != a1) = true := bne_iff_ne.mpr aZ
      have H' := Za H
      clear H
      have ah : 0 ≤ (aa : Int) := oD
      have ai : aa < (ac.length : Int) := oD
      obtain ⟨aU, aA, af⟩ := ZF (ZH aj.out).2.2 aa ah ai
      (try rw [← az.out] at af)
      cases aA
      replace ah := eq_true ah
      replace ai := eq_true ai
      go_wp2_with (first | (go_at_call 65; (with_reducible refine (gH.calls aa al _ bE.out).mono ?_); rintro e w' ⟨rfl, ⟨nd, rfl⟩⟩))
      go_roundg k2
      case measure => have := a6.out; have := HK2.out; omega
      case rel => exact ⟨(ak), (Zg (aa + 1)), gR, gR, H', ⟨by have := a6.out; have := HK2.out; omega⟩, ⟨rQ aj⟩, ⟨bQ ab⟩, ⟨wB⟩⟩
     rw [if_pos aZ] at H
     have bh : (al == a1) = true := beq_iff_eq.mpr aZ
     have bi : (al != a1) = false := bne_eq_false_iff_eq.mpr aZ
     clear aZ
     have H' := Za H
     clear H
     have ah : 0 ≤ (aa : Int) := oD
     have ai : aa < (ac.length : Int) := oD
     obtain ⟨aU, aA, af⟩ := ZF (ZH aj.out).2.2 aa ah ai
     (try rw [← az.out] at af)
     cases aA
     replace ah := eq_true ah
     replace ai := eq_true ai
     go_wp2_with (first | (go_at_call 65; (with_reducible refine (gH.calls aa al _ bE.out).mono ?_); rintro e w' ⟨rfl, ⟨nd, rfl⟩⟩))
     go_roundg k2
     case measure => have := a6.out; have := HK2.out; omega
     case rel => exact ⟨(Zg (ak + 1)), (Zg (aa + 1)), gR, gR, H', ⟨by have := a6.out; have := HK2.out; omega⟩, ⟨rQ aj⟩, ⟨bQ ab⟩, ⟨wB⟩⟩
def gW.f (aa : Int) (ab : List Bool) : Option (Int) := if 0 ≤ aa then (some (Zg ((shl .i64 1 aa) - 1))) else (none)
theorem gW.calls (aa : Int) (ag : Option Addr) (ah : Nat) (ab : List Bool) (r : Int) (w : ZG) (ae : Kd.C Kd.bool w ag ab.length ab) (af : ab.length ≤ ah) (h : gW.f aa ab = some r) :
  ZM Tryz.prog 68 #[.agg #[.int .i64 aa, .slice ag ab.length ah]] w fun e w' => e = .returned (.int .i64 r) ∧ Zt w.heap.size w w' := by
 have hu53 := Tryz.underlying53
 have ao := Za ae
 have ap := Za af
 clear ae af
 have HB := Za (Zk w.heap.size w)
 have H := h
 unfold gW.f at H
 clear h
 by_cases c2 : 0 ≤ aa
 rotate_left
 ·rw [if_neg c2] at H
  exact absurd H (by simp)
 rw [if_pos c2] at H
 have aw := eq_true c2
 have ax := decide_eq_true c2
 clear c2
 obtain ⟨ai, ac⟩ : ∃ j_ : Int, (shl .i64 1 aa) = j_ := ⟨_, rfl⟩
 replace H : (some (Zg ((ai) - 1))) = some r := by first | (rw [ac] at H; exact H) | (simp only [ac] at H ⊢; exact H)
 have hji3_ : (IntKind.i64.wrap (1 * 2 ^ min aa.toNat 64)) = ai := ac
 have hji3z : aa ≤ 64 → (IntKind.i64.wrap (1 * 2 ^ aa.toNat)) = ai := shl_small ac
 have hji3u : (IntKind.i64.wrap (2 ^ min aa.toNat 64)) = ai := by have h_ := hji3_; rw [Z7] at h_; exact h_
 have hji3v : aa ≤ 64 → (IntKind.i64.wrap (2 ^ aa.toNat)) = ai := fun hle_ => by have h_ := hji3z hle_; rw [Z7] at h_; exact h_
 have hji3y : (Zg (1 * 2 ^ min aa.toNat 64)) = ai := (i64_w _).symm.trans hji3_
 have hji3x : aa ≤ 64 → (Zg (1 * 2 ^ aa.toNat)) = ai := fun h_ => (i64_w _).symm.trans (hji3z h_)
 obtain rfl := Zh H
 go_enter Tryz.func68, Tryz.ntmps68
 go_wp2_with (first | ((with_reducible refine Zu (N := 1) rfl ?_); refine xE (N := 1) (cs := #[.int .i64 aa, .slice ag ab.length ah]) (t := 53) ?_; intro aq hg w4 aj hb; have au := gS hg HB; have av := gS hg HB; replace HB := sB HB hb; clear hb hg; obtain ⟨ak, al, am0, an0⟩ := zZ aj))
 go_ret
 exact ⟨by first | rfl | (simp <;> rfl) | (simp only [← ac]; first | rfl | (simp <;> rfl)) | (simp [*] <;> rfl), wB⟩
def fM.l0 : Nat → (Int → Option Bool) → Int → List Int → Int → Option (List Int)
 | 0, _, _, _, _ => none
 | k + 1, p, n, out, x => if x < n then ((p x).bind fun b => if b = true then (if out.length < 17592186044416 then fM.l0 k p n (out ++ [x]) (Zg (x + 1)) else none) else fM.l0 k p n out (Zg (x + 1))) else some out
def fM.g (k : Nat) (n : Int) (p : Int → Option Bool) : Option (List Int) := fM.l0 k p n [] 0
theorem fM.hof (k : Nat) (n : Int) (p : Int → Option Bool) (g : Nat) (fb lb : Array ZB) (r : List Int) (w : ZG) (hn : n ≤ 9223372036854775807) (eg : ∀ args w, (Z8 g args).run Tryz.prog w = .ok (.enter g args) w)
  (hp : ∀ (W : ZG) (x : Int) (b : Bool), Zt w.heap.size w W → 0 ≤ x → x < n → p x = some b → ZM Tryz.prog g (fb ++ #[.int .i64 x] ++ lb) W fun e W' => e = .returned (.bool b) ∧ Zt W.heap.size W W') (h : fM.g k n p = some r) :
  ZM Tryz.prog 66 #[.int .i64 n, .func (.func g) fb lb] w fun e w' => ∃ v0_ : ZB, e = .returned (v0_) ∧ Kd.R (Zf .i64) 3 w' w.heap.size (fun _ => True) v0_ r ∧ Zt w.heap.size w w' := by
 have HN := Za hn
 have HP := Za hp
 have H' : Zc (fM.l0 k p n ([] : List Int) 0 = some r) := ⟨h⟩
 have HB := Za (Zk w.heap.size w)
 clear h hp hn
 go_enter Tryz.func66, Tryz.ntmps66
 go_wp2_with (first | ((with_reducible refine Zu (N := 7) rfl ?_); refine Kd.R_lit (Zf .i64) _ 3 ?hg (N := 7) ?hd (xs := ([] : List Int)) (inner := []) (ok := fun _ => True) (okp := fun _ => True) ?hr ?hp (fun _ hk => hk) trivial (Zk _ _) (Zl _) (by simp) ?_; (case hd => rfl); (case hg => rfl); (case hr => first | (go_simp; done) | (go_simp; rfl)); (case hp => exact (ZU _ _)); intro ab w8 ho hb hg_ hnew_; clear hg_ hnew_; have n0_ := Za (Zs ho (Ze HB.out)); have n2_ := sB HB hb; clear HB; have HO := n0_; have HB := n2_; clear n0_ n2_; clear hb ho))
 go_loopg [5, 9] k (fun kq v5 v9 w' => ∃ (out : List Int) (x : Int), v9 = .int .i64 x ∧ Zc (fM.l0 kq p n out x = some r) ∧ Zc (kq ≤ k) ∧ Zc (0 ≤ x) ∧ Zc (Kd.R (Zf .i64) 3 w' w.heap.size (fun _ => True) v5 out) ∧ Zc (Zt w.heap.size w w'))
 case atStart => exact ⟨[], 0, gR, H', ⟨Zl _⟩, ⟨Int.le_refl _⟩, ⟨by exact HO.out⟩, ⟨HB.out⟩⟩
 case round =>
  clear H' HB HO
  obtain ⟨out, x, rfl, HA, HK1, HX0, HO, HB⟩ := hrel
  cases gk with
  | zero => exact absurd HA.out (by simp [fM.l0])
  | succ k1 =>
   have H := HA.out
   clear HA
   simp only [fM.l0] at H
   by_cases c1 : x < n
   rotate_left
   ·rw [if_neg c1] at H
    obtain rfl := Zh H
    have aa : decide (x < n) = false := decide_eq_false c1
    clear c1 H
    go_wp2
    go_ret
    exact ⟨_, rfl, by exact HO.out, HB.out⟩
   rw [if_pos c1] at H
   obtain ⟨b, A5, H⟩ := oB H
   have hcall := HP.out wr x b HB.out HX0.out c1 A5
   have HXW : Zc (0 ≤ Zg (x + 1)) := ⟨by have h1_ := HX0.out; have h2_ := HN.out; unfold Zg; omega⟩
   have aa := decide_eq_true c1
   clear c1
   cases b with
   | true =>
    rw [if_pos rfl] at H
    by_cases c3 : out.length < 17592186044416
    rotate_left
    ·rw [if_neg c3] at H
     exact absurd H (by simp)
    rw [if_pos c3] at H
    obtain ⟨y, hy⟩ : ∃ y_ : List Int, y_ = (out ++ [x]) := ⟨_, rfl⟩
    rw [← hy] at H
    have NY := Za hy
    have LM := Za c3
    have H' := Za H
    clear hy c3 H
    go_wp2_with fail
    refine hcall.mono ?_
    rintro e w' ⟨rfl, hb⟩
    have n0_ := rB HO hb
    have n2_ := Za (HB.out.trans (hb.mono HB.out.size))
    clear HO HB hb hcall
    have HO := n0_
    have HB := n2_
    clear n0_ n2_
    go_wp2_with (((with_reducible refine gate_builtin (b := .append) (xs := #[.tmp 15, .tmp 17]) rfl ?_); at_builtin; refine Kd.R_append (Zf .i64) (w0 := w) w.heap.size rfl (.tmp 15) (.tmp 17) 22 3 (.int .i64 0) 8 rfl Tryz.underlying22 info3 rfl (by decide) (by omega) u5 out x [.int .i64 x] (fun _ => True) (fun _ => False) rfl rfl ?aP (fun _ hk => hk.elim) ?aF ?aO ?aB ?aS ?aL ?_; (case aP => exact rfl); (case aB => exact HB.out); (case aF => exact (fun _ _ => trivial)); (case aO => exact HO.out); (case aS => exact (Ze HB.out)); (case aL => have := LM.out; omega); intro ac ae ho hb hg hat; rw [← NY.out] at ho; have n0_ := Za hb; have n1_ := Za ho; clear HB HO; have HB := n0_; have HO := n1_; clear n0_ n1_ ho hb hg hat))
    go_roundg k1
    case measure => have := HK1.out; omega
    case rel => exact ⟨y, (Zg (x + 1)), gR, H', ⟨by have := HK1.out; omega⟩, HXW, ⟨by exact HO.out⟩, ⟨HB.out⟩⟩
   | false =>
    rw [if_neg (by decide)] at H
    have H' := Za H
    clear H
    go_wp2_with fail
    refine hcall.mono ?_
    rintro e w' ⟨rfl, hb⟩
    have n0_ := rB HO hb
    have n2_ := Za (HB.out.trans (hb.mono HB.out.size))
    clear HO HB hb hcall
    have HO := n0_
    have HB := n2_
    clear n0_ n2_
    go_wp2
    go_roundg k1
    case measure => have := HK1.out; omega
    case rel => exact ⟨out, (Zg (x + 1)), gR, H', ⟨by have := HK1.out; omega⟩, HXW, ⟨by exact HO.out⟩, ⟨HB.out⟩⟩
def gX.f (n : Int) (ws : List Bool) (x : Int) : Option Bool := (gW.f n ws).bind fun t => if 0 ≤ Zb .andNot .i64 t (shl .i64 1 x) then (if Zb .andNot .i64 t (shl .i64 1 x) < (ws.length : Int) then some (!(rdOf false ws (Zb .andNot .i64 t (shl .i64 1 x)))) else none) else none
def gI.f (k : Nat) (aa : Int) (ab : List Int) : Option (List Int × Bool) := (fd.f k aa ab).bind fun t => if t = true then ((fF.f k aa ab).bind fun v => if v.1 ≤ 9223372036854775807 then ((fM.g k v.1 (gX.f v.1 v.2)).bind fun r => some (r, true)) else none) else some (([] : List Int), false)
theorem gX.clo (n : Int) (ws : List Bool) (x : Int) (b : Bool) (A : Option Addr) (c : Nat) (B : Nat) (W : ZG) (ab : 0 ≤ x) (h0 : W.cell? ⟨B, 0, none⟩ = some (.int .i64 n)) (h1 : W.cell? ⟨B, 1, none⟩ = some (.slice A ws.length c)) (hr : Kd.C Kd.bool W A ws.length ws) (hc : ws.length ≤ c) (h : gX.f n ws x = some b) :
  ZM Tryz.prog 67 #[.int .i64 x, .pointer (some ⟨B, 0, none⟩)] W fun e W' => e = .returned (.bool b) ∧ Zt W.heap.size W W' := by
 have huV := Tryz.underlying53
 obtain ⟨t, ht, hg⟩ := oB h
 obtain ⟨j6, aa⟩ : ∃ j_ : Int, (shl .i64 1 x) = j_ := ⟨_, rfl⟩
 rw [aa] at hg
 have hj6_ : (IntKind.i64.wrap (1 * 2 ^ min x.toNat 64)) = j6 := aa
 have hj6z : x ≤ 64 → (IntKind.i64.wrap (1 * 2 ^ x.toNat)) = j6 := shl_small aa
 have hj6u : (IntKind.i64.wrap (2 ^ min x.toNat 64)) = j6 := by have h_ := hj6_; rw [Z7] at h_; exact h_
 have hj6v : x ≤ 64 → (IntKind.i64.wrap (2 ^ x.toNat)) = j6 := fun hle_ => by have h_ := hj6z hle_; rw [Z7] at h_; exact h_
 clear aa
 by_cases c1 : 0 ≤ (Zb .andNot .i64 t j6)
 case neg => rw [if_neg c1] at hg; cases hg
 rw [if_pos c1] at hg
 by_cases c2 : (Zb .andNot .i64 t j6) < (ws.length : Int)
 case neg => rw [if_neg c2] at hg; cases hg
 rw [if_pos c2] at hg
 obtain rfl := Zh hg
 obtain ⟨ad, e1, hx⟩ := ZF hr (Zb .andNot .i64 t j6) c1 c2
 obtain ⟨v, hv⟩ : ∃ v : Bool, v = rdOf false ws (Zb .andNot .i64 t j6) := ⟨_, rfl⟩
 rw [← hv] at hx ⊢
 cases e1
 have ac : B < W.heap.size := Zj W _ h0
 have ae : (ad.add (Zb .andNot .i64 t j6).toNat).block < W.heap.size := Zj W _ hx
 have af := Za (show B < W.drew.heap.size from ac)
 have ag := Za (show (ad.add (Zb .andNot .i64 t j6).toNat).block < W.drew.heap.size from ae)
 have HD0 := Za (show W.drew.cell? ⟨B, 0, none⟩ = some (.int .i64 n) from h0)
 have HD1 := Za (show W.drew.cell? ⟨B, 1, none⟩ = some (.slice (some ad) ws.length c) from h1)
 have HD2 := Za (show W.drew.cell? (ad.add (Zb .andNot .i64 t j6).toNat) = some (.bool v) from hx)
 have HR := Za (Kd.C_drew hr)
 have HC := Za hc
 have HT := Za ht
 have HBD := Za (show Zt W.heap.size W W.drew from below_drew1 (Zk _ _))
 have c1' := eq_true c1
 have c2' := eq_true c2
 have c3' := eq_true ab
 clear hr hc ht h hg hv ac ae c1 c2 hx ab
 go_enter Tryz.func67, Tryz.ntmps67
 go_wp2
 go_region_held3 (fun w' => w'.cell? ⟨B, 0, none⟩ = some (.int .i64 n) ∧ w'.cell? ⟨B, 1, none⟩ = some (.slice (some ad) ws.length c) ∧ w'.cell? (ad.add (Zb .andNot .i64 t j6).toNat) = some (.bool v)) (first | exact ⟨HD0.out, HD1.out, HD2.out⟩ | exact ⟨k0, k1, k2⟩ | go_keep)
  (first | (go_at_call 68; refine (gW.calls n (some ad) c ws t _ HR.out HC.out HT.out).mono ?_; rintro e w' ⟨rfl, hb⟩; have k0 := (hb.cell (p := ⟨B, 0, none⟩) af.out).trans HD0.out; have k1 := (hb.cell (p := ⟨B, 1, none⟩) af.out).trans HD1.out; have k2 := (hb.cell ag.out).trans HD2.out; have HBN := Za (HBD.out.trans (hb.mono HBD.out.size)); clear hb))
 go_wp2
 go_ret
 exact ⟨rfl, HBN.out⟩
theorem gI.calls (k : Nat) (ab : Int) (ac : Option Addr) (ae : Nat) (aa : List Int) (r1 : List Int) (r2 : Bool) (w : ZG) (af : Kd.C (Zf .i64) w ac aa.length aa) (ag : aa.length ≤ ae) (h : gI.f k ab aa = some (r1, r2)) :
  ZM Tryz.prog 27 #[.agg #[.int .i64 ab, .slice ac aa.length ae]] w fun e w' => ∃ v0_ : ZB, e = .returned (.tuple #[v0_, .bool r2]) ∧ Kd.R (Zf .i64) 3 w' w.heap.size (fun _ => True) v0_ r1 ∧ Zt w.heap.size w w' := by
 have eg : ∀ args w, (Z8 67 args).run Tryz.prog w = .ok (.enter 67 args) w := enters_of Tryz.func67 (by kernel_rfl) rfl
 have hmf : ∀ (fn : Fn) (first cap : Array ZB) (w : ZG), (Z9 fn first cap).run Tryz.prog w = .ok (.func fn first cap) w := fun _ _ _ _ => rfl
 have huC := Tryz.underlying24
 have huV := Tryz.underlying53
 simp only [gI.f] at h
 obtain ⟨t, ht, h⟩ := oB h
 have HR := Za af
 have HC := Za ag
 have HT := Za ht
 have HB1 := Za (show Zt w.heap.size w (w.alloc (.cells #[.int .i64 ab, .slice ac aa.length ae] 24)) from (Zk _ _).alloc (Zl _) _)
 have hw1 := blk_new w (.cells #[.int .i64 ab, .slice ac aa.length ae] 24)
 clear af ag ht
 cases t with
 | false =>
  rw [if_neg (by decide)] at h
  simp only [Zi, Zr] at h
  obtain ⟨rfl, rfl⟩ := h
  go_enter Tryz.func27, Tryz.ntmps27
  go_wp2_with fail
  refine (fd.calls k ab ac ae aa false _ (Zo HR.out HB1.out) HC.out HT.out).mono ?_
  rintro e w1 ⟨rfl, hb⟩
  have HB2 := Za (HB1.out.trans (hb.mono HB1.out.size))
  clear hb
  go_wp2
  go_ret2
  exact ⟨_, rfl, Z1 _ _ _ _ _, HB2.out⟩
 | true =>
  rw [if_pos rfl] at h
  obtain ⟨⟨n, ws⟩, hv, h⟩ := oB h
  by_cases hn : n ≤ 9223372036854775807
  case neg => rw [if_neg hn] at h; cases h
  rw [if_pos hn] at h
  obtain ⟨r, hm, h⟩ := oB h
  simp only [Zi, Zr] at h
  obtain ⟨rfl, rfl⟩ := h
  have HV := Za hv
  have HM := Za hm
  have HN := Za hn
  clear hv hm hn
  go_enter Tryz.func27, Tryz.ntmps27
  go_wp2_with fail
  refine (fd.calls k ab ac ae aa true _ (Zo HR.out HB1.out) HC.out HT.out).mono ?_
  rintro e w1 ⟨rfl, hb⟩
  have BK := Za (blk_below hw1 hb)
  have HB2 := Za (HB1.out.trans (hb.mono HB1.out.size))
  have hc0 := (Zd BK.out 0).trans rfl
  have hc1 := (Zd BK.out 1).trans rfl
  clear hb
  go_wp2_with fail
  refine (fF.calls k ab ac ae aa n ws _ (Zo HR.out HB2.out) HC.out HV.out).mono ?_
  rintro e w2 ⟨v1, rfl, hO, hb⟩
  obtain ⟨A1, c1, rfl⟩ := Zx hO
  have ah := Za (ZH hO)
  have HB3 := Za (HB2.out.trans (hb.mono HB2.out.size))
  clear hO hb hc0 hc1
  have hc0' : (w2.alloc (.cells #[.int .i64 n, .slice A1 ws.length c1] 53)).cell? ⟨w2.heap.size, 0, none⟩ = some (.int .i64 n) := by simp [go_sem]
  have HB4 := Za (HB3.out.trans ((below_alloc (Zk w2.heap.size w2) (.cells #[.int .i64 n, .slice A1 ws.length c1] 53)).mono HB3.out.size))
  have HX := Za (fM.hof k n (gX.f n ws) 67 #[] #[.pointer (some ⟨w2.heap.size, 0, none⟩)] r (w2.alloc (.cells #[.int .i64 n, .slice A1 ws.length c1] 53)) HN.out eg (fun W x b hb ai _ hx => by
   refine gX.clo n ws x b A1 c1 w2.heap.size W ai ?_ ?_ (Zo (ZX ah.out.2.2 _) hb) ah.out.2.1 hx
   ·rw [hb.cell (p := ⟨w2.heap.size, 0, none⟩) (by simp)]
    simp [go_sem]
   rw [hb.cell (p := ⟨w2.heap.size, 1, none⟩) (by simp)]
   simp [go_sem]) HM.out)
  clear hc0'
  go_wp2_with fail
  refine (HX.out).mono ?_
  rintro e w' ⟨v2, rfl, hO, hb⟩
  have HO := Za (Zs hO HB4.out.size)
  have HB5 := Za (HB4.out.trans (hb.mono HB4.out.size))
  clear hO hb
  go_wp2
  go_ret2
  exact ⟨_, rfl, HO.out, HB5.out⟩
def fQ.l0 : Nat → Int → List Int → Int → Int → Option (Bool)
 | 0, _, _, _, _ => none
 | k + 1, x1, x7, x8, x9 => if x9 < x8 then (if 0 ≤ x9 then (if x9 < (x7.length : Int) then (if (rd x7 x9) = x1 then (some true) else (fQ.l0 k x1 x7 x8 (Zg (x9 + 1)))) else (none)) else (none)) else (some false)
def fQ.f (k : Nat) (l0 : List Int) (a1 : Int) : Option (Bool) := fQ.l0 k a1 l0 (l0.length : Int) 0
theorem fQ.calls (k : Nat) (A0 : Option Addr) (c0 : Nat) (l0 : List Int) (a1 : Int) (r : Bool) (w : ZG) (hr0 : Kd.C (Zf .i64) w A0 l0.length l0) (hc0 : l0.length ≤ c0) (h : fQ.f k l0 a1 = some r) :
  ZM Tryz.prog 28 #[.slice A0 l0.length c0, .int .i64 a1] w fun e w' => e = .returned (.bool r) ∧ Drawn0 w w' := by
 have ak := Za hr0
 have an0 := Za hc0
 clear hr0 hc0
 have H := h
 unfold fQ.f at H
 clear h
 have H' := Za H
 clear H
 go_enter Tryz.func28, Tryz.ntmps28
 go_wp2
 go_loopg [9] k (fun kq v9 w' => ∃ (aa : Int), v9 = .int .i64 aa ∧ Zc (fQ.l0 kq a1 l0 (l0.length : Int) aa = some r) ∧ Zc (kq ≤ k) ∧ Drawn0 w w')
 case atStart => exact ⟨(0), gR, H', ⟨Zl _⟩, dS⟩
 case round =>
  clear H'
  (try clear c2); (try clear p2)
  obtain ⟨aa, rfl, HA, HK1, ⟨m1, rfl⟩⟩ := hrel
  cases gk with
  | zero => exact absurd HA.out (by simp [fQ.l0])
  | succ k1 =>
   have H := HA.out
   clear HA
   simp only [fQ.l0] at H
   by_cases c3 : aa < (l0.length : Int)
   rotate_left
   ·rw [if_neg c3] at H
    have ah : decide (aa < (l0.length : Int)) = false := decide_eq_false c3
    clear c3
    obtain rfl := Zh H
    go_wp2
    go_ret
    exact ⟨by first | rfl | (simp; done) | (simp [*]; done), dS⟩
   rw [if_pos c3] at H
   have ah := decide_eq_true c3
   clear c3
   by_cases c4 : 0 ≤ aa
   rotate_left
   ·rw [if_neg c4] at H
    exact absurd H (by simp)
   rw [if_pos c4] at H
   have al := decide_eq_true c4
   clear c4
   by_cases c5 : aa < (l0.length : Int)
   rotate_left
   ·rw [if_neg c5] at H
    exact absurd H (by simp)
   rw [if_pos c5] at H
   have am0 := decide_eq_true c5
   clear c5
   by_cases c6 : (rd l0 aa) = a1
   ·rw [if_pos c6] at H
    have ai : ((rd l0 aa) == a1) = true := beq_iff_eq.mpr c6
    have aj : ((rd l0 aa) != a1) = false := bne_eq_false_iff_eq.mpr c6
    clear c6
    obtain rfl := Zh H
    have ab : 0 ≤ (aa : Int) := oD
    have ac : aa < (l0.length : Int) := oD
    obtain ⟨ag, af, ae⟩ := ZY ak.out aa ab ac
    cases af
    replace ab := eq_true ab
    replace ac := eq_true ac
    go_wp2
    go_ret
    exact ⟨by first | rfl | (simp; done) | (simp [*]; done), dS⟩
   rw [if_neg c6] at H
   have ai : ((rd l0 aa) == a1) = false := beq_eq_false_iff_ne.mpr c6
   have aj : ((rd l0 aa) != a1) = true := bne_iff_ne.mpr c6
   have H' := Za H
   clear H
   have ab : 0 ≤ (aa : Int) := oD
   have ac : aa < (l0.length : Int) := oD
   obtain ⟨ag, af, ae⟩ := ZY ak.out aa ab ac
   cases af
   replace ab := eq_true ab
   replace ac := eq_true ac
   go_wp2
   go_roundg k1
   case measure => have := HK1.out; omega
   case rel => exact ⟨(Zg (aa + 1)), gR, H', ⟨by have := HK1.out; omega⟩, dS⟩
def gv.l0 : Nat → List Int → Int → Int → Int → Option (Int)
 | 0, _, _, _, _ => none
 | k + 1, x0, x1, x7, x8 => if x8 < x7 then (if 0 ≤ x8 then (if x8 < (x0.length : Int) then (if x1 = (rd x0 x8) then (some x8) else (gv.l0 k x0 x1 x7 (Zg (x8 + 1)))) else (none)) else (none)) else (some (-1))
def gv.f (k : Nat) (l0 : List Int) (a1 : Int) : Option (Int) := gv.l0 k l0 a1 (l0.length : Int) 0
theorem gv.calls (k : Nat) (A0 : Option Addr) (c0 : Nat) (l0 : List Int) (a1 : Int) (r : Int) (w : ZG) (hr0 : Kd.C (Zf .i64) w A0 l0.length l0) (hc0 : l0.length ≤ c0) (h : gv.f k l0 a1 = some r) :
  ZM Tryz.prog 132 #[.slice A0 l0.length c0, .int .i64 a1] w fun e w' => e = .returned (.int .i64 r) ∧ Drawn0 w w' := by
 have ak := Za hr0
 have an0 := Za hc0
 clear hr0 hc0
 have H := h
 unfold gv.f at H
 clear h
 have H' := Za H
 clear H
 go_enter Tryz.func132, Tryz.ntmps132
 go_wp2
 go_loopg [8] k (fun kq v8 w' => ∃ (aa : Int), v8 = .int .i64 aa ∧ Zc (gv.l0 kq l0 a1 (l0.length : Int) aa = some r) ∧ Zc (kq ≤ k) ∧ Drawn0 w w')
 case atStart => exact ⟨(0), gR, H', ⟨Zl _⟩, dS⟩
 case round =>
  clear H'
  (try clear c1); (try clear p2)
  obtain ⟨aa, rfl, HA, HK1, ⟨m1, rfl⟩⟩ := hrel
  cases gk with
  | zero => exact absurd HA.out (by simp [gv.l0])
  | succ k1 =>
   have H := HA.out
   clear HA
   simp only [gv.l0] at H
   by_cases c3 : aa < (l0.length : Int)
   rotate_left
   ·rw [if_neg c3] at H
    have ah : decide (aa < (l0.length : Int)) = false := decide_eq_false c3
    clear c3
    obtain rfl := Zh H
    go_wp2
    go_ret
    exact ⟨by first | rfl | (simp; done) | (simp [*]; done), dS⟩
   rw [if_pos c3] at H
   have ah := decide_eq_true c3
   clear c3
   by_cases c4 : 0 ≤ aa
   rotate_left
   ·rw [if_neg c4] at H
    exact absurd H (by simp)
   rw [if_pos c4] at H
   have al := decide_eq_true c4
   clear c4
   by_cases c5 : aa < (l0.length : Int)
   rotate_left
   ·rw [if_neg c5] at H
    exact absurd H (by simp)
   rw [if_pos c5] at H
   have am0 := decide_eq_true c5
   clear c5
   by_cases c6 : a1 = (rd l0 aa)
   ·rw [if_pos c6] at H
    have ai : (a1 == (rd l0 aa)) = true := beq_iff_eq.mpr c6
    have aj : (a1 != (rd l0 aa)) = false := bne_eq_false_iff_eq.mpr c6
    clear c6
    obtain rfl := Zh H
    have ab : 0 ≤ (aa : Int) := oD
    have ac : aa < (l0.length : Int) := oD
    obtain ⟨ag, af, ae⟩ := ZY ak.out aa ab ac
    cases af
    replace ab := eq_true ab
    replace ac := eq_true ac
    go_wp2
    go_ret
    exact ⟨by first | rfl | (simp; done) | (simp [*]; done), dS⟩
   rw [if_neg c6] at H
   have ai : (a1 == (rd l0 aa)) = false := beq_eq_false_iff_ne.mpr c6
   have aj : (a1 != (rd l0 aa)) = true := bne_iff_ne.mpr c6
   have H' := Za H
   clear H
   have ab : 0 ≤ (aa : Int) := oD
   have ac : aa < (l0.length : Int) := oD
   obtain ⟨ag, af, ae⟩ := ZY ak.out aa ab ac
   cases af
   replace ab := eq_true ab
   replace ac := eq_true ac
   go_wp2
   go_roundg k1
   case measure => have := HK1.out; omega
   case rel => exact ⟨(Zg (aa + 1)), gR, H', ⟨by have := HK1.out; omega⟩, dS⟩
def g1.f (k : Nat) (l0 : List Int) (a1 : Int) : Option (Bool) := (gv.f k l0 a1).bind fun aa => (some (decide (aa ≥ 0)))
theorem g1.calls (k : Nat) (A0 : Option Addr) (c0 : Nat) (l0 : List Int) (a1 : Int) (r : Bool) (w : ZG) (hr0 : Kd.C (Zf .i64) w A0 l0.length l0) (hc0 : l0.length ≤ c0) (h : g1.f k l0 a1 = some r) :
  ZM Tryz.prog 114 #[.slice A0 l0.length c0, .int .i64 a1] w fun e w' => e = .returned (.bool r) ∧ Drawn0 w w' := by
 have ab := Za hr0
 have ac := Za hc0
 clear hr0 hc0
 have H := h
 unfold g1.f at H
 clear h
 replace H := oA H
 obtain ⟨aa, A3, H⟩ := H
 (try dsimp only at H)
 obtain rfl := Zh H
 go_enter Tryz.func114, Tryz.ntmps114
 go_wp2_with (first | ((with_reducible refine Zq (f := 132) rfl ?_); refine gL 7 Tryz.func132 #[.slice A0 l0.length c0, .int .i64 a1] ?_; (with_reducible refine (gv.calls k _ _ l0 a1 aa _ ab.out ac.out A3.out).mono ?_); rintro e w' ⟨rfl, ⟨nd, rfl⟩⟩; refine ⟨_, rfl, ?_⟩))
 go_ret
 exact ⟨by first | rfl | (simp; done) | (simp [*]; done), dS⟩
def idxOfS (p : List Int → Bool) (l : List (List Int)) : Int := match l.findIdx? p with
 | some i => (i : Int)
 | none => -1
theorem idxOfS_hit (p : List Int → Bool) (l : List (List Int)) (x : Int) (h0 : 0 ≤ x) (h1 : x < (l.length : Int)) (hp : p (rdOf [] l x) = true) (hb : ∀ j : Nat, (j : Int) < x → p (l.getD j []) = false) : idxOfS p l = x := by
 obtain ⟨k, rfl⟩ := Yb h0
 have hk : k < l.length := by omega
 have : l.findIdx? p = some k := by
  rw [Z4]
  refine ⟨hk, ?_, fun j hj => ?_⟩
  ·simpa [rdOf, ZP, ZT hk] using hp
  have := hb j (by omega)
  have hjl : j < l.length := by omega
  simpa [ZP, ZT hjl] using this
 simp [idxOfS, this]
theorem idxOfS_miss (p : List Int → Bool) (l : List (List Int)) (hb : ∀ j : Nat, (j : Int) < (l.length : Int) → p (l.getD j []) = false) : idxOfS p l = -1 := by
 have : l.findIdx? p = none := by
  rw [Ya]
  intro x hx
  obtain ⟨j, hj, rfl⟩ := List.mem_iff_getElem.1 hx
  have := hb j (by omega)
  simpa [ZP, ZT hj] using this
 simp [idxOfS, this]
theorem idxOfS_any (p : List Int → Bool) (l : List (List Int)) : decide (0 ≤ idxOfS p l) = l.any p := by
 unfold idxOfS
 cases h : l.findIdx? p with
 | none =>
  rw [Ya] at h
  have : l.any p = false := by simpa using h
  simp [this]
 | some i =>
  rw [Z4] at h
  obtain ⟨hi, hp, _⟩ := h
  have : l.any p = true := by simpa using ⟨_, List.getElem_mem hi, hp⟩
  simp [this]
theorem wrap64_succS {x : Int} {n : Nat} (h0 : 0 ≤ x) (h1 : x < (n : Int)) (hn : n ≤ 9223372036854775807) : Zg (x + 1) = x + 1 := by
 unfold Zg
 omega
theorem sj.hof (A0 : Option Addr) (c0 : Nat) (l0 : List (List Int)) (g : Nat) (lb : Array ZB) (p : List Int → Bool) (w : ZG) (hr0 : Kd.C (Z2 3 (Zf .i64)) w A0 l0.length l0)
  (eg : ∀ args w, (Z8 g args).run Tryz.prog w = .ok (.enter g args) w)
  (hp : ∀ (W : ZG) (A : Option Addr) (c : Nat) (x : List Int), x ∈ l0 → Zt w.heap.size w W → Kd.C (Zf .i64) W A x.length x → x.length ≤ c → ZM Tryz.prog g (#[.slice A x.length c] ++ lb) W fun e W' => e = .returned (.bool (p x)) ∧ Zt W.heap.size W W') :
  ZM Tryz.prog 112 #[.slice A0 l0.length c0, .func (.func g) #[] lb] w fun e w' => e = .returned (.int .i64 (idxOfS p l0)) ∧ Zt w.heap.size w w' := by
 have hn := hr0.2.1
 have HP := Za hp
 have HR := Za hr0
 clear hp hr0
 go_enter Tryz.func112, Tryz.ntmps112
 go_wp2
 go_loopg [5, 8] l0.length (fun gg _ s8 wr => ∃ x : Int, s8 = .int .i64 x ∧ Zc (0 ≤ x ∧ x ≤ (l0.length : Int) ∧ (l0.length : Int) - x ≤ (gg : Int)) ∧ Zc (Zt w.heap.size w wr) ∧ Zc (∀ j : Nat, (j : Int) < x → p (l0.getD j []) = false))
 case atStart => exact ⟨0, rfl, ⟨by omega⟩, ⟨Zk _ _⟩, ⟨fun j hj => by omega⟩⟩
 case round =>
  obtain ⟨x, rfl, HX, HB, HA⟩ := hrel
  have h0 : 0 ≤ x := HX.out.1
  by_cases hlt : x < (l0.length : Int)
  ·obtain ⟨ad, cs, ea, _, hK, hcs⟩ := ReadsRow.get_ (Zo HR.out HB.out) ([] : List Int) x h0 hlt
   obtain ⟨Ax, cx, rfl, hcx, hCx⟩ := hK
   cases ea
   have hcell : wr.cell? (ad.add x.toNat) = some (.slice Ax (rdOf [] l0 x).length cx) := by
    have := hcs 0 _ rfl
    simpa [rdOf, Z2] using this
   have HCX := Za hCx
   have HCL := Za hcx
   clear hCx hcx hcs
   have hw1 := wrap64_succS h0 hlt hn
   have HW1 := Za hw1
   clear hw1
   have aa : decide (x < (l0.length : Int)) = true := decide_eq_true hlt
   have HLT := Za hlt
   have H0 := Za h0
   have hmem : rdOf [] l0 x ∈ l0 := by
    have hk : x.toNat < l0.length := by omega
    simp only [rdOf, ZP, ZT hk, Option.getD_some]
    exact List.getElem_mem hk
   have hcall := HP.out wr Ax cx (rdOf [] l0 x) hmem HB.out HCX.out HCL.out
   have HC := Za hcall
   clear hcall hmem
   have p5 := eq_true h0
   have q5 := eq_true hlt
   clear h0 hlt hn
   cases hq : p (rdOf [] l0 x) with
   | true =>
    have HQ := Za hq
    have HCT := Za (show ZM Tryz.prog g (#[.slice Ax (rdOf [] l0 x).length cx] ++ lb) wr fun e W' => e = .returned (.bool true) ∧ Zt wr.heap.size wr W' from by have := HC.out; rwa [hq] at this)
    clear hq HC
    go_wp2_with fail
    refine (HCT.out).mono ?_
    rintro e w' ⟨rfl, hb⟩
    have HBN := Za (HB.out.trans (hb.mono HB.out.size))
    clear hb
    go_wp2
    go_ret
    exact ⟨by rw [idxOfS_hit p l0 x H0.out HLT.out HQ.out HA.out]; first | rfl | (simp; done), HBN.out⟩
   | false =>
    have HQ := Za hq
    have HCT := Za (show ZM Tryz.prog g (#[.slice Ax (rdOf [] l0 x).length cx] ++ lb) wr fun e W' => e = .returned (.bool false) ∧ Zt wr.heap.size wr W' from by have := HC.out; rwa [hq] at this)
    clear hq HC
    go_wp2_with fail
    refine (HCT.out).mono ?_
    rintro e w' ⟨rfl, hb⟩
    have HBN := Za (HB.out.trans (hb.mono HB.out.size))
    clear hb
    go_wp2
    go_roundg (gk - 1)
    case measure => have := HX.out; have := HLT.out; omega
    case rel =>
     refine ⟨x + 1, by rw [HW1.out], ⟨by have := HX.out; have := HLT.out; omega⟩, ⟨HBN.out⟩, ⟨fun j hj => ?_⟩⟩
     by_cases e : (j : Int) = x
     ·subst e
      exact HQ.out
     exact HA.out j (by omega)
  have aa : decide (x < (l0.length : Int)) = false := decide_eq_false hlt
  have HLT := Za hlt
  clear hlt hn
  go_wp2
  go_ret
  exact ⟨by rw [idxOfS_miss p l0 (fun j hj => HA.out j (by have := HX.out; have := HLT.out; omega))]; first | rfl | (simp; done), HB.out⟩
theorem sk.hof (A0 : Option Addr) (c0 : Nat) (l0 : List (List Int)) (g : Nat) (lb : Array ZB) (p : List Int → Bool) (w : ZG) (hr0 : Kd.C (Z2 3 (Zf .i64)) w A0 l0.length l0)
  (eg : ∀ args w, (Z8 g args).run Tryz.prog w = .ok (.enter g args) w)
  (hp : ∀ (W : ZG) (A : Option Addr) (c : Nat) (x : List Int), x ∈ l0 → Zt w.heap.size w W → Kd.C (Zf .i64) W A x.length x → x.length ≤ c → ZM Tryz.prog g (#[.slice A x.length c] ++ lb) W fun e W' => e = .returned (.bool (p x)) ∧ Zt W.heap.size W W') :
  ZM Tryz.prog 91 #[.slice A0 l0.length c0, .func (.func g) #[] lb] w fun e w' => e = .returned (.bool (l0.any p)) ∧ Zt w.heap.size w w' := by
 have HI := Za (sj.hof A0 c0 l0 g lb p w hr0 eg hp)
 clear hp hr0
 go_enter Tryz.func91, Tryz.ntmps91
 go_wp2_with (go_at_call 112; refine (HI.out).mono ?_; rintro e w' ⟨rfl, hb⟩)
 go_ret
 exact ⟨by rw [← idxOfS_any]; first | rfl | (simp; done), hb⟩
def fS.l0 : Nat → Int → Int → Int → Int → List Bool → Option (Bool)
 | 0, _, _, _, _, _ => none
 | k + 1, x1, ae, ac, ab, aa => if ac < ae then ((fC.f x1 ac).bind fun af => (if af = true then (if 0 ≤ ac then (if 0 ≤ (Zb .andNot .i64 x1 (shl .i64 1 ac)) then (if (Zb .andNot .i64 x1 (shl .i64 1 ac)) < (aa.length : Int) then (if rdOf false aa (Zb .andNot .i64 x1 (shl .i64 1 ac)) = true then (some false) else (fS.l0 k x1 ae (Zg (ac + 1)) ab aa)) else (none)) else (none)) else (none)) else (fS.l0 k x1 ae (Zg (ac + 1)) ab aa))) else (some true)
def fS.f (k : Nat) (ab : Int) (aa : List Bool) (a1 : Int) : Option (Bool) := if 0 ≤ a1 then (if a1 < (aa.length : Int) then (if rdOf false aa a1 = true then (fS.l0 k a1 ab 0 ab aa) else (some false)) else (none)) else (none)
theorem fS.calls (k : Nat) (al : Int) (aJ : Option Addr) (aI : Nat) (ae : List Bool) (a1 : Int) (r : Bool) (w : ZG) (a7 : Kd.C Kd.bool w aJ ae.length ae) (a8 : ae.length ≤ aI) (h : fS.f k al ae a1 = some r) :
  ZM Tryz.prog 111 #[.agg #[.int .i64 al, .slice aJ ae.length aI], .int .i64 a1] w fun e w' => e = .returned (.bool r) ∧ Zt w.heap.size w w' := by
 have hu53 := Tryz.underlying53
 have am0 := Za a7
 have bq := Za a8
 clear a7 a8
 have HB := Za (Zk w.heap.size w)
 have H := h
 unfold fS.f at H
 clear h
 by_cases c3 : 0 ≤ a1
 rotate_left
 ·rw [if_neg c3] at H
  exact absurd H (by simp)
 rw [if_pos c3] at H
 have bl := decide_eq_true c3
 clear c3
 by_cases c4 : a1 < (ae.length : Int)
 rotate_left
 ·rw [if_neg c4] at H
  exact absurd H (by simp)
 rw [if_pos c4] at H
 have bm := decide_eq_true c4
 clear c4
 obtain ⟨br, bb⟩ : ∃ b_ : Bool, b_ = (rdOf false ae a1) := ⟨_, rfl⟩
 replace H : (if br = true then (fS.l0 k a1 al 0 al ae) else (some false)) = some r := by rw [← bb] at H; exact H
 have aC := Za bb
 clear bb
 by_cases c6 : br = true
 rotate_left
 ·replace c6 := Bool.eq_false_iff.mpr c6
  subst c6
  replace H := iF H
  obtain rfl := Zh H
  go_enter Tryz.func111, Tryz.ntmps111
  go_wp2_with (first | ((with_reducible refine Zu (N := 2) rfl ?_); refine xE (N := 2) (cs := #[.int .i64 al, .slice aJ ae.length aI]) (t := 53) ?_; intro an0 hg bt af hb; have aK : Zc (w.heap.size ≤ an0) := gT hg; have aM : Zc (w.heap.size ≤ an0) := gT hg; replace HB := sQ hb; clear hb hg; (try clear aq au av aw aq au av aw aq au av aw ax ay az aA ax ay az aA ax ay az aA); obtain ⟨aV, aW, aX, aY⟩ := zZ af; have ah : 0 ≤ (a1 : Int) := oD; have ai : a1 < (ae.length : Int) := oD; obtain ⟨ao, aD, ab⟩ := ZF am0.out a1 ah ai; (try rw [← aC.out] at ab); cases aD; replace ab := (HB.out.cell (Zj w _ ab)).trans ab; replace ah := eq_true ah; replace ai := eq_true ai))
  repeat (go_quiet (first | ((with_reducible refine Zu (N := 2) rfl ?_); refine xE (N := 2) (cs := #[.int .i64 al, .slice aJ ae.length aI]) (t := 53) ?_; intro an0 hg bt af hb; have aK : Zc (w.heap.size ≤ an0) := gT hg; have aM : Zc (w.heap.size ≤ an0) := gT hg; replace HB := sQ hb; clear hb hg; obtain ⟨aV, aW, aX, aY⟩ := zZ af; have ah : 0 ≤ (a1 : Int) := oD; have ai : a1 < (ae.length : Int) := oD; obtain ⟨ao, aD, ab⟩ := ZF am0.out a1 ah ai; (try rw [← aC.out] at ab); cases aD; replace ab := (HB.out.cell (Zj w _ ab)).trans ab; replace ah := eq_true ah; replace ai := eq_true ai)); try go_wp2_with (first | ((with_reducible refine Zu (N := 2) rfl ?_); refine xE (N := 2) (cs := #[.int .i64 al, .slice aJ ae.length aI]) (t := 53) ?_; intro an0 hg bt af hb; have aK : Zc (w.heap.size ≤ an0) := gT hg; have aM : Zc (w.heap.size ≤ an0) := gT hg; replace HB := sQ hb; clear hb hg; obtain ⟨aV, aW, aX, aY⟩ := zZ af; have ah : 0 ≤ (a1 : Int) := oD; have ai : a1 < (ae.length : Int) := oD; obtain ⟨ao, aD, ab⟩ := ZF am0.out a1 ah ai; (try rw [← aC.out] at ab); cases aD; replace ab := (HB.out.cell (Zj w _ ab)).trans ab; replace ah := eq_true ah; replace ai := eq_true ai)))
  go_ret
  exact ⟨fR, wB⟩
 subst c6
 replace H := iT H
 have H' := Za H
 clear H
 go_enter Tryz.func111, Tryz.ntmps111
 go_wp2_with (first | ((with_reducible refine Zu (N := 2) rfl ?_); refine xE (N := 2) (cs := #[.int .i64 al, .slice aJ ae.length aI]) (t := 53) ?_; intro an0 hg w7 af hb; have aK := gS hg HB; have aM := gS hg HB; replace HB := sB HB hb; clear hb hg; obtain ⟨aN, aQ, aT, aU⟩ := zZ af; have ah : 0 ≤ (a1 : Int) := oD; have ai : a1 < (ae.length : Int) := oD; obtain ⟨ao, aD, ab⟩ := ZF am0.out a1 ah ai; (try rw [← aC.out] at ab); cases aD; replace ab := (HB.out.cell (Zj w _ ab)).trans ab; replace ah := eq_true ah; replace ai := eq_true ai))
 repeat (go_quiet (first | ((with_reducible refine Zu (N := 2) rfl ?_); refine xE (N := 2) (cs := #[.int .i64 al, .slice aJ ae.length aI]) (t := 53) ?_; intro an0 hg w7 af hb; have aK := gS hg HB; have aM := gS hg HB; replace HB := sB HB hb; clear hb hg; obtain ⟨aN, aQ, aT, aU⟩ := zZ af; have ah : 0 ≤ (a1 : Int) := oD; have ai : a1 < (ae.length : Int) := oD; obtain ⟨ao, aD, ab⟩ := ZF am0.out a1 ah ai; (try rw [← aC.out] at ab); cases aD; replace ab := (HB.out.cell (Zj w _ ab)).trans ab; replace ah := eq_true ah; replace ai := eq_true ai)); try go_wp2_with (first | ((with_reducible refine Zu (N := 2) rfl ?_); refine xE (N := 2) (cs := #[.int .i64 al, .slice aJ ae.length aI]) (t := 53) ?_; intro an0 hg w7 af hb; have aK := gS hg HB; have aM := gS hg HB; replace HB := sB HB hb; clear hb hg; obtain ⟨aN, aQ, aT, aU⟩ := zZ af; have ah : 0 ≤ (a1 : Int) := oD; have ai : a1 < (ae.length : Int) := oD; obtain ⟨ao, aD, ab⟩ := ZF am0.out a1 ah ai; (try rw [← aC.out] at ab); cases aD; replace ab := (HB.out.cell (Zj w _ ab)).trans ab; replace ah := eq_true ah; replace ai := eq_true ai)))
 go_loopg [14] k (fun kq bz w' => ∃ (ac : Int), bz = .int .i64 ac ∧ Zc (fS.l0 kq a1 al ac al ae = some r) ∧ Zc (kq ≤ k) ∧ Zc (w'.heap[an0]? = some (.cells #[.int .i64 al, (.slice (some ao) ae.length aI)] 53 (0, 0))) ∧ Zc (Zt w.heap.size w w'))
 case atStart => exact ⟨(0), gR, H', ⟨Zl _⟩, ⟨by exact af.out⟩, ⟨wB⟩⟩
 case round =>
  clear H'
  (try clear c1); (try clear p1); (try clear q1); (try clear bA); (try clear p2); (try clear c3); (try clear bl); (try clear c4); (try clear bm); (try clear q5); (try clear c6); (try clear aN); (try clear aQ); (try clear aT); (try clear aU); (try clear ab); (try clear ah); (try clear ai)
  obtain ⟨ac, rfl, HA, HK1, af, HB⟩ := hrel
  cases gk with
  | zero => exact absurd HA.out (by simp [fS.l0])
  | succ k1 =>
   have H := HA.out
   clear HA
   simp only [fS.l0] at H
   by_cases c9 : ac < al
   rotate_left
   ·rw [if_neg c9] at H
    have bn : decide (ac < al) = false := decide_eq_false c9
    clear c9
    obtain rfl := Zh H
    go_wp2
    repeat (go_quiet (fail); try go_wp2)
    go_ret
    exact ⟨fR, wB⟩
   rw [if_pos c9] at H
   have bn := decide_eq_true c9
   clear c9
   replace H := oA H
   obtain ⟨bo, a6, H⟩ := H
   (try dsimp only at H)
   by_cases bg : bo = true
   rotate_left
   ·replace bg := Bool.eq_false_iff.mpr bg
    subst bg
    replace H := iF H
    have H' := Za H
    clear H
    go_wp2_with (first | (go_at_call 81; (with_reducible refine (fC.calls a1 ac false _ a6.out).mono ?_); rintro e w' ⟨rfl, ⟨nd, rfl⟩⟩; (try exact dR)))
    repeat (go_quiet (first | (go_at_call 81; (with_reducible refine (fC.calls a1 ac false _ a6.out).mono ?_); rintro e w' ⟨rfl, ⟨nd, rfl⟩⟩; (try exact dR))); try go_wp2_with (first | (go_at_call 81; (with_reducible refine (fC.calls a1 ac false _ a6.out).mono ?_); rintro e w' ⟨rfl, ⟨nd, rfl⟩⟩; (try exact dR))))
    go_roundg k1
    case measure => have := HK1.out; omega
    case rel => exact ⟨(Zg (ac + 1)), gR, H', ⟨by have := HK1.out; omega⟩, ⟨bQ af⟩, ⟨wB⟩⟩
   subst bg
   replace H := iT H
   by_cases bc : 0 ≤ ac
   rotate_left
   ·rw [if_neg bc] at H
    exact absurd H (by simp)
   rw [if_pos bc] at H
   have bu := eq_true bc
   have bv := decide_eq_true bc
   clear bc
   obtain ⟨ag, aG⟩ : ∃ j_ : Int, (shl .i64 1 ac) = j_ := ⟨_, rfl⟩
   replace H : (if 0 ≤ (Zb .andNot .i64 a1 (ag)) then (if (Zb .andNot .i64 a1 (ag)) < (ae.length : Int) then (if rdOf false ae (Zb .andNot .i64 a1 (ag)) = true then (some false) else (fS.l0 k1 a1 al (Zg (ac + 1)) al ae)) else (none)) else (none)) = some r := by first | (rw [aG] at H; exact H) | (simp only [aG] at H ⊢; exact H)
   (try rw [aG] at a6)
   have hji13_ : (IntKind.i64.wrap (1 * 2 ^ min ac.toNat 64)) = ag := aG
   have hji13z : ac ≤ 64 → (IntKind.i64.wrap (1 * 2 ^ ac.toNat)) = ag := shl_small aG
   have hji13u : (IntKind.i64.wrap (2 ^ min ac.toNat 64)) = ag := by have h_ := hji13_; rw [Z7] at h_; exact h_
   have hji13v : ac ≤ 64 → (IntKind.i64.wrap (2 ^ ac.toNat)) = ag := fun hle_ => by have h_ := hji13z hle_; rw [Z7] at h_; exact h_
   have hji13y : (Zg (1 * 2 ^ min ac.toNat 64)) = ag := (i64_w _).symm.trans hji13_
   have hji13x : ac ≤ 64 → (Zg (1 * 2 ^ ac.toNat)) = ag := fun h_ => (i64_w _).symm.trans (hji13z h_)
   by_cases bh : 0 ≤ (Zb .andNot .i64 a1 (ag))
   rotate_left
   ·rw [if_neg bh] at H
    exact absurd H (by simp)
   rw [if_pos bh] at H
   have bw := decide_eq_true bh
   clear bh
   by_cases bi : (Zb .andNot .i64 a1 (ag)) < (ae.length : Int)
   rotate_left
   ·rw [if_neg bi] at H
    exact absurd H (by simp)
   rw [if_pos bi] at H
   have bx := decide_eq_true bi
   clear bi
   obtain ⟨bf, aZ⟩ : ∃ b_ : Bool, b_ = (rdOf false ae (Zb .andNot .i64 a1 (ag))) := ⟨_, rfl⟩
   replace H : (if bf = true then (some false) else (fS.l0 k1 a1 al (Zg (ac + 1)) al ae)) = some r := by rw [← aZ] at H; exact H
   have aH := Za aZ
   clear aZ
   by_cases bj : bf = true
   ·subst bj
    replace H := iT H
    obtain rfl := Zh H
    go_wp2_with (first | (go_at_call 81; (with_reducible refine (fC.calls a1 ac true _ a6.out).mono ?_); rintro e w' ⟨rfl, ⟨nd, rfl⟩⟩; (try exact dR); obtain ⟨aq, au, av, aw⟩ := zZ af; have aj : 0 ≤ ((Zb .andNot .i64 a1 (ag)) : Int) := oD; have ak : (Zb .andNot .i64 a1 (ag)) < (ae.length : Int) := oD; obtain ⟨ap, aE, aa⟩ := ZF am0.out (Zb .andNot .i64 a1 (ag)) aj ak; (try rw [← aC.out] at aa); (try rw [← aH.out] at aa); obtain rfl : ao = ap := (by injection aE); replace aa := (HB.out.cell (Zj w _ aa)).trans aa; replace aj := eq_true aj; replace ak := eq_true ak))
    repeat (go_quiet (first | (go_at_call 81; (with_reducible refine (fC.calls a1 ac true _ a6.out).mono ?_); rintro e w' ⟨rfl, ⟨nd, rfl⟩⟩; (try exact dR); obtain ⟨aq, au, av, aw⟩ := zZ af; have aj : 0 ≤ ((Zb .andNot .i64 a1 (ag)) : Int) := oD; have ak : (Zb .andNot .i64 a1 (ag)) < (ae.length : Int) := oD; obtain ⟨ap, aE, aa⟩ := ZF am0.out (Zb .andNot .i64 a1 (ag)) aj ak; (try rw [← aC.out] at aa); (try rw [← aH.out] at aa); obtain rfl : ao = ap := (by injection aE); replace aa := (HB.out.cell (Zj w _ aa)).trans aa; replace aj := eq_true aj; replace ak := eq_true ak)); try go_wp2_with (first | (go_at_call 81; (with_reducible refine (fC.calls a1 ac true _ a6.out).mono ?_); rintro e w' ⟨rfl, ⟨nd, rfl⟩⟩; (try exact dR); obtain ⟨aq, au, av, aw⟩ := zZ af; have aj : 0 ≤ ((Zb .andNot .i64 a1 (ag)) : Int) := oD; have ak : (Zb .andNot .i64 a1 (ag)) < (ae.length : Int) := oD; obtain ⟨ap, aE, aa⟩ := ZF am0.out (Zb .andNot .i64 a1 (ag)) aj ak; (try rw [← aC.out] at aa); (try rw [← aH.out] at aa); obtain rfl : ao = ap := (by injection aE); replace aa := (HB.out.cell (Zj w _ aa)).trans aa; replace aj := eq_true aj; replace ak := eq_true ak)))
    go_ret
    exact ⟨by first | rfl | (simp <;> rfl) | (simp only [← aG]; first | rfl | (simp <;> rfl)) | (simp [*] <;> rfl), wB⟩
   replace bj := Bool.eq_false_iff.mpr bj
   subst bj
   replace H := iF H
   have H' := Za H
   clear H
   go_wp2_with (first | (go_at_call 81; (with_reducible refine (fC.calls a1 ac true _ a6.out).mono ?_); rintro e w' ⟨rfl, ⟨nd, rfl⟩⟩; (try exact dR); obtain ⟨ax, ay, az, aA⟩ := zZ af; have aj : 0 ≤ ((Zb .andNot .i64 a1 (ag)) : Int) := oD; have ak : (Zb .andNot .i64 a1 (ag)) < (ae.length : Int) := oD; obtain ⟨ap, aE, aa⟩ := ZF am0.out (Zb .andNot .i64 a1 (ag)) aj ak; (try rw [← aC.out] at aa); (try rw [← aH.out] at aa); obtain rfl : ao = ap := (by injection aE); replace aa := (HB.out.cell (Zj w _ aa)).trans aa; replace aj := eq_true aj; replace ak := eq_true ak))
   repeat (go_quiet (first | (go_at_call 81; (with_reducible refine (fC.calls a1 ac true _ a6.out).mono ?_); rintro e w' ⟨rfl, ⟨nd, rfl⟩⟩; (try exact dR); obtain ⟨ax, ay, az, aA⟩ := zZ af; have aj : 0 ≤ ((Zb .andNot .i64 a1 (ag)) : Int) := oD; have ak : (Zb .andNot .i64 a1 (ag)) < (ae.length : Int) := oD; obtain ⟨ap, aE, aa⟩ := ZF am0.out (Zb .andNot .i64 a1 (ag)) aj ak; (try rw [← aC.out] at aa); (try rw [← aH.out] at aa); obtain rfl : ao = ap := (by injection aE); replace aa := (HB.out.cell (Zj w _ aa)).trans aa; replace aj := eq_true aj; replace ak := eq_true ak)); try go_wp2_with (first | (go_at_call 81; (with_reducible refine (fC.calls a1 ac true _ a6.out).mono ?_); rintro e w' ⟨rfl, ⟨nd, rfl⟩⟩; (try exact dR); obtain ⟨ax, ay, az, aA⟩ := zZ af; have aj : 0 ≤ ((Zb .andNot .i64 a1 (ag)) : Int) := oD; have ak : (Zb .andNot .i64 a1 (ag)) < (ae.length : Int) := oD; obtain ⟨ap, aE, aa⟩ := ZF am0.out (Zb .andNot .i64 a1 (ag)) aj ak; (try rw [← aC.out] at aa); (try rw [← aH.out] at aa); obtain rfl : ao = ap := (by injection aE); replace aa := (HB.out.cell (Zj w _ aa)).trans aa; replace aj := eq_true aj; replace ak := eq_true ak)))
   go_roundg k1
   case measure => have := HK1.out; omega
   case rel => exact ⟨(Zg (ac + 1)), gR, H', ⟨by have := HK1.out; omega⟩, ⟨bQ af⟩, ⟨wB⟩⟩
def gz.l0 : Nat → List Int → List Int → List Int → Int → Int → Option (Int)
 | 0, _, _, _, _, _ => none
 | k + 1, x0, x1, x9, ac, aa => if aa < ac then (if 0 ≤ aa then (if aa < (x9.length : Int) then (if aa ≥ (x1.length : Int) then (some 1) else (if aa < (x1.length : Int) then ((gD.f (rd x9 aa) (rd x1 aa)).bind fun ab => (if ab = 0 then (gz.l0 k x0 x1 x9 ac (Zg (aa + 1))) else (some ab))) else (none))) else (none)) else (none)) else (if (x0.length : Int) < (x1.length : Int) then (some (-1)) else (some 0))
def gz.f (k : Nat) (l0 : List Int) (l1 : List Int) : Option (Int) := gz.l0 k l0 l1 l0 (l0.length : Int) 0
theorem gz.calls (k : Nat) (A0 : Option Addr) (c0 : Nat) (l0 : List Int) (A1 : Option Addr) (c1 : Nat) (l1 : List Int) (r : Int) (w : ZG) (hr0 : Kd.C (Zf .i64) w A0 l0.length l0) (hc0 : l0.length ≤ c0) (hr1 : Kd.C (Zf .i64) w A1 l1.length l1) (hc1 : l1.length ≤ c1) (h : gz.f k l0 l1 = some r) :
  ZM Tryz.prog 131 #[.slice A0 l0.length c0, .slice A1 l1.length c1] w fun e w' => e = .returned (.int .i64 r) ∧ Drawn0 w w' := by
 have aq := Za hr0
 have aE := Za hc0
 clear hr0 hc0
 have ay := Za hr1
 have aG := Za hc1
 clear hr1 hc1
 have H := h
 unfold gz.f at H
 clear h
 have H' := Za H
 clear H
 go_enter Tryz.func131, Tryz.ntmps131
 go_wp2
 go_loopg [11] k (fun kq az w' => ∃ (aa : Int), az = .int .i64 aa ∧ Zc (gz.l0 kq l0 l1 l0 (l0.length : Int) aa = some r) ∧ Zc (kq ≤ k) ∧ Drawn0 w w')
 case atStart => exact ⟨(0), gR, H', ⟨Zl _⟩, dS⟩
 case round =>
  clear H'
  (try clear c1); (try clear p2)
  obtain ⟨aa, rfl, HA, HK1, ⟨m1, rfl⟩⟩ := hrel
  cases gk with
  | zero => exact absurd HA.out (by simp [gz.l0])
  | succ k1 =>
   have H := HA.out
   clear HA
   simp only [gz.l0] at H
   by_cases c3 : aa < (l0.length : Int)
   rotate_left
   ·rw [if_neg c3] at H
    have au : decide (aa < (l0.length : Int)) = false := decide_eq_false c3
    clear c3
    by_cases ak : (l0.length : Int) < (l1.length : Int)
    ·rw [if_pos ak] at H
     have an0 := decide_eq_true ak
     have ao : decide (l0.length < l1.length) = true := decide_eq_true (Int.ofNat_lt.mp ak)
     clear ak
     obtain rfl := Zh H
     go_wp2
     go_ret
     exact ⟨by first | rfl | (simp; done) | (simp [*]; done), dS⟩
    rw [if_neg ak] at H
    have an0 : decide ((l0.length : Int) < (l1.length : Int)) = false := decide_eq_false ak
    have ao : decide (l0.length < l1.length) = false := decide_eq_false (fun h => ak (Int.ofNat_lt.mpr h))
    clear ak
    obtain rfl := Zh H
    go_wp2
    go_ret
    exact ⟨by first | rfl | (simp; done) | (simp [*]; done), dS⟩
   rw [if_pos c3] at H
   have au := decide_eq_true c3
   clear c3
   by_cases c4 : 0 ≤ aa
   rotate_left
   ·rw [if_neg c4] at H
    exact absurd H (by simp)
   rw [if_pos c4] at H
   have aA := decide_eq_true c4
   clear c4
   by_cases c5 : aa < (l0.length : Int)
   rotate_left
   ·rw [if_neg c5] at H
    exact absurd H (by simp)
   rw [if_pos c5] at H
   have aC := decide_eq_true c5
   clear c5
   by_cases c6 : aa ≥ (l1.length : Int)
   ·rw [if_pos c6] at H
    have av : decide ((l1.length : Int) ≤ aa) = true := decide_eq_true c6
    clear c6
    obtain rfl := Zh H
    have ab : 0 ≤ (aa : Int) := oD
    have ac : aa < (l0.length : Int) := oD
    obtain ⟨al, ai, ah⟩ := ZY aq.out aa ab ac
    cases ai
    replace ab := eq_true ab
    replace ac := eq_true ac
    go_wp2
    go_ret
    exact ⟨by first | rfl | (simp; done) | (simp [*]; done), dS⟩
   rw [if_neg c6] at H
   have av : decide ((l1.length : Int) ≤ aa) = false := decide_eq_false c6
   clear c6
   by_cases c7 : aa < (l1.length : Int)
   rotate_left
   ·rw [if_neg c7] at H
    exact absurd H (by simp)
   rw [if_pos c7] at H
   have aD := decide_eq_true c7
   clear c7
   replace H := oA H
   obtain ⟨ae, A8, H⟩ := H
   (try dsimp only at H)
   by_cases c9 : ae = 0
   rotate_left
   ·rw [if_neg c9] at H
    have aw : (ae == 0) = false := beq_eq_false_iff_ne.mpr c9
    have ax : (ae != 0) = true := bne_iff_ne.mpr c9
    obtain rfl := Zh H
    have ab : 0 ≤ (aa : Int) := oD
    have ac : aa < (l0.length : Int) := oD
    obtain ⟨al, ai, ah⟩ := ZY aq.out aa ab ac
    cases ai
    replace ab := eq_true ab
    replace ac := eq_true ac
    have af : 0 ≤ (aa : Int) := oD
    have ag : aa < (l1.length : Int) := oD
    obtain ⟨ap, am0, aj⟩ := ZY ay.out aa af ag
    cases am0
    replace af := eq_true af
    replace ag := eq_true ag
    go_wp2_with (first | ((with_reducible refine Zq (f := 48) rfl ?_); refine gL 26 Tryz.func48 #[.int .i64 (rd l0 aa), .int .i64 (rd l1 aa)] ?_; (with_reducible refine (gD.calls (rd l0 aa) (rd l1 aa) ae _ A8.out).mono ?_); rintro e w' ⟨rfl, ⟨nd, rfl⟩⟩; refine ⟨_, rfl, ?_⟩))
    go_ret
    exact ⟨by first | rfl | (simp; done) | (simp [*]; done), dS⟩
   rw [if_pos c9] at H
   have aw : (ae == 0) = true := beq_iff_eq.mpr c9
   have ax : (ae != 0) = false := bne_eq_false_iff_eq.mpr c9
   clear c9
   have H' := Za H
   clear H
   have ab : 0 ≤ (aa : Int) := oD
   have ac : aa < (l0.length : Int) := oD
   obtain ⟨al, ai, ah⟩ := ZY aq.out aa ab ac
   cases ai
   replace ab := eq_true ab
   replace ac := eq_true ac
   have af : 0 ≤ (aa : Int) := oD
   have ag : aa < (l1.length : Int) := oD
   obtain ⟨ap, am0, aj⟩ := ZY ay.out aa af ag
   cases am0
   replace af := eq_true af
   replace ag := eq_true ag
   go_wp2_with (first | ((with_reducible refine Zq (f := 48) rfl ?_); refine gL 26 Tryz.func48 #[.int .i64 (rd l0 aa), .int .i64 (rd l1 aa)] ?_; (with_reducible refine (gD.calls (rd l0 aa) (rd l1 aa) ae _ A8.out).mono ?_); rintro e w' ⟨rfl, ⟨nd, rfl⟩⟩; refine ⟨_, rfl, ?_⟩))
   go_roundg k1
   case measure => have := HK1.out; omega
   case rel => exact ⟨(Zg (aa + 1)), gR, H', ⟨by have := HK1.out; omega⟩, dS⟩
def fT.l0 : Nat → Int → List Int → Int → Option (List Int)
 | 0, _, _, _ => none
 | k + 1, x0, x3, x4 => if 0 ≤ x4 then (if (shr .i64 x0 x4) > 0 then (if (Zb .and .i64 (shr .i64 x0 x4) 1) = 1 then (if x3.length < 17592186044416 then (fT.l0 k x0 (x3 ++ [x4]) (Zg (x4 + 1))) else (none)) else (fT.l0 k x0 x3 (Zg (x4 + 1)))) else (some x3)) else (none)
def fT.f (k : Nat) (a0 : Int) : Option (List Int) := fT.l0 k a0 (([] : List Int)) 0
theorem fT.calls (k : Nat) (a0 : Int) (r : List Int) (w : ZG) (h : fT.f k a0 = some r) :
  ZM Tryz.prog 129 #[.int .i64 a0] w fun e w' => ∃ v0_ : ZB, e = .returned (v0_) ∧ Kd.R (Zf .i64) 3 w' w.heap.size (fun _ => True) v0_ r ∧ Zt w.heap.size w w' := by
 have HB := Za (Zk w.heap.size w)
 have H := h
 unfold fT.f at H
 clear h
 obtain ⟨aj, ac⟩ : ∃ y_ : List Int, y_ = (([] : List Int)) := ⟨_, rfl⟩
 replace H : (fT.l0 k a0 aj 0) = some r := by first | (rw [ac]; with_reducible exact H) | (have H2_ := (Zm _ _).symm.trans H; rw [ac]; with_reducible exact H2_) | (have H2_ := (Zm _ _).symm.trans H; with_reducible exact H2_) | with_reducible exact H | (rw [ac]; exact H) | exact H
 have ah := Za ac
 clear ac
 have H' := Za H
 clear H
 go_enter Tryz.func129, Tryz.ntmps129
 go_wp2_with (first | ((with_reducible refine Zu (N := 5) rfl ?_); refine Kd.R_lit (Zf .i64) _ 3 ?hg (N := 5) ?hd (xs := ([] : List Int)) (inner := []) (ok := fun _ => True) (okp := fun _ => True) ?hr ?hp (fun _ hk => hk) trivial (Zk _ _) (Zl _) (by simp) ?_; (case hd => rfl); (case hg => rfl); (case hr => first | (go_simp; done) | (go_simp; rfl)); (case hp => exact (ZU _ _)); intro ax w2 ak hb hg_ hnew_; clear hg_ hnew_; (first | rw [← ah.out] at ak | (simp only [ZE] at ak; rw [← ah.out] at ak)); have al := Za (Zs ak (Ze HB.out)); replace HB := sB HB hb; clear hb ak))
 go_loopg [3, 4] k (fun kq v3 v4 w' => ∃ (ab : List Int) (aa : Int), v4 = .int .i64 aa ∧ Zc (fT.l0 kq a0 ab aa = some r) ∧ Zc (kq ≤ k) ∧ Zc (Kd.R (Zf .i64) 3 w' w.heap.size (fun _ => True) v3 ab) ∧ Zc (Zt w.heap.size w w'))
 case atStart => exact ⟨(aj), (0), gR, H', ⟨Zl _⟩, ⟨by exact al.out⟩, ⟨wB⟩⟩
 case round =>
  clear H'
  (try clear c1); (try clear p2)
  obtain ⟨ab, aa, rfl, HA, HK1, ai, HB⟩ := hrel
  cases gk with
  | zero => exact absurd HA.out (by simp [fT.l0])
  | succ k1 =>
   have H := HA.out
   clear HA
   simp only [fT.l0] at H
   by_cases c4 : 0 ≤ aa
   rotate_left
   ·rw [if_neg c4] at H
    exact absurd H (by simp)
   rw [if_pos c4] at H
   have ay := eq_true c4
   have az := decide_eq_true c4
   clear c4
   obtain ⟨af, ag⟩ : ∃ j_ : Int, (shr .i64 a0 aa) = j_ := ⟨_, rfl⟩
   replace H : (if (af) > 0 then (if (Zb .and .i64 (af) 1) = 1 then (if ab.length < 17592186044416 then (fT.l0 k1 a0 (ab ++ [aa]) (Zg (aa + 1))) else (none)) else (fT.l0 k1 a0 ab (Zg (aa + 1)))) else (some ab)) = some r := by first | (rw [ag] at H; exact H) | (simp only [ag] at H ⊢; exact H)
   have hji5_ : (a0 / 2 ^ min aa.toNat 64) = af := ag
   have hji5z : aa ≤ 64 → (a0 / 2 ^ aa.toNat) = af := shr_small ag
   by_cases c6 : (af) > 0
   rotate_left
   ·rw [if_neg c6] at H
    have au : decide (0 < (af)) = false := decide_eq_false c6
    clear c6
    obtain rfl := Zh H
    go_wp2
    go_ret
    exact ⟨_, by first | rfl | (simp <;> rfl) | (simp only [← ag]; first | rfl | (simp <;> rfl)) | (simp [*] <;> rfl), by exact ai.out, wB⟩
   rw [if_pos c6] at H
   have au : decide (0 < (af)) = true := decide_eq_true c6
   clear c6
   have aA := eq_true (oD : 0 ≤ aa)
   by_cases c9 : (Zb .and .i64 (af) 1) = 1
   rotate_left
   ·rw [if_neg c9] at H
    have av : ((Zb .and .i64 (af) 1) == 1) = false := beq_eq_false_iff_ne.mpr c9
    have aw : ((Zb .and .i64 (af) 1) != 1) = true := bne_iff_ne.mpr c9
    have H' := Za H
    clear H
    go_wp2
    go_roundg k1
    case measure => have := HK1.out; omega
    case rel => exact ⟨(ab), (Zg (aa + 1)), gR, H', ⟨by have := HK1.out; omega⟩, ⟨by exact ai.out⟩, ⟨wB⟩⟩
   rw [if_pos c9] at H
   have av : ((Zb .and .i64 (af) 1) == 1) = true := beq_iff_eq.mpr c9
   have aw : ((Zb .and .i64 (af) 1) != 1) = false := bne_eq_false_iff_eq.mpr c9
   clear c9
   by_cases aq : ab.length < 17592186044416
   rotate_left
   ·rw [if_neg aq] at H
    exact absurd H (by simp)
   rw [if_pos aq] at H
   have am0 := Za aq
   clear aq
   obtain ⟨an0, ae⟩ : ∃ y_ : List Int, y_ = (ab ++ [aa]) := ⟨_, rfl⟩
   replace H : (fT.l0 k1 a0 an0 (Zg (aa + 1))) = some r := by first | (rw [ae]; with_reducible exact H) | (have H2_ := (Zm _ _).symm.trans H; rw [ae]; with_reducible exact H2_) | (have H2_ := (Zm _ _).symm.trans H; with_reducible exact H2_) | with_reducible exact H | (rw [ae]; exact H) | exact H
   have ao := Za ae
   clear ae
   have H' := Za H
   clear H
   go_wp2_with (first | ((with_reducible refine gate_builtin (b := .append) (xs := #[.tmp 17, .tmp 19]) rfl ?_); at_builtin; refine Kd.R_append (Zf .i64) (w0 := w) w.heap.size rfl (.tmp 17) (.tmp 19) 22 3 (.int .i64 0) 8 rfl Tryz.underlying22 info3 rfl (by decide) (by omega) u3 ab aa [.int .i64 aa] (fun _ => True) (fun _ => False) rfl rfl ?aP (fun _ hk => hk.elim) ?aF ?aO ?aB ?aS ?aL ?_; (case aP => exact rfl); (case aB => exact HB.out); (case aF => exact (fun _ _ => trivial)); (case aO => exact ai.out); (case aS => exact (Ze HB.out)); (case aL => have := am0.out; omega); intro aC aD ho hb hg hat; rw [← ao.out] at ho; have ap := Za (ho); replace HB := Za (hb); clear ho hb hg hat))
   go_roundg k1
   case measure => have := HK1.out; omega
   case rel => exact ⟨(an0), (Zg (aa + 1)), gR, H', ⟨by have := HK1.out; omega⟩, ⟨by exact ap.out⟩, ⟨wB⟩⟩
open Go.Proofs.YtaambkdiokbdgabGreatM in
theorem fO.cmp_v (a b : Int) : gD.f a b = some (if a < b then -1 else if b < a then 1 else 0) := by
 have h : ∀ x : Int, gi.f x = some false := fun x => by simp [gi.f]
 simp only [gD.f, h, Zm, Bool.false_eq_true, if_false]
 by_cases h1 : a < b
 ·rw [if_pos h1, if_pos h1]
 by_cases h2 : b < a
 ·rw [if_neg h1, if_pos h2, if_neg h1, if_pos h2]
 rw [if_neg h1, if_neg h2, if_neg h1, if_neg h2]
open Go.Proofs.YtaambkdiokbdgabGreatM in
theorem fO.cmp_ev_l (a b : List Int) (ha : a.length ≤ 9223372036854775807) : ∀ (d i : Nat), i + d = a.length → i ≤ b.length → a.take i = b.take i → Ev (fun k => gz.l0 k a b a (a.length : Int) (i : Int)) (ZA (a.drop i) (b.drop i)) := by
 intro d
 induction d with
 | zero =>
  intro i h hb _
  refine ev_step ?_
  simp only [gz.l0]
  rw [ev_neg (by omega), ZW (by omega)]
  by_cases hc : (a.length : Int) < (b.length : Int)
  ·rw [Z6 hc, ev_now, ZC (by omega)]
   rfl
  rw [ev_neg hc, ev_now, ZW (by omega)]
  rfl
 | succ d ih =>
  intro i h hb ht
  refine ev_step ?_
  simp only [gz.l0]
  have hi : i < a.length := by omega
  rw [Z6 (by omega), Z6 (by omega), Z6 (by omega)]
  by_cases hc : (i : Int) ≥ (b.length : Int)
  ·rw [Z6 hc, ev_now, ZC hi, ZW (by omega : b.length ≤ i)]
   rfl
  have hib : i < b.length := by omega
  rw [ev_neg hc, Z6 (by omega), rd_lt a i hi, rd_lt b i hib, ev_bind (ev_of (fO.cmp_v _ _)), w64i (n := a.length) (by omega) (by omega) ha, ZC hi, ZC hib]
  simp only [ZA]
  by_cases h1 : a[i] < b[i]
  ·rw [if_pos h1, ev_neg (by decide), ev_now, if_pos h1]
  by_cases h2 : b[i] < a[i]
  ·rw [if_neg h1, if_pos h2, ev_neg (by decide), ev_now, if_neg h1, if_pos h2]
  rw [if_neg h1, if_neg h2, Z6 rfl, if_neg h1, if_neg h2]
  refine ih (i + 1) (by omega) (by omega) ?_
  rw [Z5 hi, Z5 hib, ht, show a[i] = b[i] by omega]
open Go.Proofs.YtaambkdiokbdgabGreatM in
theorem fO.cmp_ev (a b : List Int) (ha : a.length ≤ 9223372036854775807) : Ev (fun k => gz.f k a b) (ZA a b) := fO.cmp_ev_l a b ha a.length 0 (by omega) (by omega) (by simp)
def fO.l0 : Nat → (Int → Option Bool) → List Bool → List (List Int) → Int → Option (List (List Int))
 | 0, _, _, _, _ => none
 | k + 1, p, ws, out, x => if x < (ws.length : Int) then ((p x).bind fun b => if b = true then ((fT.f k x).bind fun s => if out.length < 5000000000000 then fO.l0 k p ws (out ++ [s]) (Zg (x + 1)) else none) else fO.l0 k p ws out (Zg (x + 1))) else some out
def fO.g (k : Nat) (ws : List Bool) (p : Int → Option Bool) : Option (List (List Int)) := (fO.l0 k p ws [] 0).bind fun out => if out.length < 5000000000000 then some (Go.Proofs.YtaambkdiokbdgabGreatS.sortL out) else none
theorem fO.hof (k : Nat) (a0 : Int) (A1 : Option Addr) (c1 : Nat) (ws : List Bool) (p : Int → Option Bool) (g : Nat) (fb lb : Array ZB) (r : List (List Int)) (w : ZG) (hr1 : Kd.C Kd.bool w A1 ws.length ws) (eg : ∀ args w, (Z8 g args).run Tryz.prog w = .ok (.enter g args) w)
  (hp : ∀ (W : ZG) (x : Int) (b : Bool), Zt w.heap.size w W → 0 ≤ x → x < (ws.length : Int) → p x = some b → ZM Tryz.prog g (fb ++ #[.int .i64 x] ++ lb) W fun e W' => e = .returned (.bool b) ∧ Zt W.heap.size W W') (h : fO.g k ws p = some r) :
  ZM Tryz.prog 110 #[.agg #[.int .i64 a0, .slice A1 ws.length c1], .func (.func g) fb lb] w fun e w' => ∃ v0_ : ZB, e = .returned (v0_) ∧ Kd.S (Z2 3 (Zf .i64)) 22 w' w.heap.size (fun _ => True) v0_ r ∧ Zt w.heap.size w w' := by
 have egC : ∀ args w, (Z8 131 args).run Tryz.prog w = .ok (.enter 131 args) w := enters_of Tryz.func131 (by kernel_rfl) rfl
 have huV := Tryz.underlying53
 obtain ⟨OUT, hout, hr⟩ := oB h
 by_cases hlo : OUT.length < 5000000000000
 case neg => rw [if_neg hlo] at hr; cases hr
 rw [if_pos hlo] at hr
 obtain rfl := Zh hr
 have HLO := Za hlo
 have HN := Za (Kd.C_max hr1)
 have HR := Za hr1
 have HP := Za hp
 have H' := Za hout
 have HB := Za (Zk w.heap.size w)
 clear hr1 h hout hr hlo hp
 go_enter Tryz.func110, Tryz.ntmps110
 go_wp2_with (first | ((with_reducible refine Zu (N := 2) rfl ?_); refine xE (N := 2) (cs := #[.int .i64 a0, .slice A1 ws.length c1]) (t := 53) ?_; intro gb hg w7 BK hb; replace HB := sB HB hb; clear hb hg) | ((with_reducible refine Zu (N := 7) rfl ?_); refine Kd.S_lit (Z2 3 (Zf .i64)) _ 22 ?hg (N := 7) ?hd (xs := ([] : List (List Int))) (inner := []) (ok := fun _ => True) (okp := fun _ => True) ?hr ?hp (fun _ hk => hk) trivial (Zk _ _) (Zl _) (by simp) ?_; (case hd => rfl); (case hg => rfl); (case hr => first | (go_simp; done) | (go_simp; rfl)); (case hp => exact (ZU _ _)); intro ah w8 ho hb hg_ hnew_; clear hg_ hnew_; have n0_ := Za (Kd.S_lower ho (Ze HB.out)); have n1_ := bB BK hb; have n2_ := sB HB hb; clear HB BK; have HO := n0_; have BK := n1_; have HB := n2_; clear n0_ n1_ n2_; clear hb ho; obtain ⟨ao, ap, ai⟩ := Kd.S_slice HO.out; subst ai; have ac := cZ BK 1))
 go_loopg [5, 11] k (fun kq v5 aj w' => ∃ (out : List (List Int)) (x : Int), aj = .int .i64 x ∧ Zc (fO.l0 kq p ws out x = some OUT) ∧ Zc (kq ≤ k) ∧ Zc (0 ≤ x) ∧ Zc (Kd.S (Z2 3 (Zf .i64)) 22 w' w.heap.size (fun _ => True) v5 out) ∧ Zc (w'.heap[gb]? = some (.cells #[.int .i64 a0, .slice A1 ws.length c1] 53 (0, 0))) ∧ Zc (Zt w.heap.size w w'))
 case atStart => exact ⟨[], 0, gR, H', ⟨Zl _⟩, ⟨Int.le_refl _⟩, ⟨by exact HO.out⟩, ⟨by exact BK.out⟩, ⟨HB.out⟩⟩
 case round =>
  clear H' HB BK HO
  (try clear ac)
  obtain ⟨out, x, rfl, HA, HK1, HX0, HO, BK, HB⟩ := hrel
  cases gk with
  | zero => exact absurd HA.out (by simp [fO.l0])
  | succ k1 =>
   have H := HA.out
   clear HA
   simp only [fO.l0] at H
   by_cases c1 : x < (ws.length : Int)
   rotate_left
   ·rw [if_neg c1] at H
    obtain rfl := Zh H
    have ae : decide (x < (ws.length : Int)) = false := decide_eq_false c1
    clear c1 H
    obtain ⟨Ao, co, eo⟩ := Kd.S_slice HO.out
    subst eo
    go_wp2_with fail
    have hs := Go.Proofs.YtaambkdiokbdgabGreatS.hZ Go.Proofs.YtaambkdiokbdgabGreatL.sortLL (Z2 3 (Zf .i64)) rfl ZA Go.Proofs.YtaambkdiokbdgabGreatS.swoL 131 egC HO.out (by have := HLO.out; omega) (fun W a b u v _ _ ha hb => by
     obtain ⟨A1_, c1_, e1_, ak, hC1⟩ := ha
     obtain ⟨A2_, c2_, e2_, al, hC2⟩ := hb
     obtain rfl := (List.cons.inj e1_).1
     obtain rfl := (List.cons.inj e2_).1
     obtain ⟨K, hK⟩ := fO.cmp_ev a b (Kd.C_max hC1)
     refine (gz.calls K A1_ c1_ a A2_ c2_ b _ W hC1 ak hC2 al (hK K (Zl _))).mono ?_
     rintro e W' ⟨rfl, ⟨q, rfl⟩⟩
     exact ⟨rfl, q, rfl⟩)
    change ZM Tryz.prog 130 _ _ _ at hs
    refine hs.mono ?_
    rintro e w' ⟨rfl, ys, hperm, hsd, hS, hg⟩
    obtain rfl := Go.Proofs.YtaambkdiokbdgabGreatS.sortL_of hperm hsd
    have HS := Za hS
    have HBN := Za (HB.out.grown hg HB.out.size (fun k_ hk_ => Kd.S_base HO.out k_ hk_))
    clear hS hg hs HO HB
    go_wp2
    go_ret
    exact ⟨_, rfl, by exact HS.out, HBN.out⟩
   rw [if_pos c1] at H
   obtain ⟨b, A5, H⟩ := oB H
   have hcall := HP.out wr x b HB.out HX0.out c1 A5
   have HXW : Zc (0 ≤ Zg (x + 1)) := ⟨by have h1_ := HX0.out; have h2_ := HN.out; unfold Zg; omega⟩
   have ae := decide_eq_true c1
   clear c1
   cases b with
   | true =>
    rw [if_pos rfl] at H
    obtain ⟨s, A6, H⟩ := oB H
    have A6 := Za A6
    by_cases c3 : out.length < 5000000000000
    rotate_left
    ·rw [if_neg c3] at H
     exact absurd H (by simp)
    rw [if_pos c3] at H
    obtain ⟨y, hy⟩ : ∃ y_ : List (List Int), y_ = (out ++ [s]) := ⟨_, rfl⟩
    rw [← hy] at H
    have NY := Za hy
    have LM := Za c3
    have H' := Za H
    clear hy c3 H
    go_wp2_with fail
    refine hcall.mono ?_
    rintro e w' ⟨rfl, hb⟩
    have n0_ := tB HO hb
    have n1_ := bB BK hb
    have n2_ := Za (HB.out.trans (hb.mono HB.out.size))
    clear HO BK HB hb hcall
    have HO := n0_
    have BK := n1_
    have HB := n2_
    clear n0_ n1_ n2_
    go_wp2_with (first | ((with_reducible refine Zq (f := 129) rfl ?_); refine gL 19 Tryz.func129 #[.int .i64 x] ?_; (with_reducible refine (fT.calls k1 x s _ A6.out).mono ?_); rintro e aq ⟨am0, rfl, af, hb⟩; refine ⟨_, rfl, ?_⟩; have n0_ := Za (Kd.S_elder' HO.out (Z0 af) hb); have n1_ := Za (Zs af (Ze HB.out)); have n2_ := sB HB hb; have n3_ := bB BK hb; clear HO HB BK; have HO := n0_; have HOs := n1_; have HB := n2_; have BK := n3_; clear n0_ n1_ n2_ n3_ hb af; obtain ⟨aa, ab, ag⟩ := Zx HOs.out; subst ag) | ((with_reducible refine gate_builtin (b := .append) (xs := #[.tmp 17, .tmp 20]) rfl ?_); at_builtin; refine Kd.S_append (Z2 3 (Zf .i64)) (w0 := w) w.heap.size rfl (.tmp 17) (.tmp 20) 88 22 (.slice none 0 0) 24 rfl Tryz.underlying88 info22 rfl (by decide) (by omega) u5 out s [.slice aa s.length ab] (fun _ => True) (fun k_ => some k_ = (.slice aa s.length ab : ZB).ownBlock) rfl rfl ?aP (fun k_ hk_ => (Zp (ok' := fun k_ => True ∧ nb u5 k_) (Kd.R_apart' HOs.out (Kd.S_typed HO.out) (by decide)) (fun k_ hk => ⟨trivial, hk.2⟩)).1 k_ hk_.symm) ?aF ?aO ?aB ?aS ?aL ?_; (case aP => exact Kd.M_row (Zp (Kd.R_tight rfl (Zp (ok' := fun k_ => True ∧ nb u5 k_) (Kd.R_apart' HOs.out (Kd.S_typed HO.out) (by decide)) (fun k_ hk => ⟨trivial, hk.2⟩))) (fun _ h_ => h_))); (case aB => exact HB.out); (case aF => exact (fun _ _ => trivial)); (case aO => exact (by exact Kd.S_mono HO.out (fun k_ hk => ⟨trivial, fun e_ => hk.2 e_⟩))); (case aS => exact (Ze HB.out)); (case aL => have := LM.out; omega); intro an0 au ho hb hg hat; rw [← NY.out] at ho; have n0_ := Za (ZV BK.out hg (Kd.S_ne HO.out BK.out (by decide))); have n1_ := Za hb; have n2_ := Za ho; clear BK HB HO HOs; have BK := n0_; have HB := n1_; have HO := n2_; clear n0_ n1_ n2_ ho hb hg hat))
    go_roundg k1
    case measure => have := HK1.out; omega
    case rel => exact ⟨y, (Zg (x + 1)), gR, H', ⟨by have := HK1.out; omega⟩, HXW, ⟨by exact HO.out⟩, ⟨by exact BK.out⟩, ⟨HB.out⟩⟩
   | false =>
    rw [if_neg (by decide)] at H
    have H' := Za H
    clear H
    go_wp2_with fail
    refine hcall.mono ?_
    rintro e w' ⟨rfl, hb⟩
    have n0_ := tB HO hb
    have n1_ := bB BK hb
    have n2_ := Za (HB.out.trans (hb.mono HB.out.size))
    clear HO BK HB hb hcall
    have HO := n0_
    have BK := n1_
    have HB := n2_
    clear n0_ n1_ n2_
    go_wp2
    go_roundg k1
    case measure => have := HK1.out; omega
    case rel => exact ⟨out, (Zg (x + 1)), gR, H', ⟨by have := HK1.out; omega⟩, HXW, ⟨by exact HO.out⟩, ⟨by exact BK.out⟩, ⟨HB.out⟩⟩
def gY.f (k : Nat) (ab : Int) (aa : List Bool) : Option (List (List Int)) := fO.g k aa (fun x => fS.f k ab aa x)
theorem gY.calls (k : Nat) (ab : Int) (ac : Option Addr) (ae : Nat) (aa : List Bool) (r : List (List Int)) (w : ZG) (af : Kd.C Kd.bool w ac aa.length aa) (ag : aa.length ≤ ae) (h : gY.f k ab aa = some r) :
  ZM Tryz.prog 89 #[.agg #[.int .i64 ab, .slice ac aa.length ae]] w fun e w' => ∃ v0_ : ZB, e = .returned (v0_) ∧ Kd.S (Z2 3 (Zf .i64)) 22 w' w.heap.size (fun _ => True) v0_ r ∧ Zt w.heap.size w w' := by
 have eg : ∀ args w, (Z8 111 args).run Tryz.prog w = .ok (.enter 111 args) w := enters_of Tryz.func111 (by kernel_rfl) rfl
 have hmf : ∀ (fn : Fn) (first cap : Array ZB) (w : ZG), (Z9 fn first cap).run Tryz.prog w = .ok (.func fn first cap) w := fun _ _ _ _ => rfl
 have huV := Tryz.underlying53
 have HR := Za af
 have HC := Za ag
 have H := Za h
 clear af ag h
 go_enter Tryz.func89, Tryz.ntmps89
 go_wp2_with fail
 have hB1 : Zt w.heap.size w (w.alloc (.cells #[.int .i64 ab, .slice ac aa.length ae] 53)) := (Zk _ _).alloc (Zl _) _
 refine (fO.hof k ab ac ae aa (fun x => fS.f k ab aa x) 111 #[.agg #[.int .i64 ab, .slice ac aa.length ae]] #[] r _ (Zo HR.out hB1) eg ?_ H.out).mono ?_
 ·intro W x b hb _ _ hx
  exact fS.calls k ab ac ae aa x b W (Zo HR.out (hB1.trans (hb.mono hB1.size))) HC.out hx
 rintro e w' ⟨v1, rfl, hS, hb⟩
 have HS := Za (Kd.S_lower hS hB1.size)
 have HBN := Za (hB1.trans (hb.mono hB1.size))
 clear hS hb hB1
 go_wp2
 go_ret
 exact ⟨_, rfl, HS.out, HBN.out⟩
open Go.Proofs.YtaambkdiokbdgabGreatM in
theorem gp.index_ev (l : List Int) (x : Int) (hl : l.length ≤ 9223372036854775807) : ∀ (d i : Nat), i + d = l.length → ∃ r : Int, Ev (fun k => gv.l0 k l x (l.length : Int) (i : Int)) r ∧ decide (r ≥ 0) = (l.drop i).contains x := by
 intro d
 induction d with
 | zero =>
  intro i h
  refine ⟨-1, ev_step ?_, ?_⟩
  ·simp only [gv.l0]
   rw [ev_neg (by omega), ev_now]
  rw [ZW (by omega)]
  rfl
 | succ d ih =>
  intro i h
  have hi : i < l.length := by omega
  by_cases e : x = l[i]
  ·refine ⟨(i : Int), ev_step ?_, ?_⟩
   ·simp only [gv.l0]
    rw [Z6 (by omega), Z6 (by omega), Z6 (by omega), rd_lt l i hi, Z6 e, ev_now]
   rw [ZC hi, decide_eq_true (by omega), List.contains_cons, beq_iff_eq.2 e, Bool.true_or]
  obtain ⟨r, hr1, hr2⟩ := ih (i + 1) (by omega)
  refine ⟨r, ev_step ?_, ?_⟩
  ·simp only [gv.l0]
   rw [Z6 (by omega), Z6 (by omega), Z6 (by omega), rd_lt l i hi, ev_neg e, w64i (n := l.length) (by omega) (by omega) hl]
   exact hr1
  rw [hr2, ZC hi, List.contains_cons]
  have : (x == l[i]) = false := beq_eq_false_iff_ne.2 e
  rw [this, Bool.false_or]
open Go.Proofs.YtaambkdiokbdgabGreatM in
theorem gp.contains_ev (l : List Int) (x : Int) (hl : l.length ≤ 9223372036854775807) : Ev (fun k => g1.f k l x) (l.contains x) := by
 obtain ⟨r, h1, h2⟩ := gp.index_ev l x hl l.length 0 (by omega)
 simp only [g1.f]
 rw [ev_bind (show Ev (fun k => gv.f k l x) r from h1), ev_now, h2, List.drop_zero]
def gp.p (L : List (List Int)) (x : Int) : Bool := !(L.any fun s => s.contains x)
def gp.f (k : Nat) (aa : Int) (ab : List Bool) : Option (List Int) := if aa ≤ 9223372036854775807 then (gY.f k aa ab).bind fun L => fM.g k aa (fun x => some (gp.p L x)) else none
theorem sl.clo (x : Int) (A : Option Addr) (c : Nat) (s : List Int) (B : Nat) (W : ZG) (h0 : W.cell? ⟨B, 0, none⟩ = some (.int .i64 x)) (hr : Kd.C (Zf .i64) W A s.length s) (hc : s.length ≤ c) :
  ZM Tryz.prog 113 #[.slice A s.length c, .pointer (some ⟨B, 0, none⟩)] W fun e W' => e = .returned (.bool (s.contains x)) ∧ Zt W.heap.size W W' := by
 obtain ⟨K, hK⟩ := gp.contains_ev s x (Kd.C_max hr)
 have HC := Za (fun W1 (h1 : Kd.C (Zf .i64) W1 A s.length s) => g1.calls K A c s x _ W1 h1 hc (hK K (Zl _)))
 have HR := Za hr
 clear hK hr hc
 generalize s.contains x = b at *
 go_enter Tryz.func113, Tryz.ntmps113
 go_wp2_with fail
 refine (HC.out _ HR.out).mono ?_
 rintro e w' ⟨rfl, hd⟩
 have HD := Za hd.below
 clear hd
 go_wp2
 go_ret
 exact ⟨rfl, HD.out⟩
theorem sm.mk (x : Int) (W : ZG) : ZM Tryz.prog 92 #[.int .i64 x] W fun e W' => e = .returned (.func (.func 113) #[] #[.pointer (some ⟨W.heap.size, 0, none⟩)]) ∧ W' = W.alloc (.cells #[.int .i64 x] 3) := by
 have hmf : ∀ (fn : Fn) (first cap : Array ZB) (w : ZG), (Z9 fn first cap).run Tryz.prog w = .ok (.func fn first cap) w := fun _ _ _ _ => rfl
 go_enter Tryz.func92, Tryz.ntmps92
 go_wp2
 go_ret
 exact ⟨rfl, rfl⟩
theorem sn.clo (x : Int) (L : List (List Int)) (A : Option Addr) (c : Nat) (B : Nat) (W : ZG) (h0 : W.cell? ⟨B, 0, none⟩ = some (.slice A L.length c)) (hr : Kd.C (Z2 3 (Zf .i64)) W A L.length L) :
  ZM Tryz.prog 90 #[.int .i64 x, .pointer (some ⟨B, 0, none⟩)] W fun e W' => e = .returned (.bool (gp.p L x)) ∧ Zt W.heap.size W W' := by
 have eg : ∀ args w, (Z8 113 args).run Tryz.prog w = .ok (.enter 113 args) w := enters_of Tryz.func113 (by kernel_rfl) rfl
 have hlt : B < W.heap.size := Zj W _ h0
 have hd0 : W.drew.cell? ⟨B, 0, none⟩ = some (.slice A L.length c) := h0
 have HD0 := Za hd0
 have HLT := Za (show B < W.drew.heap.size from hlt)
 have HR := Za (Kd.C_drew hr)
 have HF := Za (fun (W0 : ZG) (hW : Kd.C (Z2 3 (Zf .i64)) W0 A L.length L) => sk.hof A c L 113 #[.pointer (some ⟨W0.heap.size, 0, none⟩)] (fun s => s.contains x) (W0.alloc (.cells #[.int .i64 x] 3)) (ZX hW _) eg (fun W1 A1 c1 s _ hb hC hc => sl.clo x A1 c1 s W0.heap.size W1 (by rw [hb.cell (p := ⟨W0.heap.size, 0, none⟩) (by simp)]; simp [go_sem]) hC hc))
 have HBD := Za (show Zt W.heap.size W W.drew from below_drew1 (Zk _ _))
 unfold gp.p
 generalize (L.any fun s => s.contains x) = b at *
 clear hr hlt hd0
 go_enter Tryz.func90, Tryz.ntmps90
 go_wp2
 go_region_held3 (fun w' => w'.cell? ⟨B, 0, none⟩ = some (.slice A L.length c)) (first | exact k0 | go_keep)
  (first | (go_at_call 92; refine (sm.mk x _).mono ?_; rintro e w' ⟨rfl, rfl⟩; have k0 := ((below_alloc (Zk W.drew.heap.size W.drew) (.cells #[.int .i64 x] 3)).cell (p := ⟨B, 0, none⟩) HLT.out).trans HD0.out) | (go_at_call 91; refine (HF.out _ HR.out).mono ?_; rintro e w' ⟨rfl, hb⟩; have k0 := (hb.cell (p := ⟨B, 0, none⟩) (by simp; exact Nat.lt_succ_of_lt HLT.out)).trans (((below_alloc (Zk W.drew.heap.size W.drew) (.cells #[.int .i64 x] 3)).cell (p := ⟨B, 0, none⟩) HLT.out).trans HD0.out); have HBN := Za (HBD.out.trans ((below_alloc (Zk W.drew.heap.size W.drew) (.cells #[.int .i64 x] 3)).trans (hb.mono (by simp)))); clear hb))
 go_wp2
 go_ret
 exact ⟨rfl, HBN.out⟩
theorem gp.calls (k : Nat) (aa : Int) (ac : Option Addr) (ae : Nat) (ab : List Bool) (r : List Int) (w : ZG) (af : Kd.C Kd.bool w ac ab.length ab) (ag : ab.length ≤ ae) (h : gp.f k aa ab = some r) :
  ZM Tryz.prog 69 #[.agg #[.int .i64 aa, .slice ac ab.length ae]] w fun e w' => ∃ v0_ : ZB, e = .returned (v0_) ∧ Kd.R (Zf .i64) 3 w' w.heap.size (fun _ => True) v0_ r ∧ Zt w.heap.size w w' := by
 have eg : ∀ args w, (Z8 90 args).run Tryz.prog w = .ok (.enter 90 args) w := enters_of Tryz.func90 (by kernel_rfl) rfl
 have hmf : ∀ (fn : Fn) (first cap : Array ZB) (w : ZG), (Z9 fn first cap).run Tryz.prog w = .ok (.func fn first cap) w := fun _ _ _ _ => rfl
 have huV := Tryz.underlying53
 by_cases hn : aa ≤ 9223372036854775807
 case neg => simp only [gp.f] at h; rw [if_neg hn] at h; cases h
 simp only [gp.f] at h
 rw [if_pos hn] at h
 obtain ⟨L, hL, hg⟩ := oB h
 have HR := Za af
 have HC := Za ag
 have HL := Za hL
 have HG := Za hg
 have HN := Za hn
 have HB1 := Za (show Zt w.heap.size w (w.alloc (.cells #[.int .i64 aa, .slice ac ab.length ae] 53)) from (Zk _ _).alloc (Zl _) _)
 clear af ag h hL hg hn
 go_enter Tryz.func69, Tryz.ntmps69
 go_wp2_with fail
 refine (gY.calls k aa ac ae ab L _ (Zo HR.out HB1.out) HC.out HL.out).mono ?_
 rintro e w1 ⟨v1, rfl, hS, hb⟩
 obtain ⟨A1, c1, rfl, ah, hC1⟩ := Kd.S_reads hS
 have hw1 := blk_new w (.cells #[.int .i64 aa, .slice ac ab.length ae] 53)
 have BK := Za (blk_below hw1 hb)
 have HB2 := Za (HB1.out.trans (hb.mono HB1.out.size))
 have ai := Za hC1
 clear hS ah hC1 hw1 hb
 have hc0 : (w1.alloc (.cells #[.slice A1 L.length c1] 88)).cell? ⟨w.heap.size, 0, none⟩ = some (.int .i64 aa) := (Zd (blk_alloc BK.out _) 0).trans rfl
 have HB3 := Za (HB2.out.trans ((below_alloc (Zk w1.heap.size w1) (.cells #[.slice A1 L.length c1] 88)).mono HB2.out.size))
 have HX := Za (fun (k0 : Nat) => fM.hof k aa (fun x => some (gp.p L x)) 90 #[] #[.pointer (some ⟨w1.heap.size, 0, none⟩)] r (w1.alloc (.cells #[.slice A1 L.length c1] 88)) HN.out eg (fun W x b hb _ _ hx => by
  obtain rfl := Zh hx
  refine sn.clo x L A1 c1 w1.heap.size W ?_ (Zo (ZX ai.out _) hb)
  rw [hb.cell (p := ⟨w1.heap.size, 0, none⟩) (by simp)]
  simp [go_sem]) HG.out)
 go_wp2_with fail
 refine (HX.out 0).mono ?_
 rintro e w' ⟨v2, rfl, hO, hb⟩
 have HO := Za (Zs hO HB3.out.size)
 have HB4 := Za (HB3.out.trans (hb.mono HB3.out.size))
 clear hO hb
 go_wp2
 go_ret
 exact ⟨_, rfl, HO.out, HB4.out⟩
def gJ.f (k : Nat) (ab : Int) (ac : List Int) : Option (List Int × Bool) := (fd.f k ab ac).bind fun ae => (if ae = true then ((fF.f k ab ac).bind fun aa => ((gp.f k aa.1 aa.2).bind fun af => (some (af, true)))) else (some (([] : List Int), false)))
theorem gJ.calls (k : Nat) (ae : Int) (af : Option Addr) (ag : Nat) (ab : List Int) (r1 : List Int) (r2 : Bool) (w : ZG) (ah : Kd.C (Zf .i64) w af ab.length ab) (ai : ab.length ≤ ag) (h : gJ.f k ae ab = some (r1, r2)) :
  ZM Tryz.prog 29 #[.agg #[.int .i64 ae, .slice af ab.length ag]] w fun e w' => ∃ v0_ : ZB, e = .returned (.tuple #[v0_, .bool r2]) ∧ Kd.R (Zf .i64) 3 w' w.heap.size (fun _ => True) v0_ r1 ∧ Zt w.heap.size w w' := by
 have hu24 := Tryz.underlying24
 have aj := Za ah
 have ak := Za ai
 clear ah ai
 have HB := Za (Zk w.heap.size w)
 have H := h
 unfold gJ.f at H
 clear h
 replace H := oA H
 obtain ⟨au, A2, H⟩ := H
 (try dsimp only at H)
 have aH := Za H
 clear H
 go_enter Tryz.func29, Tryz.ntmps29
 go_upto_if 6 with (first | ((with_reducible refine Zu (N := 1) rfl ?_); refine xE (N := 1) (cs := #[.int .i64 ae, .slice af ab.length ag]) (t := 24) ?_; intro aI hg w6 aa hb; have aJ := gS hg HB; have aK := gS hg HB; replace HB := sB HB hb; clear hb hg; obtain ⟨al, am0, an0, ao⟩ := zZ aa) | ((with_reducible refine Zq (f := 16) rfl ?_); refine gL 5 Tryz.func16 #[.agg #[.int .i64 ae, .slice af ab.length ag]] ?_; (with_reducible refine (fd.calls k ae _ _ ab au _ (Zo aj.out HB.out) ak.out A2.out).mono ?_); rintro e w8 ⟨rfl, hb⟩; refine ⟨_, rfl, ?_⟩; replace aa := bB aa hb; replace HB := sB HB hb; (try clear hb); (try clear al am0 an0 ao); obtain ⟨ax, ay, az, aA⟩ := zZ aa))
 have H := aH.out
 clear aH
 by_cases c3 : au = true
 rotate_left
 ·replace c3 := Bool.eq_false_iff.mpr c3
  subst c3
  replace H := iF H
  simp only [Zi, Zr] at H
  obtain ⟨rfl, rfl⟩ := H
  go_wp2_with (fail)
  go_ret2
  exact ⟨_, fR, by first | exact Z1 _ _ _ _ _ | exact Kd.N_nil _ _ _ _ _ | exact Kd.V_nil _ _ _ _ _ | exact Kd.Q_nil _ _ _ _ _ | exact Kd.S_nil _ _ _ _ _, wB⟩
 subst c3
 replace H := iT H
 replace H := oB H
 obtain ⟨⟨ap, aq⟩, aM, H⟩ := H
 (try dsimp only at H)
 have A4 := Za aM
 clear aM
 replace H := oA H
 obtain ⟨aC, A5, H⟩ := H
 (try dsimp only at H)
 simp only [Zi, Zr] at H
 obtain ⟨rfl, rfl⟩ := H
 go_wp2_with (first | ((with_reducible refine Zq (f := 40) rfl ?_); refine gL 8 Tryz.func40 #[.agg #[.int .i64 ae, .slice af ab.length ag]] ?_; (with_reducible refine (fF.calls k ae _ _ ab ap aq _ (Zo aj.out HB.out) ak.out A4.out).mono ?_); rintro e aT ⟨aN, rfl, av, hb⟩; refine ⟨_, rfl, ?_⟩; have ac := Za (Zs av (Ze HB.out)); replace aa := bB aa hb; replace HB := sB HB hb; (try clear hb); (try clear av); obtain ⟨aD, aE, aG⟩ := Zx ac.out; subst aG) | ((with_reducible refine Zq (f := 69) rfl ?_); refine gL 9 Tryz.func69 #[.agg #[.int .i64 ap, .slice aD aq.length aE]] ?_; (with_reducible refine (gp.calls k ap _ _ aq aC _ ?side1 ?side2 A5.out).mono ?_); (case side1 => have hx_ := (ZH ac.out).2.2; exact cC); (case side2 => exact (ZH ac.out).2.1); rintro e aU ⟨aQ, rfl, av, hb⟩; refine ⟨_, rfl, ?_⟩; have aw := Za (Zs av (Ze HB.out)); replace ac := rB ac hb; replace aa := bB aa hb; replace HB := sB HB hb; (try clear hb); (try clear av)))
 go_ret2
 exact ⟨_, fR, by exact aw.out, wB⟩
def gw.f (l0 : List Int) (l1 : List Int) : Option (Bool) := if (l0.length : Int) > 1048576 then (some true) else (some (decide ((l1.length : Int) > (Zg (1048576 - (l0.length : Int))))))
theorem gw.calls (A0 : Option Addr) (c0 : Nat) (l0 : List Int) (A1 : Option Addr) (c1 : Nat) (l1 : List Int) (r : Bool) (w : ZG) (hr0 : Kd.C (Zf .u8) w A0 l0.length l0) (hc0 : l0.length ≤ c0) (hr1 : Kd.C (Zf .u8) w A1 l1.length l1) (hc1 : l1.length ≤ c1) (h : gw.f l0 l1 = some r) :
  ZM Tryz.prog 30 #[.slice A0 l0.length c0, .slice A1 l1.length c1] w fun e w' => e = .returned (.bool r) ∧ Drawn0 w w' := by
 have ac := Za hr0
 have ae := Za hc0
 clear hr0 hc0
 have af := Za hr1
 have ag := Za hc1
 clear hr1 hc1
 have H := h
 unfold gw.f at H
 clear h
 by_cases c3 : (l0.length : Int) > 1048576
 ·rw [if_pos c3] at H
  have aa : decide (1048576 < (l0.length : Int)) = true := decide_eq_true c3
  have ab : decide (1048576 < l0.length) = true := decide_eq_true (by omega)
  clear c3
  obtain rfl := Zh H
  go_enter Tryz.func30, Tryz.ntmps30
  go_wp2
  go_ret
  exact ⟨by first | rfl | (simp; done) | (simp [*]; done), dS⟩
 rw [if_neg c3] at H
 have aa : decide (1048576 < (l0.length : Int)) = false := decide_eq_false c3
 have ab : decide (1048576 < l0.length) = false := decide_eq_false (by omega)
 clear c3
 obtain rfl := Zh H
 go_enter Tryz.func30, Tryz.ntmps30
 go_wp2
 go_ret
 exact ⟨by first | rfl | (simp; done) | (simp [*]; done), dS⟩
end Go.Proofs.YtaambkdiokbdgabGreat.Q
