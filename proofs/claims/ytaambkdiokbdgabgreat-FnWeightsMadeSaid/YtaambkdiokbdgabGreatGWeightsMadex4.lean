/- Printed functions, their contracts and plain facts on them: QSpecL1CurNext; QSpecL1CurPick; QSpecL1CurAmong; QSpecL1CurOne; QSpecL1CurSureCommittee; QSpecL1CurCommittee; QSpecDrawTimesCommittee; QSpecDrawPartCommittee; Q. Conditions: as each theorem states. -/
import Derived.Test.YtaambkdiokbdgabGreatGWeightsMadex1
import Derived.Test.YtaambkdiokbdgabGreatGWeightsMadex2
import Derived.Test.YtaambkdiokbdgabGreatGWeightsMadex3
set_option maxHeartbeats 40000000
set_option maxRecDepth 100000
open Go renaming results_cell_row → Zw, bodyPost_ret → ZC, World → ZJ, Value → ZW, Calls → ZX
open Go.Act renaming put → ZH
open Go.Proofs.YtaambkdiokbdgabGreatW.PrintWords renaming blk_cell → Ze, below_size → Zi, Aside0 → Zm, gate_callee → Zn, blk_put → Zo, keep_size → Zq, below_step → Zv, blk_far → Zz, blk_lt → ZA, gate_dst → ZE, keep_drew → ZF, blk_frozen → ZK, keep_drewN → ZL, keep_alloc → ZM
open Go.Proofs.YtaambkdiokbdgabGreatW.PrintWords.Aside0 renaming mk → Za
open Go.Proofs.YtaambkdiokbdgabGreatW.PrintWords.Kd renaming R_mono → Zd, R_far → Zh, R_types → Zp, int → Zs, R_reads' → Zt, R_slice → Zx, R_keep → Zy, R_lower → ZI
open Go.Proofs.YtaambkdiokbdgabGreatW.PrintWords.KeepBut renaming trans → Zb, blk → Zc, of_below → Zu, set_ → ZG
open Go.Proofs.YtaambkdiokbdgabGreatW.PrintWords.Reps renaming one → ZD
open Go.RowKit renaming wrap64 → Zg, Below → ZO
open Go.RowKit.Below renaming refl → ZN
open Int renaming tdiv → ZS, reduceToNat → ZV
open Nat renaming ne_of_lt → Zj, ne_of_gt → Zk, le_trans → ZB, le_refl → ZQ, reduceAdd → ZR, zero_mul → ZT, zero_add → ZU
open Option renaming bind_some → Zr
open Option.some renaming injEq → Zf
open Or renaming inl → ZP
open Prod.mk renaming injEq → Zl
namespace Go.Proofs.YtaambkdiokbdgabGreat.Q
open Go.RowKit Go.Proofs.YtaambkdiokbdgabGreatX Go.Proofs.YtaambkdiokbdgabGreatY Go.Proofs.YtaambkdiokbdgabGreatX Go.Proofs.YtaambkdiokbdgabGreatW.PrintWords Go.Proofs.YtaambkdiokbdgabGreatW.PrintLast Go.Proofs.YtaambkdiokbdgabGreatW.PrintMore
attribute [local go_sem] max2_int min2_int max_two min_two max_three min_three max_four min_four   -- for this text's walks alone
set_option linter.unusedVariables false
set_option linter.unusedSimpArgs false
def IsS77 (w0 W : ZJ) (g : Nat) (f0 : List Int) (f1 : Int) (f2 : Int) : Prop := ∃ A0 c0, W.heap[g]? = some (.cells #[.slice A0 f0.length c0, .int .i64 f1, .int .u64 f2] 77 (0, 0)) ∧ w0.heap.size ≤ g ∧ Kd.C (Zs .u8) w0 A0 f0.length f0
theorem IsS77.grown {w0 W : ZJ} {g : Nat} {f0 : List Int} {f1 : Int} {f2 : Int} {W1 : ZJ} {row : Option Nat} (h : IsS77 w0 W g f0 f1 f2) (hw : W.grownBy W1 row) (hne : some g ≠ row) : IsS77 w0 W1 g f0 f1 f2 := by
 obtain ⟨A0, c0, hb, hg, hr0⟩ := h
 exact ⟨A0, c0, blk_grown hb hw hne, hg, hr0⟩
theorem IsS77.kept {w0 W : ZJ} {g : Nat} {f0 : List Int} {f1 : Int} {f2 : Int} {W1 : ZJ} {S : Nat → Prop} (h : IsS77 w0 W g f0 f1 f2) (hk : Kept W W1 S) (hne : ¬ S g) : IsS77 w0 W1 g f0 f1 f2 := by
 obtain ⟨A0, c0, hb, hg, hr0⟩ := h
 exact ⟨A0, c0, blk_kept hb hk hne, hg, hr0⟩
theorem IsS77.below {w0 W : ZJ} {g : Nat} {f0 : List Int} {f1 : Int} {f2 : Int} {W1 : ZJ} (h : IsS77 w0 W g f0 f1 f2) (hw : ZO W.heap.size W W1) : IsS77 w0 W1 g f0 f1 f2 := h.grown (grown_of_below hw none) (by simp)
theorem IsS77.alloc {w0 W : ZJ} {g : Nat} {f0 : List Int} {f1 : Int} {f2 : Int} (h : IsS77 w0 W g f0 f1 f2) (o : Obj) : IsS77 w0 (W.alloc o) g f0 f1 f2 := h.below (below_alloc (ZN _ _) o)
theorem IsS77.drewN {w0 W : ZJ} {g : Nat} {f0 : List Int} {f1 : Int} {f2 : Int} (h : IsS77 w0 W g f0 f1 f2) (m : Nat) : IsS77 w0 (W.drewN m) g f0 f1 f2 := h
theorem IsS77.drew {w0 W : ZJ} {g : Nat} {f0 : List Int} {f1 : Int} {f2 : Int} (h : IsS77 w0 W g f0 f1 f2) : IsS77 w0 W.drew g f0 f1 f2 := h
theorem IsS77.at_ {w0 W : ZJ} {g : Nat} {f0 : List Int} {f1 : Int} {f2 : Int} {w' : ZJ} {m : Nat} (hq : W.drewN m = w') (h : IsS77 w0 W g f0 f1 f2) : IsS77 w0 w' g f0 f1 f2 := by subst hq; exact IsS77.drewN h m
theorem IsS77.apart {w0 W : ZJ} {g : Nat} {f0 : List Int} {f1 : Int} {f2 : Int} {α : Type} {d : Kd α} {e : Nat} {base : Nat} {ok : Nat → Prop} {v : ZW} {xs : List α} (h : IsS77 w0 W g f0 f1 f2) (ho : d.R e W base ok v xs) (ht : ∀ q, q ∈ e :: d.E → q ≠ 77) : d.R e W base (fun k => ok k ∧ k ≠ g) v xs := by
 obtain ⟨A0, c0, hb, hg, hr0⟩ := h
 exact Zp ho hb ht
theorem IsS77.own_ne {w0 W : ZJ} {g : Nat} {f0 : List Int} {f1 : Int} {f2 : Int} {α : Type} {d : Kd α} {e : Nat} {base : Nat} {ok : Nat → Prop} {v : ZW} {xs : List α} (h : IsS77 w0 W g f0 f1 f2) (ho : d.R e W base ok v xs) (ht : e ≠ 77) : some g ≠ v.ownBlock := by
 obtain ⟨A0, c0, hb, hg, hr0⟩ := h
 exact Kd.R_ne ho hb ht
theorem IsS77.lt {w0 W : ZJ} {g : Nat} {f0 : List Int} {f1 : Int} {f2 : Int} (h : IsS77 w0 W g f0 f1 f2) : g < W.heap.size := by
 obtain ⟨A0, c0, hb, hg, hr0⟩ := h
 exact ZA hb
theorem IsS77.ge {w0 W : ZJ} {g : Nat} {f0 : List Int} {f1 : Int} {f2 : Int} (h : IsS77 w0 W g f0 f1 f2) : w0.heap.size ≤ g := by
 obtain ⟨A0, c0, hb, hg, hr0⟩ := h
 exact hg
theorem IsS77.far {w0 W : ZJ} {g : Nat} {f0 : List Int} {f1 : Int} {f2 : Int} {p : Addr} (h : IsS77 w0 W g f0 f1 f2) (hne : g ≠ p.block) (u : ZW) : IsS77 w0 (W.setCell p u) g f0 f1 f2 := by
 obtain ⟨A0, c0, hb, hg, hr0⟩ := h
 exact ⟨A0, c0, Zz hb hne u, hg, hr0⟩
theorem cellS77_0 {W : ZJ} {g : Nat} {A0 : Option Addr} {c0 : Nat} {f0 : List Int} {f1 : Int} {f2 : Int} (h : W.heap[g]? = some (.cells #[.slice A0 f0.length c0, .int .i64 f1, .int .u64 f2] 77 (0, 0))) : W.cell? ⟨g, 0, none⟩ = some (.slice A0 f0.length c0) := (Ze h 0).trans rfl
theorem cellS77_1 {W : ZJ} {g : Nat} {A0 : Option Addr} {c0 : Nat} {f0 : List Int} {f1 : Int} {f2 : Int} (h : W.heap[g]? = some (.cells #[.slice A0 f0.length c0, .int .i64 f1, .int .u64 f2] 77 (0, 0))) : W.cell? ⟨g, 1, none⟩ = some (.int .i64 f1) := (Ze h 1).trans rfl
theorem IsS77.set_1 {w0 W : ZJ} {g : Nat} {f0 : List Int} {f1 : Int} {f2 : Int} (h : IsS77 w0 W g f0 f1 f2) (x : Int) : IsS77 w0 (W.setCell ⟨g, 1, none⟩ (.int .i64 x)) g f0 x f2 := by
 obtain ⟨A0, c0, hb, hg, hr0⟩ := h
 exact ⟨A0, c0, by simpa using blk_set hb 1 (.int .i64 x), hg, hr0⟩
theorem cellS77_2 {W : ZJ} {g : Nat} {A0 : Option Addr} {c0 : Nat} {f0 : List Int} {f1 : Int} {f2 : Int} (h : W.heap[g]? = some (.cells #[.slice A0 f0.length c0, .int .i64 f1, .int .u64 f2] 77 (0, 0))) : W.cell? ⟨g, 2, none⟩ = some (.int .u64 f2) := (Ze h 2).trans rfl
theorem IsS77.set_2 {w0 W : ZJ} {g : Nat} {f0 : List Int} {f1 : Int} {f2 : Int} (h : IsS77 w0 W g f0 f1 f2) (x : Int) : IsS77 w0 (W.setCell ⟨g, 2, none⟩ (.int .u64 x)) g f0 f1 x := by
 obtain ⟨A0, c0, hb, hg, hr0⟩ := h
 exact ⟨A0, c0, by simpa using blk_set hb 2 (.int .u64 x), hg, hr0⟩
def gB.f (s0_0 : List Int) (s0_1 : Int) (s0_2 : Int) : Option (Int × Int × Int) := if s0_1 < (s0_0.length : Int) then (if 0 ≤ s0_1 then (if (Zg (s0_1 + 1)) ≤ (s0_0.length : Int) then (some (Zg (rd s0_0 s0_1), Zg (s0_1 + 1), IntKind.u64.wrap ((IntKind.u64.wrap ((IntKind.u64.wrap (s0_2 * 6364136223846793005)) + (IntKind.u64.wrap (Zg (rd s0_0 s0_1))))) + 1442695040888963407))) else (some (Zg (Go.bits .and .u64 ((IntKind.u64.wrap ((IntKind.u64.wrap ((IntKind.u64.wrap (s0_2 * 6364136223846793005)) + (IntKind.u64.wrap (Zg (rd s0_0 s0_1))))) + 1442695040888963407)) / 1099511627776) 255), Zg (s0_1 + 1), IntKind.u64.wrap ((IntKind.u64.wrap ((IntKind.u64.wrap (s0_2 * 6364136223846793005)) + (IntKind.u64.wrap (Zg (rd s0_0 s0_1))))) + 1442695040888963407)))) else (none)) else (if (Zg (s0_1 + 1)) ≤ (s0_0.length : Int) then (some (0, Zg (s0_1 + 1), IntKind.u64.wrap ((IntKind.u64.wrap (IntKind.u64.wrap (s0_2 * 6364136223846793005))) + 1442695040888963407))) else (some (Zg (Go.bits .and .u64 ((IntKind.u64.wrap ((IntKind.u64.wrap (IntKind.u64.wrap (s0_2 * 6364136223846793005))) + 1442695040888963407)) / 1099511627776) 255), Zg (s0_1 + 1), IntKind.u64.wrap ((IntKind.u64.wrap (IntKind.u64.wrap (s0_2 * 6364136223846793005))) + 1442695040888963407))))
theorem hX {p : Prop} (h : p := by repeat (first | (with_reducible first | exact ae.out | apply IsS77.alloc | apply IsS77.drewN | apply IsS77.drew | apply IsS77.set_1 | apply IsS77.set_2) | exact ae.out)) : p := h
theorem hY {p : Prop} (h : p := by repeat (first | (with_reducible first | exact HB.out | apply ba | apply bd | apply be | refine bs ?_ (IsS77.ge ae.out)) | exact HB.out)) : p := h
theorem gB.calls (g : Nat) (s0_0 : List Int) (s0_1 : Int) (s0_2 : Int) (r1 : Int) (r2 : Int) (r3 : Int) (w0 w : ZJ) (hI : IsS77 w0 w g s0_0 s0_1 s0_2) (hB : ZO w0.heap.size w0 w) (h : gB.f s0_0 s0_1 s0_2 = some (r1, r2, r3)) :
  ZX Tryz.prog 94 #[.pointer (some ⟨g, 0, none⟩)] w fun e w' => e = .returned (.int .i64 r1) ∧ IsS77 w0 w' g s0_0 r2 r3 ∧ ZO w0.heap.size w0 w' ∧ KeepBut w w' g none := by
 have ae := Za hI
 have HK := Za (KeepBut.refl w g none)
 have HL := Za hB.size
 clear hI
 have HW0 := Za hB.size
 have HB := Za hB
 clear hB
 have H := h
 unfold gB.f at H
 clear h
 by_cases c2 : s0_1 < (s0_0.length : Int)
 rotate_left
 ·rw [if_neg c2] at H
  have az : decide (s0_1 < (s0_0.length : Int)) = false := decide_eq_false c2
  clear c2
  by_cases c7 : (Zg (s0_1 + 1)) ≤ (s0_0.length : Int)
  ·rw [if_pos c7] at H
   have aA := decide_eq_true c7
   clear c7
   simp only [Zf, Zl] at H
   obtain ⟨rfl, rfl, rfl⟩ := H
   obtain ⟨ASz8_0, cSz8_0, HGz8, hgz8, HSz8_0⟩ := ae.out
   (try clear af ag ah ai aj)
   have ak := cellS77_0 HGz8
   have al := cellS77_1 HGz8
   have am0 := cellS77_2 HGz8
   have an0 := ZK HGz8 1
   have ao := ZK HGz8 2
   clear HGz8 hgz8
   go_enter Tryz.func94, Tryz.ntmps94
   go_wp2
   repeat (go_quiet (fail); try go_wp2)
   go_ret
   exact ⟨fR, hX, hY, by repeat (first | (with_reducible first | exact HK.out | apply ZG | apply ZL | apply ZF | apply ZM) | exact HK.out)⟩
  rw [if_neg c7] at H
  have aA : decide ((Zg (s0_1 + 1)) ≤ (s0_0.length : Int)) = false := decide_eq_false c7
  clear c7
  simp only [Zf, Zl] at H
  obtain ⟨rfl, rfl, rfl⟩ := H
  obtain ⟨ASz9_0, cSz9_0, HGz9, hgz9, HSz9_0⟩ := ae.out
  (try clear ak al am0 an0 ao)
  have aC := cellS77_0 HGz9
  have aD := cellS77_1 HGz9
  have aE := cellS77_2 HGz9
  have aG := ZK HGz9 1
  have aH := ZK HGz9 2
  clear HGz9 hgz9
  go_enter Tryz.func94, Tryz.ntmps94
  go_wp2
  repeat (go_quiet (fail); try go_wp2)
  go_ret
  exact ⟨fR, hX, hY, by repeat (first | (with_reducible first | exact HK.out | apply ZG | apply ZL | apply ZF | apply ZM) | exact HK.out)⟩
 rw [if_pos c2] at H
 have az := decide_eq_true c2
 clear c2
 by_cases c3 : 0 ≤ s0_1
 rotate_left
 ·rw [if_neg c3] at H
  exact absurd H (by simp)
 rw [if_pos c3] at H
 have aJ := decide_eq_true c3
 clear c3
 by_cases c4 : (Zg (s0_1 + 1)) ≤ (s0_0.length : Int)
 ·rw [if_pos c4] at H
  have aI := decide_eq_true c4
  clear c4
  simp only [Zf, Zl] at H
  obtain ⟨rfl, rfl, rfl⟩ := H
  obtain ⟨ASz5_0, cSz5_0, HGz5, hgz5, HSz5_0⟩ := ae.out
  have ap := cellS77_0 HGz5
  have aq := cellS77_1 HGz5
  have au := cellS77_2 HGz5
  have av := ZK HGz5 1
  have aw := ZK HGz5 2
  clear HGz5 hgz5
  have ab : 0 ≤ (s0_1 : Int) := oD
  have ac : s0_1 < (s0_0.length : Int) := oD
  obtain ⟨ay, ax, aa⟩ := Kd.at_int HSz5_0 s0_1 ab ac
  cases ax
  replace aa := pw_cell_below HB.out aa
  replace ab := eq_true ab
  replace ac := eq_true ac
  go_enter Tryz.func94, Tryz.ntmps94
  go_wp2
  repeat (go_quiet (fail); try go_wp2)
  go_ret
  exact ⟨fR, hX, hY, by repeat (first | (with_reducible first | exact HK.out | apply ZG | apply ZL | apply ZF | apply ZM) | exact HK.out)⟩
 rw [if_neg c4] at H
 have aI : decide ((Zg (s0_1 + 1)) ≤ (s0_0.length : Int)) = false := decide_eq_false c4
 clear c4
 simp only [Zf, Zl] at H
 obtain ⟨rfl, rfl, rfl⟩ := H
 obtain ⟨ASz6_0, cSz6_0, HGz6, hgz6, HSz6_0⟩ := ae.out
 (try clear ap aq au av aw)
 have af := cellS77_0 HGz6
 have ag := cellS77_1 HGz6
 have ah := cellS77_2 HGz6
 have ai := ZK HGz6 1
 have aj := ZK HGz6 2
 clear HGz6 hgz6
 have ab : 0 ≤ (s0_1 : Int) := oD
 have ac : s0_1 < (s0_0.length : Int) := oD
 obtain ⟨ay, ax, aa⟩ := Kd.at_int HSz6_0 s0_1 ab ac
 cases ax
 replace aa := pw_cell_below HB.out aa
 replace ab := eq_true ab
 replace ac := eq_true ac
 go_enter Tryz.func94, Tryz.ntmps94
 go_wp2
 repeat (go_quiet (fail); try go_wp2)
 go_ret
 exact ⟨fR, hX, hY, by repeat (first | (with_reducible first | exact HK.out | apply ZG | apply ZL | apply ZF | apply ZM) | exact HK.out)⟩
def fp.f (s0_0 : List Int) (s0_1 : Int) (s0_2 : Int) (a1 : Int) : Option (Int × Int × Int) := if a1 ≤ 1 then (some (0, s0_1, s0_2)) else ((gB.f s0_0 s0_1 s0_2).bind fun aa => (if a1 > 200 then ((gB.f s0_0 aa.2.1 aa.2.2).bind fun ab => (if a1 = 0 then (none) else (some (Int.tmod (Zg ((Zg (aa.1 * 256)) + ab.1)) a1, ab.2.1, ab.2.2)))) else (if a1 = 0 then (none) else (some (Int.tmod aa.1 a1, aa.2.1, aa.2.2)))))
theorem g2 {p : Prop} (h : p := by repeat (first | (with_reducible first | exact ac.out | apply IsS77.alloc | apply IsS77.drewN | apply IsS77.drew | apply IsS77.set_1 | apply IsS77.set_2) | exact ac.out)) : p := h
theorem g3 {p : Prop} (h : p := by repeat (first | (with_reducible first | exact HB.out | apply ba | apply bd | apply be | refine bs ?_ (IsS77.ge ac.out)) | exact HB.out)) : p := h
theorem g4 {p : Prop} (h : p := by repeat (first | (with_reducible first | exact HK.out | apply ZG | apply ZL | apply ZF | apply ZM) | exact HK.out)) : p := h
theorem fp.calls (g : Nat) (s0_0 : List Int) (s0_1 : Int) (s0_2 : Int) (a1 : Int) (r1 : Int) (r2 : Int) (r3 : Int) (w0 w : ZJ) (hI : IsS77 w0 w g s0_0 s0_1 s0_2) (hB : ZO w0.heap.size w0 w) (h : fp.f s0_0 s0_1 s0_2 a1 = some (r1, r2, r3)) :
  ZX Tryz.prog 72 #[.pointer (some ⟨g, 0, none⟩), .int .i64 a1] w fun e w' => e = .returned (.int .i64 r1) ∧ IsS77 w0 w' g s0_0 r2 r3 ∧ ZO w0.heap.size w0 w' ∧ KeepBut w w' g none := by
 have ac := Za hI
 have HK := Za (KeepBut.refl w g none)
 have HL := Za hB.size
 clear hI
 have HW0 := Za hB.size
 have HB := Za hB
 clear hB
 have H := h
 unfold fp.f at H
 clear h
 by_cases c3 : a1 ≤ 1
 ·rw [if_pos c3] at H
  have ag := decide_eq_true c3
  clear c3
  simp only [Zf, Zl] at H
  obtain ⟨rfl, rfl, rfl⟩ := H
  go_enter Tryz.func72, Tryz.ntmps72
  go_wp2
  go_ret
  exact ⟨fR, g2, g3, g4⟩
 rw [if_neg c3] at H
 have ag : decide (a1 ≤ 1) = false := decide_eq_false c3
 clear c3
 replace H := oB H
 obtain ⟨⟨ae, aa, ab⟩, al, H⟩ := H
 (try dsimp only at H)
 have A4 := Za al
 clear al
 by_cases c5 : a1 > 200
 rotate_left
 ·rw [if_neg c5] at H
  have ah : decide (200 < a1) = false := decide_eq_false c5
  clear c5
  by_cases af : a1 = 0
  ·rw [if_pos af] at H
   exact absurd H (by simp)
  rw [if_neg af] at H
  have am0 : (a1 == 0) = false := beq_eq_false_iff_ne.mpr af
  have an0 : (a1 != 0) = true := bne_iff_ne.mpr af
  simp only [Zf, Zl] at H
  obtain ⟨rfl, rfl, rfl⟩ := H
  go_enter Tryz.func72, Tryz.ntmps72
  go_wp2_with (first | ((with_reducible refine Zn (f := 94) rfl ?_); refine gL 9 Tryz.func94 #[.pointer (some ⟨g, 0, none⟩)] ?_; (with_reducible refine (gB.calls g s0_0 s0_1 s0_2 ae aa ab w0 _ ?side1 ?side2 A4.out).mono ?_); (case side1 => exact g2); (case side2 => exact g3); rintro e au ⟨rfl, hi, hb, hk⟩; refine ⟨_, rfl, ?_⟩; replace HK := Za (Zb (g4) hk (.inl rfl)); replace HB := Za (hb); replace ac := Za (hi); (try clear hb)))
  go_ret
  exact ⟨fR, g2, g3, g4⟩
 rw [if_pos c5] at H
 have ah : decide (200 < a1) = true := decide_eq_true c5
 clear c5
 replace H := oB H
 obtain ⟨⟨ai, aj, ak⟩, ao, H⟩ := H
 (try dsimp only at H)
 have A6 := Za ao
 clear ao
 by_cases c7 : a1 = 0
 ·rw [if_pos c7] at H
  exact absurd H (by simp)
 rw [if_neg c7] at H
 have ap : (a1 == 0) = false := beq_eq_false_iff_ne.mpr c7
 have aq : (a1 != 0) = true := bne_iff_ne.mpr c7
 simp only [Zf, Zl] at H
 obtain ⟨rfl, rfl, rfl⟩ := H
 go_enter Tryz.func72, Tryz.ntmps72
 go_wp2_with (first | ((with_reducible refine Zn (f := 94) rfl ?_); refine gL 9 Tryz.func94 #[.pointer (some ⟨g, 0, none⟩)] ?_; (with_reducible refine (gB.calls g s0_0 s0_1 s0_2 ae aa ab w0 _ ?side1 ?side2 A4.out).mono ?_); (case side1 => exact g2); (case side2 => exact g3); rintro e w8 ⟨rfl, hi, hb, hk⟩; refine ⟨_, rfl, ?_⟩; replace HK := Za (Zb (g4) hk (.inl rfl)); replace HB := Za (hb); replace ac := Za (hi); (try clear hb)) | ((with_reducible refine Zn (f := 94) rfl ?_); refine gL 15 Tryz.func94 #[.pointer (some ⟨g, 0, none⟩)] ?_; (with_reducible refine (gB.calls g s0_0 aa ab ai aj ak w0 _ ?side1 ?side2 A6.out).mono ?_); (case side1 => exact g2); (case side2 => exact g3); rintro e w9 ⟨rfl, hi, hb, hk⟩; refine ⟨_, rfl, ?_⟩; replace HK := Za (Zb (g4) hk (.inl rfl)); replace HB := Za (hb); replace ac := Za (hi); (try clear hb)))
 go_ret
 exact ⟨fR, g2, g3, g4⟩
def gq.f (s0_0 : List Int) (s0_1 : Int) (s0_2 : Int) (l1 : List Int) : Option (Int × Int × Int) := (fp.f s0_0 s0_1 s0_2 (l1.length : Int)).bind fun aa => (if 0 ≤ aa.1 then (if aa.1 < (l1.length : Int) then (some (rd l1 aa.1, aa.2.1, aa.2.2)) else (none)) else (none))
theorem gq.calls (g : Nat) (s0_0 : List Int) (s0_1 : Int) (s0_2 : Int) (A1 : Option Addr) (c1 : Nat) (l1 : List Int) (r1 : Int) (r2 : Int) (r3 : Int) (w0 w : ZJ) (hI : IsS77 w0 w g s0_0 s0_1 s0_2) (hB : ZO w0.heap.size w0 w) (hr1 : Kd.C (Zs .i64) w A1 l1.length l1) (hc1 : l1.length ≤ c1) (ah : ∀ ad, A1 = some ad → 0 < l1.length → ad.block ≠ g) (h : gq.f s0_0 s0_1 s0_2 l1 = some (r1, r2, r3)) :
  ZX Tryz.prog 71 #[.pointer (some ⟨g, 0, none⟩), .slice A1 l1.length c1] w fun e w' => e = .returned (.int .i64 r1) ∧ IsS77 w0 w' g s0_0 r2 r3 ∧ ZO w0.heap.size w0 w' ∧ KeepBut w w' g none := by
 have am0 := Za hr1
 have ap := Za hc1
 clear hr1 hc1
 have ac := Za hI
 have HK := Za (KeepBut.refl w g none)
 have HL := Za hB.size
 clear hI
 have HW0 := Za hB.size
 have HB := Za hB
 clear hB
 have H := h
 unfold gq.f at H
 clear h
 replace H := oB H
 obtain ⟨⟨ab, ai, aj⟩, al, H⟩ := H
 (try dsimp only at H)
 have A3 := Za al
 clear al
 by_cases c4 : 0 ≤ ab
 rotate_left
 ·rw [if_neg c4] at H
  exact absurd H (by simp)
 rw [if_pos c4] at H
 have an0 := decide_eq_true c4
 clear c4
 by_cases c5 : ab < (l1.length : Int)
 rotate_left
 ·rw [if_neg c5] at H
  exact absurd H (by simp)
 rw [if_pos c5] at H
 have ao := decide_eq_true c5
 clear c5
 simp only [Zf, Zl] at H
 obtain ⟨rfl, rfl, rfl⟩ := H
 go_enter Tryz.func71, Tryz.ntmps71
 go_wp2_with (first | ((with_reducible refine Zn (f := 72) rfl ?_); refine gL 9 Tryz.func72 #[.pointer (some ⟨g, 0, none⟩), .int .i64 (l1.length : Int)] ?_; (with_reducible refine (fp.calls g s0_0 s0_1 s0_2 (l1.length : Int) ab ai aj w0 _ ?side1 ?side2 A3.out).mono ?_); (case side1 => repeat (first | (with_reducible first | exact ac.out | apply IsS77.alloc | apply IsS77.drewN | apply IsS77.drew | apply IsS77.set_1 | apply IsS77.set_2) | exact ac.out)); (case side2 => repeat (first | (with_reducible first | exact HB.out | apply ba | apply bd | apply be | refine bs ?_ (IsS77.ge ac.out)) | exact HB.out)); rintro e w6 ⟨rfl, hi, hb, hk⟩; refine ⟨_, rfl, ?_⟩; replace HK := Za (Zb (by repeat (first | (with_reducible first | exact HK.out | apply ZG | apply ZL | apply ZF | apply ZM) | exact HK.out)) hk (.inl rfl)); replace HB := Za (hb); replace ac := Za (hi); (try clear hb); have ae : 0 ≤ (ab : Int) := oD; have af : ab < (l1.length : Int) := oD; obtain ⟨ag, ak, aa⟩ := Kd.at_int am0.out ab ae af; cases ak; replace aa := keep_cell HK.out aa (by first | (rw [add_block]; exact ah _ rfl (by omega)) | exact ah _ rfl (by omega) | exact ah ag rfl (by omega)); replace ae := eq_true ae; replace af := eq_true af))
 go_ret
 exact ⟨fR, by repeat (first | (with_reducible first | exact ac.out | apply IsS77.alloc | apply IsS77.drewN | apply IsS77.drew | apply IsS77.set_1 | apply IsS77.set_2) | exact ac.out), by repeat (first | (with_reducible first | exact HB.out | apply ba | apply bd | apply be | refine bs ?_ (IsS77.ge ac.out)) | exact HB.out), by repeat (first | (with_reducible first | exact HK.out | apply ZG | apply ZL | apply ZF | apply ZM) | exact HK.out)⟩
def gx.f (s0_0 : List Int) (s0_1 : Int) (s0_2 : Int) (a1 : Int) : Option (Bool × Int × Int) := (fp.f s0_0 s0_1 s0_2 a1).bind fun aa => (some ((aa.1 == 0), aa.2.1, aa.2.2))
theorem gx.calls (g : Nat) (s0_0 : List Int) (s0_1 : Int) (s0_2 : Int) (a1 : Int) (r1 : Bool) (r2 : Int) (r3 : Int) (w0 w : ZJ) (hI : IsS77 w0 w g s0_0 s0_1 s0_2) (hB : ZO w0.heap.size w0 w) (h : gx.f s0_0 s0_1 s0_2 a1 = some (r1, r2, r3)) :
  ZX Tryz.prog 73 #[.pointer (some ⟨g, 0, none⟩), .int .i64 a1] w fun e w' => e = .returned (.bool r1) ∧ IsS77 w0 w' g s0_0 r2 r3 ∧ ZO w0.heap.size w0 w' ∧ KeepBut w w' g none := by
 have aa := Za hI
 have HK := Za (KeepBut.refl w g none)
 have HL := Za hB.size
 clear hI
 have HW0 := Za hB.size
 have HB := Za hB
 clear hB
 have H := h
 unfold gx.f at H
 clear h
 replace H := oB H
 obtain ⟨⟨ab, ac, ae⟩, af, H⟩ := H
 (try dsimp only at H)
 have A3 := Za af
 clear af
 simp only [Zf, Zl] at H
 obtain ⟨rfl, rfl, rfl⟩ := H
 go_enter Tryz.func73, Tryz.ntmps73
 go_wp2_with (first | ((with_reducible refine Zn (f := 72) rfl ?_); refine gL 7 Tryz.func72 #[.pointer (some ⟨g, 0, none⟩), .int .i64 a1] ?_; (with_reducible refine (fp.calls g s0_0 s0_1 s0_2 a1 ab ac ae w0 _ ?side1 ?side2 A3.out).mono ?_); (case side1 => repeat (first | (with_reducible first | exact aa.out | apply IsS77.alloc | apply IsS77.drewN | apply IsS77.drew | apply IsS77.set_1 | apply IsS77.set_2) | exact aa.out)); (case side2 => repeat (first | (with_reducible first | exact HB.out | apply ba | apply bd | apply be | refine bs ?_ (IsS77.ge aa.out)) | exact HB.out)); rintro e w4 ⟨rfl, hi, hb, hk⟩; refine ⟨_, rfl, ?_⟩; replace HK := Za (Zb (by repeat (first | (with_reducible first | exact HK.out | apply ZG | apply ZL | apply ZF | apply ZM) | exact HK.out)) hk (.inl rfl)); replace HB := Za (hb); replace aa := Za (hi); (try clear hb)))
 go_ret
 exact ⟨fR, by repeat (first | (with_reducible first | exact aa.out | apply IsS77.alloc | apply IsS77.drewN | apply IsS77.drew | apply IsS77.set_1 | apply IsS77.set_2) | exact aa.out), by repeat (first | (with_reducible first | exact HB.out | apply ba | apply bd | apply be | refine bs ?_ (IsS77.ge aa.out)) | exact HB.out), by repeat (first | (with_reducible first | exact HK.out | apply ZG | apply ZL | apply ZF | apply ZM) | exact HK.out)⟩
mutual
def fm.l0 : Nat → Int → List Int → Int → Int → Int → List Int → Option (Int × List Int × Int × Int)
 | 0, _, _, _, _, _, _ => none
 | k + 1, x6, ac, ae, af, ab, aa => if x6 > 0 then ((fp.f ac ae af 7).bind fun ah => (if aa.length < 17592186044416 then (fm.l0 k (Zg (x6 - 1)) ac ah.2.1 ah.2.2 ab (aa ++ [ah.1])) else (none))) else ((fq.f k aa).bind fun ak => (if ak = 0 then (if 0 < (aa.length : Int) then (fm.j1 k ac ae af ab (aa.set (0 : Int).toNat 1)) else (none)) else (fm.j1 k ac ae af ab aa)))
def fm.j1 : Nat → List Int → Int → Int → Int → List Int → Option (Int × List Int × Int × Int)
 | 0, _, _, _, _, _ => none
 | k + 1, ac, ae, af, ab, aa => (fq.f k aa).bind fun aj => ((gx.f ac ae af 2).bind fun ag => (if ag.1 = true then ((fp.f ac ag.2.1 ag.2.2 aj).bind fun ai => (some (Zg (1 + ai.1), aa, ai.2.1, ai.2.2))) else (some (Zg ((Zg (ZS aj 2)) + 1), aa, ag.2.1, ag.2.2))))
end
def fm.f (k : Nat) (s0_0 : List Int) (s0_1 : Int) (s0_2 : Int) (a1 : Int) : Option (Int × List Int × Int × Int) := (fp.f s0_0 s0_1 s0_2 a1).bind fun aa => (fm.l0 k (Zg (1 + aa.1)) s0_0 aa.2.1 aa.2.2 0 ([] : List Int))
def fm.T5 : Bool × List (List Nat × List Nat) := (true, [([], []), ([0], [0]), ([], []), ([2], [2]), ([3], [3]), ([1, 4, 3], [1, 4]), ([0, 1, 2, 3, 4, 5], []), ([6, 5, 5, 0, 1, 2, 3, 4, 5], [5, 6])])
def fm.B5 : List Nat := [0, 1, 0, 4, 12, 31, 63, 127]
theorem fm.tab5 : rtab .any (opsOf Tryz.f93 5) = fm.T5 := by kernel_rfl
theorem fm.bits5 : waitsOk fm.T5.2 fm.B5 = true := by kernel_rfl
theorem go {p : Prop} (h : p := by repeat (first | (with_reducible first | exact HK.out | apply ZG | apply ZL | apply ZF | apply ZM | refine keep_far ?_ bH.out _ | refine keep_far ?_ bI.out _) | exact HK.out)) : p := h
theorem f3 {p : Prop} (h : p := by repeat (first | (with_reducible first | exact ap.out | apply IsS77.alloc | apply IsS77.drewN | apply IsS77.drew | apply IsS77.set_1 | apply IsS77.set_2 | refine IsS77.far ?_ au.out _ | refine IsS77.far ?_ ao.out _) | exact ap.out)) : p := h
theorem gA {p : Prop} (h : p := by repeat (first | (with_reducible first | exact HB.out | apply ba | apply bd | apply be | refine bs ?_ (IsS77.ge ap.out) | refine bs ?_ bJ.out | refine bs ?_ bK.out) | exact HB.out)) : p := h
theorem fm.calls (k : Nat) (g : Nat) (s0_0 : List Int) (s0_1 : Int) (s0_2 : Int) (a1 : Int) (r1 : Int) (r2 : List Int) (r3 : Int) (r4 : Int) (w0 w : ZJ) (hI : IsS77 w0 w g s0_0 s0_1 s0_2) (hB : ZO w0.heap.size w0 w) (h : fm.f k s0_0 s0_1 s0_2 a1 = some (r1, r2, r3, r4)) :
  ZX Tryz.prog 93 #[.pointer (some ⟨g, 0, none⟩), .int .i64 a1] w fun e w' => ∃ v1_ : ZW, e = .returned (.agg #[.int .i64 r1, v1_]) ∧ Kd.R (Zs .i64) 3 w' w.heap.size (fun _ => True) v1_ r2 ∧ IsS77 w0 w' g s0_0 r3 r4 ∧ ZO w0.heap.size w0 w' ∧ KeepBut w w' g none := by
 have hu24 := Tryz.underlying24
 have ap := Za hI
 have HK := Za (KeepBut.refl w g none)
 have HL := Za hB.size
 clear hI
 have HW0 := Za hB.size
 have HB := Za hB
 clear hB
 have H := h
 unfold fm.f at H
 clear h
 replace H := oB H
 obtain ⟨⟨bL, bM, bN⟩, cz, H⟩ := H
 (try dsimp only at H)
 have A3 := Za cz
 clear cz
 have H' := Za H
 clear H
 go_enter Tryz.func93, Tryz.ntmps93
 go_wp2_with (first | ((with_reducible refine ZE (N := 4) rfl ?_); refine xE (N := 4) (cs := #[.int .i64 0, .slice none 0 0]) (t := 24) ?_; intro ah hg w4 ae hb; have bH := Za ((by rw [hg]; exact (Zq (w := w) (g := g) (row := none) (go)) : w.heap.size ≤ ah)); have bJ := Za ((ZB HW0.out (by rw [hg]; exact (Zq (w := w) (g := g) (row := none) (go)) : w.heap.size ≤ ah) : w0.heap.size ≤ ah)); have au := Za ((by rw [hg]; exact Zj (IsS77.lt (show IsS77 w0 _ g s0_0 s0_1 s0_2 from f3)) : g ≠ ah)); have an0 := Za ((by rw [hg]; exact Zk (IsS77.lt (show IsS77 w0 _ g s0_0 s0_1 s0_2 from f3)) : ah ≠ g)); replace HK := Za (Zb (go) (Zu hb g none) (.inl rfl)); replace HB := Za (Zv (gA) hb); replace ap := Za (IsS77.below (f3) hb); clear hb hg) | ((with_reducible refine ZE (N := 5) rfl ?_); refine xE (N := 5) (cs := #[.int .i64 0, .slice none 0 0]) (t := 24) ?_; intro ai hg w5 ac hb; have bI := Za ((by rw [hg]; exact (Zq (w := w) (g := g) (row := none) (go)) : w.heap.size ≤ ai)); have bK := Za ((ZB HW0.out (by rw [hg]; exact (Zq (w := w) (g := g) (row := none) (go)) : w.heap.size ≤ ai) : w0.heap.size ≤ ai)); have ag := nL hg (ZA ae.out); have am0 := nG hg (ZA ae.out); have ao := Za ((by rw [hg]; exact Zj (IsS77.lt (show IsS77 w0 _ g s0_0 s0_1 s0_2 from f3)) : g ≠ ai)); have al := Za ((by rw [hg]; exact Zk (IsS77.lt (show IsS77 w0 _ g s0_0 s0_1 s0_2 from f3)) : ai ≠ g)); replace ae := bB ae hb; replace HK := Za (Zb (go) (Zu hb g none) (.inl rfl)); replace HB := Za (Zv (gA) hb); replace ap := Za (IsS77.below (f3) hb); clear hb hg; have cT := am0.out; have cU := ag.out; have cV := al.out; have cW := ao.out; obtain ⟨aG, aH, aI, aJ⟩ := zZ ac) | ((with_reducible refine Zn (f := 72) rfl ?_); refine gL 11 Tryz.func72 #[.pointer (some ⟨g, 0, none⟩), .int .i64 a1] ?_; (with_reducible refine (fp.calls g s0_0 s0_1 s0_2 a1 bL bM bN w0 _ ?side1 ?side2 A3.out).mono ?_); (case side1 => exact f3); (case side2 => exact gA); rintro e w9 ⟨rfl, hi, hb, hk⟩; refine ⟨_, rfl, ?_⟩; replace ae := Za (Zc hk (g' := ah) (o := .cells #[.int .i64 0, .slice none 0 0] 24 (0, 0)) (by refine Zz ?_ ag.out _; refine Zz ?_ ag.out _; exact ae.out) an0.out (by simp)); replace ac := Za (Zc hk (g' := ai) (o := .cells #[.int .i64 0, .slice none 0 0] 24 (0, 0)) (by refine Zo (cs := #[.int .i64 0, .slice none 0 0]) ?_ 1 _ rfl; refine Zo (cs := #[.int .i64 0, .slice none 0 0]) ?_ 0 _ rfl; exact ac.out) al.out (by simp)); replace HK := Za (Zb (go) hk (.inl rfl)); replace HB := Za (hb); replace ap := Za (hi); (try clear hb)))
 go_loopg [6] k (fun kq v6 w' => ∃ (aw : Int) (aj : Int) (ak : Int) (ab : List Int) (u103001 : ZW), v6 = .int .i64 aw ∧ Zm (fm.l0 kq aw s0_0 aj ak 0 ab = some (r1, r2, r3, r4)) ∧ Zm (kq ≤ k) ∧ Zm (Kd.R (Zs .i64) 3 w' w.heap.size (fun _ => True) u103001 ab) ∧ Zm (w'.heap[ah]? = some (.cells #[.int .i64 0, (.slice none 0 0)] 24 (0, 0))) ∧ Zm (w'.heap[ai]? = some (.cells #[.int .i64 0, u103001] 24 (0, 0))) ∧ Zm (IsS77 w0 w' g s0_0 aj ak) ∧ Zm (KeepBut w w' g none) ∧ Zm (ZO w0.heap.size w0 w'))
 case atStart => exact ⟨(Zg (1 + bL)), (bM), (bN), (([] : List Int)), (.slice none 0 0), gR, H', ⟨ZQ _⟩, ⟨by first | exact Kd.R_nil _ _ _ _ _ | exact Kd.N_nil _ _ _ _ _ | exact Kd.V_nil _ _ _ _ _ | exact Kd.Q_nil _ _ _ _ _ | exact Kd.S_nil _ _ _ _ _⟩, ⟨by exact ae.out⟩, ⟨by exact ac.out⟩, ⟨f3⟩, ⟨go⟩, ⟨gA⟩⟩
 case round =>
  clear H'
  (try clear p2); (try clear c6); (try clear p6); (try clear c7); (try clear c9); (try clear aG); (try clear aH); (try clear aI); (try clear aJ)
  obtain ⟨aw, aj, ak, ab, u103001, rfl, HA, HK1, aa, ae, ac, ap, HK, HB⟩ := hrel
  cases gk with
  | zero => exact absurd HA.out (by simp [fm.l0])
  | succ k1 =>
   have H := HA.out
   clear HA
   simp only [fm.l0] at H
   by_cases bw : aw > 0
   ·rw [if_pos bw] at H
    have br : decide (0 < aw) = true := decide_eq_true bw
    clear bw
    replace H := oB H
    obtain ⟨⟨aQ, bx, bz⟩, bO, H⟩ := H
    (try dsimp only at H)
    have cX := Za bO
    clear bO
    by_cases bR : ab.length < 17592186044416
    rotate_left
    ·rw [if_neg bR] at H
     exact absurd H (by simp)
    rw [if_pos bR] at H
    have bS := Za bR
    clear bR
    obtain ⟨aT, ax⟩ : ∃ y_ : List Int, y_ = (ab ++ [aQ]) := ⟨_, rfl⟩
    replace H : (fm.l0 k1 (Zg (aw - 1)) s0_0 bx bz 0 aT) = some (r1, r2, r3, r4) := by first | (rw [ax]; with_reducible exact H) | (have H2_ := (Zr _ _).symm.trans H; rw [ax]; with_reducible exact H2_) | (have H2_ := (Zr _ _).symm.trans H; with_reducible exact H2_) | with_reducible exact H | (rw [ax]; exact H) | exact H
    have bT := Za ax
    clear ax
    have H' := Za H
    clear H
    try go_wp2
    replace aa := rD aa
    replace ae := bD ae
    replace ac := bD ac
    replace ap := Za (IsS77.drew ap.out)
    replace HK := Za (ZF HK.out)
    replace HB := Za (below_drew1 HB.out)
    refine start_ (n := 8) (S := fun w' => w'.cell? ⟨ai, 0, none⟩ = some (.int .i64 0) ∧ w'.cell? ⟨ai, 1, none⟩ = some (u103001)) (ds := [7]) #[F,F,F,F,F,F,F,F] (by kernel_rfl) rfl rfl ⟨(Ze ac.out 0).trans rfl, (Ze ac.out 1).trans rfl⟩ (fun hHeld => ?_); refine with_tabW fm.tab5 fm.bits5 (fun HT_ HW_ => ?_)
    generalize wr.drew = dn at aa ae ac ap HK HB hHeld ⊢
    refine pU 0 HT_ ?_
    refine pU 2 HT_ ?_
    refine tK 1 HT_ HW_ hHeld (hy := by rintro w' ⟨s0, s1⟩; go_simp; with_reducible rfl) ?_
    refine oN 3 HT_ (fun K hK => ?_)
    refine gE Tryz.func72 #[.pointer (some ⟨g, 0, none⟩), .int .i64 7] ?_
    with_reducible refine (fp.calls g s0_0 aj ak 7 aQ bx bz w0 _ ?side1 ?side2 cX.out).mono ?_
    (case side1 => exact f3)
    (case side2 => exact gA)
    rintro e dp ⟨rfl, hi, hb, hk⟩
    refine ⟨_, rfl, ?_⟩
    replace aa := Za (Zd (Zy (IsS77.apart (show IsS77 w0 _ g s0_0 aj ak from f3) aa.out (by decide)) hk (fun _ h => h.2)) (fun _ h => h.1))
    replace ae := Za (Zc hk (g' := ah) (o := .cells #[.int .i64 0, .slice none 0 0] 24 (0, 0)) ae.out an0.out (by simp))
    replace ac := Za (Zc hk (g' := ai) (o := .cells #[.int .i64 0, u103001] 24 (0, 0)) ac.out al.out (by simp))
    replace HK := Za (Zb (go) hk (.inl rfl))
    replace HB := Za (hb)
    replace ap := Za (hi)
    (try clear hb)
    (try clear hb2)
    (try clear hk)
    (try clear hi)
    refine hK.out _ _ ⟨(Ze ac.out 0).trans rfl, (Ze ac.out 1).trans rfl⟩ (fun hHeld => ?_)
    clear hK K
    refine nM ?_
    refine oN 4 HT_ (fun K hK => ?_)
    refine value_ (w1 := ?_) (v := ?_) (by rfl) rfl ?_ ?_
    rotate_left 2
    ·go_simp
     constructor
     ·rfl
     rfl
    refine hK.out _ _ ⟨(Ze (blk_alloc ac.out _) 0).trans rfl, (Ze (blk_alloc ac.out _) 1).trans rfl⟩ (fun hHeld => ?_)
    clear hK K
    refine nM ?_
    refine oN 5 HT_ (fun K hK => ?_)
    refine Kd.R_append_step (Zs .i64) w.heap.size (by rfl) (.tmp 18) (.tmp 21) 22 3 (.int .i64 0) 8 rfl Tryz.underlying22 info3 rfl (by decide) (by omega) u103001 ab aQ [.int .i64 aQ] (fun _ => True) (fun _ => False) rfl rfl ?aP (fun _ hk => hk.elim) ?aF ?aO (ZN _ _) ?aS ?aL ?_
    (case aP => exact rfl)
    (case aF => exact (fun _ _ => trivial))
    (case aO => exact aa.out)
    (case aS => exact (Zq (w := w) (g := g) (row := none) (go)))
    (case aL => have := bS.out; omega)
    intro cY db ho hb hg hat
    rw [← bT.out] at ho
    have bt := Za (ho)
    replace ae := Za (blk_grown (g := ah) (o := .cells #[.int .i64 0, .slice none 0 0] 24 (0, 0)) ae.out hg (Kd.R_ne aa.out ae.out (by decide)))
    replace ac := Za (blk_grown (g := ai) (o := .cells #[.int .i64 0, u103001] 24 (0, 0)) ac.out hg (Kd.R_ne aa.out ac.out (by decide)))
    replace HB := Za (below_weaken (gA) HL.out hb)
    replace ap := Za (IsS77.grown (f3) hg (IsS77.own_ne ap.out aa.out (by decide)))
    replace HK := Za (Zb (go) (KeepBut.of_grown hg g) (Kd.R_base2 aa.out))
    clear ho hb hg hat
    obtain ⟨bU, bV, bW⟩ := Zx bt.out
    (first | subst bW | (injection bW with f1_ f2_ f3_; have f4_ := f1_.symm; have f5_ := f3_.symm; clear f1_ f2_ f3_; subst f4_; subst f5_))
    refine hK.out _ _ ⟨(Ze ac.out 0).trans rfl, (Ze ac.out 1).trans rfl⟩ (fun hHeld => ?_)
    clear hK K
    refine nM ?_
    refine pU 6 HT_ ?_
    refine last_ (i := 7) (N := none) #[T,T,T,T,T,T,T,T] rfl rfl (one_of HT_.out (by kernel_rfl)) (by decide) (fun K hK => ?_)
    have hs17 : db.cell? ⟨ai, 1, none⟩ = some (u103001) := (Ze ac.out 1).trans rfl
    have cA := ZK ac.out 1
    have ce := ag.out
    have cg := am0.out
    refine skip_ (w1 := ?_) (by rfl) rfl ?_ ?_
    rotate_left
    ·go_simp
     rfl
    refine hK.out _ _ ?_
    clear hK K
    refine done_ (done_of HT_.out (by kernel_rfl)) ?_
    try go_wp2
    go_roundg k1
    case measure => have := HK1.out; omega
    case rel => exact ⟨(Zg (aw - 1)), (bx), (bz), (aT), (.slice bU aT.length bV), gR, H', ⟨by have := HK1.out; omega⟩, ⟨by exact Zd (Zh (p := ⟨ai, 1, none⟩) (Zp bt.out ac.out (by decide)) (fun _ hk => hk.2) (.slice bU aT.length bV)) (fun _ hk => trivial)⟩, ⟨by refine Zz ?_ ag.out _; exact ae.out⟩, ⟨by refine Zo (cs := #[.int .i64 0, u103001]) ?_ 1 _ rfl; exact ac.out⟩, ⟨f3⟩, ⟨go⟩, ⟨gA⟩⟩
   rw [if_neg bw] at H
   have br : decide (0 < aw) = false := decide_eq_false bw
   clear bw
   replace H := oA H
   obtain ⟨aE, dc, H⟩ := H
   (try dsimp only at H)
   have bA := Za H
   clear H
   have cB := am0.out
   have cD := ag.out
   have cE := al.out
   have cF := ao.out
   obtain ⟨aU, aV, aW, aX⟩ := zZ ac
   obtain ⟨aY, aC, cr⟩ := Zx aa.out
   subst cr
   go_upto_if 27 with (first | ((with_reducible refine Zn (f := 54) rfl ?_); refine gL 26 Tryz.func54 #[.slice aY ab.length aC] ?_; (with_reducible refine (fq.calls k1 _ _ ab aE _ ?side1 ?side2 dc.out).mono ?_); (case side1 => have hx_ := (Zt aa.out).2.2; exact cC); (case side2 => exact (Zt aa.out).2.1); rintro e w' ⟨rfl, ⟨nd, rfl⟩⟩; refine ⟨_, rfl, ?_⟩; (try (rw [drewN_self wr]; generalize hq_ : World.drewN wr _ = wr; have n0_ : Zm (Kd.R (Zs .i64) 3 wr w.heap.size (fun _ => True) (.slice aY ab.length aC) ab) := ⟨by rw [← hq_]; exact aa.out⟩; have n1_ : Zm (wr.heap[ah]? = some (.cells #[.int .i64 0, .slice none 0 0] 24 (0, 0))) := ⟨by rw [← hq_]; exact ae.out⟩; have n2_ : Zm (wr.heap[ai]? = some (.cells #[.int .i64 0, .slice aY ab.length aC] 24 (0, 0))) := ⟨by rw [← hq_]; exact ac.out⟩; have n3_ : Zm (IsS77 w0 wr g s0_0 aj ak) := ⟨by rw [← hq_]; exact (f3)⟩; have n4_ : Zm (KeepBut w wr g none) := ⟨by rw [← hq_]; exact (go)⟩; have n5_ : Zm (ZO w0.heap.size w0 wr) := ⟨by rw [← hq_]; exact (gA)⟩; clear aa ae ac ap HK HB hq_; have aa := n0_; have ae := n1_; have ac := n2_; have ap := n3_; have HK := n4_; have HB := n5_; clear n0_ n1_ n2_ n3_ n4_ n5_))))
   (try simp only [ZH, sA, sZ, sS])
   go_cut [] (fun wc => ∃ (kq : Nat) (af : List Int) (u103001 : ZW), Zm (fm.j1 kq s0_0 aj ak 0 af = some (r1, r2, r3, r4)) ∧ Zm (kq ≤ k1) ∧ Zm (Kd.R (Zs .i64) 3 wc w.heap.size (fun _ => True) u103001 af) ∧ Zm (wc.heap[ah]? = some (.cells #[.int .i64 0, (.slice none 0 0)] 24 (0, 0))) ∧ Zm (wc.heap[ai]? = some (.cells #[.int .i64 0, u103001] 24 (0, 0))) ∧ Zm (IsS77 w0 wc g s0_0 aj ak) ∧ Zm (KeepBut w wc g none) ∧ Zm (ZO w0.heap.size w0 wc))
   case first =>
    have H := bA.out
    clear bA
    by_cases bu : aE = 0
    rotate_left
    ·rw [if_neg bu] at H
     have aq : (aE == 0) = false := beq_eq_false_iff_ne.mpr bu
     have bv : (aE != 0) = true := bne_iff_ne.mpr bu
     (first | rw [aq] | (simp only [i64_w, i32_w]; rw [aq]) | skip)
     have H' := Za H
     clear H
     go_wp2
     go_meet
     case rel => exact ⟨_, (ab), (.slice aY ab.length aC), H', ⟨oN'⟩, ⟨by exact aa.out⟩, ⟨by exact ae.out⟩, ⟨by exact ac.out⟩, ⟨f3⟩, ⟨go⟩, ⟨gA⟩⟩
    rw [if_pos bu] at H
    have aq : (aE == 0) = true := beq_iff_eq.mpr bu
    have bv : (aE != 0) = false := bne_eq_false_iff_eq.mpr bu
    clear bu
    (first | rw [aq] | (simp only [i64_w, i32_w]; rw [aq]) | skip)
    by_cases bX : 0 < (ab.length : Int)
    rotate_left
    ·rw [if_neg bX] at H
     exact absurd H (by simp)
    rw [if_pos bX] at H
    have bY := decide_eq_true bX
    have bZ : decide (0 < ab.length) = true := decide_eq_true (by omega)
    clear bX
    obtain ⟨bC, ay⟩ : ∃ y_ : List Int, y_ = (ab.set (0 : Int).toNat 1) := ⟨_, rfl⟩
    replace H : (fm.j1 k1 s0_0 aj ak 0 bC) = some (r1, r2, r3, r4) := by first | (rw [ay]; with_reducible exact H) | (have H2_ := (Zr _ _).symm.trans H; rw [ay]; with_reducible exact H2_) | (have H2_ := (Zr _ _).symm.trans H; with_reducible exact H2_) | with_reducible exact H | (rw [ay]; exact H) | exact H
    have b5 := Za ay
    clear ay
    have H' := Za H
    clear H
    have cG := am0.out
    have cH := ag.out
    have cI := al.out
    have cJ := ao.out
    obtain ⟨aZ, a6, a7, a8⟩ := zZ ac
    have b6 : 0 ≤ (0 : Int) := (by omega)
    have b7 : (0 : Int) < ((ab.length : Int) : Int) := oD
    have qi26 : (0 < ab.length) = True := eq_true (by omega)
    obtain ⟨aK, de, b8, b9, gl26, cl26, HG26⟩ := Kd.R_form aa.out (by omega)
    (first | cases b8 | (injection b8 with ea_ en_ ec_; (first | subst ea_ | (injection ea_ with ea_; subst ea_)); subst ec_; clear en_))
    have GB26 := Za b9
    have GG26 := Za HG26
    clear b9 gl26 HG26
    obtain ⟨aD, aM⟩ := Kd.R_celln 0 aa.out (0 : Int) b6 b7
    (try rw [show ((0 : Int)).toNat = 0 from rfl] at aD)
    (try simp only [Nat.reduceMul, ZT, ZU, ZR] at aD)
    (try rw [show ((0 : Int)).toNat = 0 from rfl] at aM)
    (try simp only [Nat.reduceMul, ZT, ZU, ZR] at aM)
    replace b6 := eq_true b6
    replace b7 := eq_true b7
    have bE := Kd.R_putg aa.out (0 : Int) 1
    go_wp2_with (first | ((with_reducible refine gate_store (t := 3) (p := 30) rfl ?_); refine sE (t := 3) (p := 30) (w1 := (wr.setCell ⟨aK, (0 : Int).toNat, none⟩ (.int .i64 1))) ?_; intro ct hw; have hg : wr.grownBy ct (some aK) := (by rw [hw]; exact bE.2); have hp_ : Kd.R (Zs .i64) 3 ct w.heap.size (fun _ => True) (.slice (some ⟨aK, 0, none⟩) ab.length aC) bC := (by rw [hw, b5.out]; exact bE.1); clear bE; replace ae := Za (blk_grown (g := ah) (o := .cells #[.int .i64 0, .slice none 0 0] 24 (0, 0)) ae.out hg (Kd.R_ne aa.out ae.out (by decide))); replace ac := Za (blk_grown (g := ai) (o := .cells #[.int .i64 0, .slice (some ⟨aK, 0, none⟩) ab.length aC] 24 (0, 0)) ac.out hg (Kd.R_ne aa.out ac.out (by decide))); replace ap := Za (IsS77.grown (f3) hg (IsS77.own_ne ap.out aa.out (by decide))); replace HB := Za ((by rw [hw]; exact below_set (HB.out) (ZB HL.out GB26.out) : ZO w0.heap.size w0 ct)); replace HK := Za (Zb (go) (KeepBut.of_grown hg g) (Kd.R_base2 aa.out)); replace aa := Za (hp_); clear hg hw hp_))
    go_meet
    case rel => exact ⟨_, (bC), (.slice (some ⟨aK, 0, none⟩) ab.length aC), H', ⟨oN'⟩, ⟨by exact aa.out⟩, ⟨by exact ae.out⟩, ⟨by exact ac.out⟩, ⟨f3⟩, ⟨go⟩, ⟨gA⟩⟩
   case rest =>
    clear bA
    (try clear c1); (try clear c2); (try clear p2); (try clear q2); (try clear dq); (try clear qi2); (try clear dr); (try clear c5); (try clear c6); (try clear p6); (try clear c7); (try clear c9); (try clear bw); (try clear br); (try clear bR); (try clear dt); (try clear du); (try clear bu); (try clear aq); (try clear bv); (try clear bX); (try clear bY); (try clear bZ); (try clear b6); (try clear b7); (try clear dg); (try clear qi26); (try clear dh); (try clear dv); (try clear dw); (try clear aU); (try clear aV); (try clear aZ); (try clear a6); (try clear aG); (try clear aH); (try clear aW); (try clear aX); (try clear a7); (try clear a8); (try clear aI); (try clear aJ); (try clear aD); (try clear p2); (try clear b6); (try clear p6); (try clear b7)
    obtain ⟨kq, af, u103001, HA, di, aa, ae, ac, ap, HK, HB⟩ := hcut
    cases kq with
    | zero => exact absurd HA.out (by simp [fm.j1])
    | succ cu =>
     have H := HA.out
     clear HA
     simp only [fm.j1] at H
     replace H := oA H
     obtain ⟨av, dj, H⟩ := H
     (try dsimp only at H)
     replace H := oB H
     obtain ⟨⟨ca, bF, bG⟩, cb, H⟩ := H
     (try dsimp only at H)
     have dl := Za cb
     clear cb
     have cK := Za H
     clear H
     have cL := am0.out
     have cM := ag.out
     have cN := al.out
     have cO := ao.out
     obtain ⟨bb, bc, bf, bg⟩ := zZ ac
     obtain ⟨az, aA, cv⟩ := Zx aa.out
     subst cv
     go_upto_if 39 with (first | ((with_reducible refine Zn (f := 54) rfl ?_); refine gL 33 Tryz.func54 #[.slice az af.length aA] ?_; (with_reducible refine (fq.calls cu _ _ af av _ ?side1 ?side2 dj.out).mono ?_); (case side1 => have hx_ := (Zt aa.out).2.2; exact cC); (case side2 => exact (Zt aa.out).2.1); rintro e w' ⟨rfl, ⟨nd, rfl⟩⟩; refine ⟨_, rfl, ?_⟩) | ((with_reducible refine Zn (f := 73) rfl ?_); refine gL 39 Tryz.func73 #[.pointer (some ⟨g, 0, none⟩), .int .i64 2] ?_; (with_reducible refine (gx.calls g s0_0 aj ak 2 ca bF bG w0 _ ?side1 ?side2 dl.out).mono ?_); (case side1 => exact f3); (case side2 => exact gA); rintro e dx ⟨rfl, hi, hb, hk⟩; refine ⟨_, rfl, ?_⟩; replace aa := Za (Zd (Zy (IsS77.apart (show IsS77 w0 _ g s0_0 aj ak from f3) (by (with_reducible repeat (first | apply qA | apply qN | apply qD)); exact (Zd (Zh (p := ⟨ai, 0, none⟩) (Zp aa.out ac.out (by decide)) (fun _ hk => hk.2) (.int .i64 (Zg ((Zg (ZS av 2)) + 1)))) (fun _ h_ => h_.1))) (by decide)) hk (fun _ h => h.2)) (fun _ h => h.1)); replace ae := Za (Zc hk (g' := ah) (o := .cells #[.int .i64 0, .slice none 0 0] 24 (0, 0)) (by (with_reducible repeat (first | refine kN ?_ _ | refine kD ?_ | refine kA ?_ _)); refine Zz ?_ ag.out _; (with_reducible repeat (first | refine kN ?_ _ | refine kD ?_ | refine kA ?_ _)); exact ae.out) an0.out (by simp)); replace ac := Za (Zc hk (g' := ai) (o := .cells #[.int .i64 (Zg ((Zg (ZS av 2)) + 1)), .slice az af.length aA] 24 (0, 0)) (by (with_reducible repeat (first | refine kN ?_ _ | refine kD ?_ | refine kA ?_ _)); refine Zo (cs := #[.int .i64 0, .slice az af.length aA]) ?_ 0 _ rfl; (with_reducible repeat (first | refine kN ?_ _ | refine kD ?_ | refine kA ?_ _)); exact ac.out) al.out (by simp)); replace HK := Za (Zb (go) hk (.inl rfl)); replace HB := Za (hb); replace ap := Za (hi); (try clear hb)))
     have H := cK.out
     clear cK
     by_cases ch : ca = true
     rotate_left
     ·replace ch := Bool.eq_false_iff.mpr ch
      subst ch
      replace H := iF H
      simp only [Zf, Zl] at H
      obtain ⟨rfl, rfl, rfl, rfl⟩ := H
      (try clear bh bi bj bl bm bn bo bq)
      obtain ⟨ci, cj, ck, cl⟩ := zZ ac
      have cP := an0.out
      have cQ := au.out
      obtain ⟨cm, cn, cp, cq⟩ := zZ ae
      go_wp2_with (fail)
      refine ZC (Zw rfl _ _ ah 24 #[.int .i64 (Zg ((Zg (ZS av 2)) + 1)), .slice az af.length aA] (0, 0) _ rfl (by (with_reducible repeat (first | refine kN ?_ _ | refine kD ?_ | refine kA ?_ _)); refine Zo (cs := #[.int .i64 (Zg ((Zg (ZS av 2)) + 1)), .slice none 0 0]) ?_ 1 _ rfl; (with_reducible repeat (first | refine kN ?_ _ | refine kD ?_ | refine kA ?_ _)); refine Zo (cs := #[.int .i64 0, .slice none 0 0]) ?_ 0 _ rfl; (with_reducible repeat (first | refine kN ?_ _ | refine kD ?_ | refine kA ?_ _)); exact ae.out) Tryz.underlying24 rfl (by kernel_rfl)) rfl ?_
      exact ⟨_, fR, by (with_reducible repeat (first | apply qA | apply qN | apply qD)); exact Zd (Zh (p := ⟨ah, 1, none⟩) (Zh (p := ⟨ah, 0, none⟩) (Zp aa.out ae.out (by decide)) (fun _ hk => hk.2) (.int .i64 (Zg ((Zg (ZS av 2)) + 1)))) (fun _ hk => hk.2) (.slice az af.length aA)) (fun _ hk => trivial), f3, gA, go⟩
     subst ch
     replace H := iT H
     replace H := oB H
     obtain ⟨⟨aN, cw, cy⟩, cd, H⟩ := H
     (try dsimp only at H)
     have dm := Za cd
     clear cd
     simp only [Zf, Zl] at H
     obtain ⟨rfl, rfl, rfl, rfl⟩ := H
     go_wp2_with (first | ((with_reducible refine Zn (f := 72) rfl ?_); refine gL 42 Tryz.func72 #[.pointer (some ⟨g, 0, none⟩), .int .i64 av] ?_; (with_reducible refine (fp.calls g s0_0 bF bG av aN cw cy w0 _ ?side1 ?side2 dm.out).mono ?_); (case side1 => exact f3); (case side2 => exact gA); rintro e dy ⟨rfl, hi, hb, hk⟩; refine ⟨_, rfl, ?_⟩; replace aa := Za (Zd (Zy (IsS77.apart (show IsS77 w0 _ g s0_0 bF bG from f3) (rQ aa) (by decide)) hk (fun _ h => h.2)) (fun _ h => h.1)); replace ae := Za (Zc hk (g' := ah) (o := .cells #[.int .i64 0, .slice none 0 0] 24 (0, 0)) (bQ ae) an0.out (by simp)); replace ac := Za (Zc hk (g' := ai) (o := .cells #[.int .i64 (Zg ((Zg (ZS av 2)) + 1)), .slice az af.length aA] 24 (0, 0)) (bQ ac) al.out (by simp)); replace HK := Za (Zb (go) hk (.inl rfl)); replace HB := Za (hb); replace ap := Za (hi); (try clear hb); (try clear bb bc bf bg); obtain ⟨bh, bi, bj, bl⟩ := zZ ac; have cR := an0.out; have cS := au.out; obtain ⟨bm, bn, bo, bq⟩ := zZ ae))
     refine ZC (Zw rfl _ _ ah 24 #[.int .i64 (Zg (1 + aN)), .slice az af.length aA] (0, 0) _ rfl (by (with_reducible repeat (first | refine kN ?_ _ | refine kD ?_ | refine kA ?_ _)); refine Zo (cs := #[.int .i64 (Zg (1 + aN)), .slice none 0 0]) ?_ 1 _ rfl; (with_reducible repeat (first | refine kN ?_ _ | refine kD ?_ | refine kA ?_ _)); refine Zo (cs := #[.int .i64 0, .slice none 0 0]) ?_ 0 _ rfl; (with_reducible repeat (first | refine kN ?_ _ | refine kD ?_ | refine kA ?_ _)); refine Zz ?_ ag.out _; (with_reducible repeat (first | refine kN ?_ _ | refine kD ?_ | refine kA ?_ _)); exact ae.out) Tryz.underlying24 rfl (by kernel_rfl)) rfl ?_
     exact ⟨_, fR, by (with_reducible repeat (first | apply qA | apply qN | apply qD)); exact Zd (Zh (p := ⟨ah, 1, none⟩) (Zh (p := ⟨ah, 0, none⟩) (Zh (p := ⟨ai, 0, none⟩) (Zp (Zp aa.out ac.out (by decide)) ae.out (by decide)) (fun _ hk => hk.1.2) (.int .i64 (Zg (1 + aN)))) (fun _ hk => hk.2) (.int .i64 (Zg (1 + aN)))) (fun _ hk => hk.2) (.slice az af.length aA)) (fun _ hk => trivial), f3, gA, go⟩
def ft.l0 : Nat → List Int → Int → Int → Int → List Int → Option (Int × List Int × Int × Int)
 | 0, _, _, _, _, _ => none
 | k + 1, ae, af, ag, ac, aa => (fp.f ae af ag 2).bind fun ab => (if (aa.length : Int) < (Zg (9 + ab.1)) then (if aa.length < 17592186044416 then (ft.l0 k ae ab.2.1 ab.2.2 ac (aa ++ [1])) else (none)) else (some (ac, aa, ab.2.1, ab.2.2)))
def ft.f (k : Nat) (s0_0 : List Int) (s0_1 : Int) (s0_2 : Int) (a1 : Int) : Option (Int × List Int × Int × Int) := (fm.f k s0_0 s0_1 s0_2 a1).bind fun ab => ((fp.f s0_0 ab.2.2.1 ab.2.2.2 16).bind fun aa => (if aa.1 = 0 then ((fq.f k ab.2.1).bind fun af => ((fq.f k ab.2.1).bind fun ag => ((gq.f s0_0 aa.2.1 aa.2.2 (([(-1), 0, 1, af, Zg (ag + 1), 4611686018427387904] : List Int))).bind fun ac => (some (ac.1, ab.2.1, ac.2.1, ac.2.2))))) else (if aa.1 = 1 then ((gq.f s0_0 aa.2.1 aa.2.2 (([(-1), 0, 1000, 1001, 4611686018427387904] : List Int))).bind fun ae => (if 0 < (ab.2.1.length : Int) then (some (ab.1, (ab.2.1.set (0 : Int).toNat ae.1), ae.2.1, ae.2.2)) else (none))) else (if aa.1 = 2 then (ft.l0 k s0_0 aa.2.1 aa.2.2 ab.1 ab.2.1) else (if aa.1 = 3 then (some (1, ([] : List Int), aa.2.1, aa.2.2)) else (some (ab.1, ab.2.1, aa.2.1, aa.2.2)))))))
def ft.T4 : Bool × List (List Nat × List Nat) := (true, [([], []), ([], []), ([1], [1]), ([2], [2]), ([], []), ([4], [4]), ([5, 3], [5]), ([6], [6]), ([3, 7], [3, 7]), ([0, 8, 6], [0, 8]), ([0, 1, 2, 3, 4, 5, 6, 7, 8, 9], []), ([10, 9, 9, 0, 1, 2, 3, 4, 5, 6, 7, 8, 9], [9, 10])])
def ft.B4 : List Nat := [0, 0, 2, 6, 0, 16, 62, 126, 254, 511, 1023, 2047]
theorem ft.tab4 : rtab .any (opsOf Tryz.f70 4) = ft.T4 := by kernel_rfl
theorem ft.bits4 : waitsOk ft.T4.2 ft.B4 = true := by kernel_rfl
theorem fj {p : Prop} (h : p := by repeat (first | (with_reducible first | exact HK.out | apply ZG | apply ZL | apply ZF | apply ZM | refine keep_far ?_ aU.out _ | refine keep_far ?_ aV.out _ | refine keep_far ?_ GB29.out _) | exact HK.out)) : p := h
theorem fh {p : Prop} (h : p := by repeat (first | (with_reducible first | exact au.out | apply IsS77.alloc | apply IsS77.drewN | apply IsS77.drew | apply IsS77.set_1 | apply IsS77.set_2 | refine IsS77.far ?_ ap.out _ | refine IsS77.far ?_ ao.out _ | refine IsS77.far ?_ HN0_go29.out _) | exact au.out)) : p := h
theorem fH {p : Prop} (h : p := by repeat (first | (with_reducible first | exact HB.out | apply ba | apply bd | apply be | refine bs ?_ (IsS77.ge au.out) | refine bs ?_ aW.out | refine bs ?_ aX.out | refine bs ?_ (ZB HL.out GB29.out)) | exact HB.out)) : p := h
theorem ft.calls (k : Nat) (g : Nat) (s0_0 : List Int) (s0_1 : Int) (s0_2 : Int) (a1 : Int) (r1 : Int) (r2 : List Int) (r3 : Int) (r4 : Int) (w0 w : ZJ) (hI : IsS77 w0 w g s0_0 s0_1 s0_2) (hB : ZO w0.heap.size w0 w) (h : ft.f k s0_0 s0_1 s0_2 a1 = some (r1, r2, r3, r4)) :
  ZX Tryz.prog 70 #[.pointer (some ⟨g, 0, none⟩), .int .i64 a1] w fun e w' => ∃ v1_ : ZW, e = .returned (.agg #[.int .i64 r1, v1_]) ∧ Kd.R (Zs .i64) 3 w' w.heap.size (fun _ => True) v1_ r2 ∧ IsS77 w0 w' g s0_0 r3 r4 ∧ ZO w0.heap.size w0 w' ∧ KeepBut w w' g none := by
 have hu24 := Tryz.underlying24
 have au := Za hI
 have HK := Za (KeepBut.refl w g none)
 have HL := Za hB.size
 clear hI
 have HW0 := Za hB.size
 have HB := Za hB
 clear hB
 have H := h
 unfold ft.f at H
 clear h
 replace H := oB H
 obtain ⟨⟨al, am0, av, aw⟩, dZ, H⟩ := H
 (try dsimp only at H)
 have A3 := Za dZ
 clear dZ
 replace H := oB H
 obtain ⟨⟨aq, aC, aD⟩, d3, H⟩ := H
 (try dsimp only at H)
 have A4 := Za d3
 clear d3
 by_cases c5 : aq = 0
 ·rw [if_pos c5] at H
  have cV : (aq == 0) = true := beq_iff_eq.mpr c5
  have cW : (aq != 0) = false := bne_eq_false_iff_eq.mpr c5
  clear c5
  replace H := oA H
  obtain ⟨aY, A6, H⟩ := H
  (try dsimp only at H)
  replace H := oA H
  obtain ⟨aZ, A7, H⟩ := H
  (try dsimp only at H)
  obtain ⟨cK, aI⟩ : ∃ y_ : List Int, y_ = (([(-1), 0, 1, aY, Zg (aZ + 1), 4611686018427387904] : List Int)) := ⟨_, rfl⟩
  replace H : ((gq.f s0_0 aC aD cK).bind fun bb => (some (bb.1, am0, bb.2.1, bb.2.2))) = some (r1, r2, r3, r4) := by first | (rw [aI]; with_reducible exact H) | (have H2_ := (Zr _ _).symm.trans H; rw [aI]; with_reducible exact H2_) | (have H2_ := (Zr _ _).symm.trans H; with_reducible exact H2_) | with_reducible exact H | (rw [aI]; exact H) | exact H
  have cz := Za aI
  clear aI
  replace H := oB H
  obtain ⟨⟨bc, dN, dO⟩, d4, H⟩ := H
  (try dsimp only at H)
  have A8 := Za d4
  clear d4
  simp only [Zf, Zl] at H
  obtain ⟨rfl, rfl, rfl, rfl⟩ := H
  go_enter Tryz.func70, Tryz.ntmps70
  try go_wp2_with (first | ((with_reducible refine ZE (N := 4) rfl ?_); refine xE (N := 4) (cs := #[.int .i64 0, .slice none 0 0]) (t := 24) ?_; intro ac hg w9 ab hb; have aU := Za ((by rw [hg]; exact (Zq (w := w) (g := g) (row := none) (fj)) : w.heap.size ≤ ac)); have aW := Za ((ZB HW0.out (by rw [hg]; exact (Zq (w := w) (g := g) (row := none) (fj)) : w.heap.size ≤ ac) : w0.heap.size ≤ ac)); have ap := Za ((by rw [hg]; exact Zj (IsS77.lt (show IsS77 w0 _ g s0_0 s0_1 s0_2 from fh)) : g ≠ ac)); have aj := Za ((by rw [hg]; exact Zk (IsS77.lt (show IsS77 w0 _ g s0_0 s0_1 s0_2 from fh)) : ac ≠ g)); replace HK := Za (Zb (fj) (Zu hb g none) (.inl rfl)); replace HB := Za (Zv (fH) hb); replace au := Za (IsS77.below (fh) hb); clear hb hg) | ((with_reducible refine Zn (f := 93) rfl ?_); refine gL 8 Tryz.func93 #[.pointer (some ⟨g, 0, none⟩), .int .i64 a1] ?_; (with_reducible refine (fm.calls k g s0_0 s0_1 s0_2 a1 al am0 av aw w0 _ ?side1 ?side2 A3.out).mono ?_); (case side1 => exact fh); (case side2 => exact fH); rintro e eZ ⟨cL, rfl, bf, hi, hb, hk⟩; refine ⟨_, rfl, ?_⟩; have af := Za (ZI bf (Zq (w := w) (g := g) (row := none) (fj))); replace ab := Za (Zc hk (g' := ac) (o := .cells #[.int .i64 0, .slice none 0 0] 24 (0, 0)) ab.out aj.out (by simp)); replace HK := Za (Zb (fj) hk (.inl rfl)); replace HB := Za (hb); replace au := Za (hi); (try clear hb); (try clear bf)) | ((with_reducible refine ZE (N := 5) rfl ?_); refine xE (N := 5) (cs := #[.int .i64 0, .slice none 0 0]) (t := 24) ?_; intro ae hg e5 aa hb; have aV := Za ((by rw [hg]; exact (Zq (w := w) (g := g) (row := none) (fj)) : w.heap.size ≤ ae)); have aX := Za ((ZB HW0.out (by rw [hg]; exact (Zq (w := w) (g := g) (row := none) (fj)) : w.heap.size ≤ ae) : w0.heap.size ≤ ae)); have ag := nL hg (ZA ab.out); have an0 := nG hg (ZA ab.out); have ao := Za ((by rw [hg]; exact Zj (IsS77.lt (show IsS77 w0 _ g s0_0 av aw from fh)) : g ≠ ae)); have ak := Za ((by rw [hg]; exact Zk (IsS77.lt (show IsS77 w0 _ g s0_0 av aw from fh)) : ae ≠ g)); replace af := rB af hb; replace ab := bB ab hb; replace HK := Za (Zb (fj) (Zu hb g none) (.inl rfl)); replace HB := Za (Zv (fH) hb); replace au := Za (IsS77.below (fh) hb); clear hb hg; have d5 := an0.out; have d6 := ag.out; have d7 := ak.out; have d8 := ao.out; obtain ⟨bn, bo, bq, br⟩ := zZ aa; obtain ⟨aJ, aK, dP⟩ := Zx af.out; subst dP) | ((with_reducible refine Zn (f := 72) rfl ?_); refine gL 10 Tryz.func72 #[.pointer (some ⟨g, 0, none⟩), .int .i64 16] ?_; (with_reducible refine (fp.calls g s0_0 av aw 16 aq aC aD w0 _ ?side1 ?side2 A4.out).mono ?_); (case side1 => exact fh); (case side2 => exact fH); rintro e eP ⟨rfl, hi, hb, hk⟩; refine ⟨_, rfl, ?_⟩; replace ab := Za (Zc hk (g' := ac) (o := .cells #[.int .i64 0, .slice none 0 0] 24 (0, 0)) (by refine Zz ?_ ag.out _; refine Zz ?_ ag.out _; exact ab.out) aj.out (by simp)); replace af := Za (Zd (Zy (IsS77.apart (show IsS77 w0 _ g s0_0 av aw from fh) (by exact (Zd (Zh (p := ⟨ae, 1, none⟩) (Zh (p := ⟨ae, 0, none⟩) (Zp af.out aa.out (by decide)) (fun _ hk => hk.2) (.int .i64 al)) (fun _ hk => hk.2) (.slice aJ am0.length aK)) (fun _ h_ => h_.1))) (by decide)) hk (fun _ h => h.2)) (fun _ h => h.1)); replace aa := Za (Zc hk (g' := ae) (o := .cells #[.int .i64 al, .slice aJ am0.length aK] 24 (0, 0)) (by refine Zo (cs := #[.int .i64 al, .slice none 0 0]) ?_ 1 _ rfl; refine Zo (cs := #[.int .i64 0, .slice none 0 0]) ?_ 0 _ rfl; exact aa.out) ak.out (by simp)); replace HK := Za (Zb (fj) hk (.inl rfl)); replace HB := Za (hb); replace au := Za (hi); (try clear hb)))
  replace af := rD af
  replace ab := bD ab
  replace aa := bD aa
  replace au := Za (IsS77.drew au.out)
  replace HK := Za (ZF HK.out)
  replace HB := Za (below_drew1 HB.out)
  refine start_ (n := 12) (S := fun w' => w'.cell? ⟨ae, 0, none⟩ = some (.int .i64 al) ∧ w'.cell? ⟨ae, 1, none⟩ = some (.slice aJ am0.length aK)) (ds := [11]) #[F,F,F,F,F,F,F,F,F,F,F,F] (by kernel_rfl) rfl rfl ⟨(Ze aa.out 0).trans rfl, (Ze aa.out 1).trans rfl⟩ (fun hHeld => ?_); refine with_tabW ft.tab4 ft.bits4 (fun HT_ HW_ => ?_)
  (try clear bn bo bq br)
  generalize eP.drew = e6 at af ab aa au HK HB hHeld ⊢
  refine pU 0 HT_ ?_
  refine pU 1 HT_ ?_
  refine pU 4 HT_ ?_
  refine tK 2 HT_ HW_ hHeld (hy := by rintro w' ⟨s0, s1⟩; go_simp; with_reducible rfl) ?_
  refine tK 5 HT_ HW_ hHeld (hy := by rintro w' ⟨s0, s1⟩; go_simp; with_reducible rfl) ?_
  refine oN 3 HT_ (fun K hK => ?_)
  refine gE Tryz.func54 #[.slice aJ am0.length aK] ?_
  with_reducible refine (fq.calls k _ _ am0 aY _ ?side1 ?side2 A6.out).mono ?_
  (case side1 => have hx_ := (Zt af.out).2.2; exact cC)
  (case side2 => exact (Zt af.out).2.1)
  rintro e w' ⟨rfl, ⟨nd, rfl⟩⟩
  refine ⟨_, rfl, ?_⟩
  refine hK.out _ _ ⟨(Ze aa.out 0).trans rfl, (Ze aa.out 1).trans rfl⟩ (fun hHeld => ?_)
  clear hK K
  refine nM ?_
  refine oN 6 HT_ (fun K hK => ?_)
  refine gE Tryz.func54 #[.slice aJ am0.length aK] ?_
  with_reducible refine (fq.calls k _ _ am0 aZ _ ?side1 ?side2 A7.out).mono ?_
  (case side1 => have hx_ := (Zt af.out).2.2; exact cC)
  (case side2 => exact (Zt af.out).2.1)
  rintro e w' ⟨rfl, ⟨nd, rfl⟩⟩
  refine ⟨_, rfl, ?_⟩
  refine hK.out _ _ ⟨(Ze aa.out 0).trans rfl, (Ze aa.out 1).trans rfl⟩ (fun hHeld => ?_)
  clear hK K
  refine nM ?_
  refine pU 7 HT_ ?_
  refine oN 8 HT_ (fun K hK => ?_)
  refine Kd.R_lit_step (Zs .i64) _ 3 ?hg (N := 21) ?hd (xs := ([(-1), 0, 1, aY, Zg (aZ + 1), 4611686018427387904] : List Int)) (inner := [.int .i64 (-1), .int .i64 0, .int .i64 1, .int .i64 aY, .int .i64 (Zg (aZ + 1)), .int .i64 4611686018427387904]) (ok := fun _ => True) (okp := fun _ => True) ?hr ?hp (fun _ hk => hk) trivial (ZN _ _) (ZQ _) (by simp) ?_; (case hd => rfl); (case hg => rfl); (case hr => first | (go_simp; done) | (go_simp; rfl)); (case hp => exact (ZD (show Kd.M (Zs .i64) _ _ _ (-1) [.int .i64 (-1)] from rfl) (ZD (show Kd.M (Zs .i64) _ _ _ 0 [.int .i64 0] from rfl) (ZD (show Kd.M (Zs .i64) _ _ _ 1 [.int .i64 1] from rfl) (ZD (show Kd.M (Zs .i64) _ _ _ aY [.int .i64 aY] from rfl) (ZD (show Kd.M (Zs .i64) _ _ _ (Zg (aZ + 1)) [.int .i64 (Zg (aZ + 1))] from rfl) (ZD (show Kd.M (Zs .i64) _ _ _ 4611686018427387904 [.int .i64 4611686018427387904] from rfl) (Reps.none _ _))))))))
  intro eQ e7 a6 hb hg_ hnew_
  clear hg_ hnew_
  (first | rw [← cz.out] at a6 | (simp only [ZV] at a6; rw [← cz.out] at a6))
  have aG := Za (ZI (Kd.R_new' a6 (Kd.R_lt (rQ af))) (Zq (w := w) (g := g) (row := none) (fj)))
  replace af := rE af (Kd.R_base a6) hb
  replace ab := bP ab hb
  replace aa := bP aa hb
  replace HK := Za (Zb (fj) (Zu hb g none) (.inl rfl))
  replace HB := Za (Zv (fH) hb)
  replace au := Za (IsS77.below (fh) hb)
  clear hb a6
  obtain ⟨dQ, dT, cX⟩ := Zx aG.out
  (first | subst cX | (injection cX with f1_ f2_ f3_; have f4_ := f1_.symm; have f5_ := f3_.symm; clear f1_ f2_ f3_; subst f4_; subst f5_))
  refine hK.out _ _ ⟨(Ze aa.out 0).trans rfl, (Ze aa.out 1).trans rfl⟩ (fun hHeld => ?_)
  clear hK K
  refine nM ?_
  refine oN 9 HT_ (fun K hK => ?_)
  refine gE Tryz.func71 #[.pointer (some ⟨g, 0, none⟩), .slice dQ cK.length dT] ?_
  with_reducible refine (gq.calls g s0_0 aC aD _ _ cK bc dN dO w0 _ ?side1 ?side2 ?side3 ?side4 ?side5 A8.out).mono ?_
  (case side1 => exact fh)
  (case side2 => exact fH)
  (case side3 => have hx_ := (Zt aG.out).2.2; exact cC)
  (case side4 => exact (Zt aG.out).2.1)
  (case side5 => exact far_slice (IsS77.own_ne au.out aG.out (by decide)))
  rintro e eR ⟨rfl, hi, hb, hk⟩
  refine ⟨_, rfl, ?_⟩
  replace ab := Za (Zc hk (g' := ac) (o := .cells #[.int .i64 0, .slice none 0 0] 24 (0, 0)) (bQ ab) aj.out (by simp))
  replace af := Za (Zd (Zy (IsS77.apart (show IsS77 w0 _ g s0_0 aC aD from fh) (rQ af) (by decide)) hk (fun _ h => h.2)) (fun _ h => h.1))
  replace aa := Za (Zc hk (g' := ae) (o := .cells #[.int .i64 al, .slice aJ am0.length aK] 24 (0, 0)) (bQ aa) ak.out (by simp))
  replace aG := Za (Zd (Zy (IsS77.apart (show IsS77 w0 _ g s0_0 aC aD from fh) (rQ aG) (by decide)) hk (fun _ h => h.2)) (fun _ h => h.1))
  replace HK := Za (Zb (fj) hk (.inl rfl))
  replace HB := Za (hb)
  replace au := Za (hi)
  (try clear hb)
  (try clear hb2)
  (try clear hk)
  (try clear hi)
  refine hK.out _ _ ⟨(Ze aa.out 0).trans rfl, (Ze aa.out 1).trans rfl⟩ (fun hHeld => ?_)
  clear hK K
  refine nM ?_
  refine pU 10 HT_ ?_
  refine last_ (i := 11) (N := none) #[T,T,T,T,T,T,T,T,T,T,T,T] rfl rfl (one_of HT_.out (by kernel_rfl)) (by decide) (fun K hK => ?_)
  have hs22 : eR.cell? ⟨ae, 0, none⟩ = some (.int .i64 al) := (Ze aa.out 0).trans rfl
  have d9 := ZK aa.out 0
  have dy := ag.out
  have dz := an0.out
  refine skip_ (w1 := ?_) (by rfl) rfl ?_ ?_
  rotate_left
  ·go_simp
   rfl
  refine hK.out _ _ ?_
  clear hK K
  refine done_ (done_of HT_.out (by kernel_rfl)) ?_
  obtain ⟨bt, bu, bv, bw⟩ := zZ aa
  have ec := aj.out
  have ed := ap.out
  obtain ⟨bx, bz, bA, bC⟩ := zZ ab
  try go_wp2
  refine ZC (Zw rfl _ _ ac 24 #[.int .i64 bc, .slice aJ am0.length aK] (0, 0) _ rfl (by (with_reducible repeat (first | refine kN ?_ _ | refine kD ?_ | refine kA ?_ _)); refine Zo (cs := #[.int .i64 bc, .slice none 0 0]) ?_ 1 _ rfl; (with_reducible repeat (first | refine kN ?_ _ | refine kD ?_ | refine kA ?_ _)); refine Zo (cs := #[.int .i64 0, .slice none 0 0]) ?_ 0 _ rfl; (with_reducible repeat (first | refine kN ?_ _ | refine kD ?_ | refine kA ?_ _)); refine Zz ?_ ag.out _; (with_reducible repeat (first | refine kN ?_ _ | refine kD ?_ | refine kA ?_ _)); exact ab.out) Tryz.underlying24 rfl (by kernel_rfl)) rfl ?_
  exact ⟨_, fR, by (with_reducible repeat (first | apply qA | apply qN | apply qD)); exact Zd (Zh (p := ⟨ac, 1, none⟩) (Zh (p := ⟨ac, 0, none⟩) (Zh (p := ⟨ae, 0, none⟩) (Zp (Zp af.out aa.out (by decide)) ab.out (by decide)) (fun _ hk => hk.1.2) (.int .i64 bc)) (fun _ hk => hk.2) (.int .i64 bc)) (fun _ hk => hk.2) (.slice aJ am0.length aK)) (fun _ hk => trivial), fh, fH, fj⟩
 rw [if_neg c5] at H
 have cV : (aq == 0) = false := beq_eq_false_iff_ne.mpr c5
 have cW : (aq != 0) = true := bne_iff_ne.mpr c5
 by_cases cA : aq = 1
 ·rw [if_pos cA] at H
  have cB : (aq == 1) = true := beq_iff_eq.mpr cA
  have cD : (aq != 1) = false := bne_eq_false_iff_eq.mpr cA
  clear cA
  obtain ⟨a7, aM⟩ : ∃ y_ : List Int, y_ = (([(-1), 0, 1000, 1001, 4611686018427387904] : List Int)) := ⟨_, rfl⟩
  replace H : ((gq.f s0_0 aC aD a7).bind fun bg => (if 0 < (am0.length : Int) then (some (al, (am0.set (0 : Int).toNat bg.1), bg.2.1, bg.2.2)) else (none))) = some (r1, r2, r3, r4) := by first | (rw [aM]; with_reducible exact H) | (have H2_ := (Zr _ _).symm.trans H; rw [aM]; with_reducible exact H2_) | (have H2_ := (Zr _ _).symm.trans H; with_reducible exact H2_) | with_reducible exact H | (rw [aM]; exact H) | exact H
  have cE := Za aM
  clear aM
  replace H := oB H
  obtain ⟨⟨aE, cM, cN⟩, cY, H⟩ := H
  (try dsimp only at H)
  have eS := Za cY
  clear cY
  by_cases db : 0 < (am0.length : Int)
  rotate_left
  ·rw [if_neg db] at H
   exact absurd H (by simp)
  rw [if_pos db] at H
  have dc := decide_eq_true db
  have de : decide (0 < am0.length) = true := decide_eq_true (by omega)
  clear db
  obtain ⟨dg, aN⟩ : ∃ y_ : List Int, y_ = (am0.set (0 : Int).toNat aE) := ⟨_, rfl⟩
  replace H : (some (al, dg, cM, cN)) = some (r1, r2, r3, r4) := by first | (rw [aN]; with_reducible exact H) | (have H2_ := (Zr _ _).symm.trans H; rw [aN]; with_reducible exact H2_) | (have H2_ := (Zr _ _).symm.trans H; with_reducible exact H2_) | with_reducible exact H | (rw [aN]; exact H) | exact H
  have dh := Za aN
  clear aN
  simp only [Zf, Zl] at H
  obtain ⟨rfl, rfl, rfl, rfl⟩ := H
  go_enter Tryz.func70, Tryz.ntmps70
  try go_wp2_with (first | ((with_reducible refine ZE (N := 4) rfl ?_); refine xE (N := 4) (cs := #[.int .i64 0, .slice none 0 0]) (t := 24) ?_; intro ac hg e8 ab hb; have aU := Za ((by rw [hg]; exact (Zq (w := w) (g := g) (row := none) (fj)) : w.heap.size ≤ ac)); have aW := Za ((ZB HW0.out (by rw [hg]; exact (Zq (w := w) (g := g) (row := none) (fj)) : w.heap.size ≤ ac) : w0.heap.size ≤ ac)); have ap := Za ((by rw [hg]; exact Zj (IsS77.lt (show IsS77 w0 _ g s0_0 s0_1 s0_2 from fh)) : g ≠ ac)); have aj := Za ((by rw [hg]; exact Zk (IsS77.lt (show IsS77 w0 _ g s0_0 s0_1 s0_2 from fh)) : ac ≠ g)); replace HK := Za (Zb (fj) (Zu hb g none) (.inl rfl)); replace HB := Za (Zv (fH) hb); replace au := Za (IsS77.below (fh) hb); clear hb hg) | ((with_reducible refine Zn (f := 93) rfl ?_); refine gL 8 Tryz.func93 #[.pointer (some ⟨g, 0, none⟩), .int .i64 a1] ?_; (with_reducible refine (fm.calls k g s0_0 s0_1 s0_2 a1 al am0 av aw w0 _ ?side1 ?side2 A3.out).mono ?_); (case side1 => exact fh); (case side2 => exact fH); rintro e e9 ⟨cL, rfl, bf, hi, hb, hk⟩; refine ⟨_, rfl, ?_⟩; have af := Za (ZI bf (Zq (w := w) (g := g) (row := none) (fj))); replace ab := Za (Zc hk (g' := ac) (o := .cells #[.int .i64 0, .slice none 0 0] 24 (0, 0)) (bQ ab) aj.out (by simp)); replace HK := Za (Zb (fj) hk (.inl rfl)); replace HB := Za (hb); replace au := Za (hi); (try clear hb); (try clear bf)) | ((with_reducible refine ZE (N := 5) rfl ?_); refine xE (N := 5) (cs := #[.int .i64 0, .slice none 0 0]) (t := 24) ?_; intro ae hg ia aa hb; have aV := Za ((by rw [hg]; exact (Zq (w := w) (g := g) (row := none) (fj)) : w.heap.size ≤ ae)); have aX := Za ((ZB HW0.out (by rw [hg]; exact (Zq (w := w) (g := g) (row := none) (fj)) : w.heap.size ≤ ae) : w0.heap.size ≤ ae)); have ag := Za ((by rw [hg]; exact Zj (ZA (g := ac) (o := .cells #[.int .i64 0, .slice none 0 0] 24 (0, 0)) (bQ ab)) : ac ≠ ae)); have an0 := Za ((by rw [hg]; exact Zk (ZA (g := ac) (o := .cells #[.int .i64 0, .slice none 0 0] 24 (0, 0)) (bQ ab)) : ae ≠ ac)); have ao := Za ((by rw [hg]; exact Zj (IsS77.lt (show IsS77 w0 _ g s0_0 av aw from fh)) : g ≠ ae)); have ak := Za ((by rw [hg]; exact Zk (IsS77.lt (show IsS77 w0 _ g s0_0 av aw from fh)) : ae ≠ g)); replace af := rP af hb; replace ab := bP ab hb; replace HK := Za (Zb (fj) (Zu hb g none) (.inl rfl)); replace HB := Za (Zv (fH) hb); replace au := Za (IsS77.below (fh) hb); clear hb hg; have ee := an0.out; have ef := ag.out; have eh := ak.out; have ej := ao.out; (try clear bt bu bv bw bx bz bA bC); obtain ⟨bE, bF, bG, bH⟩ := zZ aa; obtain ⟨bI, aH, dU⟩ := Zx af.out; subst dU) | ((with_reducible refine Zn (f := 72) rfl ?_); refine gL 10 Tryz.func72 #[.pointer (some ⟨g, 0, none⟩), .int .i64 16] ?_; (with_reducible refine (fp.calls g s0_0 av aw 16 aq aC aD w0 _ ?side1 ?side2 A4.out).mono ?_); (case side1 => exact fh); (case side2 => exact fH); rintro e eT ⟨rfl, hi, hb, hk⟩; refine ⟨_, rfl, ?_⟩; replace ab := Za (Zc hk (g' := ac) (o := .cells #[.int .i64 0, .slice none 0 0] 24 (0, 0)) (by (with_reducible repeat (first | refine kN ?_ _ | refine kD ?_ | refine kA ?_ _)); refine Zz ?_ ag.out _; (with_reducible repeat (first | refine kN ?_ _ | refine kD ?_ | refine kA ?_ _)); refine Zz ?_ ag.out _; (with_reducible repeat (first | refine kN ?_ _ | refine kD ?_ | refine kA ?_ _)); exact ab.out) aj.out (by simp)); replace af := Za (Zd (Zy (IsS77.apart (show IsS77 w0 _ g s0_0 av aw from fh) (by (with_reducible repeat (first | apply qA | apply qN | apply qD)); exact (Zd (Zh (p := ⟨ae, 1, none⟩) (Zh (p := ⟨ae, 0, none⟩) (Zp af.out aa.out (by decide)) (fun _ hk => hk.2) (.int .i64 al)) (fun _ hk => hk.2) (.slice bI am0.length aH)) (fun _ h_ => h_.1))) (by decide)) hk (fun _ h => h.2)) (fun _ h => h.1)); replace aa := Za (Zc hk (g' := ae) (o := .cells #[.int .i64 al, .slice bI am0.length aH] 24 (0, 0)) (by (with_reducible repeat (first | refine kN ?_ _ | refine kD ?_ | refine kA ?_ _)); refine Zo (cs := #[.int .i64 al, .slice none 0 0]) ?_ 1 _ rfl; (with_reducible repeat (first | refine kN ?_ _ | refine kD ?_ | refine kA ?_ _)); refine Zo (cs := #[.int .i64 0, .slice none 0 0]) ?_ 0 _ rfl; (with_reducible repeat (first | refine kN ?_ _ | refine kD ?_ | refine kA ?_ _)); exact aa.out) ak.out (by simp)); replace HK := Za (Zb (fj) hk (.inl rfl)); replace HB := Za (hb); replace au := Za (hi); (try clear hb)))
  replace af := rD af
  replace ab := bD ab
  replace aa := bD aa
  replace au := Za (IsS77.drew au.out)
  replace HK := Za (ZF HK.out)
  replace HB := Za (below_drew1 HB.out)
  refine start_ (n := 7) (S := fun w' => w'.cell? ⟨ae, 0, none⟩ = some (.int .i64 al) ∧ w'.cell? ⟨ae, 1, none⟩ = some (.slice bI am0.length aH)) (ds := [6]) #[F,F,F,F,F,F,F] (by kernel_rfl) rfl rfl ⟨(Ze aa.out 0).trans rfl, (Ze aa.out 1).trans rfl⟩ (fun hHeld => ?_)
  (try clear bE bF bG bH)
  generalize eT.drew = ib at af ab aa au HK HB hHeld ⊢
  refine pure_ (i := 0) (N := some 26) (v := ?_) (a' := ?_) #[T,F,F,F,F,F,F] rfl rfl (by kernel_rfl) (fun _ _ _ h => h) (ZP ⟨by rfl, ?_⟩) ?_ ?_
  rotate_left
  ·intro w'
   go_simp
   with_reducible rfl
  rotate_left
  ·simp only [ZH, sA, sZ, sS, i64_w, i32_w]
   rfl
  refine pure_ (i := 2) (N := some 28) (v := ?_) (a' := ?_) #[T,F,T,F,F,F,F] rfl rfl (by kernel_rfl) (fun _ _ _ h => h) (ZP ⟨by rfl, ?_⟩) ?_ ?_
  rotate_left
  ·intro w'
   go_simp
   with_reducible rfl
  rotate_left
  ·simp only [ZH, sA, sZ, sS, i64_w, i32_w]
   rfl
  refine take_ (i := 1) (N := some 27) (v := ?_) (a' := ?_) #[T,T,T,F,F,F,F] rfl rfl (by kernel_rfl) (fun _ _ _ h => h) (ZP ⟨by rfl, ?_⟩) hHeld ?_ ?_
  rotate_left
  ·rintro w' ⟨s0, s1⟩
   go_simp
   with_reducible rfl
  rotate_left
  ·simp only [ZH, sA, sZ, sS, i64_w, i32_w]
   rfl
  refine one_ (i := 3) (N := some 29) #[T,T,T,T,F,F,F] rfl rfl (by kernel_rfl) (by decide) (fun K hK => ?_)
  refine Kd.R_lit_step (Zs .i64) _ 3 ?hg (N := 29) ?hd (xs := ([(-1), 0, 1000, 1001, 4611686018427387904] : List Int)) (inner := [.int .i64 (-1), .int .i64 0, .int .i64 1000, .int .i64 1001, .int .i64 4611686018427387904]) (ok := fun _ => True) (okp := fun _ => True) ?hr ?hp (fun _ hk => hk) trivial (ZN _ _) (ZQ _) (by simp) ?_; (case hd => rfl); (case hg => rfl); (case hr => first | (go_simp; done) | (go_simp; rfl)); (case hp => exact (ZD (show Kd.M (Zs .i64) _ _ _ (-1) [.int .i64 (-1)] from rfl) (ZD (show Kd.M (Zs .i64) _ _ _ 0 [.int .i64 0] from rfl) (ZD (show Kd.M (Zs .i64) _ _ _ 1000 [.int .i64 1000] from rfl) (ZD (show Kd.M (Zs .i64) _ _ _ 1001 [.int .i64 1001] from rfl) (ZD (show Kd.M (Zs .i64) _ _ _ 4611686018427387904 [.int .i64 4611686018427387904] from rfl) (Reps.none _ _)))))))
  intro eU ic a8 hb hg_ hnew_
  clear hg_ hnew_
  (first | rw [← cE.out] at a8 | (simp only [ZV] at a8; rw [← cE.out] at a8))
  have aA := Za (ZI (Kd.R_new' a8 (Kd.R_lt (rQ af))) (Zq (w := w) (g := g) (row := none) (fj)))
  replace af := rE af (Kd.R_base a8) hb
  replace ab := bP ab hb
  replace aa := bP aa hb
  replace HK := Za (Zb (fj) (Zu hb g none) (.inl rfl))
  replace HB := Za (Zv (fH) hb)
  replace au := Za (IsS77.below (fh) hb)
  clear hb a8
  obtain ⟨cO, cP, di⟩ := Zx aA.out
  (first | subst di | (injection di with f1_ f2_ f3_; have f4_ := f1_.symm; have f5_ := f3_.symm; clear f1_ f2_ f3_; subst f4_; subst f5_))
  refine hK.out _ _ ⟨(Ze aa.out 0).trans rfl, (Ze aa.out 1).trans rfl⟩ (fun hHeld => ?_)
  clear hK K
  refine nM ?_
  refine one_ (i := 4) (N := some 30) #[T,T,T,T,T,F,F] rfl rfl (by kernel_rfl) (by decide) (fun K hK => ?_)
  refine gE Tryz.func71 #[.pointer (some ⟨g, 0, none⟩), .slice cO a7.length cP] ?_
  with_reducible refine (gq.calls g s0_0 aC aD _ _ a7 aE cM cN w0 _ ?side1 ?side2 ?side3 ?side4 ?side5 eS.out).mono ?_
  (case side1 => exact fh)
  (case side2 => exact fH)
  (case side3 => have hx_ := (Zt aA.out).2.2; exact cC)
  (case side4 => exact (Zt aA.out).2.1)
  (case side5 => exact far_slice (IsS77.own_ne au.out aA.out (by decide)))
  rintro e cF ⟨rfl, hi, hb, hk⟩
  refine ⟨_, rfl, ?_⟩
  replace ab := Za (Zc hk (g' := ac) (o := .cells #[.int .i64 0, .slice none 0 0] 24 (0, 0)) (bQ ab) aj.out (by simp))
  replace af := Za (Zd (Zy (IsS77.apart (show IsS77 w0 _ g s0_0 aC aD from fh) (rQ af) (by decide)) hk (fun _ h => h.2)) (fun _ h => h.1))
  replace aa := Za (Zc hk (g' := ae) (o := .cells #[.int .i64 al, .slice bI am0.length aH] 24 (0, 0)) (bQ aa) ak.out (by simp))
  replace aA := Za (Zd (Zy (IsS77.apart (show IsS77 w0 _ g s0_0 aC aD from fh) (rQ aA) (by decide)) hk (fun _ h => h.2)) (fun _ h => h.1))
  replace HK := Za (Zb (fj) hk (.inl rfl))
  replace HB := Za (hb)
  replace au := Za (hi)
  (try clear hb)
  (try clear hb2)
  (try clear hk)
  (try clear hi)
  have dj : 0 ≤ (0 : Int) := (by omega)
  have dl : (0 : Int) < ((am0.length : Int) : Int) := oD
  have qi29 : (0 < am0.length) = True := eq_true (by omega)
  obtain ⟨az, eV, dm, dn, gl29, cl29, HG29⟩ := Kd.R_form af.out (by omega)
  (first | cases dm | (injection dm with ea_ en_ ec_; (first | subst ea_ | (injection ea_ with ea_; subst ea_)); subst ec_; clear en_))
  have GB29 := Za dn
  have GG29 := Za HG29
  clear dn gl29 HG29
  obtain ⟨aT, bh⟩ := Kd.R_celln 0 af.out (0 : Int) dj dl
  (try rw [show ((0 : Int)).toNat = 0 from rfl] at aT)
  (try simp only [Nat.reduceMul, ZT, ZU, ZR] at aT)
  (try rw [show ((0 : Int)).toNat = 0 from rfl] at bh)
  (try simp only [Nat.reduceMul, ZT, ZU, ZR] at bh)
  replace dj := eq_true dj
  replace dl := eq_true dl
  have HN0_go29 := Za (show g ≠ az from by have h_ := IsS77.own_ne au.out af.out (by decide); intro e_; exact h_ (by rw [e_]; rfl))
  have cQ := Kd.R_putn af.out (0 : Int) aE
  rw [← dh.out] at cQ
  have dV := Za cQ
  clear cQ
  refine hK.out _ _ ⟨(Ze aa.out 0).trans rfl, (Ze aa.out 1).trans rfl⟩ (fun hHeld => ?_)
  clear hK K
  refine nM ?_
  refine pure_ (i := 5) (N := some 31) (v := ?_) (a' := ?_) #[T,T,T,T,T,T,F] rfl rfl (by kernel_rfl) (fun _ _ _ h => h) (ZP ⟨by rfl, ?_⟩) ?_ ?_
  rotate_left
  ·intro w'
   go_simp
   with_reducible rfl
  rotate_left
  ·simp only [ZH, sA, sZ, sS, i64_w, i32_w]
   rfl
  refine last_ (i := 6) (N := none) #[T,T,T,T,T,T,T] rfl rfl (by kernel_rfl) (by decide) (fun K hK => ?_)
  refine skip_ (w1 := ?_) (by rfl) rfl ?_ ?_
  rotate_left
  ·go_simp
   rfl
  refine hK.out _ _ ?_
  clear hK K
  refine done_ (by kernel_rfl) ?_
  have n0_ : Zm (Kd.R (Zs .i64) 3 (cF.setCell ⟨az, 0, none⟩ (.int .i64 aE)) w.heap.size (fun k_ => nb (.slice cO a7.length cP) k_) (.slice (some ⟨az, 0, none⟩) am0.length aH) dg) := ⟨by (with_reducible repeat (first | apply qA | apply qN | apply qD)); exact Zd dV.out (fun _ hk => hk.2)⟩
  have n1_ : Zm (Kd.R (Zs .i64) 3 (cF.setCell ⟨az, 0, none⟩ (.int .i64 aE)) w.heap.size (fun k_ => nb (.slice (some ⟨az, 0, none⟩) am0.length aH) k_) (.slice cO a7.length cP) a7) := ⟨by (with_reducible repeat (first | apply qA | apply qN | apply qD)); exact Zd (Zh (p := ⟨az, 0, none⟩) (Zd aA.out (fun k_ hk => (⟨hk, fun e_ => hk.2 (by rw [e_]; rfl)⟩ : _ ∧ k_ ≠ az))) (fun _ hk => hk.2) (.int .i64 aE)) (fun _ hk => hk.1.2)⟩
  have n2_ : Zm ((cF.setCell ⟨az, 0, none⟩ (.int .i64 aE)).heap[ac]? = some (.cells #[.int .i64 0, .slice none 0 0] 24 (0, 0))) := ⟨by (with_reducible repeat (first | refine kN ?_ _ | refine kD ?_ | refine kA ?_ _)); refine Zz ?_ (by have h_ := Kd.R_ne af.out ab.out (by decide); intro e_; exact h_ (by rw [e_]; rfl)) _; (with_reducible repeat (first | refine kN ?_ _ | refine kD ?_ | refine kA ?_ _)); exact ab.out⟩
  have n3_ : Zm ((cF.setCell ⟨az, 0, none⟩ (.int .i64 aE)).heap[ae]? = some (.cells #[.int .i64 al, .slice (some ⟨az, 0, none⟩) am0.length aH] 24 (0, 0))) := ⟨by (with_reducible repeat (first | refine kN ?_ _ | refine kD ?_ | refine kA ?_ _)); refine Zz ?_ (by have h_ := Kd.R_ne af.out aa.out (by decide); intro e_; exact h_ (by rw [e_]; rfl)) _; (with_reducible repeat (first | refine kN ?_ _ | refine kD ?_ | refine kA ?_ _)); exact aa.out⟩
  have n4_ : Zm (IsS77 w0 (cF.setCell ⟨az, 0, none⟩ (.int .i64 aE)) g s0_0 cM cN) := ⟨fh⟩
  have n5_ : Zm (KeepBut w (cF.setCell ⟨az, 0, none⟩ (.int .i64 aE)) g none) := ⟨fj⟩
  have n6_ : Zm (ZO w0.heap.size w0 (cF.setCell ⟨az, 0, none⟩ (.int .i64 aE))) := ⟨fH⟩
  (try clear af)
  (try clear aA)
  (try clear ab)
  (try clear aa)
  (try clear au)
  (try clear HK)
  (try clear HB)
  generalize (cF.setCell ⟨az, 0, none⟩ (.int .i64 aE)) = ie at n0_ n1_ n2_ n3_ n4_ n5_ n6_ ⊢
  have af := n0_
  have aA := n1_
  have ab := n2_
  have aa := n3_
  have au := n4_
  have HK := n5_
  have HB := n6_
  clear n0_ n1_ n2_ n3_ n4_ n5_ n6_
  obtain ⟨bJ, bK, bL, bM⟩ := zZ aa
  have ek := aj.out
  have el := ap.out
  obtain ⟨bN, bO, bR, bS⟩ := zZ ab
  try go_wp2
  refine ZC (Zw rfl _ _ ac 24 #[.int .i64 al, .slice (some ⟨az, 0, none⟩) am0.length aH] (0, 0) _ rfl (by (with_reducible repeat (first | refine kN ?_ _ | refine kD ?_ | refine kA ?_ _)); refine Zo (cs := #[.int .i64 al, .slice none 0 0]) ?_ 1 _ rfl; (with_reducible repeat (first | refine kN ?_ _ | refine kD ?_ | refine kA ?_ _)); refine Zo (cs := #[.int .i64 0, .slice none 0 0]) ?_ 0 _ rfl; (with_reducible repeat (first | refine kN ?_ _ | refine kD ?_ | refine kA ?_ _)); exact ab.out) Tryz.underlying24 rfl (by kernel_rfl)) rfl ?_
  exact ⟨_, fR, by (with_reducible repeat (first | apply qA | apply qN | apply qD)); exact Zd (Zh (p := ⟨ac, 1, none⟩) (Zh (p := ⟨ac, 0, none⟩) (Zp af.out ab.out (by decide)) (fun _ hk => hk.2) (.int .i64 al)) (fun _ hk => hk.2) (.slice (some ⟨az, 0, none⟩) am0.length aH)) (fun _ hk => trivial), fh, fH, fj⟩
 rw [if_neg cA] at H
 have cB : (aq == 1) = false := beq_eq_false_iff_ne.mpr cA
 have cD : (aq != 1) = true := bne_iff_ne.mpr cA
 by_cases cG : aq = 2
 rotate_left
 ·rw [if_neg cG] at H
  have cH : (aq == 2) = false := beq_eq_false_iff_ne.mpr cG
  have cI : (aq != 2) = true := bne_iff_ne.mpr cG
  have en := Za H
  clear H
  go_enter Tryz.func70, Tryz.ntmps70
  go_upto_if 11 with (first | ((with_reducible refine ZE (N := 4) rfl ?_); refine xE (N := 4) (cs := #[.int .i64 0, .slice none 0 0]) (t := 24) ?_; intro ac hg ig ab hb; have aU := Za ((by rw [hg]; exact (Zq (w := w) (g := g) (row := none) (fj)) : w.heap.size ≤ ac)); have aW := Za ((ZB HW0.out (by rw [hg]; exact (Zq (w := w) (g := g) (row := none) (fj)) : w.heap.size ≤ ac) : w0.heap.size ≤ ac)); have ap := Za ((by rw [hg]; exact Zj (IsS77.lt (show IsS77 w0 _ g s0_0 s0_1 s0_2 from fh)) : g ≠ ac)); have aj := Za ((by rw [hg]; exact Zk (IsS77.lt (show IsS77 w0 _ g s0_0 s0_1 s0_2 from fh)) : ac ≠ g)); replace HK := Za (Zb (fj) (Zu hb g none) (.inl rfl)); replace HB := Za (Zv (fH) hb); replace au := Za (IsS77.below (fh) hb); clear hb hg) | ((with_reducible refine Zn (f := 93) rfl ?_); refine gL 8 Tryz.func93 #[.pointer (some ⟨g, 0, none⟩), .int .i64 a1] ?_; (with_reducible refine (fm.calls k g s0_0 s0_1 s0_2 a1 al am0 av aw w0 _ ?side1 ?side2 A3.out).mono ?_); (case side1 => exact fh); (case side2 => exact fH); rintro e ii ⟨cL, rfl, bf, hi, hb, hk⟩; refine ⟨_, rfl, ?_⟩; have af := Za (ZI bf (Zq (w := w) (g := g) (row := none) (fj))); replace ab := Za (Zc hk (g' := ac) (o := .cells #[.int .i64 0, .slice none 0 0] 24 (0, 0)) ab.out aj.out (by simp)); replace HK := Za (Zb (fj) hk (.inl rfl)); replace HB := Za (hb); replace au := Za (hi); (try clear hb); (try clear bf)) | ((with_reducible refine ZE (N := 5) rfl ?_); refine xE (N := 5) (cs := #[.int .i64 0, .slice none 0 0]) (t := 24) ?_; intro ae hg ij aa hb; have aV := Za ((by rw [hg]; exact (Zq (w := w) (g := g) (row := none) (fj)) : w.heap.size ≤ ae)); have aX := Za ((ZB HW0.out (by rw [hg]; exact (Zq (w := w) (g := g) (row := none) (fj)) : w.heap.size ≤ ae) : w0.heap.size ≤ ae)); have ag := nL hg (ZA ab.out); have an0 := nG hg (ZA ab.out); have ao := Za ((by rw [hg]; exact Zj (IsS77.lt (show IsS77 w0 _ g s0_0 av aw from fh)) : g ≠ ae)); have ak := Za ((by rw [hg]; exact Zk (IsS77.lt (show IsS77 w0 _ g s0_0 av aw from fh)) : ae ≠ g)); replace af := rB af hb; replace ab := bB ab hb; replace HK := Za (Zb (fj) (Zu hb g none) (.inl rfl)); replace HB := Za (Zv (fH) hb); replace au := Za (IsS77.below (fh) hb); clear hb hg; have ep := an0.out; have eq := ag.out; have er := ak.out; have es := ao.out; (try clear bT bU bV bW bX bY bZ b5); obtain ⟨b6, b7, b8, b9⟩ := zZ aa; obtain ⟨ca, cb, dW⟩ := Zx af.out; subst dW) | ((with_reducible refine Zn (f := 72) rfl ?_); refine gL 10 Tryz.func72 #[.pointer (some ⟨g, 0, none⟩), .int .i64 16] ?_; (with_reducible refine (fp.calls g s0_0 av aw 16 aq aC aD w0 _ ?side1 ?side2 A4.out).mono ?_); (case side1 => exact fh); (case side2 => exact fH); rintro e ik ⟨rfl, hi, hb, hk⟩; refine ⟨_, rfl, ?_⟩; replace ab := Za (Zc hk (g' := ac) (o := .cells #[.int .i64 0, .slice none 0 0] 24 (0, 0)) (by refine Zz ?_ ag.out _; refine Zz ?_ ag.out _; exact ab.out) aj.out (by simp)); replace af := Za (Zd (Zy (IsS77.apart (show IsS77 w0 _ g s0_0 av aw from fh) (by exact (Zd (Zh (p := ⟨ae, 1, none⟩) (Zh (p := ⟨ae, 0, none⟩) (Zp af.out aa.out (by decide)) (fun _ hk => hk.2) (.int .i64 al)) (fun _ hk => hk.2) (.slice ca am0.length cb)) (fun _ h_ => h_.1))) (by decide)) hk (fun _ h => h.2)) (fun _ h => h.1)); replace aa := Za (Zc hk (g' := ae) (o := .cells #[.int .i64 al, .slice ca am0.length cb] 24 (0, 0)) (by refine Zo (cs := #[.int .i64 al, .slice none 0 0]) ?_ 1 _ rfl; refine Zo (cs := #[.int .i64 0, .slice none 0 0]) ?_ 0 _ rfl; exact aa.out) ak.out (by simp)); replace HK := Za (Zb (fj) hk (.inl rfl)); replace HB := Za (hb); replace au := Za (hi); (try clear hb); have et := aj.out; have eu := ap.out; (try clear b6 b7 b8 b9); obtain ⟨dA, dB, dC, dD⟩ := zZ ab))
  have H := en.out
  clear en
  by_cases cR : aq = 3
  ·rw [if_pos cR] at H
   have bi : (aq == 3) = true := beq_iff_eq.mpr cR
   have bj : (aq != 3) = false := bne_eq_false_iff_eq.mpr cR
   clear cR
   simp only [Zf, Zl] at H
   obtain ⟨rfl, rfl, rfl, rfl⟩ := H
   (try rw [bi])
   (try rw [bj])
   go_wp2_with (fail)
   refine ZC (Zw rfl _ _ ac 24 #[.int .i64 1, .slice none 0 0] (0, 0) _ rfl (by refine Zo (cs := #[.int .i64 1, .slice none 0 0]) ?_ 1 _ rfl; refine Zo (cs := #[.int .i64 0, .slice none 0 0]) ?_ 0 _ rfl; exact ab.out) Tryz.underlying24 rfl (by kernel_rfl)) rfl ?_
   exact ⟨_, fR, by first | exact Kd.R_nil _ _ _ _ _ | exact Kd.N_nil _ _ _ _ _ | exact Kd.V_nil _ _ _ _ _ | exact Kd.Q_nil _ _ _ _ _ | exact Kd.S_nil _ _ _ _ _, fh, fH, fj⟩
  rw [if_neg cR] at H
  have bi : (aq == 3) = false := beq_eq_false_iff_ne.mpr cR
  have bj : (aq != 3) = true := bne_iff_ne.mpr cR
  simp only [Zf, Zl] at H
  obtain ⟨rfl, rfl, rfl, rfl⟩ := H
  (try rw [bi])
  (try rw [bj])
  obtain ⟨dE, dF, dG, dH⟩ := zZ aa
  have ey := aj.out
  have ez := ap.out
  obtain ⟨dI, dJ, dK, dL⟩ := zZ ab
  go_wp2_with (fail)
  refine ZC (Zw rfl _ _ ac 24 #[.int .i64 al, .slice ca am0.length cb] (0, 0) _ rfl (by refine Zo (cs := #[.int .i64 al, .slice none 0 0]) ?_ 1 _ rfl; refine Zo (cs := #[.int .i64 0, .slice none 0 0]) ?_ 0 _ rfl; exact ab.out) Tryz.underlying24 rfl (by kernel_rfl)) rfl ?_
  exact ⟨_, fR, by exact Zd (Zh (p := ⟨ac, 1, none⟩) (Zh (p := ⟨ac, 0, none⟩) (Zp af.out ab.out (by decide)) (fun _ hk => hk.2) (.int .i64 al)) (fun _ hk => hk.2) (.slice ca am0.length cb)) (fun _ hk => trivial), fh, fH, fj⟩
 rw [if_pos cG] at H
 have cH : (aq == 2) = true := beq_iff_eq.mpr cG
 have cI : (aq != 2) = false := bne_eq_false_iff_eq.mpr cG
 clear cG
 have H' := Za H
 clear H
 go_enter Tryz.func70, Tryz.ntmps70
 go_wp2_with (first | ((with_reducible refine ZE (N := 4) rfl ?_); refine xE (N := 4) (cs := #[.int .i64 0, .slice none 0 0]) (t := 24) ?_; intro ac hg il ab hb; have aU := Za ((by rw [hg]; exact (Zq (w := w) (g := g) (row := none) (fj)) : w.heap.size ≤ ac)); have aW := Za ((ZB HW0.out (by rw [hg]; exact (Zq (w := w) (g := g) (row := none) (fj)) : w.heap.size ≤ ac) : w0.heap.size ≤ ac)); have ap := Za ((by rw [hg]; exact Zj (IsS77.lt (show IsS77 w0 _ g s0_0 s0_1 s0_2 from fh)) : g ≠ ac)); have aj := Za ((by rw [hg]; exact Zk (IsS77.lt (show IsS77 w0 _ g s0_0 s0_1 s0_2 from fh)) : ac ≠ g)); replace HK := Za (Zb (fj) (Zu hb g none) (.inl rfl)); replace HB := Za (Zv (fH) hb); replace au := Za (IsS77.below (fh) hb); clear hb hg) | ((with_reducible refine Zn (f := 93) rfl ?_); refine gL 8 Tryz.func93 #[.pointer (some ⟨g, 0, none⟩), .int .i64 a1] ?_; (with_reducible refine (fm.calls k g s0_0 s0_1 s0_2 a1 al am0 av aw w0 _ ?side1 ?side2 A3.out).mono ?_); (case side1 => exact fh); (case side2 => exact fH); rintro e im ⟨cL, rfl, bf, hi, hb, hk⟩; refine ⟨_, rfl, ?_⟩; have af := Za (ZI bf (Zq (w := w) (g := g) (row := none) (fj))); replace ab := Za (Zc hk (g' := ac) (o := .cells #[.int .i64 0, .slice none 0 0] 24 (0, 0)) (bQ ab) aj.out (by simp)); replace HK := Za (Zb (fj) hk (.inl rfl)); replace HB := Za (hb); replace au := Za (hi); (try clear hb); (try clear bf)) | ((with_reducible refine ZE (N := 5) rfl ?_); refine xE (N := 5) (cs := #[.int .i64 0, .slice none 0 0]) (t := 24) ?_; intro ae hg io aa hb; have aV := Za ((by rw [hg]; exact (Zq (w := w) (g := g) (row := none) (fj)) : w.heap.size ≤ ae)); have aX := Za ((ZB HW0.out (by rw [hg]; exact (Zq (w := w) (g := g) (row := none) (fj)) : w.heap.size ≤ ae) : w0.heap.size ≤ ae)); have ag := Za ((by rw [hg]; exact Zj (ZA (g := ac) (o := .cells #[.int .i64 0, .slice none 0 0] 24 (0, 0)) (bQ ab)) : ac ≠ ae)); have an0 := Za ((by rw [hg]; exact Zk (ZA (g := ac) (o := .cells #[.int .i64 0, .slice none 0 0] 24 (0, 0)) (bQ ab)) : ae ≠ ac)); have ao := Za ((by rw [hg]; exact Zj (IsS77.lt (show IsS77 w0 _ g s0_0 av aw from fh)) : g ≠ ae)); have ak := Za ((by rw [hg]; exact Zk (IsS77.lt (show IsS77 w0 _ g s0_0 av aw from fh)) : ae ≠ g)); replace af := rP af hb; replace ab := bP ab hb; replace HK := Za (Zb (fj) (Zu hb g none) (.inl rfl)); replace HB := Za (Zv (fH) hb); replace au := Za (IsS77.below (fh) hb); clear hb hg; have eA := an0.out; have eB := ag.out; have eC := ak.out; have eD := ao.out; (try clear bJ bK bL bM bN bO bR bS); obtain ⟨cd, ce, cg, ch⟩ := zZ aa; obtain ⟨cS, cT, dX⟩ := Zx af.out; subst dX) | ((with_reducible refine Zn (f := 72) rfl ?_); refine gL 10 Tryz.func72 #[.pointer (some ⟨g, 0, none⟩), .int .i64 16] ?_; (with_reducible refine (fp.calls g s0_0 av aw 16 aq aC aD w0 _ ?side1 ?side2 A4.out).mono ?_); (case side1 => exact fh); (case side2 => exact fH); rintro e ip ⟨rfl, hi, hb, hk⟩; refine ⟨_, rfl, ?_⟩; replace ab := Za (Zc hk (g' := ac) (o := .cells #[.int .i64 0, .slice none 0 0] 24 (0, 0)) (by (with_reducible repeat (first | refine kN ?_ _ | refine kD ?_ | refine kA ?_ _)); refine Zz ?_ ag.out _; (with_reducible repeat (first | refine kN ?_ _ | refine kD ?_ | refine kA ?_ _)); refine Zz ?_ ag.out _; (with_reducible repeat (first | refine kN ?_ _ | refine kD ?_ | refine kA ?_ _)); exact ab.out) aj.out (by simp)); replace af := Za (Zd (Zy (IsS77.apart (show IsS77 w0 _ g s0_0 av aw from fh) (by (with_reducible repeat (first | apply qA | apply qN | apply qD)); exact (Zd (Zh (p := ⟨ae, 1, none⟩) (Zh (p := ⟨ae, 0, none⟩) (Zp af.out aa.out (by decide)) (fun _ hk => hk.2) (.int .i64 al)) (fun _ hk => hk.2) (.slice cS am0.length cT)) (fun _ h_ => h_.1))) (by decide)) hk (fun _ h => h.2)) (fun _ h => h.1)); replace aa := Za (Zc hk (g' := ae) (o := .cells #[.int .i64 al, .slice cS am0.length cT] 24 (0, 0)) (by (with_reducible repeat (first | refine kN ?_ _ | refine kD ?_ | refine kA ?_ _)); refine Zo (cs := #[.int .i64 al, .slice none 0 0]) ?_ 1 _ rfl; (with_reducible repeat (first | refine kN ?_ _ | refine kD ?_ | refine kA ?_ _)); refine Zo (cs := #[.int .i64 0, .slice none 0 0]) ?_ 0 _ rfl; (with_reducible repeat (first | refine kN ?_ _ | refine kD ?_ | refine kA ?_ _)); exact aa.out) ak.out (by simp)); replace HK := Za (Zb (fj) hk (.inl rfl)); replace HB := Za (hb); replace au := Za (hi); (try clear hb)))
 go_loopg [] k (fun kq w' => ∃ (ax : Int) (ay : Int) (ai : List Int) (u109001 : ZW), Zm (ft.l0 kq s0_0 ax ay al ai = some (r1, r2, r3, r4)) ∧ Zm (kq ≤ k) ∧ Zm (Kd.R (Zs .i64) 3 w' w.heap.size (fun _ => True) u109001 ai) ∧ Zm (w'.heap[ac]? = some (.cells #[.int .i64 0, (.slice none 0 0)] 24 (0, 0))) ∧ Zm (w'.heap[ae]? = some (.cells #[.int .i64 al, u109001] 24 (0, 0))) ∧ Zm (IsS77 w0 w' g s0_0 ax ay) ∧ Zm (KeepBut w w' g none) ∧ Zm (ZO w0.heap.size w0 w'))
 case atStart => exact ⟨(aC), (aD), (am0), (.slice cS am0.length cT), H', ⟨ZQ _⟩, ⟨rQ af⟩, ⟨bQ ab⟩, ⟨bQ aa⟩, ⟨fh⟩, ⟨fj⟩, ⟨fH⟩⟩
 case round =>
  clear H'
  (try clear c1); (try clear c2); (try clear p2); (try clear q2); (try clear iq); (try clear qi2); (try clear ir); (try clear c3); (try clear c4); (try clear c5); (try clear cV); (try clear cW); (try clear p6); (try clear c7); (try clear c9); (try clear iu); (try clear iv); (try clear iw); (try clear cA); (try clear cB); (try clear cD); (try clear db); (try clear dc); (try clear de); (try clear dj); (try clear dl); (try clear eW); (try clear qi29); (try clear eX); (try clear ix); (try clear iy); (try clear iz); (try clear cG); (try clear cH); (try clear cI); (try clear iA); (try clear iB); (try clear iC); (try clear cd); (try clear ce); (try clear cg); (try clear ch); (try clear aT); (try clear dj); (try clear dl)
  obtain ⟨ax, ay, ai, u109001, HA, HK1, ah, ab, aa, au, HK, HB⟩ := hrel
  cases gk with
  | zero => exact absurd HA.out (by simp [ft.l0])
  | succ k1 =>
   have H := HA.out
   clear HA
   simp only [ft.l0] at H
   replace H := oB H
   obtain ⟨⟨ci, cj, ck⟩, dp, H⟩ := H
   (try dsimp only at H)
   have eE := Za dp
   clear dp
   by_cases cU : (ai.length : Int) < (Zg (9 + ci))
   rotate_left
   ·rw [if_neg cU] at H
    have dq : decide ((ai.length : Int) < (Zg (9 + ci))) = false := decide_eq_false cU
    clear cU
    simp only [Zf, Zl] at H
    obtain ⟨rfl, rfl, rfl, rfl⟩ := H
    try go_wp2
    replace ah := rD ah
    replace ab := bD ab
    replace aa := bD aa
    replace au := Za (IsS77.drew au.out)
    replace HK := Za (ZF HK.out)
    replace HB := Za (below_drew1 HB.out)
    obtain ⟨cl, cm, dr⟩ := Zx ah.out
    (first | subst dr | (injection dr with f1_ f2_ f3_; have f4_ := f1_.symm; have f5_ := f3_.symm; clear f1_ f2_ f3_; subst f4_; subst f5_))
    refine start_ (n := 7) (S := fun w' => w'.cell? ⟨ae, 0, none⟩ = some (.int .i64 al) ∧ w'.cell? ⟨ae, 1, none⟩ = some (.slice cl ai.length cm)) (ds := []) #[F,F,F,F,F,F,F] (by kernel_rfl) rfl rfl ⟨(Ze aa.out 0).trans rfl, (Ze aa.out 1).trans rfl⟩ (fun hHeld => ?_)
    (try clear cn cp cq cr)
    generalize wr.drew = iD at ah ab aa au HK HB hHeld ⊢
    refine pure_ (i := 0) (N := some 34) (v := ?_) (a' := ?_) #[T,F,F,F,F,F,F] rfl rfl (by kernel_rfl) (fun _ _ _ h => h) (ZP ⟨by rfl, ?_⟩) ?_ ?_
    rotate_left
    ·intro w'
     go_simp
     with_reducible rfl
    rotate_left
    ·simp only [ZH, sA, sZ, sS, i64_w, i32_w]
     rfl
    refine pure_ (i := 3) (N := some 37) (v := ?_) (a' := ?_) #[T,F,F,T,F,F,F] rfl rfl (by kernel_rfl) (fun _ _ _ h => h) (ZP ⟨by rfl, ?_⟩) ?_ ?_
    rotate_left
    ·intro w'
     go_simp
     with_reducible rfl
    rotate_left
    ·simp only [ZH, sA, sZ, sS, i64_w, i32_w]
     rfl
    refine take_ (i := 1) (N := some 35) (v := ?_) (a' := ?_) #[T,T,F,T,F,F,F] rfl rfl (by kernel_rfl) (fun _ _ _ h => h) (ZP ⟨by rfl, ?_⟩) hHeld ?_ ?_
    rotate_left
    ·rintro w' ⟨s0, s1⟩
     go_simp
     with_reducible rfl
    rotate_left
    ·simp only [ZH, sA, sZ, sS, i64_w, i32_w]
     rfl
    refine pure_ (i := 2) (N := some 36) (v := ?_) (a' := ?_) #[T,T,T,T,F,F,F] rfl rfl (by kernel_rfl) (fun _ _ _ h => h) (ZP ⟨by rfl, ?_⟩) ?_ ?_
    rotate_left
    ·intro w'
     go_simp
     with_reducible rfl
    rotate_left
    ·simp only [ZH, sA, sZ, sS, i64_w, i32_w]
     rfl
    refine one_ (i := 4) (N := some 38) #[T,T,T,T,T,F,F] rfl rfl (by kernel_rfl) (by decide) (fun K hK => ?_)
    refine gE Tryz.func72 #[.pointer (some ⟨g, 0, none⟩), .int .i64 2] ?_
    with_reducible refine (fp.calls g s0_0 ax ay 2 ci cj ck w0 _ ?side1 ?side2 eE.out).mono ?_
    (case side1 => exact fh)
    (case side2 => exact fH)
    rintro e iE ⟨rfl, hi, hb, hk⟩
    refine ⟨_, rfl, ?_⟩
    replace ah := Za (Zd (Zy (IsS77.apart (show IsS77 w0 _ g s0_0 ax ay from fh) ah.out (by decide)) hk (fun _ h => h.2)) (fun _ h => h.1))
    replace ab := Za (Zc hk (g' := ac) (o := .cells #[.int .i64 0, .slice none 0 0] 24 (0, 0)) ab.out aj.out (by simp))
    replace aa := Za (Zc hk (g' := ae) (o := .cells #[.int .i64 al, .slice cl ai.length cm] 24 (0, 0)) aa.out ak.out (by simp))
    replace HK := Za (Zb (fj) hk (.inl rfl))
    replace HB := Za (hb)
    replace au := Za (hi)
    (try clear hb)
    (try clear hb2)
    (try clear hk)
    (try clear hi)
    refine hK.out _ _ ⟨(Ze aa.out 0).trans rfl, (Ze aa.out 1).trans rfl⟩ (fun hHeld => ?_)
    clear hK K
    refine nM ?_
    refine pure_ (i := 5) (N := some 39) (v := ?_) (a' := ?_) #[T,T,T,T,T,T,F] rfl rfl (by kernel_rfl) (fun _ _ _ h => h) (ZP ⟨by rfl, ?_⟩) ?_ ?_
    rotate_left
    ·intro w'
     go_simp
     with_reducible rfl
    rotate_left
    ·simp only [ZH, sA, sZ, sS, i64_w, i32_w]
     rfl
    refine pure_ (i := 6) (N := some 40) (v := ?_) (a' := ?_) #[T,T,T,T,T,T,T] rfl rfl (by kernel_rfl) (fun _ _ _ h => h) (ZP ⟨by rfl, ?_⟩) ?_ ?_
    rotate_left
    ·intro w'
     go_simp
     with_reducible rfl
    rotate_left
    ·simp only [ZH, sA, sZ, sS, i64_w, i32_w]
     rfl
    refine done_ (by kernel_rfl) ?_
    have eF := an0.out
    have eG := ag.out
    have eH := ak.out
    have eI := ao.out
    obtain ⟨bT, bU, bV, bW⟩ := zZ aa
    have eJ := aj.out
    have eK := ap.out
    obtain ⟨bX, bY, bZ, b5⟩ := zZ ab
    try go_wp2
    refine ZC (Zw rfl _ _ ac 24 #[.int .i64 al, .slice cl ai.length cm] (0, 0) _ rfl (by refine Zo (cs := #[.int .i64 al, .slice none 0 0]) ?_ 1 _ rfl; refine Zo (cs := #[.int .i64 0, .slice none 0 0]) ?_ 0 _ rfl; exact ab.out) Tryz.underlying24 rfl (by kernel_rfl)) rfl ?_
    exact ⟨_, fR, by exact Zd (Zh (p := ⟨ac, 1, none⟩) (Zh (p := ⟨ac, 0, none⟩) (Zp ah.out ab.out (by decide)) (fun _ hk => hk.2) (.int .i64 al)) (fun _ hk => hk.2) (.slice cl ai.length cm)) (fun _ hk => trivial), fh, fH, fj⟩
   rw [if_pos cU] at H
   have dq := decide_eq_true cU
   clear cU
   by_cases dM : ai.length < 17592186044416
   rotate_left
   ·rw [if_neg dM] at H
    exact absurd H (by simp)
   rw [if_pos dM] at H
   have dt := Za dM
   clear dM
   obtain ⟨ct, aQ⟩ : ∃ y_ : List Int, y_ = (ai ++ [1]) := ⟨_, rfl⟩
   replace H : (ft.l0 k1 s0_0 cj ck al ct) = some (r1, r2, r3, r4) := by first | (rw [aQ]; with_reducible exact H) | (have H2_ := (Zr _ _).symm.trans H; rw [aQ]; with_reducible exact H2_) | (have H2_ := (Zr _ _).symm.trans H; with_reducible exact H2_) | with_reducible exact H | (rw [aQ]; exact H) | exact H
   have du := Za aQ
   clear aQ
   have H' := Za H
   clear H
   try go_wp2
   replace ah := rD ah
   replace ab := bD ab
   replace aa := bD aa
   replace au := Za (IsS77.drew au.out)
   replace HK := Za (ZF HK.out)
   replace HB := Za (below_drew1 HB.out)
   obtain ⟨bl, bm, dv⟩ := Zx ah.out
   (first | subst dv | (injection dv with f1_ f2_ f3_; have f4_ := f1_.symm; have f5_ := f3_.symm; clear f1_ f2_ f3_; subst f4_; subst f5_))
   refine start_ (n := 7) (S := fun w' => w'.cell? ⟨ae, 0, none⟩ = some (.int .i64 al) ∧ w'.cell? ⟨ae, 1, none⟩ = some (.slice bl ai.length bm)) (ds := []) #[F,F,F,F,F,F,F] (by kernel_rfl) rfl rfl ⟨(Ze aa.out 0).trans rfl, (Ze aa.out 1).trans rfl⟩ (fun hHeld => ?_)
   generalize wr.drew = iG at ah ab aa au HK HB hHeld ⊢
   refine pure_ (i := 0) (N := some 34) (v := ?_) (a' := ?_) #[T,F,F,F,F,F,F] rfl rfl (by kernel_rfl) (fun _ _ _ h => h) (ZP ⟨by rfl, ?_⟩) ?_ ?_
   rotate_left
   ·intro w'
    go_simp
    with_reducible rfl
   rotate_left
   ·simp only [ZH, sA, sZ, sS, i64_w, i32_w]
    rfl
   refine pure_ (i := 3) (N := some 37) (v := ?_) (a' := ?_) #[T,F,F,T,F,F,F] rfl rfl (by kernel_rfl) (fun _ _ _ h => h) (ZP ⟨by rfl, ?_⟩) ?_ ?_
   rotate_left
   ·intro w'
    go_simp
    with_reducible rfl
   rotate_left
   ·simp only [ZH, sA, sZ, sS, i64_w, i32_w]
    rfl
   refine take_ (i := 1) (N := some 35) (v := ?_) (a' := ?_) #[T,T,F,T,F,F,F] rfl rfl (by kernel_rfl) (fun _ _ _ h => h) (ZP ⟨by rfl, ?_⟩) hHeld ?_ ?_
   rotate_left
   ·rintro w' ⟨s0, s1⟩
    go_simp
    with_reducible rfl
   rotate_left
   ·simp only [ZH, sA, sZ, sS, i64_w, i32_w]
    rfl
   refine pure_ (i := 2) (N := some 36) (v := ?_) (a' := ?_) #[T,T,T,T,F,F,F] rfl rfl (by kernel_rfl) (fun _ _ _ h => h) (ZP ⟨by rfl, ?_⟩) ?_ ?_
   rotate_left
   ·intro w'
    go_simp
    with_reducible rfl
   rotate_left
   ·simp only [ZH, sA, sZ, sS, i64_w, i32_w]
    rfl
   refine one_ (i := 4) (N := some 38) #[T,T,T,T,T,F,F] rfl rfl (by kernel_rfl) (by decide) (fun K hK => ?_)
   refine gE Tryz.func72 #[.pointer (some ⟨g, 0, none⟩), .int .i64 2] ?_
   with_reducible refine (fp.calls g s0_0 ax ay 2 ci cj ck w0 _ ?side1 ?side2 eE.out).mono ?_
   (case side1 => exact fh)
   (case side2 => exact fH)
   rintro e iH ⟨rfl, hi, hb, hk⟩
   refine ⟨_, rfl, ?_⟩
   replace ah := Za (Zd (Zy (IsS77.apart (show IsS77 w0 _ g s0_0 ax ay from fh) ah.out (by decide)) hk (fun _ h => h.2)) (fun _ h => h.1))
   replace ab := Za (Zc hk (g' := ac) (o := .cells #[.int .i64 0, .slice none 0 0] 24 (0, 0)) ab.out aj.out (by simp))
   replace aa := Za (Zc hk (g' := ae) (o := .cells #[.int .i64 al, .slice bl ai.length bm] 24 (0, 0)) aa.out ak.out (by simp))
   replace HK := Za (Zb (fj) hk (.inl rfl))
   replace HB := Za (hb)
   replace au := Za (hi)
   (try clear hb)
   (try clear hb2)
   (try clear hk)
   (try clear hi)
   refine hK.out _ _ ⟨(Ze aa.out 0).trans rfl, (Ze aa.out 1).trans rfl⟩ (fun hHeld => ?_)
   clear hK K
   refine nM ?_
   refine pure_ (i := 5) (N := some 39) (v := ?_) (a' := ?_) #[T,T,T,T,T,T,F] rfl rfl (by kernel_rfl) (fun _ _ _ h => h) (ZP ⟨by rfl, ?_⟩) ?_ ?_
   rotate_left
   ·intro w'
    go_simp
    with_reducible rfl
   rotate_left
   ·simp only [ZH, sA, sZ, sS, i64_w, i32_w]
    rfl
   refine pure_ (i := 6) (N := some 40) (v := ?_) (a' := ?_) #[T,T,T,T,T,T,T] rfl rfl (by kernel_rfl) (fun _ _ _ h => h) (ZP ⟨by rfl, ?_⟩) ?_ ?_
   rotate_left
   ·intro w'
    go_simp
    with_reducible rfl
   rotate_left
   ·simp only [ZH, sA, sZ, sS, i64_w, i32_w]
    rfl
   refine done_ (by kernel_rfl) ?_
   have eL := an0.out
   have eM := ag.out
   have eN := ak.out
   have eO := ao.out
   obtain ⟨cu, cv, cw, cy⟩ := zZ aa
   try go_wp2_with (first | ((with_reducible refine gate_builtin (b := .append) (xs := #[.tmp 42, .tmp 43]) rfl ?_); at_builtin; refine Kd.R_append (Zs .i64) w.heap.size rfl (.tmp 42) (.tmp 43) 22 3 (.int .i64 0) 8 rfl Tryz.underlying22 info3 rfl (by decide) (by omega) (.slice bl ai.length bm) ai 1 [.int .i64 1] (fun _ => True) (fun _ => False) rfl rfl ?aP (fun _ hk => hk.elim) ?aF ?aO (ZN _ _) ?aS ?aL ?_; (case aP => exact rfl); (case aF => exact (fun _ _ => trivial)); (case aO => exact ah.out); (case aS => exact (Zq (w := w) (g := g) (row := none) (fj))); (case aL => have := dt.out; omega); intro eY iI ho hb hg hat; rw [← du.out] at ho; have cJ := Za (ho); replace ab := Za (blk_grown (g := ac) (o := .cells #[.int .i64 0, .slice none 0 0] 24 (0, 0)) ab.out hg (Kd.R_ne ah.out ab.out (by decide))); replace aa := Za (blk_grown (g := ae) (o := .cells #[.int .i64 al, .slice bl ai.length bm] 24 (0, 0)) aa.out hg (Kd.R_ne ah.out aa.out (by decide))); replace HB := Za (below_weaken (fH) HL.out hb); replace au := Za (IsS77.grown (fh) hg (IsS77.own_ne au.out ah.out (by decide))); replace HK := Za (Zb (fj) (KeepBut.of_grown hg g) (Kd.R_base2 ah.out)); clear ho hb hg hat; obtain ⟨dw, dx, dY⟩ := Zx cJ.out; subst dY; (try clear cu cv cw cy); obtain ⟨cn, cp, cq, cr⟩ := zZ aa))
   go_roundg k1
   case measure => have := HK1.out; omega
   case rel => exact ⟨(cj), (ck), (ct), (.slice dw ct.length dx), H', ⟨by have := HK1.out; omega⟩, ⟨by exact Zd (Zh (p := ⟨ae, 1, none⟩) (Zp cJ.out aa.out (by decide)) (fun _ hk => hk.2) (.slice dw ct.length dx)) (fun _ hk => trivial)⟩, ⟨by refine Zz ?_ ag.out _; exact ab.out⟩, ⟨by refine Zo (cs := #[.int .i64 al, .slice bl ai.length bm]) ?_ 1 _ rfl; exact aa.out⟩, ⟨fh⟩, ⟨fj⟩, ⟨fH⟩⟩
end Go.Proofs.YtaambkdiokbdgabGreat.Q
namespace Go.Proofs.YtaambkdiokbdgabGreat.Q
open Go.RowKit Go.Proofs.YtaambkdiokbdgabGreatX Go.Proofs.YtaambkdiokbdgabGreatY Go.Proofs.YtaambkdiokbdgabGreatW.PrintWords Go.Proofs.YtaambkdiokbdgabGreatW.PrintLast Go.Proofs.YtaambkdiokbdgabGreatW.PrintMore
attribute [local go_sem] max2_int min2_int max_two min_two max_three min_three max_four min_four   -- for this text's walks alone
set_option linter.unusedVariables false
set_option linter.unusedSimpArgs false
def gK.f (k : Nat) (l0 : List Int) : Option (Int × List Int × Int) := (ft.f k l0 0 0 5).bind fun aa => ((gq.f l0 aa.2.2.1 aa.2.2.2 (([1, 2, 3, 7, 0, (-1), 1000, 1001, 150] : List Int))).bind fun ab => (some (aa.1, aa.2.1, ab.1)))
theorem hU {p : Prop} (h : p := by repeat (first | (with_reducible first | exact ae.out | apply IsS77.alloc | apply IsS77.drewN | apply IsS77.drew | apply IsS77.set_1 | apply IsS77.set_2 | refine IsS77.far ?_ ai.out _) | exact ae.out)) : p := h
theorem g5 {p : Prop} (h : p := by repeat (first | (with_reducible first | exact HB.out | apply ba | apply bd | apply be | refine bs ?_ (IsS77.ge ae.out) | refine bs ?_ av.out) | exact HB.out)) : p := h
theorem gK.calls (k : Nat) (A0 : Option Addr) (c0 : Nat) (l0 : List Int) (r1 : Int) (r2 : List Int) (r3 : Int) (w : ZJ) (hr0 : Kd.C (Zs .u8) w A0 l0.length l0) (hc0 : l0.length ≤ c0) (h : gK.f k l0 = some (r1, r2, r3)) :
  ZX Tryz.prog 31 #[.slice A0 l0.length c0] w fun e w' => ∃ v1_ : ZW, e = .returned (.tuple #[.agg #[.int .i64 r1, v1_], .int .i64 r3]) ∧ Kd.R (Zs .i64) 3 w' w.heap.size (fun _ => True) v1_ r2 ∧ ZO w.heap.size w w' := by
 have hu24 := Tryz.underlying24
 have hu77 := Tryz.underlying77
 have aW := Za hr0
 have a8 := Za hc0
 clear hr0 hc0
 have HB := Za (ZN w.heap.size w)
 have H := h
 unfold gK.f at H
 clear h
 replace H := oB H
 obtain ⟨⟨ak, al, am0, an0⟩, aI, H⟩ := H
 replace H : ((gq.f l0 am0 an0 (([1, 2, 3, 7, 0, (-1), 1000, 1001, 150] : List Int))).bind fun ao => (some (ak, al, ao.1))) = some (r1, r2, r3) := H
 have A2 := Za aI
 clear aI
 obtain ⟨aq, aj⟩ : ∃ y_ : List Int, y_ = (([1, 2, 3, 7, 0, (-1), 1000, 1001, 150] : List Int)) := ⟨_, rfl⟩
 replace H : ((gq.f l0 am0 an0 aq).bind fun ao => (some (ak, al, ao.1))) = some (r1, r2, r3) := by first | (rw [aj]; with_reducible exact H) | (have H2_ := (Zr _ _).symm.trans H; rw [aj]; with_reducible exact H2_) | (have H2_ := (Zr _ _).symm.trans H; with_reducible exact H2_) | with_reducible exact H | (rw [aj]; exact H) | exact H
 have ap := Za aj
 clear aj
 replace H := oB H
 obtain ⟨⟨aw, aE, aG⟩, aJ, H⟩ := H
 replace H : (some (ak, al, aw)) = some (r1, r2, r3) := H
 have A3 := Za aJ
 clear aJ
 simp only [Zf, Zl] at H
 obtain ⟨rfl, rfl, rfl⟩ := H
 go_enter Tryz.func31, Tryz.ntmps31
 go_wp2_with (first | ((with_reducible refine ZE (N := 2) rfl ?_); refine box_event ?hg (N := 2) ?hd (cs := #[.int .i64 0, .slice none 0 0]) (t := 24) ?hr ?_; (case hd => rfl); (case hg => rfl); (case hr => first | (go_simp; done) | (go_simp; rfl)); intro ab hg w4 hbox hb; have n0_ := sQ hb; have n1_ := Za (hbox); have n2_ := Za ((by rw [hg]; exact (Zi (wB)) : w.heap.size ≤ ab)); have n3_ := Za ((by rw [hg]; exact (Zi (wB)) : w.heap.size ≤ ab)); clear HB; have HB := n0_; have aa := n1_; have aK := n2_; have av := n3_; clear n0_ n1_ n2_ n3_; clear hb hbox hg) | ((with_reducible refine ZE (N := 7) rfl ?_); refine box_event ?hg (N := 7) ?hd (cs := #[.slice A0 l0.length c0, .int .i64 0, .int .u64 0]) (t := 77) ?hr ?_; (case hd => rfl); (case hg => rfl); (case hr => first | (go_simp; done) | (go_simp; rfl)); intro ac hg w5 hbox hb; have n0_ := bP aa hb; have n1_ := sQ hb; have n2_ := Za (hbox); have n3_ := Za ((by rw [hg]; exact (Zi (wB)) : w.heap.size ≤ ac)); have n4_ := Za ((by rw [hg]; exact (Zi (wB)) : w.heap.size ≤ ac)); have n5_ := Za ((by rw [hg]; exact Zj (ZA (g := ab) (o := .cells #[.int .i64 0, .slice none 0 0] 24 (0, 0)) (bQ aa)) : ab ≠ ac)); have n6_ := Za ((by rw [hg]; exact Zk (ZA (g := ab) (o := .cells #[.int .i64 0, .slice none 0 0] 24 (0, 0)) (bQ aa)) : ac ≠ ab)); have n7_ := Za ((show IsS77 w _ ac l0 0 0 from ⟨A0, c0, hbox, (by rw [hg]; exact (Zi (wB))), aW.out⟩)); clear aa; clear HB; have aa := n0_; have HB := n1_; have aM := n2_; have aN := n3_; have aQ := n4_; have ag := n5_; have ai := n6_; have ae := n7_; clear n0_ n1_ n2_ n3_ n4_ n5_ n6_ n7_; clear hb hbox hg) | ((with_reducible refine Zn (f := 70) rfl ?_); refine gL 9 Tryz.func70 #[.pointer (some ⟨ac, 0, none⟩), .int .i64 5] ?_; (with_reducible refine (ft.calls k ac l0 0 0 5 ak al am0 an0 w _ ?side1 ?side2 A2.out).mono ?_); (case side1 => exact hU); (case side2 => exact g5); rintro e w6 ⟨aX, rfl, aT, hi, hb, hk⟩; refine ⟨_, rfl, ?_⟩; have n0_ := Za (Zc hk (g' := ab) (o := .cells #[.int .i64 0, .slice none 0 0] 24 (0, 0)) (bQ aa) ag.out (by simp)); have n1_ := Za (ZI aT (Zi (g5))); have n2_ := Za (hb); have n3_ := Za (hi); clear aa; clear HB; clear ae; have aa := n0_; have af := n1_; have HB := n2_; have ae := n3_; clear n0_ n1_ n2_ n3_; (try clear hb); (try clear hb2); (try clear hk); (try clear hi); (try clear aT)) | ((with_reducible refine ZE (N := 11) rfl ?_); refine Kd.R_lit (Zs .i64) _ 3 ?hg (N := 11) ?hd (xs := ([1, 2, 3, 7, 0, (-1), 1000, 1001, 150] : List Int)) (inner := [.int .i64 1, .int .i64 2, .int .i64 3, .int .i64 7, .int .i64 0, .int .i64 (-1), .int .i64 1000, .int .i64 1001, .int .i64 150]) (ok := fun _ => True) (okp := fun _ => True) ?hr ?hp (fun _ hk => hk) trivial (ZN _ _) (ZQ _) (by simp) ?_; (case hd => rfl); (case hg => rfl); (case hr => first | (go_simp; done) | (go_simp; rfl)); (case hp => exact (ZD (show Kd.M (Zs .i64) _ _ _ 1 [.int .i64 1] from rfl) (ZD (show Kd.M (Zs .i64) _ _ _ 2 [.int .i64 2] from rfl) (ZD (show Kd.M (Zs .i64) _ _ _ 3 [.int .i64 3] from rfl) (ZD (show Kd.M (Zs .i64) _ _ _ 7 [.int .i64 7] from rfl) (ZD (show Kd.M (Zs .i64) _ _ _ 0 [.int .i64 0] from rfl) (ZD (show Kd.M (Zs .i64) _ _ _ (-1) [.int .i64 (-1)] from rfl) (ZD (show Kd.M (Zs .i64) _ _ _ 1000 [.int .i64 1000] from rfl) (ZD (show Kd.M (Zs .i64) _ _ _ 1001 [.int .i64 1001] from rfl) (ZD (show Kd.M (Zs .i64) _ _ _ 150 [.int .i64 150] from rfl) (Reps.none _ _))))))))))); intro aY w7 au hb hg_ hnew_; clear hg_ hnew_; (first | rw [← ap.out] at au | (simp only [ZV] at au; rw [← ap.out] at au)); have n0_ := rE af (Kd.R_base au) hb; have n1_ := Za (ZI (Kd.R_new' au (Kd.R_lt (rQ af))) (Zi (g5))); have n2_ := bP aa hb; have n3_ := Za (IsS77.below (hU) hb); have n4_ := Za (Zv (g5) hb); clear af; clear aa; clear ae; clear HB; have af := n0_; have ah := n1_; have aa := n2_; have ae := n3_; have HB := n4_; clear n0_ n1_ n2_ n3_ n4_; clear hb au; obtain ⟨aZ, a6, a7⟩ := Zx ah.out; subst a7) | ((with_reducible refine Zn (f := 71) rfl ?_); refine gL 12 Tryz.func71 #[.pointer (some ⟨ac, 0, none⟩), .slice aZ aq.length a6] ?_; (with_reducible refine (gq.calls ac l0 am0 an0 _ _ aq aw aE aG w _ ?side1 ?side2 ?side3 ?side4 ?side5 A3.out).mono ?_); (case side1 => exact hU); (case side2 => exact g5); (case side3 => have hx_ := (Zt ah.out).2.2; exact cC); (case side4 => exact (Zt ah.out).2.1); (case side5 => exact far_slice (IsS77.own_ne ae.out ah.out (by decide))); rintro e bb ⟨rfl, hi, hb, hk⟩; refine ⟨_, rfl, ?_⟩; have n0_ := Za (Zc hk (g' := ab) (o := .cells #[.int .i64 0, .slice none 0 0] 24 (0, 0)) (bQ aa) ag.out (by simp)); have n1_ := Za (Zd (Zy (IsS77.apart (show IsS77 w _ ac l0 am0 an0 from hU) (rQ af) (by decide)) hk (fun _ h => h.2)) (fun _ h => h.1)); have n2_ := Za (Zd (Zy (IsS77.apart (show IsS77 w _ ac l0 am0 an0 from hU) (rQ ah) (by decide)) hk (fun _ h => h.2)) (fun _ h => h.1)); have n3_ := Za (hb); have n4_ := Za (hi); clear aa; clear af; clear ah; clear HB; clear ae; have aa := n0_; have af := n1_; have ah := n2_; have HB := n3_; have ae := n4_; clear n0_ n1_ n2_ n3_ n4_; (try clear hb); (try clear hb2); (try clear hk); (try clear hi); have aU := ag.out; have aV := ai.out; obtain ⟨az, aA, aC, aD⟩ := zZ aa; obtain ⟨ax, ay, aH⟩ := Zx af.out; subst aH))
 refine ZC (results_ct rfl _ _ ab 24 #[.int .i64 ak, .slice ax al.length ay] (0, 0) _ rfl (by (try refine bp ?_); refine Zo (cs := #[.int .i64 ak, .slice none 0 0]) ?_ 1 _ rfl; (try refine bp ?_); refine Zo (cs := #[.int .i64 0, .slice none 0 0]) ?_ 0 _ rfl; (first | exact bp aa.out | exact aa.out)) Tryz.underlying24 rfl (by kernel_rfl)) rfl ?_
 exact ⟨_, fR, by (try refine rp ?_); exact Zd (Zh (p := ⟨ab, 1, none⟩) (Zh (p := ⟨ab, 0, none⟩) (Zp af.out aa.out (by decide)) (fun _ hk => hk.2) (.int .i64 ak)) (fun _ hk => hk.2) (.slice ax al.length ay)) (fun _ hk => trivial), g5⟩
def f5.f (k : Nat) (l0 : List Int) : Option (Int × List Int) := (ft.f k l0 0 0 5).bind fun aa => ((fp.f l0 aa.2.2.1 aa.2.2.2 3).bind fun ab => ((fu.f k aa.1 aa.2.1 (Zg (2 + ab.1))).bind fun ac => (if ac.2.2 = true then ((gx.f l0 ab.2.1 ab.2.2 2).bind fun ae => (if ae.1 = true then (some (ac.1, ac.2.1)) else (some (aa.1, aa.2.1)))) else (some (aa.1, aa.2.1)))))
def f5.T3 : Bool × List (List Nat × List Nat) := (true, [([], []), ([], []), ([1], [1]), ([2], [2]), ([0, 3, 2], [0, 3]), ([4], [4]), ([5], [5]), ([5], [5]), ([], []), ([8, 6, 4, 0, 1, 2, 3, 4, 5, 6, 8], [6, 8]), ([7, 9, 0, 1, 2, 3, 4, 5, 6, 7, 8, 9], [7])])
def f5.B3 : List Nat := [0, 0, 2, 6, 15, 31, 63, 63, 0, 383, 1023]
theorem f5.tab3 : rtab .any (opsOf Tryz.f32 3) = f5.T3 := by kernel_rfl
theorem f5.bits3 : waitsOk f5.T3.2 f5.B3 = true := by kernel_rfl
theorem fP {p : Prop} (h : p := by repeat (first | (with_reducible first | exact ak.out | apply IsS77.alloc | apply IsS77.drewN | apply IsS77.drew | apply IsS77.set_1 | apply IsS77.set_2 | refine IsS77.far ?_ az.out _ | refine IsS77.far ?_ aQ.out _ | refine IsS77.far ?_ aw.out _) | exact ak.out)) : p := h
theorem fK {p : Prop} (h : p := by repeat (first | (with_reducible first | exact HB.out | apply ba | apply bd | apply be | refine bs ?_ (IsS77.ge ak.out) | refine bs ?_ bf.out | refine bs ?_ bg.out | refine bs ?_ aI.out) | exact HB.out)) : p := h
theorem f5.calls (k : Nat) (A0 : Option Addr) (c0 : Nat) (l0 : List Int) (r1 : Int) (r2 : List Int) (w : ZJ) (hr0 : Kd.C (Zs .u8) w A0 l0.length l0) (hc0 : l0.length ≤ c0) (h : f5.f k l0 = some (r1, r2)) :
  ZX Tryz.prog 32 #[.slice A0 l0.length c0] w fun e w' => ∃ v1_ : ZW, e = .returned (.agg #[.int .i64 r1, v1_]) ∧ Kd.R (Zs .i64) 3 w' w.heap.size (fun _ => True) v1_ r2 ∧ ZO w.heap.size w w' := by
 have hu24 := Tryz.underlying24
 have hu77 := Tryz.underlying77
 have cR := Za hr0
 have cV := Za hc0
 clear hr0 hc0
 have HB := Za (ZN w.heap.size w)
 have H := h
 unfold f5.f at H
 clear h
 replace H := oB H
 obtain ⟨⟨am0, al, aJ, aK⟩, b8, H⟩ := H
 replace H : ((fp.f l0 aJ aK 3).bind fun a7 => ((fu.f k am0 al (Zg (2 + a7.1))).bind fun aM => (if aM.2.2 = true then ((gx.f l0 a7.2.1 a7.2.2 2).bind fun aU => (if aU.1 = true then (some (aM.1, aM.2.1)) else (some (am0, al)))) else (some (am0, al))))) = some (r1, r2) := H
 have A2 := Za b8
 clear b8
 replace H := oB H
 obtain ⟨⟨aN, aD, aE⟩, b9, H⟩ := H
 replace H : ((fu.f k am0 al (Zg (2 + aN))).bind fun aM => (if aM.2.2 = true then ((gx.f l0 aD aE 2).bind fun aU => (if aU.1 = true then (some (aM.1, aM.2.1)) else (some (am0, al)))) else (some (am0, al)))) = some (r1, r2) := H
 have A3 := Za b9
 clear b9
 replace H := oB H
 obtain ⟨⟨aC, aG, aV⟩, ca, H⟩ := H
 replace H : (if aV = true then ((gx.f l0 aD aE 2).bind fun aU => (if aU.1 = true then (some (aC, aG)) else (some (am0, al)))) else (some (am0, al))) = some (r1, r2) := H
 have A4 := Za ca
 clear ca
 have cb := Za H
 clear H
 go_enter Tryz.func32, Tryz.ntmps32
 try go_wp2_with (first | ((with_reducible refine ZE (N := 2) rfl ?_); refine box_event ?hg (N := 2) ?hd (cs := #[.int .i64 0, .slice none 0 0]) (t := 24) ?hr ?_; (case hd => rfl); (case hg => rfl); (case hr => first | (go_simp; done) | (go_simp; rfl)); intro ag hg w8 hbox hb; have n0_ := sQ hb; have n1_ := Za (hbox); have n2_ := Za ((by rw [hg]; exact (Zi (wB)) : w.heap.size ≤ ag)); have n3_ := Za ((by rw [hg]; exact (Zi (wB)) : w.heap.size ≤ ag)); clear HB; have HB := n0_; have aa := n1_; have cd := n2_; have bf := n3_; clear n0_ n1_ n2_ n3_; clear hb hbox hg) | ((with_reducible refine ZE (N := 9) rfl ?_); refine box_event ?hg (N := 9) ?hd (cs := #[.slice A0 l0.length c0, .int .i64 0, .int .u64 0]) (t := 77) ?hr ?_; (case hd => rfl); (case hg => rfl); (case hr => first | (go_simp; done) | (go_simp; rfl)); intro ai hg w9 hbox hb; have n0_ := bP aa hb; have n1_ := sQ hb; have n2_ := Za (hbox); have n3_ := Za ((by rw [hg]; exact (Zi (wB)) : w.heap.size ≤ ai)); have n4_ := Za ((by rw [hg]; exact (Zi (wB)) : w.heap.size ≤ ai)); have n5_ := Za ((by rw [hg]; exact Zj (ZA (g := ag) (o := .cells #[.int .i64 0, .slice none 0 0] 24 (0, 0)) (bQ aa)) : ag ≠ ai)); have n6_ := Za ((by rw [hg]; exact Zk (ZA (g := ag) (o := .cells #[.int .i64 0, .slice none 0 0] 24 (0, 0)) (bQ aa)) : ai ≠ ag)); have n7_ := Za ((show IsS77 w _ ai l0 0 0 from ⟨A0, c0, hbox, (by rw [hg]; exact (Zi (wB))), cR.out⟩)); clear aa; clear HB; have aa := n0_; have HB := n1_; have ce := n2_; have cg := n3_; have ch := n4_; have ax := n5_; have az := n6_; have ak := n7_; clear n0_ n1_ n2_ n3_ n4_ n5_ n6_ n7_; clear hb hbox hg) | ((with_reducible refine Zn (f := 70) rfl ?_); refine gL 11 Tryz.func70 #[.pointer (some ⟨ai, 0, none⟩), .int .i64 5] ?_; (with_reducible refine (ft.calls k ai l0 0 0 5 am0 al aJ aK w _ ?side1 ?side2 A2.out).mono ?_); (case side1 => exact fP); (case side2 => exact fK); rintro e cW ⟨cS, rfl, aX, hi, hb, hk⟩; refine ⟨_, rfl, ?_⟩; have n0_ := Za (Zc hk (g' := ag) (o := .cells #[.int .i64 0, .slice none 0 0] 24 (0, 0)) (bQ aa) ax.out (by simp)); have n1_ := Za (ZI aX (Zi (fK))); have n2_ := Za (hb); have n3_ := Za (hi); clear aa; clear HB; clear ak; have aa := n0_; have ac := n1_; have HB := n2_; have ak := n3_; clear n0_ n1_ n2_ n3_; (try clear hb); (try clear hb2); (try clear hk); (try clear hi); (try clear aX)) | ((with_reducible refine ZE (N := 4) rfl ?_); refine box_event ?hg (N := 4) ?hd (cs := #[.int .i64 0, .slice none 0 0]) (t := 24) ?hr ?_; (case hd => rfl); (case hg => rfl); (case hr => first | (go_simp; done) | (go_simp; rfl)); intro af hg bc hbox hb; have n0_ := rP ac hb; have n1_ := bP aa hb; have n2_ := Za (IsS77.below (fP) hb); have n3_ := Za (Zv (fK) hb); have n4_ := Za (hbox); have n5_ := Za ((by rw [hg]; exact (Zi (fK)) : w.heap.size ≤ af)); have n6_ := Za ((by rw [hg]; exact (Zi (fK)) : w.heap.size ≤ af)); have n7_ := Za ((by rw [hg]; exact Zj (ZA (g := ag) (o := .cells #[.int .i64 0, .slice none 0 0] 24 (0, 0)) (bQ aa)) : ag ≠ af)); have n8_ := Za ((by rw [hg]; exact Zk (ZA (g := ag) (o := .cells #[.int .i64 0, .slice none 0 0] 24 (0, 0)) (bQ aa)) : af ≠ ag)); have n9_ := Za ((by rw [hg]; exact Zj (IsS77.lt (show IsS77 w _ ai l0 aJ aK from fP)) : ai ≠ af)); have n10_ := Za ((by rw [hg]; exact Zk (IsS77.lt (show IsS77 w _ ai l0 aJ aK from fP)) : af ≠ ai)); clear ac; clear aa; clear ak; clear HB; have ac := n0_; have aa := n1_; have ak := n2_; have HB := n3_; have ab := n4_; have ci := n5_; have bg := n6_; have aH := n7_; have aY := n8_; have aQ := n9_; have aA := n10_; clear n0_ n1_ n2_ n3_ n4_ n5_ n6_ n7_ n8_ n9_ n10_; clear hb hbox hg; have cj := aY.out; have ck := aH.out; have cl := aA.out; have cm := aQ.out; obtain ⟨bi, bj, bl, bm⟩ := zZ ab; obtain ⟨aq, au, b5⟩ := Zx ac.out; subst b5))
 have n0_ : Zm (Kd.R (Zs .i64) 3 ((bc.setCell ⟨af, 0, none⟩ (.int .i64 am0)).setCell ⟨af, 1, none⟩ (.slice aq al.length au)) w.heap.size (fun _ => True) (.slice aq al.length au) al) := ⟨by (try refine rp ?_); exact Zd (Zh (p := ⟨af, 1, none⟩) (Zh (p := ⟨af, 0, none⟩) (Zp ac.out ab.out (by decide)) (fun _ hk => hk.2) (.int .i64 am0)) (fun _ hk => hk.2) (.slice aq al.length au)) (fun _ hk => trivial)⟩
 have n1_ : Zm (((bc.setCell ⟨af, 0, none⟩ (.int .i64 am0)).setCell ⟨af, 1, none⟩ (.slice aq al.length au)).heap[ag]? = some (.cells #[.int .i64 0, .slice none 0 0] 24 (0, 0))) := ⟨by (try refine bp ?_); refine Zz ?_ aH.out _; (try refine bp ?_); refine Zz ?_ aH.out _; (first | exact bp aa.out | exact aa.out)⟩
 have n2_ : Zm (((bc.setCell ⟨af, 0, none⟩ (.int .i64 am0)).setCell ⟨af, 1, none⟩ (.slice aq al.length au)).heap[af]? = some (.cells #[.int .i64 am0, .slice aq al.length au] 24 (0, 0))) := ⟨by (try refine bp ?_); refine Zo (cs := #[.int .i64 am0, .slice none 0 0]) ?_ 1 _ rfl; (try refine bp ?_); refine Zo (cs := #[.int .i64 0, .slice none 0 0]) ?_ 0 _ rfl; (first | exact bp ab.out | exact ab.out)⟩
 have n3_ : Zm (IsS77 w ((bc.setCell ⟨af, 0, none⟩ (.int .i64 am0)).setCell ⟨af, 1, none⟩ (.slice aq al.length au)) ai l0 aJ aK) := ⟨fP⟩
 have n4_ : Zm (ZO w.heap.size w ((bc.setCell ⟨af, 0, none⟩ (.int .i64 am0)).setCell ⟨af, 1, none⟩ (.slice aq al.length au))) := ⟨fK⟩
 (try clear ac)
 (try clear aa)
 (try clear ab)
 (try clear ak)
 (try clear HB)
 generalize ((bc.setCell ⟨af, 0, none⟩ (.int .i64 am0)).setCell ⟨af, 1, none⟩ (.slice aq al.length au)) = cT at n0_ n1_ n2_ n3_ n4_ ⊢
 have ac := n0_
 have aa := n1_
 have ab := n2_
 have ak := n3_
 have HB := n4_
 clear n0_ n1_ n2_ n3_ n4_
 have n0_ := rD ac
 have n1_ := bD aa
 have n2_ := bD ab
 have n3_ := Za (IsS77.drew ak.out)
 have n4_ := Za (below_drew1 HB.out)
 clear ac
 clear aa
 clear ab
 clear ak
 clear HB
 have ac := n0_
 have aa := n1_
 have ab := n2_
 have ak := n3_
 have HB := n4_
 clear n0_ n1_ n2_ n3_ n4_
 refine start_ (n := 11) (S := fun w' => w'.cell? ⟨af, 0, none⟩ = some (.int .i64 am0) ∧ w'.cell? ⟨af, 1, none⟩ = some (.slice aq al.length au)) (ds := []) #[false, false, false, false, false, false, false, false, false, false, false] (by kernel_rfl) rfl rfl ⟨(Ze ab.out 0).trans rfl, (Ze ab.out 1).trans rfl⟩ (fun hHeld => ?_); refine with_tabW f5.tab3 f5.bits3 (fun HT_ HW_ => ?_)
 generalize cT.drew = cX at ac aa ab ak HB hHeld ⊢
 refine pU 1 HT_ ?_
 refine tK 0 HT_ HW_ hHeld (hy := by rintro w' ⟨s0, s1⟩; go_simp; with_reducible rfl) ?_
 refine join_ (σ := ZW × Nat) 2 #[true, true, true, true, true, true, true, true, true, false, false] (fun s_ => [(15, .int .i64 aN), (17, .tuple #[.agg #[.int .i64 aC, s_.1], .bool aV]), (5, .pointer (some ⟨s_.2, 0, none⟩)), (16, .int .i64 (Zg (2 + aN))), (12, .tuple #[.agg #[.int .i64 aC, s_.1], .bool aV]), (18, .agg #[.int .i64 aC, s_.1]), (19, .bool aV)]) (fun s_ w' => (w'.cell? ⟨af, 0, none⟩ = some (.int .i64 am0) ∧ w'.cell? ⟨af, 1, none⟩ = some (.slice aq al.length au)) ∧ (Kd.R (Zs .i64) 3 w' w.heap.size (fun k_ => nb (s_.1) k_) (.slice aq al.length au) al) ∧ (Kd.R (Zs .i64) 3 w' w.heap.size (fun k_ => nb (.slice aq al.length au) k_) s_.1 aG) ∧ (w'.heap[ag]? = some (.cells #[.int .i64 0, .slice none 0 0] 24 (0, 0))) ∧ (w'.heap[af]? = some (.cells #[.int .i64 am0, .slice aq al.length au] 24 (0, 0))) ∧ (w'.heap[s_.2]? = some (.cells #[.int .i64 0, .slice none 0 0] 24 (0, 0))) ∧ (w.heap.size ≤ s_.2) ∧ (w.heap.size ≤ s_.2) ∧ (ai ≠ s_.2) ∧ (s_.2 ≠ ai) ∧ (ag ≠ s_.2) ∧ (s_.2 ≠ ag) ∧ (af ≠ s_.2) ∧ (s_.2 ≠ af) ∧ (IsS77 w w' ai l0 aD aE) ∧ (ZO w.heap.size w w')) ?_ ?_
 rotate_left
 ·intro hCont
  refine two_ (i := 2) (j := 8) (Ni := some 15) (Nj := some 5) #[true, true, true, false, false, false, false, false, false, false, false] #[true, true, false, false, false, false, false, false, true, false, false] rfl rfl rfl rfl (two_of HT_.out (by kernel_rfl)) (by decide) (by decide) (fun K hK => ?_) (fun K hK => ?_)
  ·skip
   refine gE Tryz.func72 #[.pointer (some ⟨ai, 0, none⟩), .int .i64 3] ?_
   with_reducible refine (fp.calls ai l0 aJ aK 3 aN aD aE w _ ?side1 ?side2 A3.out).mono ?_
   (case side1 => exact fP)
   (case side2 => exact fK)
   rintro e cU ⟨rfl, hi, hb, hk⟩
   refine ⟨_, rfl, ?_⟩
   have n0_ := Za (Zc hk (g' := ag) (o := .cells #[.int .i64 0, .slice none 0 0] 24 (0, 0)) (bQ aa) ax.out (by simp))
   have n1_ := Za (Zd (Zy (IsS77.apart (show IsS77 w _ ai l0 aJ aK from fP) (rQ ac) (by decide)) hk (fun _ h => h.2)) (fun _ h => h.1))
   have n2_ := Za (Zc hk (g' := af) (o := .cells #[.int .i64 am0, .slice aq al.length au] 24 (0, 0)) (bQ ab) aA.out (by simp))
   have n3_ := Za (hb)
   have n4_ := Za (hi)
   clear aa
   clear ac
   clear ab
   clear HB
   clear ak
   have aa := n0_
   have ac := n1_
   have ab := n2_
   have HB := n3_
   have ak := n4_
   clear n0_ n1_ n2_ n3_ n4_
   (try clear hb)
   (try clear hb2)
   (try clear hk)
   (try clear hi)
   refine hK.out _ _ ⟨(Ze ab.out 0).trans rfl, (Ze ab.out 1).trans rfl⟩ (fun hHeld => ?_)
   clear hK K
   refine nM ?_
   refine pU 3 HT_ ?_
   refine two_ (i := 4) (j := 8) (Ni := some 17) (Nj := some 5) #[true, true, true, true, true, false, false, false, false, false, false] #[true, true, true, true, false, false, false, false, true, false, false] rfl rfl rfl rfl (two_of HT_.out (by kernel_rfl)) (by decide) (by decide) (fun K hK => ?_) (fun K hK => ?_)
   ·skip
    refine gE Tryz.func6 #[.agg #[.int .i64 am0, .slice aq al.length au], .int .i64 (Zg (2 + aN))] ?_
    with_reducible refine (fu.calls k am0 _ _ al (Zg (2 + aN)) aC aG aV _ ?side1 ?side2 A4.out).mono ?_
    (case side1 => have hx_ := (Zt ac.out).2.2; exact cC)
    (case side2 => exact (Zt ac.out).2.1)
    rintro e cn ⟨aW, rfl, aX, hb⟩
    refine ⟨_, rfl, ?_⟩
    have n0_ := rE ac (Kd.R_base aX) hb
    have n1_ := Za (ZI (Kd.R_new' aX (Kd.R_lt (rQ ac))) (Zi (fK)))
    have n2_ := bP aa hb
    have n3_ := Za (IsS77.below (fP) hb)
    have n4_ := bP ab hb
    have n5_ := Za (Zv (fK) hb)
    clear ac
    clear aa
    clear ak
    clear ab
    clear HB
    have ac := n0_
    have ay := n1_
    have aa := n2_
    have ak := n3_
    have ab := n4_
    have HB := n5_
    clear n0_ n1_ n2_ n3_ n4_ n5_
    (try clear hb)
    (try clear hb2)
    (try clear hk)
    (try clear hi)
    (try clear aX)
    refine hK.out _ _ ⟨(Ze ab.out 0).trans rfl, (Ze ab.out 1).trans rfl⟩ (fun hHeld => ?_)
    clear hK K
    refine nM ?_
    refine pU 5 HT_ ?_
    refine pU 6 HT_ ?_
    refine pU 7 HT_ ?_
    refine oN 8 HT_ (fun K hK => ?_)
    refine box_step ?hg (N := 5) ?hd (cs := #[.int .i64 0, .slice none 0 0]) (t := 24) ?hr ?_; (case hd => rfl); (case hg => rfl); (case hr => first | (go_simp; done) | (go_simp; rfl))
    intro ae hg cp hbox hb
    have n0_ := rP ac hb
    have n1_ := rP ay hb
    have n2_ := bP aa hb
    have n3_ := Za (IsS77.below (fP) hb)
    have n4_ := bP ab hb
    have n5_ := Za (Zv (fK) hb)
    have n6_ := Za (hbox)
    have n7_ := Za ((by rw [hg]; exact (Zi (fK)) : w.heap.size ≤ ae))
    have n8_ := Za ((by rw [hg]; exact (Zi (fK)) : w.heap.size ≤ ae))
    have n9_ := Za ((by rw [hg]; exact Zj (ZA (g := ag) (o := .cells #[.int .i64 0, .slice none 0 0] 24 (0, 0)) (bQ aa)) : ag ≠ ae))
    have n10_ := Za ((by rw [hg]; exact Zk (ZA (g := ag) (o := .cells #[.int .i64 0, .slice none 0 0] 24 (0, 0)) (bQ aa)) : ae ≠ ag))
    have n11_ := Za ((by rw [hg]; exact Zj (ZA (g := af) (o := .cells #[.int .i64 am0, .slice aq al.length au] 24 (0, 0)) (bQ ab)) : af ≠ ae))
    have n12_ := Za ((by rw [hg]; exact Zk (ZA (g := af) (o := .cells #[.int .i64 am0, .slice aq al.length au] 24 (0, 0)) (bQ ab)) : ae ≠ af))
    have n13_ := Za ((by rw [hg]; exact Zj (IsS77.lt (show IsS77 w _ ai l0 aD aE from fP)) : ai ≠ ae))
    have n14_ := Za ((by rw [hg]; exact Zk (IsS77.lt (show IsS77 w _ ai l0 aD aE from fP)) : ae ≠ ai))
    clear ac
    clear ay
    clear aa
    clear ak
    clear ab
    clear HB
    have ac := n0_
    have ay := n1_
    have aa := n2_
    have ak := n3_
    have ab := n4_
    have HB := n5_
    have an0 := n6_
    have aT := n7_
    have aI := n8_
    have aj := n9_
    have ao := n10_
    have ah := n11_
    have ap := n12_
    have aw := n13_
    have av := n14_
    clear n0_ n1_ n2_ n3_ n4_ n5_ n6_ n7_ n8_ n9_ n10_ n11_ n12_ n13_ n14_
    clear hb hg
    refine hK.out _ _ ⟨(Ze ab.out 0).trans rfl, (Ze ab.out 1).trans rfl⟩ (fun hHeld => ?_)
    clear hK K
    refine nM ?_
    exact norm_ (by simp only [putAll, ZH, sA, sZ, sS]) (hCont (aW, ae) _ ⟨hHeld, (by (try refine rp ?_); exact Zd ac.out (fun _ hk => hk.2)), (by (try refine rp ?_); exact Zd ay.out (fun _ hk => hk.2)), (bQ aa), (bQ ab), (bQ an0), aT.out, aI.out, aw.out, av.out, aj.out, ao.out, ah.out, ap.out, (fP), (fK)⟩)
   skip
   refine box_step ?hg (N := 5) ?hd (cs := #[.int .i64 0, .slice none 0 0]) (t := 24) ?hr ?_; (case hd => rfl); (case hg => rfl); (case hr => first | (go_simp; done) | (go_simp; rfl))
   intro ae hg cn hbox hb
   have n0_ := rP ac hb
   have n1_ := bP aa hb
   have n2_ := Za (IsS77.below (fP) hb)
   have n3_ := bP ab hb
   have n4_ := Za (Zv (fK) hb)
   have n5_ := Za (hbox)
   have n6_ := Za ((by rw [hg]; exact (Zi (fK)) : w.heap.size ≤ ae))
   have n7_ := Za ((by rw [hg]; exact (Zi (fK)) : w.heap.size ≤ ae))
   have n8_ := Za ((by rw [hg]; exact Zj (ZA (g := ag) (o := .cells #[.int .i64 0, .slice none 0 0] 24 (0, 0)) (bQ aa)) : ag ≠ ae))
   have n9_ := Za ((by rw [hg]; exact Zk (ZA (g := ag) (o := .cells #[.int .i64 0, .slice none 0 0] 24 (0, 0)) (bQ aa)) : ae ≠ ag))
   have n10_ := Za ((by rw [hg]; exact Zj (ZA (g := af) (o := .cells #[.int .i64 am0, .slice aq al.length au] 24 (0, 0)) (bQ ab)) : af ≠ ae))
   have n11_ := Za ((by rw [hg]; exact Zk (ZA (g := af) (o := .cells #[.int .i64 am0, .slice aq al.length au] 24 (0, 0)) (bQ ab)) : ae ≠ af))
   have n12_ := Za ((by rw [hg]; exact Zj (IsS77.lt (show IsS77 w _ ai l0 aD aE from fP)) : ai ≠ ae))
   have n13_ := Za ((by rw [hg]; exact Zk (IsS77.lt (show IsS77 w _ ai l0 aD aE from fP)) : ae ≠ ai))
   clear ac
   clear aa
   clear ak
   clear ab
   clear HB
   have ac := n0_
   have aa := n1_
   have ak := n2_
   have ab := n3_
   have HB := n4_
   have an0 := n5_
   have aT := n6_
   have aI := n7_
   have aj := n8_
   have ao := n9_
   have ah := n10_
   have ap := n11_
   have aw := n12_
   have av := n13_
   clear n0_ n1_ n2_ n3_ n4_ n5_ n6_ n7_ n8_ n9_ n10_ n11_ n12_ n13_
   clear hb hg
   refine hK.out _ _ ⟨(Ze ab.out 0).trans rfl, (Ze ab.out 1).trans rfl⟩ (fun hHeld => ?_)
   clear hK K
   refine nM ?_
   refine oN 4 HT_ (fun K hK => ?_)
   refine gE Tryz.func6 #[.agg #[.int .i64 am0, .slice aq al.length au], .int .i64 (Zg (2 + aN))] ?_
   with_reducible refine (fu.calls k am0 _ _ al (Zg (2 + aN)) aC aG aV _ ?side1 ?side2 A4.out).mono ?_
   (case side1 => have hx_ := (Zt ac.out).2.2; exact cC)
   (case side2 => exact (Zt ac.out).2.1)
   rintro e cp ⟨aW, rfl, aX, hb⟩
   refine ⟨_, rfl, ?_⟩
   have n0_ := rE ac (Kd.R_base aX) hb
   have n1_ := Za (ZI (Kd.R_new' aX (Kd.R_lt (rQ ac))) (Zi (fK)))
   have n2_ := bP aa hb
   have n3_ := Za (IsS77.below (fP) hb)
   have n4_ := bP ab hb
   have n5_ := bP an0 hb
   have n6_ := Za (Zv (fK) hb)
   clear ac
   clear aa
   clear ak
   clear ab
   clear an0
   clear HB
   have ac := n0_
   have ay := n1_
   have aa := n2_
   have ak := n3_
   have ab := n4_
   have an0 := n5_
   have HB := n6_
   clear n0_ n1_ n2_ n3_ n4_ n5_ n6_
   (try clear hb)
   (try clear hb2)
   (try clear hk)
   (try clear hi)
   (try clear aX)
   refine hK.out _ _ ⟨(Ze ab.out 0).trans rfl, (Ze ab.out 1).trans rfl⟩ (fun hHeld => ?_)
   clear hK K
   refine nM ?_
   refine pU 5 HT_ ?_
   refine pU 6 HT_ ?_
   refine pU 7 HT_ ?_
   exact norm_ (by simp only [putAll, ZH, sA, sZ, sS]) (hCont (aW, ae) _ ⟨hHeld, (by (try refine rp ?_); exact Zd ac.out (fun _ hk => hk.2)), (by (try refine rp ?_); exact Zd ay.out (fun _ hk => hk.2)), (bQ aa), (bQ ab), (bQ an0), aT.out, aI.out, aw.out, av.out, aj.out, ao.out, ah.out, ap.out, (fP), (fK)⟩)
  skip
  refine box_step ?hg (N := 5) ?hd (cs := #[.int .i64 0, .slice none 0 0]) (t := 24) ?hr ?_; (case hd => rfl); (case hg => rfl); (case hr => first | (go_simp; done) | (go_simp; rfl))
  intro ae hg cU hbox hb
  have n0_ := rP ac hb
  have n1_ := bP aa hb
  have n2_ := Za (IsS77.below (fP) hb)
  have n3_ := bP ab hb
  have n4_ := Za (Zv (fK) hb)
  have n5_ := Za (hbox)
  have n6_ := Za ((by rw [hg]; exact (Zi (fK)) : w.heap.size ≤ ae))
  have n7_ := Za ((by rw [hg]; exact (Zi (fK)) : w.heap.size ≤ ae))
  have n8_ := Za ((by rw [hg]; exact Zj (ZA (g := ag) (o := .cells #[.int .i64 0, .slice none 0 0] 24 (0, 0)) (bQ aa)) : ag ≠ ae))
  have n9_ := Za ((by rw [hg]; exact Zk (ZA (g := ag) (o := .cells #[.int .i64 0, .slice none 0 0] 24 (0, 0)) (bQ aa)) : ae ≠ ag))
  have n10_ := Za ((by rw [hg]; exact Zj (ZA (g := af) (o := .cells #[.int .i64 am0, .slice aq al.length au] 24 (0, 0)) (bQ ab)) : af ≠ ae))
  have n11_ := Za ((by rw [hg]; exact Zk (ZA (g := af) (o := .cells #[.int .i64 am0, .slice aq al.length au] 24 (0, 0)) (bQ ab)) : ae ≠ af))
  have n12_ := Za ((by rw [hg]; exact Zj (IsS77.lt (show IsS77 w _ ai l0 aJ aK from fP)) : ai ≠ ae))
  have n13_ := Za ((by rw [hg]; exact Zk (IsS77.lt (show IsS77 w _ ai l0 aJ aK from fP)) : ae ≠ ai))
  clear ac
  clear aa
  clear ak
  clear ab
  clear HB
  have ac := n0_
  have aa := n1_
  have ak := n2_
  have ab := n3_
  have HB := n4_
  have an0 := n5_
  have aT := n6_
  have aI := n7_
  have aj := n8_
  have ao := n9_
  have ah := n10_
  have ap := n11_
  have aw := n12_
  have av := n13_
  clear n0_ n1_ n2_ n3_ n4_ n5_ n6_ n7_ n8_ n9_ n10_ n11_ n12_ n13_
  clear hb hg
  refine hK.out _ _ ⟨(Ze ab.out 0).trans rfl, (Ze ab.out 1).trans rfl⟩ (fun hHeld => ?_)
  clear hK K
  refine nM ?_
  refine oN 2 HT_ (fun K hK => ?_)
  refine gE Tryz.func72 #[.pointer (some ⟨ai, 0, none⟩), .int .i64 3] ?_
  with_reducible refine (fp.calls ai l0 aJ aK 3 aN aD aE w _ ?side1 ?side2 A3.out).mono ?_
  (case side1 => exact fP)
  (case side2 => exact fK)
  rintro e cn ⟨rfl, hi, hb, hk⟩
  refine ⟨_, rfl, ?_⟩
  have n0_ := Za (Zc hk (g' := ag) (o := .cells #[.int .i64 0, .slice none 0 0] 24 (0, 0)) (bQ aa) ax.out (by simp))
  have n1_ := Za (Zd (Zy (IsS77.apart (show IsS77 w _ ai l0 aJ aK from fP) (rQ ac) (by decide)) hk (fun _ h => h.2)) (fun _ h => h.1))
  have n2_ := Za (Zc hk (g' := af) (o := .cells #[.int .i64 am0, .slice aq al.length au] 24 (0, 0)) (bQ ab) aA.out (by simp))
  have n3_ := Za (Zc hk (g' := ae) (o := .cells #[.int .i64 0, .slice none 0 0] 24 (0, 0)) (bQ an0) av.out (by simp))
  have n4_ := Za (hb)
  have n5_ := Za (hi)
  clear aa
  clear ac
  clear ab
  clear an0
  clear HB
  clear ak
  have aa := n0_
  have ac := n1_
  have ab := n2_
  have an0 := n3_
  have HB := n4_
  have ak := n5_
  clear n0_ n1_ n2_ n3_ n4_ n5_
  (try clear hb)
  (try clear hb2)
  (try clear hk)
  (try clear hi)
  refine hK.out _ _ ⟨(Ze ab.out 0).trans rfl, (Ze ab.out 1).trans rfl⟩ (fun hHeld => ?_)
  clear hK K
  refine nM ?_
  refine pU 3 HT_ ?_
  refine oN 4 HT_ (fun K hK => ?_)
  refine gE Tryz.func6 #[.agg #[.int .i64 am0, .slice aq al.length au], .int .i64 (Zg (2 + aN))] ?_
  with_reducible refine (fu.calls k am0 _ _ al (Zg (2 + aN)) aC aG aV _ ?side1 ?side2 A4.out).mono ?_
  (case side1 => have hx_ := (Zt ac.out).2.2; exact cC)
  (case side2 => exact (Zt ac.out).2.1)
  rintro e cp ⟨aW, rfl, aX, hb⟩
  refine ⟨_, rfl, ?_⟩
  have n0_ := rE ac (Kd.R_base aX) hb
  have n1_ := Za (ZI (Kd.R_new' aX (Kd.R_lt (rQ ac))) (Zi (fK)))
  have n2_ := bP aa hb
  have n3_ := Za (IsS77.below (fP) hb)
  have n4_ := bP ab hb
  have n5_ := bP an0 hb
  have n6_ := Za (Zv (fK) hb)
  clear ac
  clear aa
  clear ak
  clear ab
  clear an0
  clear HB
  have ac := n0_
  have ay := n1_
  have aa := n2_
  have ak := n3_
  have ab := n4_
  have an0 := n5_
  have HB := n6_
  clear n0_ n1_ n2_ n3_ n4_ n5_ n6_
  (try clear hb)
  (try clear hb2)
  (try clear hk)
  (try clear hi)
  (try clear aX)
  refine hK.out _ _ ⟨(Ze ab.out 0).trans rfl, (Ze ab.out 1).trans rfl⟩ (fun hHeld => ?_)
  clear hK K
  refine nM ?_
  refine pU 5 HT_ ?_
  refine pU 6 HT_ ?_
  refine pU 7 HT_ ?_
  exact norm_ (by simp only [putAll, ZH, sA, sZ, sS]) (hCont (aW, ae) _ ⟨hHeld, (by (try refine rp ?_); exact Zd ac.out (fun _ hk => hk.2)), (by (try refine rp ?_); exact Zd ay.out (fun _ hk => hk.2)), (bQ aa), (bQ ab), (bQ an0), aT.out, aI.out, aw.out, av.out, aj.out, ao.out, ah.out, ap.out, (fP), (fK)⟩)
 rintro ⟨aW, ae⟩ a8 ⟨hS_, h0_, h1_, h2_, h3_, h4_, h5_, h6_, h7_, h8_, h9_, h10_, h11_, h12_, h13_, h14_⟩
 have n0_ : Zm (Kd.R (Zs .i64) 3 a8 w.heap.size (fun k_ => nb aW k_) (.slice aq al.length au) al) := ⟨h0_⟩
 have n1_ : Zm (Kd.R (Zs .i64) 3 a8 w.heap.size (fun k_ => nb (.slice aq al.length au) k_) aW aG) := ⟨h1_⟩
 have n2_ : Zm (a8.heap[ag]? = some (.cells #[.int .i64 0, .slice none 0 0] 24 (0, 0))) := ⟨h2_⟩
 have n3_ : Zm (a8.heap[af]? = some (.cells #[.int .i64 am0, .slice aq al.length au] 24 (0, 0))) := ⟨h3_⟩
 have n4_ : Zm (a8.heap[ae]? = some (.cells #[.int .i64 0, .slice none 0 0] 24 (0, 0))) := ⟨h4_⟩
 have n5_ : Zm (w.heap.size ≤ ae) := ⟨h5_⟩
 have n6_ : Zm (w.heap.size ≤ ae) := ⟨h6_⟩
 have n7_ : Zm (ai ≠ ae) := ⟨h7_⟩
 have n8_ : Zm (ae ≠ ai) := ⟨h8_⟩
 have n9_ : Zm (ag ≠ ae) := ⟨h9_⟩
 have n10_ : Zm (ae ≠ ag) := ⟨h10_⟩
 have n11_ : Zm (af ≠ ae) := ⟨h11_⟩
 have n12_ : Zm (ae ≠ af) := ⟨h12_⟩
 have n13_ : Zm (IsS77 w a8 ai l0 aD aE) := ⟨h13_⟩
 have n14_ : Zm (ZO w.heap.size w a8) := ⟨h14_⟩
 clear ac
 clear aa
 clear ab
 clear ak
 clear HB
 clear h0_ h1_ h2_ h3_ h4_ h5_ h6_ h7_ h8_ h9_ h10_ h11_ h12_ h13_ h14_
 have ac := n0_
 have ay := n1_
 have aa := n2_
 have ab := n3_
 have an0 := n4_
 have aT := n5_
 have aI := n6_
 have aw := n7_
 have av := n8_
 have aj := n9_
 have ao := n10_
 have ah := n11_
 have ap := n12_
 have ak := n13_
 have HB := n14_
 clear n0_ n1_ n2_ n3_ n4_ n5_ n6_ n7_ n8_ n9_ n10_ n11_ n12_ n13_ n14_
 have hHeld : a8.cell? ⟨af, 0, none⟩ = some (.int .i64 am0) ∧ a8.cell? ⟨af, 1, none⟩ = some (.slice aq al.length au) := hS_
 obtain ⟨aZ, a6, bh⟩ := Zx ay.out
 (first | subst bh | (injection bh with f1_ f2_ f3_; have f4_ := f1_.symm; have f5_ := f3_.symm; clear f1_ f2_ f3_; subst f4_; subst f5_))
 refine norm_ (a' := ?_) ?_ ?_
 rotate_left
 ·simp only [putAll, ZH, sA, sZ, sS]
  rfl
 refine oN 9 HT_ (fun K hK => ?_)
 have hs22 : a8.cell? ⟨ae, 0, none⟩ = some (.int .i64 0) := (Ze an0.out 0).trans rfl
 have cq := ZK an0.out 0
 have bn := aj.out
 have bo := ah.out
 have bq := ao.out
 have br := ap.out
 have hs24 : a8.cell? ⟨ae, 1, none⟩ = some (.slice none 0 0) := (Ze an0.out 1).trans rfl
 have cr := ZK an0.out 1
 have bt := aj.out
 have bu := ah.out
 have bv := ao.out
 have bw := ap.out
 refine skip_ (w1 := ?_) (by rfl) rfl ?_ ?_
 rotate_left
 ·go_simp
  rfl
 refine hK.out _ _ ⟨((cell_far (p := ⟨ae, _, none⟩) ah.out _).trans (((cell_far (p := ⟨ae, _, none⟩) ah.out _).trans (hHeld.1)))), ((cell_far (p := ⟨ae, _, none⟩) ah.out _).trans (((cell_far (p := ⟨ae, _, none⟩) ah.out _).trans (hHeld.2))))⟩ (fun hHeld => ?_)
 clear hK K
 refine pU 10 HT_ ?_
 refine done_ (done_of HT_.out (by kernel_rfl)) ?_
 have H := cb.out
 clear cb
 by_cases c5 : aV = true
 rotate_left
 ·replace c5 := Bool.eq_false_iff.mpr c5
  subst c5
  replace H := iF H
  simp only [Zf, Zl] at H
  obtain ⟨rfl, rfl⟩ := H
  have ct := ah.out
  have cu := ap.out
  obtain ⟨bx, bz, bA, bC⟩ := zZ ab
  have cv := aj.out
  have cw := ao.out
  have cy := ax.out
  have cz := az.out
  obtain ⟨bE, bF, bG, bH⟩ := zZ aa
  try go_wp2
  refine ZC (Zw rfl _ _ ag 24 #[.int .i64 am0, .slice aq al.length au] (0, 0) _ rfl (by (try refine bp ?_); refine Zo (cs := #[.int .i64 am0, .slice none 0 0]) ?_ 1 _ rfl; (try refine bp ?_); refine Zo (cs := #[.int .i64 0, .slice none 0 0]) ?_ 0 _ rfl; (try refine bp ?_); refine Zz ?_ aj.out _; (try refine bp ?_); refine Zz ?_ aj.out _; (first | exact bp aa.out | exact aa.out)) Tryz.underlying24 rfl (by kernel_rfl)) rfl ?_
  exact ⟨_, fR, by (try refine rp ?_); exact Zd (Zh (p := ⟨ag, 1, none⟩) (Zh (p := ⟨ag, 0, none⟩) (Zh (p := ⟨ae, 1, none⟩) (Zh (p := ⟨ae, 0, none⟩) (Zp (Zp ac.out an0.out (by decide)) aa.out (by decide)) (fun _ hk => hk.1.2) (.int .i64 aC)) (fun _ hk => hk.1.2) (.slice aZ aG.length a6)) (fun _ hk => hk.2) (.int .i64 am0)) (fun _ hk => hk.2) (.slice aq al.length au)) (fun _ hk => trivial), fK⟩
 subst c5
 replace H := iT H
 replace H := oB H
 obtain ⟨⟨bb, b6, b7⟩, cA, H⟩ := H
 replace H : (if bb = true then (some (aC, aG)) else (some (am0, al))) = some (r1, r2) := H
 have A6 := Za cA
 clear cA
 have cB := Za H
 clear H
 go_upto_if 24 with (first | (go_at_call 73; (with_reducible refine (gx.calls ai l0 aD aE 2 bb b6 b7 w _ ?side1 ?side2 A6.out).mono ?_); (case side1 => exact fP); (case side2 => exact fK); rintro e cY ⟨rfl, hi, hb, hk⟩; have n0_ := Za (Zc hk (g' := ag) (o := .cells #[.int .i64 0, .slice none 0 0] 24 (0, 0)) (by (try refine bp ?_); refine Zz ?_ aj.out _; (try refine bp ?_); refine Zz ?_ aj.out _; (first | exact bp aa.out | exact aa.out)) ax.out (by simp)); have n1_ := Za (Zd (Zy (IsS77.apart (show IsS77 w _ ai l0 aD aE from fP) (by (try refine rp ?_); exact (Zd (Zh (p := ⟨ae, 1, none⟩) (Zh (p := ⟨ae, 0, none⟩) (Zp ac.out an0.out (by decide)) (fun _ hk => hk.2) (.int .i64 aC)) (fun _ hk => hk.2) (.slice aZ aG.length a6)) (fun _ h_ => h_.1))) (by decide)) hk (fun _ h => h.2)) (fun _ h => h.1)); have n2_ := Za (Zc hk (g' := af) (o := .cells #[.int .i64 am0, .slice aq al.length au] 24 (0, 0)) (by (try refine bp ?_); refine Zz ?_ ah.out _; (try refine bp ?_); refine Zz ?_ ah.out _; (first | exact bp ab.out | exact ab.out)) aA.out (by simp)); have n3_ := Za (Zd (Zy (IsS77.apart (show IsS77 w _ ai l0 aD aE from fP) (by (try refine rp ?_); exact (Zd (Zh (p := ⟨ae, 1, none⟩) (Zh (p := ⟨ae, 0, none⟩) (Zp ay.out an0.out (by decide)) (fun _ hk => hk.2) (.int .i64 aC)) (fun _ hk => hk.2) (.slice aZ aG.length a6)) (fun _ h_ => h_.1))) (by decide)) hk (fun _ h => h.2)) (fun _ h => h.1)); have n4_ := Za (Zc hk (g' := ae) (o := .cells #[.int .i64 aC, .slice aZ aG.length a6] 24 (0, 0)) (by (try refine bp ?_); refine Zo (cs := #[.int .i64 aC, .slice none 0 0]) ?_ 1 _ rfl; (try refine bp ?_); refine Zo (cs := #[.int .i64 0, .slice none 0 0]) ?_ 0 _ rfl; (first | exact bp an0.out | exact an0.out)) av.out (by simp)); have n5_ := Za (hb); have n6_ := Za (hi); clear aa; clear ac; clear ab; clear ay; clear an0; clear HB; clear ak; have aa := n0_; have ac := n1_; have ab := n2_; have ay := n3_; have an0 := n4_; have HB := n5_; have ak := n6_; clear n0_ n1_ n2_ n3_ n4_ n5_ n6_; (try clear hb); (try clear hb2); (try clear hk); (try clear hi); have cD := ao.out; have cE := aj.out; have cF := ap.out; have cG := ah.out; have cH := av.out; have cI := aw.out; obtain ⟨bI, bJ, bK, bL⟩ := zZ an0; have cJ := ax.out; have cK := az.out; obtain ⟨bM, bN, bO, bR⟩ := zZ aa))
 have H := cB.out
 clear cB
 by_cases c7 : bb = true
 ·subst c7
  replace H := iT H
  simp only [Zf, Zl] at H
  obtain ⟨rfl, rfl⟩ := H
  try go_wp2_with (fail)
  refine ZC (Zw rfl _ _ ag 24 #[.int .i64 aC, .slice aZ aG.length a6] (0, 0) _ rfl (by (try refine bp ?_); refine Zo (cs := #[.int .i64 aC, .slice none 0 0]) ?_ 1 _ rfl; (try refine bp ?_); refine Zo (cs := #[.int .i64 0, .slice none 0 0]) ?_ 0 _ rfl; (first | exact bp aa.out | exact aa.out)) Tryz.underlying24 rfl (by kernel_rfl)) rfl ?_
  exact ⟨_, fR, by (try refine rp ?_); exact Zd (Zh (p := ⟨ag, 1, none⟩) (Zh (p := ⟨ag, 0, none⟩) (Zp ay.out aa.out (by decide)) (fun _ hk => hk.2) (.int .i64 aC)) (fun _ hk => hk.2) (.slice aZ aG.length a6)) (fun _ hk => trivial), fK⟩
 replace c7 := Bool.eq_false_iff.mpr c7
 subst c7
 replace H := iF H
 simp only [Zf, Zl] at H
 obtain ⟨rfl, rfl⟩ := H
 have cL := ah.out
 have cM := ap.out
 obtain ⟨bS, bT, bU, bV⟩ := zZ ab
 have cN := aj.out
 have cO := ao.out
 have cP := ax.out
 have cQ := az.out
 obtain ⟨bW, bX, bY, bZ⟩ := zZ aa
 try go_wp2_with (fail)
 refine ZC (Zw rfl _ _ ag 24 #[.int .i64 am0, .slice aq al.length au] (0, 0) _ rfl (by (try refine bp ?_); refine Zo (cs := #[.int .i64 am0, .slice none 0 0]) ?_ 1 _ rfl; (try refine bp ?_); refine Zo (cs := #[.int .i64 0, .slice none 0 0]) ?_ 0 _ rfl; (first | exact bp aa.out | exact aa.out)) Tryz.underlying24 rfl (by kernel_rfl)) rfl ?_
 exact ⟨_, fR, by (try refine rp ?_); exact Zd (Zh (p := ⟨ag, 1, none⟩) (Zh (p := ⟨ag, 0, none⟩) (Zp ac.out aa.out (by decide)) (fun _ hk => hk.2) (.int .i64 am0)) (fun _ hk => hk.2) (.slice aq al.length au)) (fun _ hk => trivial), fK⟩
def gM.f (l0 : List Int) : Option (Int × Int) := (fp.f l0 0 0 12).bind fun aa => ((fp.f l0 aa.2.1 aa.2.2 (Zg (aa.1 + 2))).bind fun ab => (some (aa.1, ab.1)))
theorem gM.calls (A0 : Option Addr) (c0 : Nat) (l0 : List Int) (r1 : Int) (r2 : Int) (w : ZJ) (hr0 : Kd.C (Zs .u8) w A0 l0.length l0) (hc0 : l0.length ≤ c0) (h : gM.f l0 = some (r1, r2)) :
  ZX Tryz.prog 33 #[.slice A0 l0.length c0] w fun e w' => e = .returned (.tuple #[.int .i64 r1, .int .i64 r2]) ∧ ZO w.heap.size w w' := by
 have hu77 := Tryz.underlying77
 have ap := Za hr0
 have aq := Za hc0
 clear hr0 hc0
 have HB := Za (ZN w.heap.size w)
 have H := h
 unfold gM.f at H
 clear h
 replace H := oB H
 obtain ⟨⟨ac, ae, af⟩, ak, H⟩ := H
 replace H : ((fp.f l0 ae af (Zg (ac + 2))).bind fun ag => (some (ac, ag.1))) = some (r1, r2) := H
 have A2 := Za ak
 clear ak
 replace H := oB H
 obtain ⟨⟨ah, ai, aj⟩, al, H⟩ := H
 replace H : (some (ac, ah)) = some (r1, r2) := H
 have A3 := Za al
 clear al
 simp only [Zf, Zl] at H
 obtain ⟨rfl, rfl⟩ := H
 go_enter Tryz.func33, Tryz.ntmps33
 go_wp2_with (first | ((with_reducible refine ZE (N := 8) rfl ?_); refine box_event ?hg (N := 8) ?hd (cs := #[.slice A0 l0.length c0, .int .i64 0, .int .u64 0]) (t := 77) ?hr ?_; (case hd => rfl); (case hg => rfl); (case hr => first | (go_simp; done) | (go_simp; rfl)); intro ab hg w4 hbox hb; have n0_ := sQ hb; have n1_ := Za (hbox); have n2_ := Za ((by rw [hg]; exact (Zi (wB)) : w.heap.size ≤ ab)); have n3_ := Za ((by rw [hg]; exact (Zi (wB)) : w.heap.size ≤ ab)); have n4_ := Za ((show IsS77 w _ ab l0 0 0 from ⟨A0, c0, hbox, (by rw [hg]; exact (Zi (wB))), ap.out⟩)); clear HB; have HB := n0_; have am0 := n1_; have an0 := n2_; have ao := n3_; have aa := n4_; clear n0_ n1_ n2_ n3_ n4_; clear hb hbox hg) | ((with_reducible refine Zn (f := 72) rfl ?_); refine gL 10 Tryz.func72 #[.pointer (some ⟨ab, 0, none⟩), .int .i64 12] ?_; (with_reducible refine (fp.calls ab l0 0 0 12 ac ae af w _ ?side1 ?side2 A2.out).mono ?_); (case side1 => repeat (first | (with_reducible first | exact aa.out | apply IsS77.alloc | apply IsS77.drewN | apply IsS77.drew | apply IsS77.set_1 | apply IsS77.set_2) | exact aa.out)); (case side2 => repeat (first | (with_reducible first | exact HB.out | apply ba | apply bd | apply be | refine bs ?_ (IsS77.ge aa.out)) | exact HB.out)); rintro e w5 ⟨rfl, hi, hb, hk⟩; refine ⟨_, rfl, ?_⟩; have n0_ := Za (hb); have n1_ := Za (hi); clear HB; clear aa; have HB := n0_; have aa := n1_; clear n0_ n1_; (try clear hb); (try clear hb2); (try clear hk); (try clear hi)) | ((with_reducible refine Zn (f := 72) rfl ?_); refine gL 15 Tryz.func72 #[.pointer (some ⟨ab, 0, none⟩), .int .i64 (Zg (ac + 2))] ?_; (with_reducible refine (fp.calls ab l0 ae af (Zg (ac + 2)) ah ai aj w _ ?side1 ?side2 A3.out).mono ?_); (case side1 => repeat (first | (with_reducible first | exact aa.out | apply IsS77.alloc | apply IsS77.drewN | apply IsS77.drew | apply IsS77.set_1 | apply IsS77.set_2) | exact aa.out)); (case side2 => repeat (first | (with_reducible first | exact HB.out | apply ba | apply bd | apply be | refine bs ?_ (IsS77.ge aa.out)) | exact HB.out)); rintro e w6 ⟨rfl, hi, hb, hk⟩; refine ⟨_, rfl, ?_⟩; have n0_ := Za (hb); have n1_ := Za (hi); clear HB; clear aa; have HB := n0_; have aa := n1_; clear n0_ n1_; (try clear hb); (try clear hb2); (try clear hk); (try clear hi)))
 go_ret2
 exact ⟨fR, by repeat (first | (with_reducible first | exact HB.out | apply ba | apply bd | apply be | refine bs ?_ (IsS77.ge aa.out)) | exact HB.out)⟩
def gN.f (k : Nat) (l0 : List Int) : Option (Int × List Int) := (ft.f k l0 0 0 8).bind fun aa => (some (aa.1, aa.2.1))
theorem gN.calls (k : Nat) (A0 : Option Addr) (c0 : Nat) (l0 : List Int) (r1 : Int) (r2 : List Int) (w : ZJ) (hr0 : Kd.C (Zs .u8) w A0 l0.length l0) (hc0 : l0.length ≤ c0) (h : gN.f k l0 = some (r1, r2)) :
  ZX Tryz.prog 34 #[.slice A0 l0.length c0] w fun e w' => ∃ v1_ : ZW, e = .returned (.agg #[.int .i64 r1, v1_]) ∧ Kd.R (Zs .i64) 3 w' w.heap.size (fun _ => True) v1_ r2 ∧ ZO w.heap.size w w' := by
 have hu24 := Tryz.underlying24
 have hu77 := Tryz.underlying77
 have aD := Za hr0
 have aJ := Za hc0
 clear hr0 hc0
 have HB := Za (ZN w.heap.size w)
 have H := h
 unfold gN.f at H
 clear h
 replace H := oB H
 obtain ⟨⟨ah, aj, al, am0⟩, au, H⟩ := H
 replace H : (some (ah, aj)) = some (r1, r2) := H
 have A2 := Za au
 clear au
 simp only [Zf, Zl] at H
 obtain ⟨rfl, rfl⟩ := H
 go_enter Tryz.func34, Tryz.ntmps34
 go_wp2_with (first | ((with_reducible refine ZE (N := 2) rfl ?_); refine box_event ?hg (N := 2) ?hd (cs := #[.int .i64 0, .slice none 0 0]) (t := 24) ?hr ?_; (case hd => rfl); (case hg => rfl); (case hr => first | (go_simp; done) | (go_simp; rfl)); intro ab hg w3 hbox hb; have n0_ := sQ hb; have n1_ := Za (hbox); have n2_ := Za ((by rw [hg]; exact (Zi (wB)) : w.heap.size ≤ ab)); have n3_ := Za ((by rw [hg]; exact (Zi (wB)) : w.heap.size ≤ ab)); clear HB; have HB := n0_; have aa := n1_; have av := n2_; have ai := n3_; clear n0_ n1_ n2_ n3_; clear hb hbox hg) | ((with_reducible refine ZE (N := 6) rfl ?_); refine box_event ?hg (N := 6) ?hd (cs := #[.slice A0 l0.length c0, .int .i64 0, .int .u64 0]) (t := 77) ?hr ?_; (case hd => rfl); (case hg => rfl); (case hr => first | (go_simp; done) | (go_simp; rfl)); intro ac hg w4 hbox hb; have n0_ := bP aa hb; have n1_ := sQ hb; have n2_ := Za (hbox); have n3_ := Za ((by rw [hg]; exact (Zi (wB)) : w.heap.size ≤ ac)); have n4_ := Za ((by rw [hg]; exact (Zi (wB)) : w.heap.size ≤ ac)); have n5_ := Za ((by rw [hg]; exact Zj (ZA (g := ab) (o := .cells #[.int .i64 0, .slice none 0 0] 24 (0, 0)) (bQ aa)) : ab ≠ ac)); have n6_ := Za ((by rw [hg]; exact Zk (ZA (g := ab) (o := .cells #[.int .i64 0, .slice none 0 0] 24 (0, 0)) (bQ aa)) : ac ≠ ab)); have n7_ := Za ((show IsS77 w _ ac l0 0 0 from ⟨A0, c0, hbox, (by rw [hg]; exact (Zi (wB))), aD.out⟩)); clear aa; clear HB; have aa := n0_; have HB := n1_; have aw := n2_; have ax := n3_; have ay := n4_; have af := n5_; have ag := n6_; have ae := n7_; clear n0_ n1_ n2_ n3_ n4_ n5_ n6_ n7_; clear hb hbox hg) | ((with_reducible refine Zn (f := 70) rfl ?_); refine gL 8 Tryz.func70 #[.pointer (some ⟨ac, 0, none⟩), .int .i64 8] ?_; (with_reducible refine (ft.calls k ac l0 0 0 8 ah aj al am0 w _ ?side1 ?side2 A2.out).mono ?_); (case side1 => repeat (first | (with_reducible first | exact ae.out | apply IsS77.alloc | apply IsS77.drewN | apply IsS77.drew | apply IsS77.set_1 | apply IsS77.set_2 | refine IsS77.far ?_ ag.out _) | exact ae.out)); (case side2 => repeat (first | (with_reducible first | exact HB.out | apply ba | apply bd | apply be | refine bs ?_ (IsS77.ge ae.out) | refine bs ?_ ai.out) | exact HB.out)); rintro e w5 ⟨aE, rfl, az, hi, hb, hk⟩; refine ⟨_, rfl, ?_⟩; have n0_ := Za (Zc hk (g' := ab) (o := .cells #[.int .i64 0, .slice none 0 0] 24 (0, 0)) (bQ aa) af.out (by simp)); have n1_ := Za (ZI az (Zi (by repeat (first | (with_reducible first | exact HB.out | apply ba | apply bd | apply be | refine bs ?_ (IsS77.ge ae.out) | refine bs ?_ ai.out) | exact HB.out)))); have n2_ := Za (hb); have n3_ := Za (hi); clear aa; clear HB; clear ae; have aa := n0_; have ak := n1_; have HB := n2_; have ae := n3_; clear n0_ n1_ n2_ n3_; (try clear hb); (try clear hb2); (try clear hk); (try clear hi); (try clear az); have aG := af.out; have aH := ag.out; obtain ⟨an0, ao, ap, aq⟩ := zZ aa; obtain ⟨aA, aC, aI⟩ := Zx ak.out; subst aI))
 refine ZC (Zw rfl _ _ ab 24 #[.int .i64 ah, .slice aA aj.length aC] (0, 0) _ rfl (by (try refine bp ?_); refine Zo (cs := #[.int .i64 ah, .slice none 0 0]) ?_ 1 _ rfl; (try refine bp ?_); refine Zo (cs := #[.int .i64 0, .slice none 0 0]) ?_ 0 _ rfl; (first | exact bp aa.out | exact aa.out)) Tryz.underlying24 rfl (by kernel_rfl)) rfl ?_
 exact ⟨_, fR, by (try refine rp ?_); exact Zd (Zh (p := ⟨ab, 1, none⟩) (Zh (p := ⟨ab, 0, none⟩) (Zp ak.out aa.out (by decide)) (fun _ hk => hk.2) (.int .i64 ah)) (fun _ hk => hk.2) (.slice aA aj.length aC)) (fun _ hk => trivial), by repeat (first | (with_reducible first | exact HB.out | apply ba | apply bd | apply be | refine bs ?_ (IsS77.ge ae.out) | refine bs ?_ ai.out) | exact HB.out)⟩
end Go.Proofs.YtaambkdiokbdgabGreat.Q
namespace Go.Proofs.YtaambkdiokbdgabGreat.Q
open Go.RowKit Go.Proofs.YtaambkdiokbdgabGreatX Go.Proofs.YtaambkdiokbdgabGreatY Go.Proofs.YtaambkdiokbdgabGreatX Go.Proofs.YtaambkdiokbdgabGreatW.PrintWords Go.Proofs.YtaambkdiokbdgabGreatW.PrintLast Go.Proofs.YtaambkdiokbdgabGreatW.PrintMore
attribute [local go_sem] max2_int min2_int max_two min_two max_three min_three max_four min_four   -- for this text's walks alone
set_option linter.unusedVariables false
set_option linter.unusedSimpArgs false
mutual
def fa.j0 : Nat → List Int → Bool → Int → Int → Int → List Int → Int → List Int → Int → List Int → Int → List Int → Option (Bool)
 | 0, _, _, _, _, _, _, _, _, _, _, _, _ => none
 | k + 1, x1, bl, bm, bn, ab, aa, aG, aH, ak, ac, ag, ae => if bl = true then ((fJ.f k ab aa aG aH).bind fun aI => ((fJ.f k ab aa ag ae).bind fun aJ => ((fg.f k ag ae).bind fun ay => ((fX.f k ab aa).bind fun az => ((fy.f k ab aa).bind fun aK => ((fy.f k ak ac).bind fun aM => (if aI.2 = true then (if aI.1 = true then (if aJ.2 = true then (if aJ.1 = true then (if ay.2.2 = true then ((fl.f k ay.1 ay.2.1 ag ae).bind fun a7 => (if a7 = true then (if az.2.2 = true then (if bm = (Zg (az.2.1 - ab)) then (if bn = (Zg ((Zg (ab - az.1)) + 1)) then (if aK.2 = true then (if aM.2 = true then (if aK.1 = aM.1 then (fa.l0 k x1 (aa.length : Int) 0 ab aa ak ac ag ae) else (none)) else (none)) else (none)) else (none)) else (none)) else (none)) else (none))) else (none)) else (none)) else (none)) else (none)) else (none)))))))) else (fa.j3 k x1)
def fa.j3 : Nat → List Int → Option (Bool)
 | 0, _ => none
 | k + 1, x1 => (gM.f x1).bind fun au => ((gF.f au.1 au.2).bind fun av => ((fG.f k au.1 au.2).bind fun aA => ((gN.f k x1).bind fun al => ((gl.f k al.1 al.2).bind fun an0 => ((gm.f k al.1 al.2).bind fun aC => ((gG.f k al.1 al.2).bind fun ao => ((gn.f k al.1 al.2).bind fun aD => (if (av.2.2 != aA.2.2) = true then (none) else ((fl.f k av.1 av.2.1 aA.1 aA.2.1).bind fun a8 => (if a8 = true then (if (an0.2.2 != aC.2.2) = true then (none) else ((fl.f k an0.1 an0.2.1 aC.1 aC.2.1).bind fun bb => (if bb = true then (if (ao.2.2 != aD.2.2) = true then (none) else ((fl.f k ao.1 ao.2.1 aD.1 aD.2.1).bind fun bc => (if bc = true then (if av.2.2 = true then (fa.l1 k au.1 au.2 an0.2.2 ao.2.2 0 av.1 av.2.1 al.1 al.2 an0.1 an0.2.1 ao.1 ao.2.1) else (fa.j5 k an0.2.2 ao.2.2 al.1 al.2 an0.1 an0.2.1 ao.1 ao.2.1)) else (none)))) else (none)))) else (none)))))))))))
def fa.j5 : Nat → Bool → Bool → Int → List Int → Int → List Int → Int → List Int → Option (Bool)
 | 0, _, _, _, _, _, _, _, _ => none
 | k + 1, aZ, aY, ah, af, ap, aq, ai, aj => if aZ = true then ((gI.f k ap aq).bind fun aN => ((fy.f k ap aq).bind fun aQ => ((fy.f k ah af).bind fun aT => (if aN.2 = true then ((fQ.f k aN.1 (af.length : Int)).bind fun bf => (if bf = true then (if aQ.2 = true then (if aT.2 = true then (if aQ.1 = aT.1 then (fa.j6 k aY ah af ai aj) else (none)) else (none)) else (none)) else (none))) else (none))))) else (fa.j6 k aY ah af ai aj)
def fa.j6 : Nat → Bool → Int → List Int → Int → List Int → Option (Bool)
 | 0, _, _, _, _, _ => none
 | k + 1, aY, ah, af, ai, aj => if aY = true then ((gJ.f k ai aj).bind fun aU => ((fy.f k ai aj).bind fun aV => ((fy.f k ah af).bind fun aW => (if aU.2 = true then ((fQ.f k aU.1 (af.length : Int)).bind fun bg => (if bg = true then (if aV.2 = true then (if aW.2 = true then (if aV.1 = (Zg (2 * aW.1)) then (some true) else (none)) else (none)) else (none)) else (none))) else (none))))) else (some true)
def fa.l1 : Nat → Int → Int → Bool → Bool → Int → Int → List Int → Int → List Int → Int → List Int → Int → List Int → Option (Bool)
 | 0, _, _, _, _, _, _, _, _, _, _, _, _, _ => none
 | k + 1, bi, bj, aZ, aY, a6, aw, ax, ah, af, ap, aq, ai, aj => if a6 ≤ bi then ((fA.f k aw ax a6).bind fun aX => (if aX.2 = true then (if ((decide (aX.1 > 0)) != (decide (a6 ≥ bj))) = true then (none) else (fa.l1 k bi bj aZ aY (Zg (a6 + 1)) aw ax ah af ap aq ai aj)) else (none))) else (fa.j5 k aZ aY ah af ap aq ai aj)
def fa.l0 : Nat → List Int → Int → Int → Int → List Int → Int → List Int → Int → List Int → Option (Bool)
 | 0, _, _, _, _, _, _, _, _, _ => none
 | k + 1, x1, aE, am0, ab, aa, ak, ac, ag, ae => if am0 < aE then (if 0 ≤ am0 then (if am0 < (ae.length : Int) then (if am0 < (aa.length : Int) then (if (rd ae am0) > (rd aa am0) then (none) else (if am0 > 0 then (if 0 ≤ (Zg (am0 - 1)) then (if (Zg (am0 - 1)) < (ac.length : Int) then (if am0 < (ac.length : Int) then (fa.j2 k x1 aE am0 (decide ((rd ac (Zg (am0 - 1))) < (rd ac am0))) ab aa ak ac ag ae) else (none)) else (none)) else (none)) else (fa.j2 k x1 aE am0 false ab aa ak ac ag ae))) else (none)) else (none)) else (none)) else (fa.j3 k x1)
def fa.j2 : Nat → List Int → Int → Int → Bool → Int → List Int → Int → List Int → Int → List Int → Option (Bool)
 | 0, _, _, _, _, _, _, _, _, _, _ => none
 | k + 1, x1, aE, am0, bh, ab, aa, ak, ac, ag, ae => if bh = true then (none) else (fa.l0 k x1 aE (Zg (am0 + 1)) ab aa ak ac ag ae)
end
def fa.f (k : Nat) (l0 : List Int) (l1 : List Int) : Option (Bool) := (gw.f l0 l1).bind fun aq => (if aq = true then (some true) else ((gK.f k l0).bind fun ac => ((fE.f k ac.1 ac.2.1 ac.2.2).bind fun ae => ((fu.f k ac.1 ac.2.1 ac.2.2).bind fun ai => ((f5.f k l0).bind fun aa => ((ff.f k aa.1 aa.2).bind fun ab => ((fk.f k aa.1 aa.2).bind fun aj => ((fc.f k aa.1 aa.2).bind fun af => ((fo.f k aa.1 aa.2).bind fun ak => ((fg.f k aa.1 aa.2).bind fun ag => ((fe.f k aa.1 aa.2).bind fun al => ((fL.f k aa.1 aa.2).bind fun ah => ((fW.f k aa.1 aa.2).bind fun am0 => (if (ae.2.2 != ai.2.2) = true then (none) else ((fl.f k ae.1 ae.2.1 ai.1 ai.2.1).bind fun au => (if au = true then (if (ab.2.2 != aj.2.2) = true then (none) else ((fl.f k ab.1 ab.2.1 aj.1 aj.2.1).bind fun av => (if av = true then (if (af.2.2 != ak.2.2) = true then (none) else ((fl.f k af.1 af.2.1 ak.1 ak.2.1).bind fun aw => (if aw = true then (if (ag.2.2 != al.2.2) = true then (none) else ((fl.f k ag.1 ag.2.1 al.1 al.2.1).bind fun ax => (if ax = true then (if (ah.2.2 != am0.2.2) = true then (none) else (if ah.1 = am0.1 then (if ah.2.1 = am0.2.1 then ((fd.f k aa.1 aa.2).bind fun ay => (if (ab.2.2 != ay) = true then (none) else (if (af.2.2 != ab.2.2) = true then (none) else (if (ag.2.2 != ab.2.2) = true then (none) else (if (ah.2.2 != ab.2.2) = true then (none) else (if ae.2.2 = true then ((fJ.f k ac.1 ac.2.1 ae.1 ae.2.1).bind fun ap => ((ff.f k ae.1 ae.2.1).bind fun an0 => ((ff.f k ac.1 ac.2.1).bind fun ao => (if ap.2 = true then (if ap.1 = true then (if an0.2.2 = true then (if ao.2.2 = true then ((fl.f k an0.1 an0.2.1 ao.1 ao.2.1).bind fun az => (if az = true then (fa.j0 k l1 ab.2.2 ah.1 ah.2.1 aa.1 aa.2 ab.1 ab.2.1 af.1 af.2.1 ag.1 ag.2.1) else (none))) else (none)) else (none)) else (none)) else (none))))) else (fa.j0 k l1 ab.2.2 ah.1 ah.2.1 aa.1 aa.2 ab.1 ab.2.1 af.1 af.2.1 ag.1 ag.2.1))))))) else (none)) else (none))) else (none)))) else (none)))) else (none)))) else (none)))))))))))))))))
end Go.Proofs.YtaambkdiokbdgabGreat.Q
