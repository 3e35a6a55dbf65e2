/- Printed functions, their contracts and plain facts on them: QImplVotesIdle; QImplIdleMembers; QLawsFnExactIdleMembers; QImplSumOf; PSumOf; QImplIsCommittee; PIsCommittee; PSperner; PSetFacts; PIsSet; PMaskOf; PRdL2; PSlicesCompare; PIsGame; PVoBefore; PVoBits; QSpecVoSum; PVoSum; QSpecL1All; QSpecVoGood; PVoGood; PVoSet; PGmGood; PGoodSets; PSetN; PAndNot; PSetOf; QImplCommitteeWeight; PWeight; PVotesLeast; PIdle; PMasks; PLeastOfGame; PVoList; QSpecVoWeight; PVoWeight; QSpecVoWins; PVoWins; PVotesOf; PVotesBy; PIdleMembers. Conditions: as each theorem states. -/
import Derived.Test.YtmmmblfghhcndaaGIdleMembersx0
import Derived.Test.YtmmmblfghhcndaaGIdleMembersx1
namespace Go.Proofs.Ytmmmblfghhcndaa.Q
open Go.RowKit Go.Proofs.YtmmmblfghhcndaaW.PrintWords Go.Proofs.YtmmmblfghhcndaaW.PrintLast Go.Proofs.YtmmmblfghhcndaaW.PrintMore
attribute [local go_sem] max2_int min2_int max_two min_two max_three min_three max_four min_four   -- for this text's walks alone
set_option linter.unusedVariables false
set_option linter.unusedSimpArgs false

/-! ### impl_votes_idle: function 80 (given) -/
-- INFO 3
open Go.Proofs.YtmmmblfghhcndaaM in
theorem impl_votes_idle.index_ev (l : List Int) (x : Int) (hl : l.length ≤ 9223372036854775807) : ∀ (d i : Nat), i + d = l.length → ∃ r : Int, Ev (fun k => slices_Index_int_int.l0 k l x (l.length : Int) (i : Int)) r ∧ decide (r ≥ 0) = (l.drop i).contains x := by
  intro d
  induction d with
  | zero =>
    intro i h
    refine ⟨-1, ev_step ?_, ?_⟩
    · simp only [slices_Index_int_int.l0]
      rw [ev_neg (by omega), ev_now]
    · rw [List.drop_of_length_le (by omega)]
      rfl
  | succ d ih =>
    intro i h
    have hi : i < l.length := by omega
    by_cases e : x = l[i]
    · refine ⟨(i : Int), ev_step ?_, ?_⟩
      · simp only [slices_Index_int_int.l0]
        rw [ev_pos (by omega), ev_pos (by omega), ev_pos (by omega), rd_lt l i hi, ev_pos e, ev_now]
      · rw [List.drop_eq_getElem_cons hi, decide_eq_true (by omega), List.contains_cons, beq_iff_eq.2 e, Bool.true_or]
    · obtain ⟨r, hr1, hr2⟩ := ih (i + 1) (by omega)
      refine ⟨r, ev_step ?_, ?_⟩
      · simp only [slices_Index_int_int.l0]
        rw [ev_pos (by omega), ev_pos (by omega), ev_pos (by omega), rd_lt l i hi, ev_neg e, w64i (n := l.length) (by omega) (by omega) hl]
        exact hr1
      · rw [hr2, List.drop_eq_getElem_cons hi, List.contains_cons]
        have : (x == l[i]) = false := beq_eq_false_iff_ne.2 e
        rw [this, Bool.false_or]
open Go.Proofs.YtmmmblfghhcndaaM in
theorem impl_votes_idle.contains_ev (l : List Int) (x : Int) (hl : l.length ≤ 9223372036854775807) : Ev (fun k => slices_Contains_int_int.f k l x) (l.contains x) := by
  obtain ⟨r, h1, h2⟩ := impl_votes_idle.index_ev l x hl l.length 0 (by omega)
  simp only [slices_Contains_int_int.f]
  rw [ev_bind (show Ev (fun k => slices_Index_int_int.f k l x) r from h1), ev_now, h2, List.drop_zero]
def impl_votes_idle.p (L : List (List Int)) (x : Int) : Bool := !(L.any fun s => s.contains x)
def impl_votes_idle.f (k : Nat) (a0_0 : Int) (l0_1 : List Bool) : Option (List Int) := if a0_0 ≤ 9223372036854775807 then (impl_votes_least.f k a0_0 l0_1).bind fun L => impl_members.g k a0_0 (fun x => some (impl_votes_idle.p L x)) else none
theorem impl_votes_idle.mono : ∀ a0 a1 k, LeO (impl_votes_idle.f k a0 a1) (impl_votes_idle.f (k + 1) a0 a1) := by
  intro a0 a1 k
  refine LeO.ite ?_ (LeO.none _)
  exact LeO.bind (impl_votes_least.mono _ _ _) (fun _ => impl_members.mono_p (fun _ => LeO.refl _) _ _)
set_option maxHeartbeats 8000000 in
set_option maxRecDepth 100000 in
theorem impl_isIn_1.clo (x : Int) (A : Option Addr) (c : Nat) (s : List Int) (B : Nat) (W : World) (h0 : W.cell? ⟨B, 0, none⟩ = some (.int .i64 x)) (hr : Kd.C (Kd.int .i64) W A s.length s) (hc : s.length ≤ c) :
    Calls Try.prog 142 #[.slice A s.length c, .pointer (some ⟨B, 0, none⟩)] W fun e W' => e = .returned (.bool (s.contains x)) ∧ Below W.heap.size W W' := by
  obtain ⟨K, hK⟩ := impl_votes_idle.contains_ev s x (Kd.C_max hr)
  have HC := Aside0.mk (fun W1 (h1 : Kd.C (Kd.int .i64) W1 A s.length s) => slices_Contains_int_int.calls K A c s x _ W1 h1 hc (hK K (Nat.le_refl _)))
  have HR := Aside0.mk hr
  clear hK hr hc
  generalize s.contains x = b at *
  go_enter Try.func142, Try.ntmps142
  go_wp2_with fail
  refine (HC.out _ HR.out).mono ?_
  rintro e w' ⟨rfl, hd⟩
  have HD := Aside0.mk hd.below
  clear hd
  go_wp2
  go_ret
  exact ⟨rfl, HD.out⟩
set_option maxHeartbeats 8000000 in
set_option maxRecDepth 100000 in
theorem impl_isIn.mk (x : Int) (W : World) : Calls Try.prog 121 #[.int .i64 x] W fun e W' => e = .returned (.func (.func 142) #[] #[.pointer (some ⟨W.heap.size, 0, none⟩)]) ∧ W' = W.alloc (.cells #[.int .i64 x] 3) := by
  have hmf : ∀ (fn : Fn) (first cap : Array Value) (w : World), (Instr.makeFunc fn first cap).run Try.prog w = .ok (.func fn first cap) w := fun _ _ _ _ => rfl
  go_enter Try.func121, Try.ntmps121
  go_wp2
  go_ret
  exact ⟨rfl, rfl⟩
set_option maxHeartbeats 8000000 in
set_option maxRecDepth 100000 in
theorem impl_votes_idle_1.clo (x : Int) (L : List (List Int)) (A : Option Addr) (c : Nat) (B : Nat) (W : World) (h0 : W.cell? ⟨B, 0, none⟩ = some (.slice A L.length c)) (hr : Kd.C (Kd.slice 3 (Kd.int .i64)) W A L.length L) :
    Calls Try.prog 120 #[.int .i64 x, .pointer (some ⟨B, 0, none⟩)] W fun e W' => e = .returned (.bool (impl_votes_idle.p L x)) ∧ Below W.heap.size W W' := by
  have eg : ∀ args w, (callFunc 142 args).run Try.prog w = .ok (.enter 142 args) w := enters_of Try.func142 (by kernel_rfl) rfl
  have hlt : B < W.heap.size := World.block_lt_of_cell? W _ h0
  have hd0 : W.drew.cell? ⟨B, 0, none⟩ = some (.slice A L.length c) := h0
  have HD0 := Aside0.mk hd0
  have HLT := Aside0.mk (show B < W.drew.heap.size from hlt)
  have HR := Aside0.mk (Kd.C_drew hr)
  have HF := Aside0.mk (fun (W0 : World) (hW : Kd.C (Kd.slice 3 (Kd.int .i64)) W0 A L.length L) => slices_ContainsFunc_intS.hof A c L 142 #[.pointer (some ⟨W0.heap.size, 0, none⟩)] (fun s => s.contains x) (W0.alloc (.cells #[.int .i64 x] 3)) (Kd.C_alloc hW _) eg (fun W1 A1 c1 s _ hb hC hc => impl_isIn_1.clo x A1 c1 s W0.heap.size W1 (by rw [hb.cell (p := ⟨W0.heap.size, 0, none⟩) (by simp)]; simp [go_sem]) hC hc))
  have HBD := Aside0.mk (show Below W.heap.size W W.drew from below_drew1 (Below.refl _ _))
  unfold impl_votes_idle.p
  generalize (L.any fun s => s.contains x) = b at *
  clear hr hlt hd0
  go_enter Try.func120, Try.ntmps120
  go_wp2
  go_region_held3 (fun w' => w'.cell? ⟨B, 0, none⟩ = some (.slice A L.length c)) (first | exact k0 | go_keep)
    (first | (go_at_call 121; refine (impl_isIn.mk x _).mono ?_; rintro e w' ⟨rfl, rfl⟩; have k0 := ((below_alloc (Below.refl W.drew.heap.size W.drew) (.cells #[.int .i64 x] 3)).cell (p := ⟨B, 0, none⟩) HLT.out).trans HD0.out) | (go_at_call 104; refine (HF.out _ HR.out).mono ?_; rintro e w' ⟨rfl, hb⟩; have k0 := (hb.cell (p := ⟨B, 0, none⟩) (by simp; exact Nat.lt_succ_of_lt HLT.out)).trans (((below_alloc (Below.refl W.drew.heap.size W.drew) (.cells #[.int .i64 x] 3)).cell (p := ⟨B, 0, none⟩) HLT.out).trans HD0.out); have HBN := Aside0.mk (HBD.out.trans ((below_alloc (Below.refl W.drew.heap.size W.drew) (.cells #[.int .i64 x] 3)).trans (hb.mono (by simp)))); clear hb))
  go_wp2
  go_ret
  exact ⟨rfl, HBN.out⟩
set_option maxHeartbeats 8000000 in
set_option maxRecDepth 100000 in
theorem impl_votes_idle.calls (k : Nat) (a0_0 : Int) (A0_1 : Option Addr) (c0_1 : Nat) (l0_1 : List Bool) (r : List Int) (w : World) (hr0_1 : Kd.C Kd.bool w A0_1 l0_1.length l0_1) (hc0_1 : l0_1.length ≤ c0_1) (h : impl_votes_idle.f k a0_0 l0_1 = some r) :
    Calls Try.prog 80 #[.agg #[.int .i64 a0_0, .slice A0_1 l0_1.length c0_1]] w fun e w' => ∃ v0_ : Value, e = .returned (v0_) ∧ Kd.R (Kd.int .i64) 3 w' w.heap.size (fun _ => True) v0_ r ∧ Below w.heap.size w w' := by
  have eg : ∀ args w, (callFunc 120 args).run Try.prog w = .ok (.enter 120 args) w := enters_of Try.func120 (by kernel_rfl) rfl
  have hmf : ∀ (fn : Fn) (first cap : Array Value) (w : World), (Instr.makeFunc fn first cap).run Try.prog w = .ok (.func fn first cap) w := fun _ _ _ _ => rfl
  have huV := Try.underlying69
  by_cases hn : a0_0 ≤ 9223372036854775807
  case neg => simp only [impl_votes_idle.f] at h; rw [if_neg hn] at h; cases h
  simp only [impl_votes_idle.f] at h
  rw [if_pos hn] at h
  obtain ⟨L, hL, hg⟩ := Option.bind_eq_some_iff.mp h
  have HR := Aside0.mk hr0_1
  have HC := Aside0.mk hc0_1
  have HL := Aside0.mk hL
  have HG := Aside0.mk hg
  have HN := Aside0.mk hn
  have HB1 := Aside0.mk (show Below w.heap.size w (w.alloc (.cells #[.int .i64 a0_0, .slice A0_1 l0_1.length c0_1] 69)) from (Below.refl _ _).alloc (Nat.le_refl _) _)
  clear hr0_1 hc0_1 h hL hg hn
  go_enter Try.func80, Try.ntmps80
  go_wp2_with fail
  refine (impl_votes_least.calls k a0_0 A0_1 c0_1 l0_1 L _ (Kd.C_below HR.out HB1.out) HC.out HL.out).mono ?_
  rintro e w1 ⟨v1, rfl, hS, hb⟩
  obtain ⟨A1, c1, rfl, hl1, hC1⟩ := Kd.S_reads hS
  have hw1 := blk_new w (.cells #[.int .i64 a0_0, .slice A0_1 l0_1.length c0_1] 69)
  have BK := Aside0.mk (blk_below hw1 hb)
  have HB2 := Aside0.mk (HB1.out.trans (hb.mono HB1.out.size))
  have HC1 := Aside0.mk hC1
  clear hS hl1 hC1 hw1 hb
  have hc0 : (w1.alloc (.cells #[.slice A1 L.length c1] 25)).cell? ⟨w.heap.size, 0, none⟩ = some (.int .i64 a0_0) := (blk_cell (blk_alloc BK.out _) 0).trans rfl
  have HB3 := Aside0.mk (HB2.out.trans ((below_alloc (Below.refl w1.heap.size w1) (.cells #[.slice A1 L.length c1] 25)).mono HB2.out.size))
  have HX := Aside0.mk (fun (k0 : Nat) => impl_members.hof k a0_0 (fun x => some (impl_votes_idle.p L x)) 120 #[] #[.pointer (some ⟨w1.heap.size, 0, none⟩)] r (w1.alloc (.cells #[.slice A1 L.length c1] 25)) HN.out eg (fun W x b hb _ _ hx => by
    obtain rfl := Option.some.inj hx
    refine impl_votes_idle_1.clo x L A1 c1 w1.heap.size W ?_ (Kd.C_below (Kd.C_alloc HC1.out _) hb)
    rw [hb.cell (p := ⟨w1.heap.size, 0, none⟩) (by simp)]
    simp [go_sem]) HG.out)
  go_wp2_with fail
  refine (HX.out 0).mono ?_
  rintro e w' ⟨v2, rfl, hO, hb⟩
  have HO := Aside0.mk (Kd.R_lower hO HB3.out.size)
  have HB4 := Aside0.mk (HB3.out.trans (hb.mono HB3.out.size))
  clear hO hb
  go_wp2
  go_ret
  exact ⟨_, rfl, HO.out, HB4.out⟩

end Go.Proofs.Ytmmmblfghhcndaa.Q

namespace Go.Proofs.Ytmmmblfghhcndaa.Q
open Go.RowKit Go.Proofs.YtmmmblfghhcndaaX Go.Proofs.YtmmmblfghhcndaaW.PrintWords Go.Proofs.YtmmmblfghhcndaaW.PrintLast Go.Proofs.YtmmmblfghhcndaaW.PrintMore
attribute [local go_sem] max2_int min2_int max_two min_two max_three min_three max_four min_four   -- for this text's walks alone
set_option linter.unusedVariables false
set_option linter.unusedSimpArgs false

/-! ### impl_IdleMembers: function 34 -/
def impl_IdleMembers.f (k : Nat) (a0_0 : Int) (l0_1 : List (List Int)) : Option (List Int × Bool) := (impl_IsGame.f k a0_0 l0_1).bind fun t102 => (if t102 = true then ((impl_Game_votes.f k a0_0 l0_1).bind fun bt103 => ((impl_votes_idle.f k bt103.1 bt103.2).bind fun t107 => (some (t107, true)))) else (some (([] : List Int), false)))
theorem impl_IdleMembers.mono : ∀ a0 a1 k, LeO (impl_IdleMembers.f k a0 a1) (impl_IdleMembers.f (k + 1) a0 a1) := by
 intro a0 a1 k
 unfold impl_IdleMembers.f
 repeat' first
   | (with_reducible exact impl_Game_votes.mono _ _ _)
   | (with_reducible exact impl_IsGame.mono _ _ _)
   | (with_reducible exact impl_votes_idle.mono _ _ _)
   | (with_reducible exact LeO.refl _)
   | (with_reducible exact LeO.none _)
   | (with_reducible refine LeO.ite ?_ ?_)
   | (with_reducible refine LeO.bind ?_ (fun _ => ?_))
   | exact impl_Game_votes.mono _ _ _
   | exact impl_IsGame.mono _ _ _
   | exact impl_votes_idle.mono _ _ _
   | exact LeO.none _
   | refine LeO.ite ?_ ?_
   | refine LeO.bind ?_ (fun _ => ?_)
set_option maxHeartbeats 8000000 in
set_option maxRecDepth 100000 in
theorem impl_IdleMembers.calls (k : Nat) (a0_0 : Int) (A0_1 : Option Addr) (c0_1 : Nat) (l0_1 : List (List Int)) (r1 : List Int) (r2 : Bool) (w : World) (hr0_1 : Kd.C (Kd.slice 3 (Kd.int .i64)) w A0_1 l0_1.length l0_1) (hc0_1 : l0_1.length ≤ c0_1) (h : impl_IdleMembers.f k a0_0 l0_1 = some (r1, r2)) :
  Calls Try.prog 34 #[.agg #[.int .i64 a0_0, .slice A0_1 l0_1.length c0_1]] w fun e w' => ∃ v0_ : Value, e = .returned (.tuple #[v0_, .bool r2]) ∧ Kd.R (Kd.int .i64) 3 w' w.heap.size (fun _ => True) v0_ r1 ∧ Below w.heap.size w w' := by
 have hu28 := Try.underlying28
 have HR0_1 := Aside0.mk hr0_1
 have HC0_1 := Aside0.mk hc0_1
 clear hr0_1 hc0_1
 have HB := Aside0.mk (Below.refl w.heap.size w)
 have H : ((impl_IsGame.f k a0_0 l0_1).bind fun t102 => (if t102 = true then ((impl_Game_votes.f k a0_0 l0_1).bind fun bt103 => ((impl_votes_idle.f k bt103.1 bt103.2).bind fun t107 => (some (t107, true)))) else (some (([] : List Int), false)))) = some (r1, r2) := h
 clear h
 replace H := oB H
 obtain ⟨t102, A20, H⟩ := H
 replace H : (if t102 = true then ((impl_Game_votes.f k a0_0 l0_1).bind fun bt103 => ((impl_votes_idle.f k bt103.1 bt103.2).bind fun t107 => (some (t107, true)))) else (some (([] : List Int), false))) = some (r1, r2) := H
 have A2 := Aside0.mk A20
 clear A20
 by_cases c3 : t102 = true
 ·subst c3
  have H1 : ((impl_Game_votes.f k a0_0 l0_1).bind fun bt103 => ((impl_votes_idle.f k bt103.1 bt103.2).bind fun t107 => (some (t107, true)))) = some (r1, r2) := by rw [if_pos rfl] at H; exact H
  clear H
  have H := H1
  clear H1
  replace H := oB H
  obtain ⟨⟨t103, t104⟩, A40, H⟩ := H
  replace H : ((impl_votes_idle.f k t103 t104).bind fun t107 => (some (t107, true))) = some (r1, r2) := H
  have A4 := Aside0.mk A40
  clear A40
  replace H := oB H
  obtain ⟨t107, A50, H⟩ := H
  replace H : (some (t107, true)) = some (r1, r2) := H
  have A5 := Aside0.mk A50
  clear A50
  simp only [Option.some.injEq, Prod.mk.injEq] at H
  obtain ⟨rfl, rfl⟩ := H
  go_enter Try.func34, Try.ntmps34
  go_wp2_with (first | ((with_reducible refine gate_dst (N := 1) rfl ?_); refine box_event ?hg (N := 1) ?hd (cs := #[.int .i64 a0_0, .slice A0_1 l0_1.length c0_1]) (t := 28) ?hr ?_; (case hd => rfl); (case hg => rfl); (case hr => first | (go_simp; done) | (go_simp; rfl)); intro gb101 hg w6 hbox hb; have n0_ := Aside0.mk (below_step (by repeat (first | (with_reducible first | exact HB.out | apply ba | apply bd | apply be) | exact HB.out)) hb); have n1_ := Aside0.mk (hbox); have n2_ := Aside0.mk ((by rw [hg]; exact (below_size (by repeat (first | (with_reducible first | exact HB.out | apply ba | apply bd | apply be) | exact HB.out))) : w.heap.size ≤ gb101)); have n3_ := Aside0.mk ((by rw [hg]; exact (below_size (by repeat (first | (with_reducible first | exact HB.out | apply ba | apply bd | apply be) | exact HB.out))) : w.heap.size ≤ gb101)); clear HB; have HB := n0_; have BK101 := n1_; have GW101 := n2_; have GE101 := n3_; clear n0_ n1_ n2_ n3_; clear hb hbox hg; have hcz7_0 : w6.cell? ⟨gb101, 0, none⟩ = some (.int .i64 a0_0) := (blk_cell BK101.out 0).trans rfl; have hcz7_1 : w6.cell? ⟨gb101, 1, none⟩ = some (.slice A0_1 l0_1.length c0_1) := (blk_cell BK101.out 1).trans rfl; have hfz7_0 := blk_frozen BK101.out 0; have hfz7_1 := blk_frozen BK101.out 1) | ((with_reducible refine gate_callee (f := 79) rfl ?_); refine goesL_ (some 5) rfl rfl Try.func79 (by kernel_rfl) rfl #[.agg #[.int .i64 a0_0, .slice A0_1 l0_1.length c0_1]] rfl (by (try simp only [mA, mC, mN]); first | done | rfl | (simp only [List.length_drop, List.length_take]; rfl)) ?_; (with_reducible refine (impl_IsGame.calls k a0_0 _ _ l0_1 true _ ?side1 ?side2 A2.out).mono ?_); (case side1 => repeat (first | exact (Kd.C_below HR0_1.out HB.out) | (with_reducible refine Kd.C_alloc ?_ _) | (with_reducible refine Kd.C_drewN ?_ _) | (with_reducible refine Kd.C_drew ?_))); (case side2 => exact HC0_1.out); rintro e w8 ⟨rfl, hb⟩; refine ⟨_, rfl, ?_⟩; have n0_ := Aside0.mk (blk_below (g := gb101) (o := .cells #[.int .i64 a0_0, .slice A0_1 l0_1.length c0_1] 28 (0, 0)) (by (first | exact bp BK101.out | exact BK101.out)) hb); have n1_ := Aside0.mk (below_step (by repeat (first | (with_reducible first | exact HB.out | apply ba | apply bd | apply be | refine bs ?_ GE101.out) | exact HB.out)) hb); clear BK101; clear HB; have BK101 := n0_; have HB := n1_; clear n0_ n1_; (try clear hb); (try clear hb2); (try clear hk); (try clear hi); have hcz9_0 : w8.cell? ⟨gb101, 0, none⟩ = some (.int .i64 a0_0) := (blk_cell BK101.out 0).trans rfl; have hcz9_1 : w8.cell? ⟨gb101, 1, none⟩ = some (.slice A0_1 l0_1.length c0_1) := (blk_cell BK101.out 1).trans rfl; have hfz9_0 := blk_frozen BK101.out 0; have hfz9_1 := blk_frozen BK101.out 1) | ((with_reducible refine gate_callee (f := 59) rfl ?_); refine goesL_ (some 8) rfl rfl Try.func59 (by kernel_rfl) rfl #[.agg #[.int .i64 a0_0, .slice A0_1 l0_1.length c0_1]] rfl (by (try simp only [mA, mC, mN]); first | done | rfl | (simp only [List.length_drop, List.length_take]; rfl)) ?_; (with_reducible refine (impl_Game_votes.calls k a0_0 _ _ l0_1 t103 t104 _ ?side1 ?side2 A4.out).mono ?_); (case side1 => repeat (first | exact (Kd.C_below HR0_1.out HB.out) | (with_reducible refine Kd.C_alloc ?_ _) | (with_reducible refine Kd.C_drewN ?_ _) | (with_reducible refine Kd.C_drew ?_))); (case side2 => exact HC0_1.out); rintro e w10 ⟨v105, rfl, ho0, hb⟩; refine ⟨_, rfl, ?_⟩; have n0_ := Aside0.mk (Kd.R_lower ho0 (below_size (by repeat (first | (with_reducible first | exact HB.out | apply ba | apply bd | apply be | refine bs ?_ GE101.out) | exact HB.out)))); have n1_ := Aside0.mk (blk_below (g := gb101) (o := .cells #[.int .i64 a0_0, .slice A0_1 l0_1.length c0_1] 28 (0, 0)) (by (first | exact bp BK101.out | exact BK101.out)) hb); have n2_ := Aside0.mk (below_step (by repeat (first | (with_reducible first | exact HB.out | apply ba | apply bd | apply be | refine bs ?_ GE101.out) | exact HB.out)) hb); clear BK101; clear HB; have HO106 := n0_; have BK101 := n1_; have HB := n2_; clear n0_ n1_ n2_; (try clear hb); (try clear hb2); (try clear hk); (try clear hi); (try clear ho0); obtain ⟨Ao11, co11, eo11⟩ := Kd.R_slice HO106.out; subst eo11) | ((with_reducible refine gate_callee (f := 80) rfl ?_); refine goesL_ (some 9) rfl rfl Try.func80 (by kernel_rfl) rfl #[.agg #[.int .i64 t103, .slice Ao11 t104.length co11]] rfl (by (try simp only [mA, mC, mN]); first | done | rfl | (simp only [List.length_drop, List.length_take]; rfl)) ?_; (with_reducible refine (impl_votes_idle.calls k t103 _ _ t104 t107 _ ?side1 ?side2 A5.out).mono ?_); (case side1 => repeat (first | exact (Kd.R_reads' HO106.out).2.2 | (with_reducible refine Kd.C_alloc ?_ _) | (with_reducible refine Kd.C_drewN ?_ _) | (with_reducible refine Kd.C_drew ?_))); (case side2 => exact (Kd.R_reads' HO106.out).2.1); rintro e w12 ⟨v108, rfl, ho0, hb⟩; refine ⟨_, rfl, ?_⟩; have n0_ := Aside0.mk (Kd.R_below (by (first | exact rp HO106.out | exact HO106.out)) hb); have n1_ := Aside0.mk (Kd.R_lower ho0 (below_size (by repeat (first | (with_reducible first | exact HB.out | apply ba | apply bd | apply be | refine bs ?_ GE101.out) | exact HB.out)))); have n2_ := Aside0.mk (blk_below (g := gb101) (o := .cells #[.int .i64 a0_0, .slice A0_1 l0_1.length c0_1] 28 (0, 0)) (by (first | exact bp BK101.out | exact BK101.out)) hb); have n3_ := Aside0.mk (below_step (by repeat (first | (with_reducible first | exact HB.out | apply ba | apply bd | apply be | refine bs ?_ GE101.out) | exact HB.out)) hb); clear HO106; clear BK101; clear HB; have HO106 := n0_; have HO109 := n1_; have BK101 := n2_; have HB := n3_; clear n0_ n1_ n2_ n3_; (try clear hb); (try clear hb2); (try clear hk); (try clear hi); (try clear ho0)))
  go_ret2
  exact ⟨_, by first | rfl | (simp <;> rfl) | (simp [*] <;> rfl), by (first | exact rp HO109.out | exact HO109.out), by repeat (first | (with_reducible first | exact HB.out | apply ba | apply bd | apply be | refine bs ?_ GE101.out) | exact HB.out)⟩
 ·replace c3 := Bool.eq_false_iff.mpr c3
  subst c3
  have H1 : (some (([] : List Int), false)) = some (r1, r2) := by rw [if_neg (show ¬ (false = true) by decide)] at H; exact H
  clear H
  have H := H1
  clear H1
  simp only [Option.some.injEq, Prod.mk.injEq] at H
  obtain ⟨rfl, rfl⟩ := H
  go_enter Try.func34, Try.ntmps34
  go_wp2_with (first | ((with_reducible refine gate_dst (N := 1) rfl ?_); refine box_event ?hg (N := 1) ?hd (cs := #[.int .i64 a0_0, .slice A0_1 l0_1.length c0_1]) (t := 28) ?hr ?_; (case hd => rfl); (case hg => rfl); (case hr => first | (go_simp; done) | (go_simp; rfl)); intro gb101 hg w13 hbox hb; have n0_ := Aside0.mk (below_step (by repeat (first | (with_reducible first | exact HB.out | apply ba | apply bd | apply be) | exact HB.out)) hb); have n1_ := Aside0.mk (hbox); have n2_ := Aside0.mk ((by rw [hg]; exact (below_size (by repeat (first | (with_reducible first | exact HB.out | apply ba | apply bd | apply be) | exact HB.out))) : w.heap.size ≤ gb101)); have n3_ := Aside0.mk ((by rw [hg]; exact (below_size (by repeat (first | (with_reducible first | exact HB.out | apply ba | apply bd | apply be) | exact HB.out))) : w.heap.size ≤ gb101)); clear HB; have HB := n0_; have BK101 := n1_; have GW101 := n2_; have GE101 := n3_; clear n0_ n1_ n2_ n3_; clear hb hbox hg; have hcz14_0 : w13.cell? ⟨gb101, 0, none⟩ = some (.int .i64 a0_0) := (blk_cell BK101.out 0).trans rfl; have hcz14_1 : w13.cell? ⟨gb101, 1, none⟩ = some (.slice A0_1 l0_1.length c0_1) := (blk_cell BK101.out 1).trans rfl; have hfz14_0 := blk_frozen BK101.out 0; have hfz14_1 := blk_frozen BK101.out 1) | ((with_reducible refine gate_callee (f := 79) rfl ?_); refine goesL_ (some 5) rfl rfl Try.func79 (by kernel_rfl) rfl #[.agg #[.int .i64 a0_0, .slice A0_1 l0_1.length c0_1]] rfl (by (try simp only [mA, mC, mN]); first | done | rfl | (simp only [List.length_drop, List.length_take]; rfl)) ?_; (with_reducible refine (impl_IsGame.calls k a0_0 _ _ l0_1 false _ ?side1 ?side2 A2.out).mono ?_); (case side1 => repeat (first | exact (Kd.C_below HR0_1.out HB.out) | (with_reducible refine Kd.C_alloc ?_ _) | (with_reducible refine Kd.C_drewN ?_ _) | (with_reducible refine Kd.C_drew ?_))); (case side2 => exact HC0_1.out); rintro e w15 ⟨rfl, hb⟩; refine ⟨_, rfl, ?_⟩; have n0_ := Aside0.mk (blk_below (g := gb101) (o := .cells #[.int .i64 a0_0, .slice A0_1 l0_1.length c0_1] 28 (0, 0)) (by (first | exact bp BK101.out | exact BK101.out)) hb); have n1_ := Aside0.mk (below_step (by repeat (first | (with_reducible first | exact HB.out | apply ba | apply bd | apply be | refine bs ?_ GE101.out) | exact HB.out)) hb); clear BK101; clear HB; have BK101 := n0_; have HB := n1_; clear n0_ n1_; (try clear hb); (try clear hb2); (try clear hk); (try clear hi)))
  go_ret2
  exact ⟨_, by first | rfl | (simp <;> rfl) | (simp [*] <;> rfl), by first | exact Kd.R_nil _ _ _ _ _ | exact Kd.N_nil _ _ _ _ _ | exact Kd.V_nil _ _ _ _ _ | exact Kd.Q_nil _ _ _ _ _ | exact Kd.S_nil _ _ _ _ _, by repeat (first | (with_reducible first | exact HB.out | apply ba | apply bd | apply be | refine bs ?_ GE101.out) | exact HB.out)⟩

end Go.Proofs.Ytmmmblfghhcndaa.Q

namespace Go.Proofs.Ytmmmblfghhcndaa.Q
open Go.RowKit Go.Proofs.YtmmmblfghhcndaaW.PrintWords Go.Proofs.YtmmmblfghhcndaaW.PrintLast Go.Proofs.YtmmmblfghhcndaaW.PrintMore
attribute [local go_sem] max2_int min2_int max_two min_two max_three min_three max_four min_four   -- for this text's walks alone
set_option linter.unusedVariables false
set_option linter.unusedSimpArgs false

/-! ### laws_FnExactIdleMembers: function 6 (given) -/
-- INFO 3
-- INFO 36
def laws_FnExactIdleMembers.f (k : Nat) (a0_0 : Int) (l0_1 : List (List Int)) : Option Bool :=
  (laws_szGame.f k a0_0 l0_1 1048576).bind fun t0 => if t0 < 0 then some true else
  (laws_toGame.f k a0_0 l0_1).bind fun x0 => (spec_IdleMembers.f k x0.1 x0.2).bind fun s => (impl_IdleMembers.f k x0.1 x0.2).bind fun g => (laws_eqIntS.f k g.1 s.1).bind fun e => (laws_eqGame.f k x0.1 x0.2 x0.1 x0.2).bind fun e0 => (laws_markGame.f k x0.1 x0.2 1).bind fun m0 => (laws_markIntS.f k g.1 1).bind fun mm => (laws_heldIntS.f k mm.2 1).bind fun hh =>
  if e = true ∧ g.2 = s.2 ∧ e0 = true ∧ ¬ m0.1 < 0 ∧ ¬ hh < 0 ∧ hh = mm.1 then some true else none
set_option maxHeartbeats 8000000 in
set_option maxRecDepth 100000 in
theorem laws_FnExactIdleMembers.calls (k : Nat) (a0_0 : Int) (A0_1 : Option Addr) (c0_1 : Nat) (l0_1 : List (List Int)) (r : Bool) (w : World) (hr0_1 : Kd.C (Kd.slice 3 (Kd.int .i64)) w A0_1 l0_1.length l0_1) (hc0_1 : l0_1.length ≤ c0_1) (h : laws_FnExactIdleMembers.f k a0_0 l0_1 = some r) :
    Calls Try.prog 6 #[.agg #[.int .i64 a0_0, .slice A0_1 l0_1.length c0_1]] w fun e w' => e = .returned (.bool r) ∧ Below w.heap.size w w' := by
  have huAG := Try.underlying46
  have huIG := Try.underlying28
  have HR0_1 := Aside0.mk hr0_1
  have HC0_1 := Aside0.mk hc0_1
  have HB := Aside0.mk (show Below w.heap.size w (w.alloc (.cells #[.int .i64 a0_0, .slice A0_1 l0_1.length c0_1] 46)) from below_alloc (Below.refl _ _) _)
  have BKA0 := Aside0.mk (blk_new w (.cells #[.int .i64 a0_0, .slice A0_1 l0_1.length c0_1] 46))
  clear hr0_1 hc0_1
  simp only [laws_FnExactIdleMembers.f] at h
  obtain ⟨t0, ht0, h⟩ := Option.bind_eq_some_iff.mp h
  have HT0 := Aside0.mk ht0
  clear ht0
  by_cases z0 : t0 < 0
  · rw [if_pos z0] at h
    obtain rfl := Option.some.inj h
    have z0b : decide (t0 < 0) = true := decide_eq_true z0
    clear z0 h
    go_enter Try.func6, Try.ntmps6
    go_wp2_with fail
    refine (laws_szGame.calls k a0_0 A0_1 c0_1 l0_1 1048576 t0 _ (Kd.C_below HR0_1.out HB.out) HC0_1.out HT0.out).mono ?_
    rintro e w1 ⟨rfl, hb⟩
    have OD0 := Aside0.mk (show w.heap.size + 1 ≤ w1.heap.size from by have h_ := hb.size; (try simp at h_); omega)
    have n0_ := Aside0.mk (HB.out.trans (hb.mono HB.out.size))
    have n1_ := Aside0.mk (blk_below BKA0.out hb)
    clear HB BKA0
    have HB := n0_
    have BKA0 := n1_
    clear n0_ n1_
    clear hb
    go_wp2
    go_ret
    exact ⟨rfl, HB.out⟩
  rw [if_neg z0] at h
  have z0b : decide (t0 < 0) = false := decide_eq_false z0
  clear z0
  obtain ⟨⟨q0, y0⟩, hA0, h⟩ := Option.bind_eq_some_iff.mp h
  obtain ⟨⟨s, sb⟩, hS, h⟩ := Option.bind_eq_some_iff.mp h
  obtain ⟨⟨g, gb⟩, hG, h⟩ := Option.bind_eq_some_iff.mp h
  obtain ⟨e, hE, h⟩ := Option.bind_eq_some_iff.mp h
  obtain ⟨e0, hE0, h⟩ := Option.bind_eq_some_iff.mp h
  obtain ⟨⟨k0, u0⟩, hM0, h⟩ := Option.bind_eq_some_iff.mp h
  obtain ⟨⟨mm, vv⟩, hMM, h⟩ := Option.bind_eq_some_iff.mp h
  obtain ⟨hh, hH, h⟩ := Option.bind_eq_some_iff.mp h
  by_cases hc : e = true ∧ gb = sb ∧ e0 = true ∧ ¬ k0 < 0 ∧ ¬ hh < 0 ∧ hh = mm
  case neg => rw [if_neg hc] at h; cases h
  rw [if_pos hc] at h
  obtain rfl := Option.some.inj h
  obtain ⟨rfl, rfl, rfl, d1, d2, rfl⟩ := hc
  have d1b : decide (k0 < 0) = false := decide_eq_false d1
  have d2b : decide (hh < 0) = false := decide_eq_false d2
  have FA0 : Aside0 (laws_toGame.f k a0_0 l0_1 = some (q0, y0)) := ⟨hA0⟩
  have FS : Aside0 (spec_IdleMembers.f k q0 y0 = some (s, gb)) := ⟨hS⟩
  have FG : Aside0 (impl_IdleMembers.f k q0 y0 = some (g, gb)) := ⟨hG⟩
  have FE : Aside0 (laws_eqIntS.f k g s = some true) := ⟨hE⟩
  have FE0 : Aside0 (laws_eqGame.f k q0 y0 q0 y0 = some true) := ⟨hE0⟩
  have FM0 : Aside0 (laws_markGame.f k q0 y0 1 = some (k0, u0)) := ⟨hM0⟩
  have FMM : Aside0 (laws_markIntS.f k g 1 = some (hh, vv)) := ⟨hMM⟩
  have FH : Aside0 (laws_heldIntS.f k vv 1 = some hh) := ⟨hH⟩
  clear h hS hG hE hMM hH d1 d2 hA0 hE0 hM0
  go_enter Try.func6, Try.ntmps6
  go_wp2_with fail
  refine (laws_szGame.calls k a0_0 A0_1 c0_1 l0_1 1048576 t0 _ (Kd.C_below HR0_1.out HB.out) HC0_1.out HT0.out).mono ?_
  rintro e w1 ⟨rfl, hb⟩
  have OD0 := Aside0.mk (show w.heap.size + 1 ≤ w1.heap.size from by have h_ := hb.size; (try simp at h_); omega)
  have n0_ := Aside0.mk (HB.out.trans (hb.mono HB.out.size))
  have n1_ := Aside0.mk (blk_below BKA0.out hb)
  clear HB BKA0
  have HB := n0_
  have BKA0 := n1_
  clear n0_ n1_
  clear hb
  have ha0_0 := (blk_cell BKA0.out 0).trans rfl
  have ha0_1 := (blk_cell BKA0.out 1).trans rfl
  go_wp2_with fail
  refine (laws_toGame.calls k a0_0 A0_1 c0_1 l0_1 q0 y0 _ (Kd.C_below HR0_1.out HB.out) HC0_1.out FA0.out).mono ?_
  rintro e w2 ⟨up0, rfl, hO, hb⟩
  clear ha0_0 ha0_1
  have OD1 := Aside0.mk (show w1.heap.size ≤ w2.heap.size from by have h_ := hb.size; (try simp at h_); omega)
  obtain ⟨Ap0, cp0, rfl⟩ := Kd.S_slice hO
  have h0_ := Kd.S_bound hO
  have NEW_ := Aside0.mk (Kd.S_mono (ok' := fun k_ => w1.heap.size ≤ k_ ∧ k_ < w2.heap.size) (Kd.S_lower h0_ HB.out.size) (fun k_ hk_ => ⟨by have h1_ := hk_.2.1; (try simp at h1_); omega, hk_.2.2.1⟩))
  clear h0_
  have n0_ := Aside0.mk (HB.out.trans (hb.mono HB.out.size))
  have n1_ := Aside0.mk (blk_below BKA0.out hb)
  clear HB BKA0
  have HB := n0_
  have BKA0 := n1_
  clear n0_ n1_
  clear hb hO
  have Op0 := NEW_
  clear NEW_
  go_wp2_with fail
  refine (spec_IdleMembers.calls k q0 Ap0 cp0 y0 s gb _ (Kd.S_reads' Op0.out).2.2 (Kd.S_reads' Op0.out).2.1 FS.out).mono ?_
  rintro e w3 ⟨us, rfl, hO, hb⟩
  have OD2 := Aside0.mk (show w2.heap.size ≤ w3.heap.size from by have h_ := hb.size; (try simp at h_); omega)
  obtain ⟨As, cs, rfl⟩ := Kd.R_slice hO
  have h0_ := Kd.R_bound hO
  have NEW_ := Aside0.mk (Kd.R_mono (ok' := fun k_ => w2.heap.size ≤ k_ ∧ k_ < w3.heap.size) (Kd.R_lower h0_ HB.out.size) (fun k_ hk_ => ⟨by have h1_ := hk_.2.1; (try simp at h1_); omega, hk_.2.2.1⟩))
  clear h0_
  have n0_ := Aside0.mk (HB.out.trans (hb.mono HB.out.size))
  have n1_ := Aside0.mk (blk_below BKA0.out hb)
  have n2_ := Aside0.mk (Kd.S_below Op0.out hb)
  clear HB BKA0 Op0
  have HB := n0_
  have BKA0 := n1_
  have Op0 := n2_
  clear n0_ n1_ n2_
  clear hb hO
  have Os := NEW_
  clear NEW_
  clear Op0
  have ha0_0 := (blk_cell BKA0.out 0).trans rfl
  have ha0_1 := (blk_cell BKA0.out 1).trans rfl
  go_wp2_with fail
  refine (laws_toGame.calls k a0_0 A0_1 c0_1 l0_1 q0 y0 _ (Kd.C_below HR0_1.out HB.out) HC0_1.out FA0.out).mono ?_
  rintro e w4 ⟨ux0, rfl, hO, hb⟩
  clear ha0_0 ha0_1
  have OD3 := Aside0.mk (show w3.heap.size ≤ w4.heap.size from by have h_ := hb.size; (try simp at h_); omega)
  obtain ⟨Ax0, cx0, rfl⟩ := Kd.S_slice hO
  have h0_ := Kd.S_bound hO
  have NEW_ := Aside0.mk (Kd.S_mono (ok' := fun k_ => w3.heap.size ≤ k_ ∧ k_ < w4.heap.size) (Kd.S_lower h0_ HB.out.size) (fun k_ hk_ => ⟨by have h1_ := hk_.2.1; (try simp at h1_); omega, hk_.2.2.1⟩))
  clear h0_
  have n0_ := Aside0.mk (HB.out.trans (hb.mono HB.out.size))
  have n1_ := Aside0.mk (blk_below BKA0.out hb)
  have n2_ := Aside0.mk (Kd.R_below Os.out hb)
  clear HB BKA0 Os
  have HB := n0_
  have BKA0 := n1_
  have Os := n2_
  clear n0_ n1_ n2_
  clear hb hO
  have Ox0 := NEW_
  clear NEW_
  have NB_ := Aside0.mk (blk_new w4 (.cells #[.int .i64 q0, .slice Ax0 y0.length cx0] 28))
  have n0_ := Aside0.mk (below_alloc HB.out (.cells #[.int .i64 q0, .slice Ax0 y0.length cx0] 28))
  have n1_ := Aside0.mk (blk_alloc BKA0.out (.cells #[.int .i64 q0, .slice Ax0 y0.length cx0] 28))
  have n2_ := Aside0.mk (Kd.R_alloc Os.out (.cells #[.int .i64 q0, .slice Ax0 y0.length cx0] 28))
  have n3_ := Aside0.mk (Kd.S_alloc Ox0.out (.cells #[.int .i64 q0, .slice Ax0 y0.length cx0] 28))
  clear HB BKA0 Os Ox0
  have HB := n0_
  have BKA0 := n1_
  have Os := n2_
  have Ox0 := n3_
  clear n0_ n1_ n2_ n3_
  have BKx0 := NB_
  clear NB_
  have hx0_0 := (blk_cell BKx0.out 0).trans rfl
  have hx0_1 := (blk_cell BKx0.out 1).trans rfl
  go_wp2_with fail
  refine (impl_IdleMembers.calls k q0 Ax0 cx0 y0 g gb _ (Kd.S_reads' Ox0.out).2.2 (Kd.S_reads' Ox0.out).2.1 FG.out).mono ?_
  rintro e w5 ⟨ug, rfl, hO, hb⟩
  clear hx0_0 hx0_1
  have OD4 := Aside0.mk (show w4.heap.size + 1 ≤ w5.heap.size from by have h_ := hb.size; (try simp at h_); omega)
  obtain ⟨Ag, cg, rfl⟩ := Kd.R_slice hO
  have h0_ := Kd.R_bound hO
  have NEW_ := Aside0.mk (Kd.R_mono (ok' := fun k_ => w4.heap.size + 1 ≤ k_ ∧ k_ < w5.heap.size) (Kd.R_lower h0_ HB.out.size) (fun k_ hk_ => ⟨by have h1_ := hk_.2.1; (try simp at h1_); omega, hk_.2.2.1⟩))
  clear h0_
  have n0_ := Aside0.mk (HB.out.trans (hb.mono HB.out.size))
  have n1_ := Aside0.mk (blk_below BKA0.out hb)
  have n2_ := Aside0.mk (Kd.R_below Os.out hb)
  have n3_ := Aside0.mk (Kd.S_below Ox0.out hb)
  have n4_ := Aside0.mk (blk_below BKx0.out hb)
  clear HB BKA0 Os Ox0 BKx0
  have HB := n0_
  have BKA0 := n1_
  have Os := n2_
  have Ox0 := n3_
  have BKx0 := n4_
  clear n0_ n1_ n2_ n3_ n4_
  clear hb hO
  have Og := NEW_
  clear NEW_
  go_wp2_with fail
  refine (laws_eqIntS.calls k Ag cg g As cs s true _ (Kd.R_reads' Og.out).2.2 (Kd.R_reads' Og.out).2.1 (Kd.R_reads' Os.out).2.2 (Kd.R_reads' Os.out).2.1 FE.out).mono ?_
  rintro e w6 ⟨rfl, hd⟩
  have hb := hd.below
  have OD5 := Aside0.mk (show w5.heap.size ≤ w6.heap.size from by have h_ := hb.size; (try simp at h_); omega)
  have n0_ := Aside0.mk (HB.out.trans (hb.mono HB.out.size))
  have n1_ := Aside0.mk (blk_below BKA0.out hb)
  have n2_ := Aside0.mk (Kd.R_below Os.out hb)
  have n3_ := Aside0.mk (Kd.S_below Ox0.out hb)
  have n4_ := Aside0.mk (blk_below BKx0.out hb)
  have n5_ := Aside0.mk (Kd.R_below Og.out hb)
  clear HB BKA0 Os Ox0 BKx0 Og
  have HB := n0_
  have BKA0 := n1_
  have Os := n2_
  have Ox0 := n3_
  have BKx0 := n4_
  have Og := n5_
  clear n0_ n1_ n2_ n3_ n4_ n5_
  clear hb hd
  go_wp2
  have n0_ := Aside0.mk (below_drew1 HB.out)
  have n1_ := Aside0.mk (blk_drew BKA0.out)
  have n2_ := Aside0.mk (Kd.R_drew Os.out)
  have n3_ := Aside0.mk (Kd.S_drew Ox0.out)
  have n4_ := Aside0.mk (blk_drew BKx0.out)
  have n5_ := Aside0.mk (Kd.R_drew Og.out)
  clear HB BKA0 Os Ox0 BKx0 Og
  have HB := n0_
  have BKA0 := n1_
  have Os := n2_
  have Ox0 := n3_
  have BKx0 := n4_
  have Og := n5_
  clear n0_ n1_ n2_ n3_ n4_ n5_
  have K0 := Aside0.mk ((blk_cell BKx0.out 0).trans rfl)
  have K1 := Aside0.mk ((blk_cell BKx0.out 1).trans rfl)
  have K2 := Aside0.mk ((blk_cell BKA0.out 0).trans rfl)
  have K3 := Aside0.mk ((blk_cell BKA0.out 1).trans rfl)
  go_region_held3 (fun w' => w'.cell? ⟨w4.heap.size, 0, none⟩ = some (.int .i64 q0) ∧ w'.cell? ⟨w4.heap.size, 1, none⟩ = some (.slice Ax0 y0.length cx0) ∧ w'.cell? ⟨w.heap.size, 0, none⟩ = some (.int .i64 a0_0) ∧ w'.cell? ⟨w.heap.size, 1, none⟩ = some (.slice A0_1 l0_1.length c0_1)) (first | exact ⟨K0.out, K1.out, K2.out, K3.out⟩ | exact ⟨k0, k1, k2, k3⟩ | go_keep)
    (first | (go_at_call 33; refine (laws_toGame.calls k a0_0 A0_1 c0_1 l0_1 q0 y0 _ (Kd.C_below HR0_1.out HB.out) HC0_1.out FA0.out).mono ?_; rintro e w7 ⟨uz0, rfl, hO, hb⟩; obtain ⟨Az0, cz0, rfl⟩ := Kd.S_slice hO; have OZ_ := Aside0.mk hO; have OS1_ := Aside0.mk hb.size; have n0_ := Aside0.mk (HB.out.trans (hb.mono HB.out.size)); have n1_ := Aside0.mk (blk_below BKA0.out hb); have n2_ := Aside0.mk (Kd.R_below Os.out hb); have n3_ := Aside0.mk (Kd.S_below Ox0.out hb); have n4_ := Aside0.mk (blk_below BKx0.out hb); have n5_ := Aside0.mk (Kd.R_below Og.out hb); clear HB BKA0 Os Ox0 BKx0 Og; have HB := n0_; have BKA0 := n1_; have Os := n2_; have Ox0 := n3_; have BKx0 := n4_; have Og := n5_; clear n0_ n1_ n2_ n3_ n4_ n5_; clear hb hO K0 K1 K2 K3; have k0 := (blk_cell BKx0.out 0).trans rfl; have k1 := (blk_cell BKx0.out 1).trans rfl; have k2 := (blk_cell BKA0.out 0).trans rfl; have k3 := (blk_cell BKA0.out 1).trans rfl) | (go_at_call 20; refine (laws_eqGame.calls k q0 Ax0 cx0 y0 q0 Az0 cz0 y0 true _ (Kd.S_reads' Ox0.out).2.2 (Kd.S_reads' Ox0.out).2.1 (Kd.S_reads' OZ_.out).2.2 (Kd.S_reads' OZ_.out).2.1 FE0.out).mono ?_; rintro e w8 ⟨rfl, hb⟩; have OS2_ := Aside0.mk hb.size; clear k0 k1 k2 k3; have n0_ := Aside0.mk (HB.out.trans (hb.mono HB.out.size)); have n1_ := Aside0.mk (blk_below BKA0.out hb); have n2_ := Aside0.mk (Kd.R_below Os.out hb); have n3_ := Aside0.mk (Kd.S_below Ox0.out hb); have n4_ := Aside0.mk (blk_below BKx0.out hb); have n5_ := Aside0.mk (Kd.R_below Og.out hb); have n6_ := Aside0.mk (Kd.S_below OZ_.out hb); clear HB BKA0 Os Ox0 BKx0 Og OZ_; have HB := n0_; have BKA0 := n1_; have Os := n2_; have Ox0 := n3_; have BKx0 := n4_; have Og := n5_; have OZ_ := n6_; clear n0_ n1_ n2_ n3_ n4_ n5_ n6_; clear hb; have k0 := (blk_cell BKx0.out 0).trans rfl; have k1 := (blk_cell BKx0.out 1).trans rfl; have k2 := (blk_cell BKA0.out 0).trans rfl; have k3 := (blk_cell BKA0.out 1).trans rfl))
  have OD6 := Aside0.mk (show w6.heap.size ≤ w8.heap.size from by have h1_ := OS1_.out; have h2_ := OS2_.out; (try simp at h1_); (try simp at h2_); omega)
  clear k0 k1 k2 k3 OS1_ OS2_
  clear OZ_
  have hx0 := (blk_cell BKx0.out 0).trans rfl
  have hx1 := (blk_cell BKx0.out 1).trans rfl
  go_wp2_with fail
  refine (laws_markGame.callsB k q0 Ax0 cx0 y0 1 k0 u0 w.heap.size (fun k_ => w3.heap.size ≤ k_ ∧ k_ < w4.heap.size) _ HB.out.size Ox0.out FM0.out).mono ?_
  rintro e w9 ⟨rfl, _, hb, hk⟩
  clear hx0 hx1
  have OD7 := Aside0.mk (show w8.heap.size ≤ w9.heap.size from by have h_ := hk.1; (try simp at h_); omega)
  clear Ox0
  have n0_ := Aside0.mk (HB.out.trans hb)
  have n1_ := Aside0.mk (blk_kept BKA0.out hk (fun hh_ => by obtain ⟨h1_, h2_⟩ := hh_; have o0_ := OD0.out; have o1_ := OD1.out; have o2_ := OD2.out; have o3_ := OD3.out; have o4_ := OD4.out; have o5_ := OD5.out; have o6_ := OD6.out; have o7_ := OD7.out; omega))
  have n2_ := Aside0.mk (Kd.R_kept Os.out hk (fun k_ hk_ hh_ => by obtain ⟨h1_, h2_⟩ := hh_; obtain ⟨h3_, h4_⟩ := hk_; have o0_ := OD0.out; have o1_ := OD1.out; have o2_ := OD2.out; have o3_ := OD3.out; have o4_ := OD4.out; have o5_ := OD5.out; have o6_ := OD6.out; have o7_ := OD7.out; omega))
  have n3_ := Aside0.mk (blk_kept BKx0.out hk (fun hh_ => by obtain ⟨h1_, h2_⟩ := hh_; have o0_ := OD0.out; have o1_ := OD1.out; have o2_ := OD2.out; have o3_ := OD3.out; have o4_ := OD4.out; have o5_ := OD5.out; have o6_ := OD6.out; have o7_ := OD7.out; omega))
  have n4_ := Aside0.mk (Kd.R_kept Og.out hk (fun k_ hk_ hh_ => by obtain ⟨h1_, h2_⟩ := hh_; obtain ⟨h3_, h4_⟩ := hk_; have o0_ := OD0.out; have o1_ := OD1.out; have o2_ := OD2.out; have o3_ := OD3.out; have o4_ := OD4.out; have o5_ := OD5.out; have o6_ := OD6.out; have o7_ := OD7.out; omega))
  clear HB BKA0 Os BKx0 Og
  have HB := n0_
  have BKA0 := n1_
  have Os := n2_
  have BKx0 := n3_
  have Og := n4_
  clear n0_ n1_ n2_ n3_ n4_
  clear hb hk
  go_wp2_with fail
  refine (laws_eqIntS.calls k Ag cg g As cs s true _ (Kd.R_reads' Og.out).2.2 (Kd.R_reads' Og.out).2.1 (Kd.R_reads' Os.out).2.2 (Kd.R_reads' Os.out).2.1 FE.out).mono ?_
  rintro e w10 ⟨rfl, hd⟩
  have hb := hd.below
  have OD8 := Aside0.mk (show w9.heap.size ≤ w10.heap.size from by have h_ := hb.size; (try simp at h_); omega)
  have n0_ := Aside0.mk (HB.out.trans (hb.mono HB.out.size))
  have n1_ := Aside0.mk (blk_below BKA0.out hb)
  have n2_ := Aside0.mk (Kd.R_below Os.out hb)
  have n3_ := Aside0.mk (blk_below BKx0.out hb)
  have n4_ := Aside0.mk (Kd.R_below Og.out hb)
  clear HB BKA0 Os BKx0 Og
  have HB := n0_
  have BKA0 := n1_
  have Os := n2_
  have BKx0 := n3_
  have Og := n4_
  clear n0_ n1_ n2_ n3_ n4_
  clear hb hd
  go_wp2_with fail
  refine (laws_markIntS.calls k (fun k_ => w4.heap.size + 1 ≤ k_ ∧ k_ < w5.heap.size) (.slice Ag g.length cg) g 1 hh vv w _ HB.out Og.out FMM.out).mono ?_
  rintro e w11 ⟨rfl, hO, hB, hk⟩
  clear Og
  have OD9 := Aside0.mk (show w10.heap.size ≤ w11.heap.size from by have h_ := hk.1; (try simp at h_); omega)
  clear HB
  have n0_ := Aside0.mk (blk_kept BKA0.out hk (fun hh_ => by obtain ⟨h1_, h2_⟩ := hh_; have o0_ := OD0.out; have o1_ := OD1.out; have o2_ := OD2.out; have o3_ := OD3.out; have o4_ := OD4.out; have o5_ := OD5.out; have o6_ := OD6.out; have o7_ := OD7.out; have o8_ := OD8.out; have o9_ := OD9.out; omega))
  have n1_ := Aside0.mk (Kd.R_kept Os.out hk (fun k_ hk_ hh_ => by obtain ⟨h1_, h2_⟩ := hh_; obtain ⟨h3_, h4_⟩ := hk_; have o0_ := OD0.out; have o1_ := OD1.out; have o2_ := OD2.out; have o3_ := OD3.out; have o4_ := OD4.out; have o5_ := OD5.out; have o6_ := OD6.out; have o7_ := OD7.out; have o8_ := OD8.out; have o9_ := OD9.out; omega))
  have n2_ := Aside0.mk (blk_kept BKx0.out hk (fun hh_ => by obtain ⟨h1_, h2_⟩ := hh_; have o0_ := OD0.out; have o1_ := OD1.out; have o2_ := OD2.out; have o3_ := OD3.out; have o4_ := OD4.out; have o5_ := OD5.out; have o6_ := OD6.out; have o7_ := OD7.out; have o8_ := OD8.out; have o9_ := OD9.out; omega))
  clear BKA0 Os BKx0
  have BKA0 := n0_
  have Os := n1_
  have BKx0 := n2_
  clear n0_ n1_ n2_
  have HB := Aside0.mk hB
  have Og := Aside0.mk hO
  have HLM := Aside0.mk (Kd.R_reads' hO).1
  clear hO hB hk
  go_wp2_with fail
  have hheld := laws_heldIntS.calls k Ag cg vv 1 hh _ (Kd.R_reads' Og.out).2.2 (by rw [← HLM.out]; exact (Kd.R_reads' Og.out).2.1) FH.out
  rw [← HLM.out] at hheld
  refine hheld.mono ?_
  clear hheld
  rintro e w12 ⟨rfl, hd⟩
  have hb := hd.below
  have OD10 := Aside0.mk (show w11.heap.size ≤ w12.heap.size from by have h_ := hb.size; (try simp at h_); omega)
  have n0_ := Aside0.mk (HB.out.trans (hb.mono HB.out.size))
  have n1_ := Aside0.mk (blk_below BKA0.out hb)
  have n2_ := Aside0.mk (Kd.R_below Os.out hb)
  have n3_ := Aside0.mk (blk_below BKx0.out hb)
  have n4_ := Aside0.mk (Kd.R_below Og.out hb)
  clear HB BKA0 Os BKx0 Og
  have HB := n0_
  have BKA0 := n1_
  have Os := n2_
  have BKx0 := n3_
  have Og := n4_
  clear n0_ n1_ n2_ n3_ n4_
  clear hb hd
  have ha0_0 := (blk_cell BKA0.out 0).trans rfl
  have ha0_1 := (blk_cell BKA0.out 1).trans rfl
  go_wp2_with fail
  refine (laws_toGame.calls k a0_0 A0_1 c0_1 l0_1 q0 y0 _ (Kd.C_below HR0_1.out HB.out) HC0_1.out FA0.out).mono ?_
  rintro e w13 ⟨ur0, rfl, hO, hb⟩
  clear ha0_0 ha0_1
  have OD11 := Aside0.mk (show w12.heap.size ≤ w13.heap.size from by have h_ := hb.size; (try simp at h_); omega)
  obtain ⟨Ar0, cr0, rfl⟩ := Kd.S_slice hO
  have h0_ := Kd.S_bound hO
  have NEW_ := Aside0.mk (Kd.S_mono (ok' := fun k_ => w12.heap.size ≤ k_ ∧ k_ < w13.heap.size) (Kd.S_lower h0_ HB.out.size) (fun k_ hk_ => ⟨by have h1_ := hk_.2.1; (try simp at h1_); omega, hk_.2.2.1⟩))
  clear h0_
  have n0_ := Aside0.mk (HB.out.trans (hb.mono HB.out.size))
  have n1_ := Aside0.mk (blk_below BKA0.out hb)
  have n2_ := Aside0.mk (Kd.R_below Os.out hb)
  have n3_ := Aside0.mk (blk_below BKx0.out hb)
  have n4_ := Aside0.mk (Kd.R_below Og.out hb)
  clear HB BKA0 Os BKx0 Og
  have HB := n0_
  have BKA0 := n1_
  have Os := n2_
  have BKx0 := n3_
  have Og := n4_
  clear n0_ n1_ n2_ n3_ n4_
  clear hb hO
  have Or0 := NEW_
  clear NEW_
  go_wp2_with fail
  refine (impl_IdleMembers.calls k q0 Ar0 cr0 y0 g gb _ (Kd.S_reads' Or0.out).2.2 (Kd.S_reads' Or0.out).2.1 FG.out).mono ?_
  rintro e w14 ⟨uh, rfl, hO, hb⟩
  have OD12 := Aside0.mk (show w13.heap.size ≤ w14.heap.size from by have h_ := hb.size; (try simp at h_); omega)
  obtain ⟨Ah, ch, rfl⟩ := Kd.R_slice hO
  have h0_ := Kd.R_bound hO
  have NEW_ := Aside0.mk (Kd.R_mono (ok' := fun k_ => w13.heap.size ≤ k_ ∧ k_ < w14.heap.size) (Kd.R_lower h0_ HB.out.size) (fun k_ hk_ => ⟨by have h1_ := hk_.2.1; (try simp at h1_); omega, hk_.2.2.1⟩))
  clear h0_
  have n0_ := Aside0.mk (HB.out.trans (hb.mono HB.out.size))
  have n1_ := Aside0.mk (blk_below BKA0.out hb)
  have n2_ := Aside0.mk (Kd.R_below Os.out hb)
  have n3_ := Aside0.mk (blk_below BKx0.out hb)
  have n4_ := Aside0.mk (Kd.R_below Og.out hb)
  have n5_ := Aside0.mk (Kd.S_below Or0.out hb)
  clear HB BKA0 Os BKx0 Og Or0
  have HB := n0_
  have BKA0 := n1_
  have Os := n2_
  have BKx0 := n3_
  have Og := n4_
  have Or0 := n5_
  clear n0_ n1_ n2_ n3_ n4_ n5_
  clear hb hO
  have Oh := NEW_
  clear NEW_
  clear Or0
  go_wp2_with fail
  refine (laws_eqIntS.calls k Ah ch g As cs s true _ (Kd.R_reads' Oh.out).2.2 (Kd.R_reads' Oh.out).2.1 (Kd.R_reads' Os.out).2.2 (Kd.R_reads' Os.out).2.1 FE.out).mono ?_
  rintro e w15 ⟨rfl, hd⟩
  have hb := hd.below
  have OD13 := Aside0.mk (show w14.heap.size ≤ w15.heap.size from by have h_ := hb.size; (try simp at h_); omega)
  have n0_ := Aside0.mk (HB.out.trans (hb.mono HB.out.size))
  have n1_ := Aside0.mk (blk_below BKA0.out hb)
  have n2_ := Aside0.mk (Kd.R_below Os.out hb)
  have n3_ := Aside0.mk (blk_below BKx0.out hb)
  have n4_ := Aside0.mk (Kd.R_below Og.out hb)
  have n5_ := Aside0.mk (Kd.R_below Oh.out hb)
  clear HB BKA0 Os BKx0 Og Oh
  have HB := n0_
  have BKA0 := n1_
  have Os := n2_
  have BKx0 := n3_
  have Og := n4_
  have Oh := n5_
  clear n0_ n1_ n2_ n3_ n4_ n5_
  clear hb hd
  go_wp2_with fail
  have hheld := laws_heldIntS.calls k Ag cg vv 1 hh _ (Kd.R_reads' Og.out).2.2 (by rw [← HLM.out]; exact (Kd.R_reads' Og.out).2.1) FH.out
  rw [← HLM.out] at hheld
  refine hheld.mono ?_
  clear hheld
  rintro e w16 ⟨rfl, hd⟩
  have hb := hd.below
  have OD14 := Aside0.mk (show w15.heap.size ≤ w16.heap.size from by have h_ := hb.size; (try simp at h_); omega)
  have n0_ := Aside0.mk (HB.out.trans (hb.mono HB.out.size))
  have n1_ := Aside0.mk (blk_below BKA0.out hb)
  have n2_ := Aside0.mk (Kd.R_below Os.out hb)
  have n3_ := Aside0.mk (blk_below BKx0.out hb)
  have n4_ := Aside0.mk (Kd.R_below Og.out hb)
  have n5_ := Aside0.mk (Kd.R_below Oh.out hb)
  clear HB BKA0 Os BKx0 Og Oh
  have HB := n0_
  have BKA0 := n1_
  have Os := n2_
  have BKx0 := n3_
  have Og := n4_
  have Oh := n5_
  clear n0_ n1_ n2_ n3_ n4_ n5_
  clear hb hd
  go_wp2
  go_ret
  exact ⟨rfl, HB.out⟩

end Go.Proofs.Ytmmmblfghhcndaa.Q

namespace Go.Proofs.Ytmmmblfghhcndaa.Q
open Go.RowKit Go.Proofs.YtmmmblfghhcndaaX Go.Proofs.YtmmmblfghhcndaaW.PrintWords Go.Proofs.YtmmmblfghhcndaaW.PrintLast Go.Proofs.YtmmmblfghhcndaaW.PrintMore
attribute [local go_sem] max2_int min2_int max_two min_two max_three min_three max_four min_four   -- for this text's walks alone
set_option linter.unusedVariables false
set_option linter.unusedSimpArgs false

/-! ### impl_sumOf: function 89 -/
def impl_sumOf.l0 : Nat → Int → List Int → Int → Int → Option (Int)
 | 0, _, _, _, _ => none
 | k + 1, x3, x6, x7, x8 => if x8 < x7 then (if 0 ≤ x8 then (if x8 < (x6.length : Int) then (impl_sumOf.l0 k (wrap64 (x3 + (rd x6 x8))) x6 x7 (wrap64 (x8 + 1))) else (none)) else (none)) else (some x3)
def impl_sumOf.f (k : Nat) (l0 : List Int) : Option (Int) := impl_sumOf.l0 k 0 l0 (l0.length : Int) 0
theorem impl_sumOf.mono_l : ∀ k, (∀ y0 y1 y2 y3, LeO (impl_sumOf.l0 k y0 y1 y2 y3) (impl_sumOf.l0 (k + 1) y0 y1 y2 y3))
 | 0 => fun _ _ _ _ r h => by simp [impl_sumOf.l0] at h
 | k + 1 => by
  have ih0 := impl_sumOf.mono_l k
  ·intro y0 y1 y2 y3
   unfold impl_sumOf.l0
   repeat' first
   | (with_reducible exact ih0 _ _ _ _)
   | (with_reducible exact LeO.refl _)
   | (with_reducible exact LeO.none _)
   | (with_reducible refine LeO.ite ?_ ?_)
   | (with_reducible refine LeO.bind ?_ (fun _ => ?_))
   | exact ih0 _ _ _ _
   | exact LeO.none _
   | refine LeO.ite ?_ ?_
   | refine LeO.bind ?_ (fun _ => ?_)
theorem impl_sumOf.mono : ∀ a0 k, LeO (impl_sumOf.f k a0) (impl_sumOf.f (k + 1) a0) := by
 intro a0 k
 have ih0 := impl_sumOf.mono_l k
 unfold impl_sumOf.f
 repeat' first
   | (with_reducible exact ih0 _ _ _ _)
   | (with_reducible exact LeO.refl _)
   | (with_reducible exact LeO.none _)
   | (with_reducible refine LeO.ite ?_ ?_)
   | (with_reducible refine LeO.bind ?_ (fun _ => ?_))
   | exact ih0 _ _ _ _
   | exact LeO.none _
   | refine LeO.ite ?_ ?_
   | refine LeO.bind ?_ (fun _ => ?_)
set_option maxHeartbeats 8000000 in
set_option maxRecDepth 100000 in
theorem impl_sumOf.calls (k : Nat) (A0 : Option Addr) (c0 : Nat) (l0 : List Int) (r : Int) (w : World) (hr0 : Kd.C (Kd.int .i64) w A0 l0.length l0) (hc0 : l0.length ≤ c0) (h : impl_sumOf.f k l0 = some r) :
  Calls Try.prog 89 #[.slice A0 l0.length c0] w fun e w' => e = .returned (.int .i64 r) ∧ Drawn0 w w' := by
 have HR0 := Aside0.mk hr0
 have HC0 := Aside0.mk hc0
 clear hr0 hc0
 have H : (impl_sumOf.l0 k 0 l0 (l0.length : Int) 0) = some r := h
 clear h
 have H' := Aside0.mk H
 clear H
 go_enter Try.func89, Try.ntmps89
 go_wp2
 go_loopg [3, 8] k (fun kq v3 v8 w' => ∃ (x3_1 : Int) (x8_1 : Int), v3 = .int .i64 x3_1 ∧ v8 = .int .i64 x8_1 ∧ Aside0 (impl_sumOf.l0 kq x3_1 l0 (l0.length : Int) x8_1 = some r) ∧ Aside0 (kq ≤ k) ∧ Drawn0 w w')
 case atStart => exact ⟨(0), (0), (by first | rfl | (simp; done) | (simp [*]; done)), (by first | rfl | (simp; done) | (simp [*]; done)), H', ⟨Nat.le_refl _⟩, by repeat (first | exact Drawn0.refl _ | apply Drawn0.step)⟩
 case round =>
  clear H'
  obtain ⟨x3_1, x8_1, rfl, rfl, HA, HK1, ⟨m1, rfl⟩⟩ := hrel
  cases gk with
  | zero => exact absurd HA.out (by simp [impl_sumOf.l0])
  | succ k1 =>
   have H := HA.out
   clear HA
   simp only [impl_sumOf.l0] at H
   by_cases c2 : x8_1 < (l0.length : Int)
   ·rw [if_pos c2] at H
    have c2b0 : decide (x8_1 < (l0.length : Int)) = true := decide_eq_true c2
    clear c2
    by_cases c3 : 0 ≤ x8_1
    ·rw [if_pos c3] at H
     have c3b0 : decide (0 ≤ x8_1) = true := decide_eq_true c3
     clear c3
     by_cases c4 : x8_1 < (l0.length : Int)
     ·rw [if_pos c4] at H
      have c4b0 : decide (x8_1 < (l0.length : Int)) = true := decide_eq_true c4
      clear c4
      have H' := Aside0.mk H
      clear H
      have p101 : 0 ≤ (x8_1 : Int) := of_decide_eq_true (by first | (with_reducible assumption) | assumption)
      have q101 : x8_1 < (l0.length : Int) := of_decide_eq_true (by first | (with_reducible assumption) | assumption)
      obtain ⟨ad101, e101, hx101_0⟩ := Kd.at_int HR0.out x8_1 p101 q101
      cases e101
      replace p101 := eq_true p101
      replace q101 := eq_true q101
      go_wp2
      go_roundg k1
      case measure => have := HK1.out; omega
      case rel => exact ⟨(wrap64 (x3_1 + (rd l0 x8_1))), (wrap64 (x8_1 + 1)), (by first | rfl | (simp; done) | (simp [*]; done)), (by first | rfl | (simp; done) | (simp [*]; done)), H', ⟨by have := HK1.out; omega⟩, by repeat (first | exact Drawn0.refl _ | apply Drawn0.step)⟩
     ·rw [if_neg c4] at H
      exact absurd H (by simp)
    ·rw [if_neg c3] at H
     exact absurd H (by simp)
   ·rw [if_neg c2] at H
    have c2b0 : decide (x8_1 < (l0.length : Int)) = false := decide_eq_false c2
    clear c2
    obtain rfl := Option.some.inj H
    go_wp2
    go_ret
    exact ⟨by first | rfl | (simp; done) | (simp [*]; done), by repeat (first | exact Drawn0.refl _ | apply Drawn0.step)⟩

end Go.Proofs.Ytmmmblfghhcndaa.Q

namespace Go.Proofs.Ytmmmblfghhcndaa.Q
open Go.RowKit Go.Proofs.YtmmmblfghhcndaaW.PrintWords Go.Proofs.YtmmmblfghhcndaaW.PrintLast Go.Proofs.YtmmmblfghhcndaaW.PrintMore Go.Proofs.YtmmmblfghhcndaaM
set_option linter.unusedVariables false
set_option linter.unusedSimpArgs false
theorem impl_sumOf.ev_l (l : List Int) (hl : l.length ≤ 9223372036854775807) : ∀ (d i : Nat) (s : Int), i + d = l.length → Ev (fun k => impl_sumOf.l0 k s l (l.length : Int) (i : Int)) (wfold (l.drop i) s) := by
  intro d
  induction d with
  | zero =>
    intro i s h
    refine ev_step ?_
    simp only [impl_sumOf.l0]
    rw [ev_neg (by omega), ev_now, List.drop_of_length_le (by omega)]
    rfl
  | succ d ih =>
    intro i s h
    refine ev_step ?_
    simp only [impl_sumOf.l0]
    have hi : i < l.length := by omega
    rw [ev_pos (by omega), ev_pos (by omega), ev_pos (by omega), w64i (n := l.length) (by omega) (by omega) hl, rd_lt l i hi, wfold_take l i hi]
    exact ih (i + 1) _ (by omega)
theorem impl_sumOf.ev (l : List Int) (hl : l.length ≤ 9223372036854775807) : Ev (fun k => impl_sumOf.f k l) (wfold l 0) := impl_sumOf.ev_l l hl l.length 0 0 (by omega)
end Go.Proofs.Ytmmmblfghhcndaa.Q

namespace Go.Proofs.Ytmmmblfghhcndaa.Q
open Go.RowKit Go.Proofs.YtmmmblfghhcndaaX Go.Proofs.YtmmmblfghhcndaaW.PrintWords Go.Proofs.YtmmmblfghhcndaaW.PrintLast Go.Proofs.YtmmmblfghhcndaaW.PrintMore
attribute [local go_sem] max2_int min2_int max_two min_two max_three min_three max_four min_four   -- for this text's walks alone
set_option linter.unusedVariables false
set_option linter.unusedSimpArgs false

/-! ### impl_IsCommittee: function 73 -/
def impl_IsCommittee.f (k : Nat) (a0_0 : Int) (l0_1 : List Int) : Option (Bool) := if (l0_1.length : Int) ≥ 1 then (if (l0_1.length : Int) ≤ 9 then ((impl_areIn.f l0_1 0 1000).bind fun t102 => (if t102 = true then ((impl_sumOf.f k l0_1).bind fun t103 => ((impl_within.f a0_0 1 t103).bind fun t104 => (some t104))) else (some false))) else (some false)) else (some false)
theorem impl_IsCommittee.mono : ∀ a0 a1 k, LeO (impl_IsCommittee.f k a0 a1) (impl_IsCommittee.f (k + 1) a0 a1) := by
 intro a0 a1 k
 unfold impl_IsCommittee.f
 repeat' first
   | (with_reducible exact impl_sumOf.mono _ _)
   | (with_reducible exact LeO.refl _)
   | (with_reducible exact LeO.none _)
   | (with_reducible refine LeO.ite ?_ ?_)
   | (with_reducible refine LeO.bind ?_ (fun _ => ?_))
   | exact impl_sumOf.mono _ _
   | exact LeO.none _
   | refine LeO.ite ?_ ?_
   | refine LeO.bind ?_ (fun _ => ?_)
def impl_IsCommittee.T1 : Bool × List (List Nat × List Nat) := (true, [([], []), ([0], [0]), ([1], [1]), ([2], [2]), ([3], [3]), ([4], [4]), ([5, 4], [4, 5]), ([6, 4], [4, 6]), ([7, 4], [4, 7]), ([4, 8], [4, 8]), ([9, 4], [9]), ([10], [10]), ([11, 10], [10, 11]), ([12, 10, 10], [10, 12]), ([10, 13], [10, 13]), ([14, 13], [14]), ([15], [15]), ([16, 15], [15, 16]), ([15], [15]), ([18, 15], [15, 18]), ([19, 15, 15], [15, 19]), ([17, 20, 20, 15], [15, 17, 20]), ([15, 21], [15, 21]), ([22, 21, 0, 1, 2, 3, 4, 5, 6, 7, 8, 9, 10, 11, 12, 13, 14, 15, 16, 17, 18, 19, 20, 21, 22], [22])])
def impl_IsCommittee.B1 : List Nat := [0, 1, 3, 7, 15, 31, 63, 127, 255, 511, 1023, 2047, 4095, 8191, 16383, 32767, 65535, 131071, 65535, 327679, 851967, 2097151, 4194303, 8388607]
theorem impl_IsCommittee.tab1 : rtab .any (opsOf Try.f73 1) = impl_IsCommittee.T1 := by kernel_rfl
theorem impl_IsCommittee.bits1 : waitsOk impl_IsCommittee.T1.2 impl_IsCommittee.B1 = true := by kernel_rfl
set_option maxHeartbeats 8000000 in
set_option maxRecDepth 100000 in
theorem impl_IsCommittee.calls (k : Nat) (a0_0 : Int) (A0_1 : Option Addr) (c0_1 : Nat) (l0_1 : List Int) (r : Bool) (w : World) (hr0_1 : Kd.C (Kd.int .i64) w A0_1 l0_1.length l0_1) (hc0_1 : l0_1.length ≤ c0_1) (h : impl_IsCommittee.f k a0_0 l0_1 = some r) :
  Calls Try.prog 73 #[.agg #[.int .i64 a0_0, .slice A0_1 l0_1.length c0_1]] w fun e w' => e = .returned (.bool r) ∧ Below w.heap.size w w' := by
 have hu41 := Try.underlying41
 have HR0_1 := Aside0.mk hr0_1
 have HC0_1 := Aside0.mk hc0_1
 clear hr0_1 hc0_1
 have HB := Aside0.mk (Below.refl w.heap.size w)
 have H : (if (l0_1.length : Int) ≥ 1 then (if (l0_1.length : Int) ≤ 9 then ((impl_areIn.f l0_1 0 1000).bind fun t102 => (if t102 = true then ((impl_sumOf.f k l0_1).bind fun t103 => ((impl_within.f a0_0 1 t103).bind fun t104 => (some t104))) else (some false))) else (some false)) else (some false)) = some r := h
 clear h
 by_cases c2 : (l0_1.length : Int) ≥ 1
 ·rw [if_pos c2] at H
  have c2b0 : decide (1 ≤ (l0_1.length : Int)) = true := decide_eq_true c2
  have c2b1 : decide (1 ≤ l0_1.length) = true := decide_eq_true (by omega)
  clear c2
  by_cases c3 : (l0_1.length : Int) ≤ 9
  ·rw [if_pos c3] at H
   have c3b0 : decide ((l0_1.length : Int) ≤ 9) = true := decide_eq_true c3
   have c3b1 : decide (l0_1.length ≤ 9) = true := decide_eq_true (by omega)
   clear c3
   replace H := oB H
   obtain ⟨t102, A40, H⟩ := H
   replace H : (if t102 = true then ((impl_sumOf.f k l0_1).bind fun t103 => ((impl_within.f a0_0 1 t103).bind fun t104 => (some t104))) else (some false)) = some r := H
   have A4 := Aside0.mk A40
   clear A40
   by_cases c5 : t102 = true
   ·subst c5
    have H1 : ((impl_sumOf.f k l0_1).bind fun t103 => ((impl_within.f a0_0 1 t103).bind fun t104 => (some t104))) = some r := by rw [if_pos rfl] at H; exact H
    clear H
    have H := H1
    clear H1
    replace H := oB H
    obtain ⟨t103, A60, H⟩ := H
    replace H : ((impl_within.f a0_0 1 t103).bind fun t104 => (some t104)) = some r := H
    have A6 := Aside0.mk A60
    clear A60
    replace H := oB H
    obtain ⟨t104, A70, H⟩ := H
    replace H : (some t104) = some r := H
    have A7 := Aside0.mk A70
    clear A70
    obtain rfl := Option.some.inj H
    go_enter Try.func73, Try.ntmps73
    try go_wp2_with (first | ((with_reducible refine gate_dst (N := 1) rfl ?_); (try (refine gate_guard (by rfl) ?_; dsimp only)); refine box_event ?hg (N := 1) ?hd (cs := #[.int .i64 a0_0, .slice A0_1 l0_1.length c0_1]) (t := 41) ?hr ?_; (case hd => rfl); (case hg => rfl); (case hr => first | (go_simp; done) | (go_simp; rfl)); intro gb101 hg w8 hbox hb; have n0_ := Aside0.mk (below_step (by repeat (first | (with_reducible first | exact HB.out | apply ba | apply bd | apply be) | exact HB.out)) hb); have n1_ := Aside0.mk (hbox); have n2_ := Aside0.mk ((by rw [hg]; exact (below_size (by repeat (first | (with_reducible first | exact HB.out | apply ba | apply bd | apply be) | exact HB.out))) : w.heap.size ≤ gb101)); have n3_ := Aside0.mk ((by rw [hg]; exact (below_size (by repeat (first | (with_reducible first | exact HB.out | apply ba | apply bd | apply be) | exact HB.out))) : w.heap.size ≤ gb101)); clear HB; have HB := n0_; have BK101 := n1_; have GW101 := n2_; have GE101 := n3_; clear n0_ n1_ n2_ n3_; clear hb hbox hg))
    have n0_ := Aside0.mk (blk_drew BK101.out)
    have n1_ := Aside0.mk (below_drew1 HB.out)
    clear BK101
    clear HB
    have BK101 := n0_
    have HB := n1_
    clear n0_ n1_
    refine start_ (n := 24) (S := fun w' => w'.cell? ⟨gb101, 0, none⟩ = some (.int .i64 a0_0) ∧ w'.cell? ⟨gb101, 1, none⟩ = some (.slice A0_1 l0_1.length c0_1)) (ds := []) #[false, false, false, false, false, false, false, false, false, false, false, false, false, false, false, false, false, false, false, false, false, false, false, false] (by kernel_rfl) rfl rfl ⟨(blk_cell BK101.out 0).trans rfl, (blk_cell BK101.out 1).trans rfl⟩ (fun hHeld => ?_); refine with_tabW impl_IsCommittee.tab1 impl_IsCommittee.bits1 (fun HT_ HW_ => ?_)
    generalize w8.drew = w9 at BK101 HB hHeld ⊢
    refine pure_ (i := 0) (N := some 3) (v := ?_) (a' := ?_) #[true, false, false, false, false, false, false, false, false, false, false, false, false, false, false, false, false, false, false, false, false, false, false, false] rfl rfl (any_of HT_.out (by kernel_rfl)) (fun _ _ _ h => h) (Or.inl ⟨by rfl, ?_⟩) ?_ ?_
    rotate_left
    ·intro w'
     go_simp
     with_reducible rfl
    rotate_left
    ·simp only [Act.put, sA, sZ, sS, i64_w, i32_w]
     rfl
    refine take_ (i := 1) (N := some 4) (v := ?_) (a' := ?_) #[true, true, false, false, false, false, false, false, false, false, false, false, false, false, false, false, false, false, false, false, false, false, false, false] rfl rfl (take_ofW HT_.out HW_.out (by kernel_rfl)) (fun _ _ _ h => h) (Or.inl ⟨by rfl, ?_⟩) hHeld ?_ ?_
    rotate_left
    ·rintro w' ⟨s0, s1⟩
     go_simp
     with_reducible rfl
    rotate_left
    ·simp only [Act.put, sA, sZ, sS, i64_w, i32_w]
     rfl
    refine pure_ (i := 2) (N := some 5) (v := ?_) (a' := ?_) #[true, true, true, false, false, false, false, false, false, false, false, false, false, false, false, false, false, false, false, false, false, false, false, false] rfl rfl (any_of HT_.out (by kernel_rfl)) (fun _ _ _ h => h) (Or.inl ⟨by rfl, ?_⟩) ?_ ?_
    rotate_left
    ·intro w'
     go_simp
     with_reducible rfl
    rotate_left
    ·simp only [Act.put, sA, sZ, sS, i64_w, i32_w]
     rfl
    refine pure_ (i := 3) (N := some 6) (v := ?_) (a' := ?_) #[true, true, true, true, false, false, false, false, false, false, false, false, false, false, false, false, false, false, false, false, false, false, false, false] rfl rfl (any_of HT_.out (by kernel_rfl)) (fun _ _ _ h => h) (Or.inl ⟨by rfl, ?_⟩) ?_ ?_
    rotate_left
    ·intro w'
     go_simp
     with_reducible rfl
    rotate_left
    ·simp only [Act.put, sA, sZ, sS, i64_w, i32_w]
     rfl
    refine pure_ (i := 4) (N := some 7) (v := ?_) (a' := ?_) #[true, true, true, true, true, false, false, false, false, false, false, false, false, false, false, false, false, false, false, false, false, false, false, false] rfl rfl (any_of HT_.out (by kernel_rfl)) (fun _ _ _ h => h) (Or.inl ⟨by rfl, ?_⟩) ?_ ?_
    rotate_left
    ·intro w'
     go_simp
     with_reducible rfl
    rotate_left
    ·simp only [Act.put, sA, sZ, sS, i64_w, i32_w]
     rfl
    refine pure_ (i := 5) (N := some 8) (v := ?_) (a' := ?_) #[true, true, true, true, true, true, false, false, false, false, false, false, false, false, false, false, false, false, false, false, false, false, false, false] rfl rfl (any_of HT_.out (by kernel_rfl)) (fun _ _ _ h => h) (Or.inl ⟨by rfl, ?_⟩) ?_ ?_
    rotate_left
    ·intro w'
     go_simp
     with_reducible rfl
    rotate_left
    ·simp only [Act.put, sA, sZ, sS, i64_w, i32_w]
     rfl
    refine take_ (i := 6) (N := some 9) (v := ?_) (a' := ?_) #[true, true, true, true, true, true, true, false, false, false, false, false, false, false, false, false, false, false, false, false, false, false, false, false] rfl rfl (take_ofW HT_.out HW_.out (by kernel_rfl)) (fun _ _ _ h => h) (Or.inl ⟨by rfl, ?_⟩) hHeld ?_ ?_
    rotate_left
    ·rintro w' ⟨s0, s1⟩
     go_simp
     with_reducible rfl
    rotate_left
    ·simp only [Act.put, sA, sZ, sS, i64_w, i32_w]
     rfl
    refine pure_ (i := 7) (N := some 10) (v := ?_) (a' := ?_) #[true, true, true, true, true, true, true, true, false, false, false, false, false, false, false, false, false, false, false, false, false, false, false, false] rfl rfl (any_of HT_.out (by kernel_rfl)) (fun _ _ _ h => h) (Or.inl ⟨by rfl, ?_⟩) ?_ ?_
    rotate_left
    ·intro w'
     go_simp
     with_reducible rfl
    rotate_left
    ·simp only [Act.put, sA, sZ, sS, i64_w, i32_w]
     rfl
    refine pure_ (i := 8) (N := some 11) (v := ?_) (a' := ?_) #[true, true, true, true, true, true, true, true, true, false, false, false, false, false, false, false, false, false, false, false, false, false, false, false] rfl rfl (any_of HT_.out (by kernel_rfl)) (fun _ _ _ h => h) (Or.inl ⟨by rfl, ?_⟩) ?_ ?_
    rotate_left
    ·intro w'
     go_simp
     with_reducible rfl
    rotate_left
    ·simp only [Act.put, sA, sZ, sS, i64_w, i32_w]
     rfl
    refine pure_ (i := 9) (N := some 12) (v := ?_) (a' := ?_) #[true, true, true, true, true, true, true, true, true, true, false, false, false, false, false, false, false, false, false, false, false, false, false, false] rfl rfl (any_of HT_.out (by kernel_rfl)) (fun _ _ _ h => h) (Or.inl ⟨by rfl, ?_⟩) ?_ ?_
    rotate_left
    ·intro w'
     go_simp
     with_reducible rfl
    rotate_left
    ·simp only [Act.put, sA, sZ, sS, i64_w, i32_w]
     rfl
    refine pure_ (i := 10) (N := some 13) (v := ?_) (a' := ?_) #[true, true, true, true, true, true, true, true, true, true, true, false, false, false, false, false, false, false, false, false, false, false, false, false] rfl rfl (any_of HT_.out (by kernel_rfl)) (fun _ _ _ h => h) (Or.inl ⟨by rfl, ?_⟩) ?_ ?_
    rotate_left
    ·intro w'
     go_simp
     with_reducible rfl
    rotate_left
    ·simp only [Act.put, sA, sZ, sS, i64_w, i32_w]
     rfl
    refine pure_ (i := 11) (N := some 14) (v := ?_) (a' := ?_) #[true, true, true, true, true, true, true, true, true, true, true, true, false, false, false, false, false, false, false, false, false, false, false, false] rfl rfl (any_of HT_.out (by kernel_rfl)) (fun _ _ _ h => h) (Or.inl ⟨by rfl, ?_⟩) ?_ ?_
    rotate_left
    ·intro w'
     go_simp
     with_reducible rfl
    rotate_left
    ·simp only [Act.put, sA, sZ, sS, i64_w, i32_w]
     rfl
    refine take_ (i := 12) (N := some 15) (v := ?_) (a' := ?_) #[true, true, true, true, true, true, true, true, true, true, true, true, true, false, false, false, false, false, false, false, false, false, false, false] rfl rfl (take_ofW HT_.out HW_.out (by kernel_rfl)) (fun _ _ _ h => h) (Or.inl ⟨by rfl, ?_⟩) hHeld ?_ ?_
    rotate_left
    ·rintro w' ⟨s0, s1⟩
     go_simp
     with_reducible rfl
    rotate_left
    ·simp only [Act.put, sA, sZ, sS, i64_w, i32_w]
     rfl
    refine one_ (i := 13) (N := some 16) #[true, true, true, true, true, true, true, true, true, true, true, true, true, true, false, false, false, false, false, false, false, false, false, false] rfl rfl (one_of HT_.out (by kernel_rfl)) (by decide) (fun K hK => ?_)
    refine goes_ Try.func114 (by kernel_rfl) rfl #[.slice A0_1 l0_1.length c0_1, .int .i64 0, .int .i64 1000] (by rfl) rfl rfl (by (try simp only [mA, mC, mN]); first | done | rfl | (simp only [List.length_drop, List.length_take]; rfl)) ?_
    with_reducible refine (impl_areIn.calls _ _ l0_1 0 1000 true _ ?side1 ?side2 A4.out).mono ?_
    (case side1 => repeat (first | exact (Kd.C_below HR0_1.out HB.out) | (with_reducible refine Kd.C_alloc ?_ _) | (with_reducible refine Kd.C_drewN ?_ _) | (with_reducible refine Kd.C_drew ?_)))
    (case side2 => exact HC0_1.out)
    rintro e w10 ⟨rfl, hb⟩
    refine ⟨_, rfl, ?_⟩
    have n0_ := Aside0.mk (blk_below (g := gb101) (o := .cells #[.int .i64 a0_0, .slice A0_1 l0_1.length c0_1] 41 (0, 0)) (by (first | exact bp BK101.out | exact BK101.out)) hb)
    have n1_ := Aside0.mk (below_step (by repeat (first | (with_reducible first | exact HB.out | apply ba | apply bd | apply be | refine bs ?_ GE101.out) | exact HB.out)) hb)
    clear BK101
    clear HB
    have BK101 := n0_
    have HB := n1_
    clear n0_ n1_
    (try clear hb)
    (try clear hb2)
    (try clear hk)
    (try clear hi)
    refine hK.out _ _ ⟨(blk_cell BK101.out 0).trans rfl, (blk_cell BK101.out 1).trans rfl⟩ (fun hHeld => ?_)
    clear hK K
    refine norm_ (a' := ?_) ?_ ?_
    rotate_left
    ·show Act.put _ (some 16) _ = _
     simp only [Act.put, sA, sZ, sS, i64_w, i32_w]
     rfl
    refine pure_ (i := 14) (N := some 17) (v := ?_) (a' := ?_) #[true, true, true, true, true, true, true, true, true, true, true, true, true, true, true, false, false, false, false, false, false, false, false, false] rfl rfl (any_of HT_.out (by kernel_rfl)) (fun _ _ _ h => h) (Or.inl ⟨by rfl, ?_⟩) ?_ ?_
    rotate_left
    ·intro w'
     go_simp
     with_reducible rfl
    rotate_left
    ·simp only [Act.put, sA, sZ, sS, i64_w, i32_w]
     rfl
    refine pure_ (i := 15) (N := some 18) (v := ?_) (a' := ?_) #[true, true, true, true, true, true, true, true, true, true, true, true, true, true, true, true, false, false, false, false, false, false, false, false] rfl rfl (any_of HT_.out (by kernel_rfl)) (fun _ _ _ h => h) (Or.inl ⟨by rfl, ?_⟩) ?_ ?_
    rotate_left
    ·intro w'
     go_simp
     with_reducible rfl
    rotate_left
    ·simp only [Act.put, sA, sZ, sS, i64_w, i32_w]
     rfl
    refine pure_ (i := 16) (N := some 19) (v := ?_) (a' := ?_) #[true, true, true, true, true, true, true, true, true, true, true, true, true, true, true, true, true, false, false, false, false, false, false, false] rfl rfl (any_of HT_.out (by kernel_rfl)) (fun _ _ _ h => h) (Or.inl ⟨by rfl, ?_⟩) ?_ ?_
    rotate_left
    ·intro w'
     go_simp
     with_reducible rfl
    rotate_left
    ·simp only [Act.put, sA, sZ, sS, i64_w, i32_w]
     rfl
    refine pure_ (i := 18) (N := some 21) (v := ?_) (a' := ?_) #[true, true, true, true, true, true, true, true, true, true, true, true, true, true, true, true, true, false, true, false, false, false, false, false] rfl rfl (any_of HT_.out (by kernel_rfl)) (fun _ _ _ h => h) (Or.inl ⟨by rfl, ?_⟩) ?_ ?_
    rotate_left
    ·intro w'
     go_simp
     with_reducible rfl
    rotate_left
    ·simp only [Act.put, sA, sZ, sS, i64_w, i32_w]
     rfl
    refine take_ (i := 17) (N := some 20) (v := ?_) (a' := ?_) #[true, true, true, true, true, true, true, true, true, true, true, true, true, true, true, true, true, true, true, false, false, false, false, false] rfl rfl (take_ofW HT_.out HW_.out (by kernel_rfl)) (fun _ _ _ h => h) (Or.inl ⟨by rfl, ?_⟩) hHeld ?_ ?_
    rotate_left
    ·rintro w' ⟨s0, s1⟩
     go_simp
     with_reducible rfl
    rotate_left
    ·simp only [Act.put, sA, sZ, sS, i64_w, i32_w]
     rfl
    refine take_ (i := 19) (N := some 22) (v := ?_) (a' := ?_) #[true, true, true, true, true, true, true, true, true, true, true, true, true, true, true, true, true, true, true, true, false, false, false, false] rfl rfl (take_ofW HT_.out HW_.out (by kernel_rfl)) (fun _ _ _ h => h) (Or.inl ⟨by rfl, ?_⟩) hHeld ?_ ?_
    rotate_left
    ·rintro w' ⟨s0, s1⟩
     go_simp
     with_reducible rfl
    rotate_left
    ·simp only [Act.put, sA, sZ, sS, i64_w, i32_w]
     rfl
    refine one_ (i := 20) (N := some 23) #[true, true, true, true, true, true, true, true, true, true, true, true, true, true, true, true, true, true, true, true, true, false, false, false] rfl rfl (one_of HT_.out (by kernel_rfl)) (by decide) (fun K hK => ?_)
    refine goes_ Try.func89 (by kernel_rfl) rfl #[.slice A0_1 l0_1.length c0_1] (by rfl) rfl rfl (by (try simp only [mA, mC, mN]); first | done | rfl | (simp only [List.length_drop, List.length_take]; rfl)) ?_
    with_reducible refine (impl_sumOf.calls k _ _ l0_1 t103 _ ?side1 ?side2 A6.out).mono ?_
    (case side1 => repeat (first | exact (Kd.C_below HR0_1.out HB.out) | (with_reducible refine Kd.C_alloc ?_ _) | (with_reducible refine Kd.C_drewN ?_ _) | (with_reducible refine Kd.C_drew ?_)))
    (case side2 => exact HC0_1.out)
    rintro e w' ⟨rfl, ⟨nd, rfl⟩⟩
    refine ⟨_, rfl, ?_⟩
    refine hK.out _ _ ⟨(blk_cell BK101.out 0).trans rfl, (blk_cell BK101.out 1).trans rfl⟩ (fun hHeld => ?_)
    clear hK K
    refine norm_ (a' := ?_) ?_ ?_
    rotate_left
    ·show Act.put _ (some 23) _ = _
     simp only [Act.put, sA, sZ, sS, i64_w, i32_w]
     rfl
    refine one_ (i := 21) (N := some 24) #[true, true, true, true, true, true, true, true, true, true, true, true, true, true, true, true, true, true, true, true, true, true, false, false] rfl rfl (one_of HT_.out (by kernel_rfl)) (by decide) (fun K hK => ?_)
    refine goes_ Try.func66 (by kernel_rfl) rfl #[.int .i64 a0_0, .int .i64 1, .int .i64 t103] (by rfl) rfl rfl (by (try simp only [mA, mC, mN]); first | done | rfl | (simp only [List.length_drop, List.length_take]; rfl)) ?_
    with_reducible refine (impl_within.calls a0_0 1 t103 t104 _ A7.out).mono ?_
    rintro e w' ⟨rfl, ⟨nd, rfl⟩⟩
    refine ⟨_, rfl, ?_⟩
    refine hK.out _ _ ⟨(blk_cell BK101.out 0).trans rfl, (blk_cell BK101.out 1).trans rfl⟩ (fun hHeld => ?_)
    clear hK K
    refine norm_ (a' := ?_) ?_ ?_
    rotate_left
    ·show Act.put _ (some 24) _ = _
     simp only [Act.put, sA, sZ, sS, i64_w, i32_w]
     rfl
    refine pure_ (i := 22) (N := some 25) (v := ?_) (a' := ?_) #[true, true, true, true, true, true, true, true, true, true, true, true, true, true, true, true, true, true, true, true, true, true, true, false] rfl rfl (any_of HT_.out (by kernel_rfl)) (fun _ _ _ h => h) (Or.inl ⟨by rfl, ?_⟩) ?_ ?_
    rotate_left
    ·intro w'
     go_simp
     with_reducible rfl
    rotate_left
    ·simp only [Act.put, sA, sZ, sS, i64_w, i32_w]
     rfl
    refine pure_ (i := 23) (N := some 2) (v := ?_) (a' := ?_) #[true, true, true, true, true, true, true, true, true, true, true, true, true, true, true, true, true, true, true, true, true, true, true, true] rfl rfl (any_of HT_.out (by kernel_rfl)) (fun _ _ _ h => h) (Or.inl ⟨by rfl, ?_⟩) ?_ ?_
    rotate_left
    ·intro w'
     go_simp
     with_reducible rfl
    rotate_left
    ·simp only [Act.put, sA, sZ, sS, i64_w, i32_w]
     rfl
    refine done_ (done_of HT_.out (by kernel_rfl)) ?_
    try go_wp2
    go_ret
    exact ⟨by first | rfl | (simp <;> rfl) | (simp [*] <;> rfl), by repeat (first | (with_reducible first | exact HB.out | apply ba | apply bd | apply be | refine bs ?_ GE101.out) | exact HB.out)⟩
   ·replace c5 := Bool.eq_false_iff.mpr c5
    subst c5
    have H1 : (some false) = some r := by rw [if_neg (show ¬ (false = true) by decide)] at H; exact H
    clear H
    have H := H1
    clear H1
    obtain rfl := Option.some.inj H
    go_enter Try.func73, Try.ntmps73
    try go_wp2_with (first | ((with_reducible refine gate_dst (N := 1) rfl ?_); (try (refine gate_guard (by rfl) ?_; dsimp only)); refine box_event ?hg (N := 1) ?hd (cs := #[.int .i64 a0_0, .slice A0_1 l0_1.length c0_1]) (t := 41) ?hr ?_; (case hd => rfl); (case hg => rfl); (case hr => first | (go_simp; done) | (go_simp; rfl)); intro gb101 hg w11 hbox hb; have n0_ := Aside0.mk (below_step (by repeat (first | (with_reducible first | exact HB.out | apply ba | apply bd | apply be) | exact HB.out)) hb); have n1_ := Aside0.mk (hbox); have n2_ := Aside0.mk ((by rw [hg]; exact (below_size (by repeat (first | (with_reducible first | exact HB.out | apply ba | apply bd | apply be) | exact HB.out))) : w.heap.size ≤ gb101)); have n3_ := Aside0.mk ((by rw [hg]; exact (below_size (by repeat (first | (with_reducible first | exact HB.out | apply ba | apply bd | apply be) | exact HB.out))) : w.heap.size ≤ gb101)); clear HB; have HB := n0_; have BK101 := n1_; have GW101 := n2_; have GE101 := n3_; clear n0_ n1_ n2_ n3_; clear hb hbox hg))
    have n0_ := Aside0.mk (blk_drew BK101.out)
    have n1_ := Aside0.mk (below_drew1 HB.out)
    clear BK101
    clear HB
    have BK101 := n0_
    have HB := n1_
    clear n0_ n1_
    refine start_ (n := 24) (S := fun w' => w'.cell? ⟨gb101, 0, none⟩ = some (.int .i64 a0_0) ∧ w'.cell? ⟨gb101, 1, none⟩ = some (.slice A0_1 l0_1.length c0_1)) (ds := []) #[false, false, false, false, false, false, false, false, false, false, false, false, false, false, false, false, false, false, false, false, false, false, false, false] (by kernel_rfl) rfl rfl ⟨(blk_cell BK101.out 0).trans rfl, (blk_cell BK101.out 1).trans rfl⟩ (fun hHeld => ?_); refine with_tabW impl_IsCommittee.tab1 impl_IsCommittee.bits1 (fun HT_ HW_ => ?_)
    generalize w11.drew = w12 at BK101 HB hHeld ⊢
    refine pure_ (i := 0) (N := some 3) (v := ?_) (a' := ?_) #[true, false, false, false, false, false, false, false, false, false, false, false, false, false, false, false, false, false, false, false, false, false, false, false] rfl rfl (any_of HT_.out (by kernel_rfl)) (fun _ _ _ h => h) (Or.inl ⟨by rfl, ?_⟩) ?_ ?_
    rotate_left
    ·intro w'
     go_simp
     with_reducible rfl
    rotate_left
    ·simp only [Act.put, sA, sZ, sS, i64_w, i32_w]
     rfl
    refine take_ (i := 1) (N := some 4) (v := ?_) (a' := ?_) #[true, true, false, false, false, false, false, false, false, false, false, false, false, false, false, false, false, false, false, false, false, false, false, false] rfl rfl (take_ofW HT_.out HW_.out (by kernel_rfl)) (fun _ _ _ h => h) (Or.inl ⟨by rfl, ?_⟩) hHeld ?_ ?_
    rotate_left
    ·rintro w' ⟨s0, s1⟩
     go_simp
     with_reducible rfl
    rotate_left
    ·simp only [Act.put, sA, sZ, sS, i64_w, i32_w]
     rfl
    refine pure_ (i := 2) (N := some 5) (v := ?_) (a' := ?_) #[true, true, true, false, false, false, false, false, false, false, false, false, false, false, false, false, false, false, false, false, false, false, false, false] rfl rfl (any_of HT_.out (by kernel_rfl)) (fun _ _ _ h => h) (Or.inl ⟨by rfl, ?_⟩) ?_ ?_
    rotate_left
    ·intro w'
     go_simp
     with_reducible rfl
    rotate_left
    ·simp only [Act.put, sA, sZ, sS, i64_w, i32_w]
     rfl
    refine pure_ (i := 3) (N := some 6) (v := ?_) (a' := ?_) #[true, true, true, true, false, false, false, false, false, false, false, false, false, false, false, false, false, false, false, false, false, false, false, false] rfl rfl (any_of HT_.out (by kernel_rfl)) (fun _ _ _ h => h) (Or.inl ⟨by rfl, ?_⟩) ?_ ?_
    rotate_left
    ·intro w'
     go_simp
     with_reducible rfl
    rotate_left
    ·simp only [Act.put, sA, sZ, sS, i64_w, i32_w]
     rfl
    refine pure_ (i := 4) (N := some 7) (v := ?_) (a' := ?_) #[true, true, true, true, true, false, false, false, false, false, false, false, false, false, false, false, false, false, false, false, false, false, false, false] rfl rfl (any_of HT_.out (by kernel_rfl)) (fun _ _ _ h => h) (Or.inl ⟨by rfl, ?_⟩) ?_ ?_
    rotate_left
    ·intro w'
     go_simp
     with_reducible rfl
    rotate_left
    ·simp only [Act.put, sA, sZ, sS, i64_w, i32_w]
     rfl
    refine pure_ (i := 5) (N := some 8) (v := ?_) (a' := ?_) #[true, true, true, true, true, true, false, false, false, false, false, false, false, false, false, false, false, false, false, false, false, false, false, false] rfl rfl (any_of HT_.out (by kernel_rfl)) (fun _ _ _ h => h) (Or.inl ⟨by rfl, ?_⟩) ?_ ?_
    rotate_left
    ·intro w'
     go_simp
     with_reducible rfl
    rotate_left
    ·simp only [Act.put, sA, sZ, sS, i64_w, i32_w]
     rfl
    refine take_ (i := 6) (N := some 9) (v := ?_) (a' := ?_) #[true, true, true, true, true, true, true, false, false, false, false, false, false, false, false, false, false, false, false, false, false, false, false, false] rfl rfl (take_ofW HT_.out HW_.out (by kernel_rfl)) (fun _ _ _ h => h) (Or.inl ⟨by rfl, ?_⟩) hHeld ?_ ?_
    rotate_left
    ·rintro w' ⟨s0, s1⟩
     go_simp
     with_reducible rfl
    rotate_left
    ·simp only [Act.put, sA, sZ, sS, i64_w, i32_w]
     rfl
    refine pure_ (i := 7) (N := some 10) (v := ?_) (a' := ?_) #[true, true, true, true, true, true, true, true, false, false, false, false, false, false, false, false, false, false, false, false, false, false, false, false] rfl rfl (any_of HT_.out (by kernel_rfl)) (fun _ _ _ h => h) (Or.inl ⟨by rfl, ?_⟩) ?_ ?_
    rotate_left
    ·intro w'
     go_simp
     with_reducible rfl
    rotate_left
    ·simp only [Act.put, sA, sZ, sS, i64_w, i32_w]
     rfl
    refine pure_ (i := 8) (N := some 11) (v := ?_) (a' := ?_) #[true, true, true, true, true, true, true, true, true, false, false, false, false, false, false, false, false, false, false, false, false, false, false, false] rfl rfl (any_of HT_.out (by kernel_rfl)) (fun _ _ _ h => h) (Or.inl ⟨by rfl, ?_⟩) ?_ ?_
    rotate_left
    ·intro w'
     go_simp
     with_reducible rfl
    rotate_left
    ·simp only [Act.put, sA, sZ, sS, i64_w, i32_w]
     rfl
    refine pure_ (i := 9) (N := some 12) (v := ?_) (a' := ?_) #[true, true, true, true, true, true, true, true, true, true, false, false, false, false, false, false, false, false, false, false, false, false, false, false] rfl rfl (any_of HT_.out (by kernel_rfl)) (fun _ _ _ h => h) (Or.inl ⟨by rfl, ?_⟩) ?_ ?_
    rotate_left
    ·intro w'
     go_simp
     with_reducible rfl
    rotate_left
    ·simp only [Act.put, sA, sZ, sS, i64_w, i32_w]
     rfl
    refine pure_ (i := 10) (N := some 13) (v := ?_) (a' := ?_) #[true, true, true, true, true, true, true, true, true, true, true, false, false, false, false, false, false, false, false, false, false, false, false, false] rfl rfl (any_of HT_.out (by kernel_rfl)) (fun _ _ _ h => h) (Or.inl ⟨by rfl, ?_⟩) ?_ ?_
    rotate_left
    ·intro w'
     go_simp
     with_reducible rfl
    rotate_left
    ·simp only [Act.put, sA, sZ, sS, i64_w, i32_w]
     rfl
    refine pure_ (i := 11) (N := some 14) (v := ?_) (a' := ?_) #[true, true, true, true, true, true, true, true, true, true, true, true, false, false, false, false, false, false, false, false, false, false, false, false] rfl rfl (any_of HT_.out (by kernel_rfl)) (fun _ _ _ h => h) (Or.inl ⟨by rfl, ?_⟩) ?_ ?_
    rotate_left
    ·intro w'
     go_simp
     with_reducible rfl
    rotate_left
    ·simp only [Act.put, sA, sZ, sS, i64_w, i32_w]
     rfl
    refine take_ (i := 12) (N := some 15) (v := ?_) (a' := ?_) #[true, true, true, true, true, true, true, true, true, true, true, true, true, false, false, false, false, false, false, false, false, false, false, false] rfl rfl (take_ofW HT_.out HW_.out (by kernel_rfl)) (fun _ _ _ h => h) (Or.inl ⟨by rfl, ?_⟩) hHeld ?_ ?_
    rotate_left
    ·rintro w' ⟨s0, s1⟩
     go_simp
     with_reducible rfl
    rotate_left
    ·simp only [Act.put, sA, sZ, sS, i64_w, i32_w]
     rfl
    refine one_ (i := 13) (N := some 16) #[true, true, true, true, true, true, true, true, true, true, true, true, true, true, false, false, false, false, false, false, false, false, false, false] rfl rfl (one_of HT_.out (by kernel_rfl)) (by decide) (fun K hK => ?_)
    refine goes_ Try.func114 (by kernel_rfl) rfl #[.slice A0_1 l0_1.length c0_1, .int .i64 0, .int .i64 1000] (by rfl) rfl rfl (by (try simp only [mA, mC, mN]); first | done | rfl | (simp only [List.length_drop, List.length_take]; rfl)) ?_
    with_reducible refine (impl_areIn.calls _ _ l0_1 0 1000 false _ ?side1 ?side2 A4.out).mono ?_
    (case side1 => repeat (first | exact (Kd.C_below HR0_1.out HB.out) | (with_reducible refine Kd.C_alloc ?_ _) | (with_reducible refine Kd.C_drewN ?_ _) | (with_reducible refine Kd.C_drew ?_)))
    (case side2 => exact HC0_1.out)
    rintro e w13 ⟨rfl, hb⟩
    refine ⟨_, rfl, ?_⟩
    have n0_ := Aside0.mk (blk_below (g := gb101) (o := .cells #[.int .i64 a0_0, .slice A0_1 l0_1.length c0_1] 41 (0, 0)) (by (first | exact bp BK101.out | exact BK101.out)) hb)
    have n1_ := Aside0.mk (below_step (by repeat (first | (with_reducible first | exact HB.out | apply ba | apply bd | apply be | refine bs ?_ GE101.out) | exact HB.out)) hb)
    clear BK101
    clear HB
    have BK101 := n0_
    have HB := n1_
    clear n0_ n1_
    (try clear hb)
    (try clear hb2)
    (try clear hk)
    (try clear hi)
    refine hK.out _ _ ⟨(blk_cell BK101.out 0).trans rfl, (blk_cell BK101.out 1).trans rfl⟩ (fun hHeld => ?_)
    clear hK K
    refine norm_ (a' := ?_) ?_ ?_
    rotate_left
    ·show Act.put _ (some 16) _ = _
     simp only [Act.put, sA, sZ, sS, i64_w, i32_w]
     rfl
    refine pure_ (i := 14) (N := some 17) (v := ?_) (a' := ?_) #[true, true, true, true, true, true, true, true, true, true, true, true, true, true, true, false, false, false, false, false, false, false, false, false] rfl rfl (any_of HT_.out (by kernel_rfl)) (fun _ _ _ h => h) (Or.inl ⟨by rfl, ?_⟩) ?_ ?_
    rotate_left
    ·intro w'
     go_simp
     with_reducible rfl
    rotate_left
    ·simp only [Act.put, sA, sZ, sS, i64_w, i32_w]
     rfl
    refine pure_ (i := 15) (N := some 18) (v := ?_) (a' := ?_) #[true, true, true, true, true, true, true, true, true, true, true, true, true, true, true, true, false, false, false, false, false, false, false, false] rfl rfl (any_of HT_.out (by kernel_rfl)) (fun _ _ _ h => h) (Or.inl ⟨by rfl, ?_⟩) ?_ ?_
    rotate_left
    ·intro w'
     go_simp
     with_reducible rfl
    rotate_left
    ·simp only [Act.put, sA, sZ, sS, i64_w, i32_w]
     rfl
    refine pure_ (i := 16) (N := some 19) (v := undef) (a' := ?_) #[true, true, true, true, true, true, true, true, true, true, true, true, true, true, true, true, true, false, false, false, false, false, false, false] rfl rfl (any_of HT_.out (by kernel_rfl)) (fun _ _ _ h => h) (Or.inr ⟨by rfl, rfl⟩) ?_ ?_
    rotate_left
    ·simp only [Act.put, sA, sZ, sS, i64_w, i32_w]
     rfl
    refine pure_ (i := 17) (N := some 20) (v := undef) (a' := ?_) #[true, true, true, true, true, true, true, true, true, true, true, true, true, true, true, true, true, true, false, false, false, false, false, false] rfl rfl (any_of HT_.out (by kernel_rfl)) (fun _ _ _ h => h) (Or.inr ⟨by rfl, rfl⟩) ?_ ?_
    rotate_left
    ·simp only [Act.put, sA, sZ, sS, i64_w, i32_w]
     rfl
    refine pure_ (i := 18) (N := some 21) (v := undef) (a' := ?_) #[true, true, true, true, true, true, true, true, true, true, true, true, true, true, true, true, true, true, true, false, false, false, false, false] rfl rfl (any_of HT_.out (by kernel_rfl)) (fun _ _ _ h => h) (Or.inr ⟨by rfl, rfl⟩) ?_ ?_
    rotate_left
    ·simp only [Act.put, sA, sZ, sS, i64_w, i32_w]
     rfl
    refine pure_ (i := 19) (N := some 22) (v := undef) (a' := ?_) #[true, true, true, true, true, true, true, true, true, true, true, true, true, true, true, true, true, true, true, true, false, false, false, false] rfl rfl (any_of HT_.out (by kernel_rfl)) (fun _ _ _ h => h) (Or.inr ⟨by rfl, rfl⟩) ?_ ?_
    rotate_left
    ·simp only [Act.put, sA, sZ, sS, i64_w, i32_w]
     rfl
    refine pure_ (i := 20) (N := some 23) (v := undef) (a' := ?_) #[true, true, true, true, true, true, true, true, true, true, true, true, true, true, true, true, true, true, true, true, true, false, false, false] rfl rfl (any_of HT_.out (by kernel_rfl)) (fun _ _ _ h => h) (Or.inr ⟨by rfl, rfl⟩) ?_ ?_
    rotate_left
    ·simp only [Act.put, sA, sZ, sS, i64_w, i32_w]
     rfl
    refine pure_ (i := 21) (N := some 24) (v := undef) (a' := ?_) #[true, true, true, true, true, true, true, true, true, true, true, true, true, true, true, true, true, true, true, true, true, true, false, false] rfl rfl (any_of HT_.out (by kernel_rfl)) (fun _ _ _ h => h) (Or.inr ⟨by rfl, rfl⟩) ?_ ?_
    rotate_left
    ·simp only [Act.put, sA, sZ, sS, i64_w, i32_w]
     rfl
    refine pure_ (i := 22) (N := some 25) (v := ?_) (a' := ?_) #[true, true, true, true, true, true, true, true, true, true, true, true, true, true, true, true, true, true, true, true, true, true, true, false] rfl rfl (any_of HT_.out (by kernel_rfl)) (fun _ _ _ h => h) (Or.inl ⟨by rfl, ?_⟩) ?_ ?_
    rotate_left
    ·intro w'
     go_simp
     with_reducible rfl
    rotate_left
    ·simp only [Act.put, sA, sZ, sS, i64_w, i32_w]
     rfl
    refine pure_ (i := 23) (N := some 2) (v := ?_) (a' := ?_) #[true, true, true, true, true, true, true, true, true, true, true, true, true, true, true, true, true, true, true, true, true, true, true, true] rfl rfl (any_of HT_.out (by kernel_rfl)) (fun _ _ _ h => h) (Or.inl ⟨by rfl, ?_⟩) ?_ ?_
    rotate_left
    ·intro w'
     go_simp
     with_reducible rfl
    rotate_left
    ·simp only [Act.put, sA, sZ, sS, i64_w, i32_w]
     rfl
    refine done_ (done_of HT_.out (by kernel_rfl)) ?_
    try go_wp2
    go_ret
    exact ⟨by first | rfl | (simp <;> rfl) | (simp [*] <;> rfl), by repeat (first | (with_reducible first | exact HB.out | apply ba | apply bd | apply be | refine bs ?_ GE101.out) | exact HB.out)⟩
  ·rw [if_neg c3] at H
   have c3b0 : decide ((l0_1.length : Int) ≤ 9) = false := decide_eq_false c3
   have c3b1 : decide (l0_1.length ≤ 9) = false := decide_eq_false (by omega)
   clear c3
   obtain rfl := Option.some.inj H
   go_enter Try.func73, Try.ntmps73
   try go_wp2_with (first | ((with_reducible refine gate_dst (N := 1) rfl ?_); (try (refine gate_guard (by rfl) ?_; dsimp only)); refine box_event ?hg (N := 1) ?hd (cs := #[.int .i64 a0_0, .slice A0_1 l0_1.length c0_1]) (t := 41) ?hr ?_; (case hd => rfl); (case hg => rfl); (case hr => first | (go_simp; done) | (go_simp; rfl)); intro gb101 hg w14 hbox hb; have n0_ := Aside0.mk (below_step (by repeat (first | (with_reducible first | exact HB.out | apply ba | apply bd | apply be) | exact HB.out)) hb); have n1_ := Aside0.mk (hbox); have n2_ := Aside0.mk ((by rw [hg]; exact (below_size (by repeat (first | (with_reducible first | exact HB.out | apply ba | apply bd | apply be) | exact HB.out))) : w.heap.size ≤ gb101)); have n3_ := Aside0.mk ((by rw [hg]; exact (below_size (by repeat (first | (with_reducible first | exact HB.out | apply ba | apply bd | apply be) | exact HB.out))) : w.heap.size ≤ gb101)); clear HB; have HB := n0_; have BK101 := n1_; have GW101 := n2_; have GE101 := n3_; clear n0_ n1_ n2_ n3_; clear hb hbox hg))
   have n0_ := Aside0.mk (blk_drew BK101.out)
   have n1_ := Aside0.mk (below_drew1 HB.out)
   clear BK101
   clear HB
   have BK101 := n0_
   have HB := n1_
   clear n0_ n1_
   refine start_ (n := 24) (S := fun w' => w'.cell? ⟨gb101, 0, none⟩ = some (.int .i64 a0_0) ∧ w'.cell? ⟨gb101, 1, none⟩ = some (.slice A0_1 l0_1.length c0_1)) (ds := []) #[false, false, false, false, false, false, false, false, false, false, false, false, false, false, false, false, false, false, false, false, false, false, false, false] (by kernel_rfl) rfl rfl ⟨(blk_cell BK101.out 0).trans rfl, (blk_cell BK101.out 1).trans rfl⟩ (fun hHeld => ?_); refine with_tabW impl_IsCommittee.tab1 impl_IsCommittee.bits1 (fun HT_ HW_ => ?_)
   generalize w14.drew = w15 at BK101 HB hHeld ⊢
   refine pure_ (i := 0) (N := some 3) (v := ?_) (a' := ?_) #[true, false, false, false, false, false, false, false, false, false, false, false, false, false, false, false, false, false, false, false, false, false, false, false] rfl rfl (any_of HT_.out (by kernel_rfl)) (fun _ _ _ h => h) (Or.inl ⟨by rfl, ?_⟩) ?_ ?_
   rotate_left
   ·intro w'
    go_simp
    with_reducible rfl
   rotate_left
   ·simp only [Act.put, sA, sZ, sS, i64_w, i32_w]
    rfl
   refine take_ (i := 1) (N := some 4) (v := ?_) (a' := ?_) #[true, true, false, false, false, false, false, false, false, false, false, false, false, false, false, false, false, false, false, false, false, false, false, false] rfl rfl (take_ofW HT_.out HW_.out (by kernel_rfl)) (fun _ _ _ h => h) (Or.inl ⟨by rfl, ?_⟩) hHeld ?_ ?_
   rotate_left
   ·rintro w' ⟨s0, s1⟩
    go_simp
    with_reducible rfl
   rotate_left
   ·simp only [Act.put, sA, sZ, sS, i64_w, i32_w]
    rfl
   refine pure_ (i := 2) (N := some 5) (v := ?_) (a' := ?_) #[true, true, true, false, false, false, false, false, false, false, false, false, false, false, false, false, false, false, false, false, false, false, false, false] rfl rfl (any_of HT_.out (by kernel_rfl)) (fun _ _ _ h => h) (Or.inl ⟨by rfl, ?_⟩) ?_ ?_
   rotate_left
   ·intro w'
    go_simp
    with_reducible rfl
   rotate_left
   ·simp only [Act.put, sA, sZ, sS, i64_w, i32_w]
    rfl
   refine pure_ (i := 3) (N := some 6) (v := ?_) (a' := ?_) #[true, true, true, true, false, false, false, false, false, false, false, false, false, false, false, false, false, false, false, false, false, false, false, false] rfl rfl (any_of HT_.out (by kernel_rfl)) (fun _ _ _ h => h) (Or.inl ⟨by rfl, ?_⟩) ?_ ?_
   rotate_left
   ·intro w'
    go_simp
    with_reducible rfl
   rotate_left
   ·simp only [Act.put, sA, sZ, sS, i64_w, i32_w]
    rfl
   refine pure_ (i := 4) (N := some 7) (v := ?_) (a' := ?_) #[true, true, true, true, true, false, false, false, false, false, false, false, false, false, false, false, false, false, false, false, false, false, false, false] rfl rfl (any_of HT_.out (by kernel_rfl)) (fun _ _ _ h => h) (Or.inl ⟨by rfl, ?_⟩) ?_ ?_
   rotate_left
   ·intro w'
    go_simp
    with_reducible rfl
   rotate_left
   ·simp only [Act.put, sA, sZ, sS, i64_w, i32_w]
    rfl
   refine pure_ (i := 5) (N := some 8) (v := ?_) (a' := ?_) #[true, true, true, true, true, true, false, false, false, false, false, false, false, false, false, false, false, false, false, false, false, false, false, false] rfl rfl (any_of HT_.out (by kernel_rfl)) (fun _ _ _ h => h) (Or.inl ⟨by rfl, ?_⟩) ?_ ?_
   rotate_left
   ·intro w'
    go_simp
    with_reducible rfl
   rotate_left
   ·simp only [Act.put, sA, sZ, sS, i64_w, i32_w]
    rfl
   refine take_ (i := 6) (N := some 9) (v := ?_) (a' := ?_) #[true, true, true, true, true, true, true, false, false, false, false, false, false, false, false, false, false, false, false, false, false, false, false, false] rfl rfl (take_ofW HT_.out HW_.out (by kernel_rfl)) (fun _ _ _ h => h) (Or.inl ⟨by rfl, ?_⟩) hHeld ?_ ?_
   rotate_left
   ·rintro w' ⟨s0, s1⟩
    go_simp
    with_reducible rfl
   rotate_left
   ·simp only [Act.put, sA, sZ, sS, i64_w, i32_w]
    rfl
   refine pure_ (i := 7) (N := some 10) (v := ?_) (a' := ?_) #[true, true, true, true, true, true, true, true, false, false, false, false, false, false, false, false, false, false, false, false, false, false, false, false] rfl rfl (any_of HT_.out (by kernel_rfl)) (fun _ _ _ h => h) (Or.inl ⟨by rfl, ?_⟩) ?_ ?_
   rotate_left
   ·intro w'
    go_simp
    with_reducible rfl
   rotate_left
   ·simp only [Act.put, sA, sZ, sS, i64_w, i32_w]
    rfl
   refine pure_ (i := 8) (N := some 11) (v := ?_) (a' := ?_) #[true, true, true, true, true, true, true, true, true, false, false, false, false, false, false, false, false, false, false, false, false, false, false, false] rfl rfl (any_of HT_.out (by kernel_rfl)) (fun _ _ _ h => h) (Or.inl ⟨by rfl, ?_⟩) ?_ ?_
   rotate_left
   ·intro w'
    go_simp
    with_reducible rfl
   rotate_left
   ·simp only [Act.put, sA, sZ, sS, i64_w, i32_w]
    rfl
   refine pure_ (i := 9) (N := some 12) (v := ?_) (a' := ?_) #[true, true, true, true, true, true, true, true, true, true, false, false, false, false, false, false, false, false, false, false, false, false, false, false] rfl rfl (any_of HT_.out (by kernel_rfl)) (fun _ _ _ h => h) (Or.inl ⟨by rfl, ?_⟩) ?_ ?_
   rotate_left
   ·intro w'
    go_simp
    with_reducible rfl
   rotate_left
   ·simp only [Act.put, sA, sZ, sS, i64_w, i32_w]
    rfl
   refine pure_ (i := 10) (N := some 13) (v := ?_) (a' := ?_) #[true, true, true, true, true, true, true, true, true, true, true, false, false, false, false, false, false, false, false, false, false, false, false, false] rfl rfl (any_of HT_.out (by kernel_rfl)) (fun _ _ _ h => h) (Or.inl ⟨by rfl, ?_⟩) ?_ ?_
   rotate_left
   ·intro w'
    go_simp
    with_reducible rfl
   rotate_left
   ·simp only [Act.put, sA, sZ, sS, i64_w, i32_w]
    rfl
   refine pure_ (i := 11) (N := some 14) (v := undef) (a' := ?_) #[true, true, true, true, true, true, true, true, true, true, true, true, false, false, false, false, false, false, false, false, false, false, false, false] rfl rfl (any_of HT_.out (by kernel_rfl)) (fun _ _ _ h => h) (Or.inr ⟨by rfl, rfl⟩) ?_ ?_
   rotate_left
   ·simp only [Act.put, sA, sZ, sS, i64_w, i32_w]
    rfl
   refine pure_ (i := 12) (N := some 15) (v := undef) (a' := ?_) #[true, true, true, true, true, true, true, true, true, true, true, true, true, false, false, false, false, false, false, false, false, false, false, false] rfl rfl (any_of HT_.out (by kernel_rfl)) (fun _ _ _ h => h) (Or.inr ⟨by rfl, rfl⟩) ?_ ?_
   rotate_left
   ·simp only [Act.put, sA, sZ, sS, i64_w, i32_w]
    rfl
   refine pure_ (i := 13) (N := some 16) (v := undef) (a' := ?_) #[true, true, true, true, true, true, true, true, true, true, true, true, true, true, false, false, false, false, false, false, false, false, false, false] rfl rfl (any_of HT_.out (by kernel_rfl)) (fun _ _ _ h => h) (Or.inr ⟨by rfl, rfl⟩) ?_ ?_
   rotate_left
   ·simp only [Act.put, sA, sZ, sS, i64_w, i32_w]
    rfl
   refine pure_ (i := 14) (N := some 17) (v := ?_) (a' := ?_) #[true, true, true, true, true, true, true, true, true, true, true, true, true, true, true, false, false, false, false, false, false, false, false, false] rfl rfl (any_of HT_.out (by kernel_rfl)) (fun _ _ _ h => h) (Or.inl ⟨by rfl, ?_⟩) ?_ ?_
   rotate_left
   ·intro w'
    go_simp
    with_reducible rfl
   rotate_left
   ·simp only [Act.put, sA, sZ, sS, i64_w, i32_w]
    rfl
   refine pure_ (i := 15) (N := some 18) (v := ?_) (a' := ?_) #[true, true, true, true, true, true, true, true, true, true, true, true, true, true, true, true, false, false, false, false, false, false, false, false] rfl rfl (any_of HT_.out (by kernel_rfl)) (fun _ _ _ h => h) (Or.inl ⟨by rfl, ?_⟩) ?_ ?_
   rotate_left
   ·intro w'
    go_simp
    with_reducible rfl
   rotate_left
   ·simp only [Act.put, sA, sZ, sS, i64_w, i32_w]
    rfl
   refine pure_ (i := 16) (N := some 19) (v := undef) (a' := ?_) #[true, true, true, true, true, true, true, true, true, true, true, true, true, true, true, true, true, false, false, false, false, false, false, false] rfl rfl (any_of HT_.out (by kernel_rfl)) (fun _ _ _ h => h) (Or.inr ⟨by rfl, rfl⟩) ?_ ?_
   rotate_left
   ·simp only [Act.put, sA, sZ, sS, i64_w, i32_w]
    rfl
   refine pure_ (i := 17) (N := some 20) (v := undef) (a' := ?_) #[true, true, true, true, true, true, true, true, true, true, true, true, true, true, true, true, true, true, false, false, false, false, false, false] rfl rfl (any_of HT_.out (by kernel_rfl)) (fun _ _ _ h => h) (Or.inr ⟨by rfl, rfl⟩) ?_ ?_
   rotate_left
   ·simp only [Act.put, sA, sZ, sS, i64_w, i32_w]
    rfl
   refine pure_ (i := 18) (N := some 21) (v := undef) (a' := ?_) #[true, true, true, true, true, true, true, true, true, true, true, true, true, true, true, true, true, true, true, false, false, false, false, false] rfl rfl (any_of HT_.out (by kernel_rfl)) (fun _ _ _ h => h) (Or.inr ⟨by rfl, rfl⟩) ?_ ?_
   rotate_left
   ·simp only [Act.put, sA, sZ, sS, i64_w, i32_w]
    rfl
   refine pure_ (i := 19) (N := some 22) (v := undef) (a' := ?_) #[true, true, true, true, true, true, true, true, true, true, true, true, true, true, true, true, true, true, true, true, false, false, false, false] rfl rfl (any_of HT_.out (by kernel_rfl)) (fun _ _ _ h => h) (Or.inr ⟨by rfl, rfl⟩) ?_ ?_
   rotate_left
   ·simp only [Act.put, sA, sZ, sS, i64_w, i32_w]
    rfl
   refine pure_ (i := 20) (N := some 23) (v := undef) (a' := ?_) #[true, true, true, true, true, true, true, true, true, true, true, true, true, true, true, true, true, true, true, true, true, false, false, false] rfl rfl (any_of HT_.out (by kernel_rfl)) (fun _ _ _ h => h) (Or.inr ⟨by rfl, rfl⟩) ?_ ?_
   rotate_left
   ·simp only [Act.put, sA, sZ, sS, i64_w, i32_w]
    rfl
   refine pure_ (i := 21) (N := some 24) (v := undef) (a' := ?_) #[true, true, true, true, true, true, true, true, true, true, true, true, true, true, true, true, true, true, true, true, true, true, false, false] rfl rfl (any_of HT_.out (by kernel_rfl)) (fun _ _ _ h => h) (Or.inr ⟨by rfl, rfl⟩) ?_ ?_
   rotate_left
   ·simp only [Act.put, sA, sZ, sS, i64_w, i32_w]
    rfl
   refine pure_ (i := 22) (N := some 25) (v := ?_) (a' := ?_) #[true, true, true, true, true, true, true, true, true, true, true, true, true, true, true, true, true, true, true, true, true, true, true, false] rfl rfl (any_of HT_.out (by kernel_rfl)) (fun _ _ _ h => h) (Or.inl ⟨by rfl, ?_⟩) ?_ ?_
   rotate_left
   ·intro w'
    go_simp
    with_reducible rfl
   rotate_left
   ·simp only [Act.put, sA, sZ, sS, i64_w, i32_w]
    rfl
   refine pure_ (i := 23) (N := some 2) (v := ?_) (a' := ?_) #[true, true, true, true, true, true, true, true, true, true, true, true, true, true, true, true, true, true, true, true, true, true, true, true] rfl rfl (any_of HT_.out (by kernel_rfl)) (fun _ _ _ h => h) (Or.inl ⟨by rfl, ?_⟩) ?_ ?_
   rotate_left
   ·intro w'
    go_simp
    with_reducible rfl
   rotate_left
   ·simp only [Act.put, sA, sZ, sS, i64_w, i32_w]
    rfl
   refine done_ (done_of HT_.out (by kernel_rfl)) ?_
   try go_wp2
   go_ret
   exact ⟨by first | rfl | (simp <;> rfl) | (simp [*] <;> rfl), by repeat (first | (with_reducible first | exact HB.out | apply ba | apply bd | apply be | refine bs ?_ GE101.out) | exact HB.out)⟩
 ·rw [if_neg c2] at H
  have c2b0 : decide (1 ≤ (l0_1.length : Int)) = false := decide_eq_false c2
  have c2b1 : decide (1 ≤ l0_1.length) = false := decide_eq_false (by omega)
  clear c2
  obtain rfl := Option.some.inj H
  go_enter Try.func73, Try.ntmps73
  try go_wp2_with (first | ((with_reducible refine gate_dst (N := 1) rfl ?_); (try (refine gate_guard (by rfl) ?_; dsimp only)); refine box_event ?hg (N := 1) ?hd (cs := #[.int .i64 a0_0, .slice A0_1 l0_1.length c0_1]) (t := 41) ?hr ?_; (case hd => rfl); (case hg => rfl); (case hr => first | (go_simp; done) | (go_simp; rfl)); intro gb101 hg w16 hbox hb; have n0_ := Aside0.mk (below_step (by repeat (first | (with_reducible first | exact HB.out | apply ba | apply bd | apply be) | exact HB.out)) hb); have n1_ := Aside0.mk (hbox); have n2_ := Aside0.mk ((by rw [hg]; exact (below_size (by repeat (first | (with_reducible first | exact HB.out | apply ba | apply bd | apply be) | exact HB.out))) : w.heap.size ≤ gb101)); have n3_ := Aside0.mk ((by rw [hg]; exact (below_size (by repeat (first | (with_reducible first | exact HB.out | apply ba | apply bd | apply be) | exact HB.out))) : w.heap.size ≤ gb101)); clear HB; have HB := n0_; have BK101 := n1_; have GW101 := n2_; have GE101 := n3_; clear n0_ n1_ n2_ n3_; clear hb hbox hg))
  have n0_ := Aside0.mk (blk_drew BK101.out)
  have n1_ := Aside0.mk (below_drew1 HB.out)
  clear BK101
  clear HB
  have BK101 := n0_
  have HB := n1_
  clear n0_ n1_
  refine start_ (n := 24) (S := fun w' => w'.cell? ⟨gb101, 0, none⟩ = some (.int .i64 a0_0) ∧ w'.cell? ⟨gb101, 1, none⟩ = some (.slice A0_1 l0_1.length c0_1)) (ds := []) #[false, false, false, false, false, false, false, false, false, false, false, false, false, false, false, false, false, false, false, false, false, false, false, false] (by kernel_rfl) rfl rfl ⟨(blk_cell BK101.out 0).trans rfl, (blk_cell BK101.out 1).trans rfl⟩ (fun hHeld => ?_); refine with_tabW impl_IsCommittee.tab1 impl_IsCommittee.bits1 (fun HT_ HW_ => ?_)
  generalize w16.drew = w17 at BK101 HB hHeld ⊢
  refine pure_ (i := 0) (N := some 3) (v := ?_) (a' := ?_) #[true, false, false, false, false, false, false, false, false, false, false, false, false, false, false, false, false, false, false, false, false, false, false, false] rfl rfl (any_of HT_.out (by kernel_rfl)) (fun _ _ _ h => h) (Or.inl ⟨by rfl, ?_⟩) ?_ ?_
  rotate_left
  ·intro w'
   go_simp
   with_reducible rfl
  rotate_left
  ·simp only [Act.put, sA, sZ, sS, i64_w, i32_w]
   rfl
  refine take_ (i := 1) (N := some 4) (v := ?_) (a' := ?_) #[true, true, false, false, false, false, false, false, false, false, false, false, false, false, false, false, false, false, false, false, false, false, false, false] rfl rfl (take_ofW HT_.out HW_.out (by kernel_rfl)) (fun _ _ _ h => h) (Or.inl ⟨by rfl, ?_⟩) hHeld ?_ ?_
  rotate_left
  ·rintro w' ⟨s0, s1⟩
   go_simp
   with_reducible rfl
  rotate_left
  ·simp only [Act.put, sA, sZ, sS, i64_w, i32_w]
   rfl
  refine pure_ (i := 2) (N := some 5) (v := ?_) (a' := ?_) #[true, true, true, false, false, false, false, false, false, false, false, false, false, false, false, false, false, false, false, false, false, false, false, false] rfl rfl (any_of HT_.out (by kernel_rfl)) (fun _ _ _ h => h) (Or.inl ⟨by rfl, ?_⟩) ?_ ?_
  rotate_left
  ·intro w'
   go_simp
   with_reducible rfl
  rotate_left
  ·simp only [Act.put, sA, sZ, sS, i64_w, i32_w]
   rfl
  refine pure_ (i := 3) (N := some 6) (v := ?_) (a' := ?_) #[true, true, true, true, false, false, false, false, false, false, false, false, false, false, false, false, false, false, false, false, false, false, false, false] rfl rfl (any_of HT_.out (by kernel_rfl)) (fun _ _ _ h => h) (Or.inl ⟨by rfl, ?_⟩) ?_ ?_
  rotate_left
  ·intro w'
   go_simp
   with_reducible rfl
  rotate_left
  ·simp only [Act.put, sA, sZ, sS, i64_w, i32_w]
   rfl
  refine pure_ (i := 4) (N := some 7) (v := ?_) (a' := ?_) #[true, true, true, true, true, false, false, false, false, false, false, false, false, false, false, false, false, false, false, false, false, false, false, false] rfl rfl (any_of HT_.out (by kernel_rfl)) (fun _ _ _ h => h) (Or.inl ⟨by rfl, ?_⟩) ?_ ?_
  rotate_left
  ·intro w'
   go_simp
   with_reducible rfl
  rotate_left
  ·simp only [Act.put, sA, sZ, sS, i64_w, i32_w]
   rfl
  refine pure_ (i := 5) (N := some 8) (v := undef) (a' := ?_) #[true, true, true, true, true, true, false, false, false, false, false, false, false, false, false, false, false, false, false, false, false, false, false, false] rfl rfl (any_of HT_.out (by kernel_rfl)) (fun _ _ _ h => h) (Or.inr ⟨by rfl, rfl⟩) ?_ ?_
  rotate_left
  ·simp only [Act.put, sA, sZ, sS, i64_w, i32_w]
   rfl
  refine pure_ (i := 6) (N := some 9) (v := undef) (a' := ?_) #[true, true, true, true, true, true, true, false, false, false, false, false, false, false, false, false, false, false, false, false, false, false, false, false] rfl rfl (any_of HT_.out (by kernel_rfl)) (fun _ _ _ h => h) (Or.inr ⟨by rfl, rfl⟩) ?_ ?_
  rotate_left
  ·simp only [Act.put, sA, sZ, sS, i64_w, i32_w]
   rfl
  refine pure_ (i := 7) (N := some 10) (v := undef) (a' := ?_) #[true, true, true, true, true, true, true, true, false, false, false, false, false, false, false, false, false, false, false, false, false, false, false, false] rfl rfl (any_of HT_.out (by kernel_rfl)) (fun _ _ _ h => h) (Or.inr ⟨by rfl, rfl⟩) ?_ ?_
  rotate_left
  ·simp only [Act.put, sA, sZ, sS, i64_w, i32_w]
   rfl
  refine pure_ (i := 8) (N := some 11) (v := undef) (a' := ?_) #[true, true, true, true, true, true, true, true, true, false, false, false, false, false, false, false, false, false, false, false, false, false, false, false] rfl rfl (any_of HT_.out (by kernel_rfl)) (fun _ _ _ h => h) (Or.inr ⟨by rfl, rfl⟩) ?_ ?_
  rotate_left
  ·simp only [Act.put, sA, sZ, sS, i64_w, i32_w]
   rfl
  refine pure_ (i := 9) (N := some 12) (v := ?_) (a' := ?_) #[true, true, true, true, true, true, true, true, true, true, false, false, false, false, false, false, false, false, false, false, false, false, false, false] rfl rfl (any_of HT_.out (by kernel_rfl)) (fun _ _ _ h => h) (Or.inl ⟨by rfl, ?_⟩) ?_ ?_
  rotate_left
  ·intro w'
   go_simp
   with_reducible rfl
  rotate_left
  ·simp only [Act.put, sA, sZ, sS, i64_w, i32_w]
   rfl
  refine pure_ (i := 10) (N := some 13) (v := ?_) (a' := ?_) #[true, true, true, true, true, true, true, true, true, true, true, false, false, false, false, false, false, false, false, false, false, false, false, false] rfl rfl (any_of HT_.out (by kernel_rfl)) (fun _ _ _ h => h) (Or.inl ⟨by rfl, ?_⟩) ?_ ?_
  rotate_left
  ·intro w'
   go_simp
   with_reducible rfl
  rotate_left
  ·simp only [Act.put, sA, sZ, sS, i64_w, i32_w]
   rfl
  refine pure_ (i := 11) (N := some 14) (v := undef) (a' := ?_) #[true, true, true, true, true, true, true, true, true, true, true, true, false, false, false, false, false, false, false, false, false, false, false, false] rfl rfl (any_of HT_.out (by kernel_rfl)) (fun _ _ _ h => h) (Or.inr ⟨by rfl, rfl⟩) ?_ ?_
  rotate_left
  ·simp only [Act.put, sA, sZ, sS, i64_w, i32_w]
   rfl
  refine pure_ (i := 12) (N := some 15) (v := undef) (a' := ?_) #[true, true, true, true, true, true, true, true, true, true, true, true, true, false, false, false, false, false, false, false, false, false, false, false] rfl rfl (any_of HT_.out (by kernel_rfl)) (fun _ _ _ h => h) (Or.inr ⟨by rfl, rfl⟩) ?_ ?_
  rotate_left
  ·simp only [Act.put, sA, sZ, sS, i64_w, i32_w]
   rfl
  refine pure_ (i := 13) (N := some 16) (v := undef) (a' := ?_) #[true, true, true, true, true, true, true, true, true, true, true, true, true, true, false, false, false, false, false, false, false, false, false, false] rfl rfl (any_of HT_.out (by kernel_rfl)) (fun _ _ _ h => h) (Or.inr ⟨by rfl, rfl⟩) ?_ ?_
  rotate_left
  ·simp only [Act.put, sA, sZ, sS, i64_w, i32_w]
   rfl
  refine pure_ (i := 14) (N := some 17) (v := ?_) (a' := ?_) #[true, true, true, true, true, true, true, true, true, true, true, true, true, true, true, false, false, false, false, false, false, false, false, false] rfl rfl (any_of HT_.out (by kernel_rfl)) (fun _ _ _ h => h) (Or.inl ⟨by rfl, ?_⟩) ?_ ?_
  rotate_left
  ·intro w'
   go_simp
   with_reducible rfl
  rotate_left
  ·simp only [Act.put, sA, sZ, sS, i64_w, i32_w]
   rfl
  refine pure_ (i := 15) (N := some 18) (v := ?_) (a' := ?_) #[true, true, true, true, true, true, true, true, true, true, true, true, true, true, true, true, false, false, false, false, false, false, false, false] rfl rfl (any_of HT_.out (by kernel_rfl)) (fun _ _ _ h => h) (Or.inl ⟨by rfl, ?_⟩) ?_ ?_
  rotate_left
  ·intro w'
   go_simp
   with_reducible rfl
  rotate_left
  ·simp only [Act.put, sA, sZ, sS, i64_w, i32_w]
   rfl
  refine pure_ (i := 16) (N := some 19) (v := undef) (a' := ?_) #[true, true, true, true, true, true, true, true, true, true, true, true, true, true, true, true, true, false, false, false, false, false, false, false] rfl rfl (any_of HT_.out (by kernel_rfl)) (fun _ _ _ h => h) (Or.inr ⟨by rfl, rfl⟩) ?_ ?_
  rotate_left
  ·simp only [Act.put, sA, sZ, sS, i64_w, i32_w]
   rfl
  refine pure_ (i := 17) (N := some 20) (v := undef) (a' := ?_) #[true, true, true, true, true, true, true, true, true, true, true, true, true, true, true, true, true, true, false, false, false, false, false, false] rfl rfl (any_of HT_.out (by kernel_rfl)) (fun _ _ _ h => h) (Or.inr ⟨by rfl, rfl⟩) ?_ ?_
  rotate_left
  ·simp only [Act.put, sA, sZ, sS, i64_w, i32_w]
   rfl
  refine pure_ (i := 18) (N := some 21) (v := undef) (a' := ?_) #[true, true, true, true, true, true, true, true, true, true, true, true, true, true, true, true, true, true, true, false, false, false, false, false] rfl rfl (any_of HT_.out (by kernel_rfl)) (fun _ _ _ h => h) (Or.inr ⟨by rfl, rfl⟩) ?_ ?_
  rotate_left
  ·simp only [Act.put, sA, sZ, sS, i64_w, i32_w]
   rfl
  refine pure_ (i := 19) (N := some 22) (v := undef) (a' := ?_) #[true, true, true, true, true, true, true, true, true, true, true, true, true, true, true, true, true, true, true, true, false, false, false, false] rfl rfl (any_of HT_.out (by kernel_rfl)) (fun _ _ _ h => h) (Or.inr ⟨by rfl, rfl⟩) ?_ ?_
  rotate_left
  ·simp only [Act.put, sA, sZ, sS, i64_w, i32_w]
   rfl
  refine pure_ (i := 20) (N := some 23) (v := undef) (a' := ?_) #[true, true, true, true, true, true, true, true, true, true, true, true, true, true, true, true, true, true, true, true, true, false, false, false] rfl rfl (any_of HT_.out (by kernel_rfl)) (fun _ _ _ h => h) (Or.inr ⟨by rfl, rfl⟩) ?_ ?_
  rotate_left
  ·simp only [Act.put, sA, sZ, sS, i64_w, i32_w]
   rfl
  refine pure_ (i := 21) (N := some 24) (v := undef) (a' := ?_) #[true, true, true, true, true, true, true, true, true, true, true, true, true, true, true, true, true, true, true, true, true, true, false, false] rfl rfl (any_of HT_.out (by kernel_rfl)) (fun _ _ _ h => h) (Or.inr ⟨by rfl, rfl⟩) ?_ ?_
  rotate_left
  ·simp only [Act.put, sA, sZ, sS, i64_w, i32_w]
   rfl
  refine pure_ (i := 22) (N := some 25) (v := ?_) (a' := ?_) #[true, true, true, true, true, true, true, true, true, true, true, true, true, true, true, true, true, true, true, true, true, true, true, false] rfl rfl (any_of HT_.out (by kernel_rfl)) (fun _ _ _ h => h) (Or.inl ⟨by rfl, ?_⟩) ?_ ?_
  rotate_left
  ·intro w'
   go_simp
   with_reducible rfl
  rotate_left
  ·simp only [Act.put, sA, sZ, sS, i64_w, i32_w]
   rfl
  refine pure_ (i := 23) (N := some 2) (v := ?_) (a' := ?_) #[true, true, true, true, true, true, true, true, true, true, true, true, true, true, true, true, true, true, true, true, true, true, true, true] rfl rfl (any_of HT_.out (by kernel_rfl)) (fun _ _ _ h => h) (Or.inl ⟨by rfl, ?_⟩) ?_ ?_
  rotate_left
  ·intro w'
   go_simp
   with_reducible rfl
  rotate_left
  ·simp only [Act.put, sA, sZ, sS, i64_w, i32_w]
   rfl
  refine done_ (done_of HT_.out (by kernel_rfl)) ?_
  try go_wp2
  go_ret
  exact ⟨by first | rfl | (simp <;> rfl) | (simp [*] <;> rfl), by repeat (first | (with_reducible first | exact HB.out | apply ba | apply bd | apply be | refine bs ?_ GE101.out) | exact HB.out)⟩

end Go.Proofs.Ytmmmblfghhcndaa.Q

namespace Go.Proofs.Ytmmmblfghhcndaa.Q
open Go.RowKit Go.Proofs.YtmmmblfghhcndaaW.PrintWords Go.Proofs.YtmmmblfghhcndaaW.PrintLast Go.Proofs.YtmmmblfghhcndaaW.PrintMore Go.Proofs.YtmmmblfghhcndaaM
set_option linter.unusedVariables false
set_option linter.unusedSimpArgs false
theorem impl_within.v (a b c : Int) : impl_within.f a b c = some (decide (b ≤ a) && decide (a ≤ c)) := by
  unfold impl_within.f
  by_cases h : b ≤ a
  · rw [if_pos h]; simp [h]
  · rw [if_neg h]; simp [h]
theorem impl_IsCommittee.ev (q : Int) (l : List Int) (hl : l.length ≤ 9223372036854775807) : Ev (fun k => impl_IsCommittee.f k q l) (goodB q l) := by
  simp only [impl_IsCommittee.f]
  unfold goodB
  by_cases h1 : 1 ≤ l.length
  · rw [ev_pos (by omega)]
    by_cases h2 : l.length ≤ 9
    · rw [ev_pos (by omega), ev_bind (ev_of (show impl_areIn.f l 0 1000 = some _ from rfl))]
      cases hb : (l.all fun x => decide (0 ≤ x) && decide (x ≤ 1000)) with
      | true =>
        rw [ev_pos rfl, ev_bind (impl_sumOf.ev l hl), ev_bind (ev_of (impl_within.v _ _ _)), ev_now, wfold_w l h2 hb]
        simp [h1, h2]
      | false =>
        rw [ev_neg (by simp), ev_now]
        simp
    · rw [ev_neg (by omega), ev_now]
      simp [h2]
  · rw [ev_neg (by omega), ev_now]
    simp [h1]
end Go.Proofs.Ytmmmblfghhcndaa.Q

namespace Go.Proofs.Ytmmmblfghhcndaa.Q
open Go.RowKit Go.Proofs.YtmmmblfghhcndaaW.PrintWords Go.Proofs.YtmmmblfghhcndaaW.PrintLast Go.Proofs.YtmmmblfghhcndaaW.PrintMore Go.Proofs.YtmmmblfghhcndaaM
set_option linter.unusedVariables false
set_option linter.unusedSimpArgs false
def chainsC : List (List Nat) := [[0, 1, 3, 7, 15, 31, 63, 127, 255, 511], [256, 257, 259, 263, 271, 287, 319, 383], [128, 129, 131, 135, 143, 159, 191, 447], [384, 385, 387, 391, 399, 415], [64, 65, 67, 71, 79, 95, 223, 479], [320, 321, 323, 327, 335, 351], [192, 193, 195, 199, 207, 463], [448, 449, 451, 455], [32, 33, 35, 39, 47, 111, 239, 495], [288, 289, 291, 295, 303, 367], [160, 161, 163, 167, 175, 431], [416, 417, 419, 423], [96, 97, 99, 103, 231, 487], [352, 353, 355, 359], [224, 225, 227, 483], [480, 481], [16, 17, 19, 23, 55, 119, 247, 503], [272, 273, 275, 279, 311, 375], [144, 145, 147, 151, 183, 439], [400, 401, 403, 407], [80, 81, 83, 87, 215, 471], [336, 337, 339, 343], [208, 209, 211, 467], [464, 465], [48, 49, 51, 115, 243, 499], [304, 305, 307, 371], [176, 177, 179, 435], [432, 433], [112, 113, 241, 497], [368, 369], [240, 496], [8, 9, 11, 27, 59, 123, 251, 507], [264, 265, 267, 283, 315, 379], [136, 137, 139, 155, 187, 443], [392, 393, 395, 411], [72, 73, 75, 91, 219, 475], [328, 329, 331, 347], [200, 201, 203, 459], [456, 457], [40, 41, 43, 107, 235, 491], [296, 297, 299, 363], [168, 169, 171, 427], [424, 425], [104, 105, 233, 489], [360, 361], [232, 488], [24, 25, 57, 121, 249, 505], [280, 281, 313, 377], [152, 153, 185, 441], [408, 409], [88, 89, 217, 473], [344, 345], [216, 472], [56, 120, 248, 504], [312, 376], [184, 440], [4, 5, 13, 29, 61, 125, 253, 509], [260, 261, 269, 285, 317, 381], [132, 133, 141, 157, 189, 445], [388, 389, 397, 413], [68, 69, 77, 93, 221, 477], [324, 325, 333, 349], [196, 197, 205, 461], [452, 453], [36, 37, 45, 109, 237, 493], [292, 293, 301, 365], [164, 165, 173, 429], [420, 421], [100, 101, 229, 485], [356, 357], [228, 484], [20, 21, 53, 117, 245, 501], [276, 277, 309, 373], [148, 149, 181, 437], [404, 405], [84, 85, 213, 469], [340, 341], [212, 468], [52, 116, 244, 500], [308, 372], [180, 436], [12, 28, 60, 124, 252, 508], [268, 284, 316, 380], [140, 156, 188, 444], [396, 412], [76, 92, 220, 476], [332, 348], [204, 460], [44, 108, 236, 492], [300, 364], [172, 428], [2, 6, 14, 30, 62, 126, 254, 510], [258, 262, 270, 286, 318, 382], [130, 134, 142, 158, 190, 446], [386, 390, 398, 414], [66, 70, 78, 94, 222, 478], [322, 326, 334, 350], [194, 198, 206, 462], [450, 454], [34, 38, 46, 110, 238, 494], [290, 294, 302, 366], [162, 166, 174, 430], [418, 422], [98, 102, 230, 486], [354, 358], [226, 482], [18, 22, 54, 118, 246, 502], [274, 278, 310, 374], [146, 150, 182, 438], [402, 406], [82, 86, 214, 470], [338, 342], [210, 466], [50, 114, 242, 498], [306, 370], [178, 434], [10, 26, 58, 122, 250, 506], [266, 282, 314, 378], [138, 154, 186, 442], [394, 410], [74, 90, 218, 474], [330, 346], [202, 458], [42, 106, 234, 490], [298, 362], [170, 426]]
def chainOf : List Nat := [0, 0, 91, 0, 56, 56, 91, 0, 31, 31, 116, 31, 81, 56, 91, 0, 16, 16, 106, 16, 71, 71, 106, 16, 46, 46, 116, 31, 81, 56, 91, 0, 8, 8, 99, 8, 64, 64, 99, 8, 39, 39, 123, 39, 88, 64, 99, 8, 24, 24, 113, 24, 78, 71, 106, 16, 53, 46, 116, 31, 81, 56, 91, 0, 4, 4, 95, 4, 60, 60, 95, 4, 35, 35, 120, 35, 85, 60, 95, 4, 20, 20, 110, 20, 75, 75, 110, 20, 50, 50, 120, 35, 85, 60, 95, 4, 12, 12, 103, 12, 68, 68, 103, 12, 43, 43, 123, 39, 88, 64, 99, 8, 28, 28, 113, 24, 78, 71, 106, 16, 53, 46, 116, 31, 81, 56, 91, 0, 2, 2, 93, 2, 58, 58, 93, 2, 33, 33, 118, 33, 83, 58, 93, 2, 18, 18, 108, 18, 73, 73, 108, 18, 48, 48, 118, 33, 83, 58, 93, 2, 10, 10, 101, 10, 66, 66, 101, 10, 41, 41, 125, 41, 90, 66, 101, 10, 26, 26, 115, 26, 80, 73, 108, 18, 55, 48, 118, 33, 83, 58, 93, 2, 6, 6, 97, 6, 62, 62, 97, 6, 37, 37, 122, 37, 87, 62, 97, 6, 22, 22, 112, 22, 77, 75, 110, 20, 52, 50, 120, 35, 85, 60, 95, 4, 14, 14, 105, 14, 70, 68, 103, 12, 45, 43, 123, 39, 88, 64, 99, 8, 30, 28, 113, 24, 78, 71, 106, 16, 53, 46, 116, 31, 81, 56, 91, 0, 1, 1, 92, 1, 57, 57, 92, 1, 32, 32, 117, 32, 82, 57, 92, 1, 17, 17, 107, 17, 72, 72, 107, 17, 47, 47, 117, 32, 82, 57, 92, 1, 9, 9, 100, 9, 65, 65, 100, 9, 40, 40, 124, 40, 89, 65, 100, 9, 25, 25, 114, 25, 79, 72, 107, 17, 54, 47, 117, 32, 82, 57, 92, 1, 5, 5, 96, 5, 61, 61, 96, 5, 36, 36, 121, 36, 86, 61, 96, 5, 21, 21, 111, 21, 76, 76, 111, 21, 51, 51, 121, 36, 86, 61, 96, 5, 13, 13, 104, 13, 69, 69, 104, 13, 44, 44, 124, 40, 89, 65, 100, 9, 29, 29, 114, 25, 79, 72, 107, 17, 54, 47, 117, 32, 82, 57, 92, 1, 3, 3, 94, 3, 59, 59, 94, 3, 34, 34, 119, 34, 84, 59, 94, 3, 19, 19, 109, 19, 74, 74, 109, 19, 49, 49, 119, 34, 84, 59, 94, 3, 11, 11, 102, 11, 67, 67, 102, 11, 42, 42, 125, 41, 90, 66, 101, 10, 27, 27, 115, 26, 80, 73, 108, 18, 55, 48, 118, 33, 83, 58, 93, 2, 7, 7, 98, 7, 63, 63, 98, 7, 38, 38, 122, 37, 87, 62, 97, 6, 23, 23, 112, 22, 77, 75, 110, 20, 52, 50, 120, 35, 85, 60, 95, 4, 15, 15, 105, 14, 70, 68, 103, 12, 45, 43, 123, 39, 88, 64, 99, 8, 30, 28, 113, 24, 78, 71, 106, 16, 53, 46, 116, 31, 81, 56, 91, 0]
def cmpB (a b : Nat) : Bool := (a &&& b == a) || (a &&& b == b)
def allPairs (c : List Nat) : Bool := c.all fun a => c.all fun b => cmpB a b
theorem chains_ok : chainsC.all allPairs = true := by decide +kernel
theorem chain_in : ((List.range 512).all fun a => decide (chainOf.getD a 0 < 126) && ((chainsC.getD (chainOf.getD a 0) []).contains a)) = true := by decide +kernel
theorem chain_lt (a : Nat) (h : a < 512) : chainOf.getD a 0 < 126 := by
  have := List.all_eq_true.1 chain_in a (List.mem_range.2 h)
  simp only [Bool.and_eq_true, decide_eq_true_eq] at this
  exact this.1
theorem chain_mem (a : Nat) (h : a < 512) : a ∈ chainsC.getD (chainOf.getD a 0) [] := by
  have := List.all_eq_true.1 chain_in a (List.mem_range.2 h)
  simp only [Bool.and_eq_true, List.contains_iff_mem] at this
  exact this.2
theorem chain_cmp (a b : Nat) (ha : a < 512) (hb : b < 512) (h : chainOf.getD a 0 = chainOf.getD b 0) : a &&& b = a ∨ a &&& b = b := by
  have h1 := chain_mem a ha
  have h2 := chain_mem b hb
  rw [← h] at h2
  generalize chainOf.getD a 0 = t at h1 h2
  have ht : t < chainsC.length := by
    rcases Nat.lt_or_ge t chainsC.length with h | h
    · exact h
    · rw [List.getD_eq_getElem?_getD, List.getElem?_eq_none h] at h1
      simp at h1
  rw [List.getD_eq_getElem?_getD, List.getElem?_eq_getElem ht, Option.getD_some] at h1 h2
  have h3 := List.all_eq_true.1 (List.all_eq_true.1 (List.all_eq_true.1 chains_ok _ (List.getElem_mem ht)) a h1) b h2
  simpa [cmpB] using h3
theorem nodup_le : ∀ (n : Nat) (l : List Nat), l.Nodup → (∀ x ∈ l, x < n) → l.length ≤ n
  | 0, l, _, h => by
    cases l with
    | nil => exact Nat.le_refl _
    | cons x l => exact absurd (h x List.mem_cons_self) (Nat.not_lt_zero _)
  | n + 1, l, hd, h => by
    have h1 := nodup_le n (l.erase n) (hd.erase n) (fun x hx => by
      have h2 := (hd.mem_erase_iff.1 hx)
      have := h x h2.2
      omega)
    rw [List.length_erase] at h1
    split at h1 <;> omega
theorem sperner (l : List Nat) (hl : ∀ x ∈ l, x < 512) (hp : l.Pairwise fun a b => ¬ (a &&& b = a) ∧ ¬ (a &&& b = b)) : l.length ≤ 126 := by
  have h := nodup_le 126 (l.map fun a => chainOf.getD a 0) (by
    rw [List.Nodup, List.pairwise_map]
    refine List.Pairwise.imp_of_mem (fun {a b} ha hb hab he => ?_) hp
    rcases chain_cmp a b (hl a ha) (hl b hb) he with e | e
    · exact hab.1 e
    · exact hab.2 e) (fun x hx => by
    obtain ⟨a, ha, rfl⟩ := List.mem_map.1 hx
    exact chain_lt a (hl a ha))
  simpa using h
end Go.Proofs.Ytmmmblfghhcndaa.Q

namespace Go.Proofs.Ytmmmblfghhcndaa.Q
open Go.RowKit Go.Proofs.YtmmmblfghhcndaaW.PrintWords Go.Proofs.YtmmmblfghhcndaaW.PrintLast Go.Proofs.YtmmmblfghhcndaaW.PrintMore Go.Proofs.YtmmmblfghhcndaaM
set_option linter.unusedVariables false
set_option linter.unusedSimpArgs false
def incB : List Int → Bool
  | a :: b :: l => decide (a < b) && incB (b :: l)
  | _ => true
theorem incB_short {l : List Int} (h : l.length ≤ 1) : incB l = true := by
  cases l with
  | nil => rfl
  | cons a l =>
    cases l with
    | nil => rfl
    | cons b l => simp at h
theorem incB_at (l : List Int) (i : Nat) (h0 : 0 < i) (h : i < l.length) : incB (l.drop (i - 1)) = (decide (l[i - 1] < l[i]) && incB (l.drop i)) := by
  rw [List.drop_eq_getElem_cons (show i - 1 < l.length by omega), show i - 1 + 1 = i by omega, List.drop_eq_getElem_cons h]
  rfl
theorem incB_lt {a : Int} {l : List Int} (h : incB (a :: l) = true) : ∀ x ∈ l, a < x := by
  induction l generalizing a with
  | nil => intro x hx; simp at hx
  | cons b l ih =>
    intro x hx
    simp only [incB, Bool.and_eq_true, decide_eq_true_eq] at h
    rcases List.mem_cons.1 hx with rfl | hx
    · exact h.1
    · have := ih h.2 x hx
      omega
theorem incB_tail {a : Int} {l : List Int} (h : incB (a :: l) = true) : incB l = true := by
  cases l with
  | nil => rfl
  | cons b l =>
    simp only [incB, Bool.and_eq_true] at h
    exact h.2
theorem incB_len (hi : Int) : ∀ (l : List Int) (lo : Int), incB l = true → lo ≤ hi → (∀ x ∈ l, lo ≤ x ∧ x < hi) → (l.length : Int) ≤ hi - lo
  | [], lo, _, h, _ => by simp; omega
  | a :: l, lo, h, _, hb => by
    have h1 := hb a List.mem_cons_self
    have h2 := incB_len hi l (a + 1) (incB_tail h) (by omega) (fun x hx => ⟨by have := incB_lt h x hx; omega, (hb x (List.mem_cons_of_mem _ hx)).2⟩)
    simp only [List.length_cons, Int.natCast_add]
    omega
/-- A set of n members, as a row. -/
def setB (n : Int) (l : List Int) : Bool := (l.all fun x => decide (0 ≤ x) && decide (x ≤ n - 1)) && incB l
theorem setB_in {n : Int} {l : List Int} (h : setB n l = true) : ∀ x ∈ l, 0 ≤ x ∧ x < n := by
  intro x hx
  simp only [setB, Bool.and_eq_true, List.all_eq_true] at h
  have := h.1 x hx
  simp at this
  omega
theorem setB_len {n : Int} {l : List Int} (h : setB n l = true) (h0 : 0 ≤ n) : (l.length : Int) ≤ n := by
  have h1 := setB_in h
  simp only [setB, Bool.and_eq_true] at h
  have := incB_len n l 0 h.2 h0 h1
  omega
/-- The bits of a set. -/
def orBits (m : Nat) (l : List Int) : Nat := l.foldl (fun m x => m ||| 2 ^ x.toNat) m
def maskN (l : List Int) : Nat := orBits 0 l
theorem orBits_lt (n : Nat) : ∀ (l : List Int) (m : Nat), m < 2 ^ n → (∀ x ∈ l, 0 ≤ x ∧ x < (n : Int)) → orBits m l < 2 ^ n
  | [], m, h, _ => h
  | a :: l, m, h, hb => by
    have h1 := hb a List.mem_cons_self
    refine orBits_lt n l (m ||| 2 ^ a.toNat) (Nat.or_lt_two_pow h (Nat.pow_lt_pow_right (by omega) (by omega))) (fun x hx => hb x (List.mem_cons_of_mem _ hx))
theorem maskN_lt (n : Nat) (l : List Int) (hb : ∀ x ∈ l, 0 ≤ x ∧ x < (n : Int)) : maskN l < 2 ^ n := orBits_lt n l 0 (Nat.two_pow_pos n) hb
theorem setB_mask {n : Nat} {l : List Int} (h : setB (n : Int) l = true) : maskN l < 2 ^ n := maskN_lt n l (setB_in h)
/-! games -/
def mAt (l : List (List Int)) (i : Nat) : Nat := maskN (l.getD i [])
def gOrd (l : List (List Int)) (i : Nat) : Bool := decide (i = 0) || decide (cmpL (l.getD (i - 1) []) (l.getD i []) < 0)
def gInI (l : List (List Int)) (i j : Nat) : Bool := decide (j = i) || !(decide (mAt l i &&& mAt l j = mAt l j))
def gInS (l : List (List Int)) (i j : Nat) : Bool := !(decide (mAt l i &&& mAt l j = mAt l i)) && !(decide (mAt l i &&& mAt l j = mAt l j))
def gI (l : List (List Int)) (i : Nat) : Bool := gOrd l i && (List.range' 0 l.length).all (gInI l i)
def gS (l : List (List Int)) (i : Nat) : Bool := gOrd l i && (List.range' 0 i).all (gInS l i)
theorem gIS (l : List (List Int)) : (List.range' 0 l.length).all (gI l) = (List.range' 0 l.length).all (gS l) := by
  rw [Bool.eq_iff_iff, List.all_eq_true, List.all_eq_true]
  constructor
  · intro h i hi
    have h1 := h i hi
    rw [List.mem_range'_1] at hi
    simp only [gI, gS, Bool.and_eq_true, List.all_eq_true] at h1 ⊢
    refine ⟨h1.1, fun j hj => ?_⟩
    rw [List.mem_range'_1] at hj
    have h2 := h1.2 j (by rw [List.mem_range'_1]; omega)
    have h3 := h j (by rw [List.mem_range'_1]; omega)
    simp only [gI, Bool.and_eq_true, List.all_eq_true] at h3
    have h4 := h3.2 i (by rw [List.mem_range'_1]; omega)
    simp only [gInI, Bool.or_eq_true, decide_eq_true_eq, Bool.not_eq_true', decide_eq_false_iff_not] at h2 h4
    simp only [gInS, Bool.and_eq_true, Bool.not_eq_true', decide_eq_false_iff_not]
    refine ⟨fun e => ?_, fun e => ?_⟩
    · rcases h4 with h4 | h4
      · omega
      · rw [Nat.and_comm] at h4
        exact h4 e
    · rcases h2 with h2 | h2
      · omega
      · exact h2 e
  · intro h i hi
    have h1 := h i hi
    rw [List.mem_range'_1] at hi
    simp only [gI, gS, Bool.and_eq_true, List.all_eq_true] at h1 ⊢
    refine ⟨h1.1, fun j hj => ?_⟩
    rw [List.mem_range'_1] at hj
    simp only [gInI, Bool.or_eq_true, decide_eq_true_eq, Bool.not_eq_true', decide_eq_false_iff_not]
    by_cases e : j = i
    · exact .inl e
    · refine .inr fun e2 => ?_
      rcases Nat.lt_or_gt_of_ne e with hlt | hlt
      · have h2 := h1.2 j (by rw [List.mem_range'_1]; omega)
        simp only [gInS, Bool.and_eq_true, Bool.not_eq_true', decide_eq_false_iff_not] at h2
        exact h2.2 e2
      · have h3 := h j (by rw [List.mem_range'_1]; omega)
        simp only [gS, Bool.and_eq_true, List.all_eq_true] at h3
        have h4 := h3.2 i (by rw [List.mem_range'_1]; omega)
        simp only [gInS, Bool.and_eq_true, Bool.not_eq_true', decide_eq_false_iff_not] at h4
        rw [Nat.and_comm] at e2
        exact h4.1 e2
/-- There is a game of n members with these least winning sets. -/
def setsB (n : Int) (l : List (List Int)) : Bool := l.all fun x => !(decide ((x.length : Int) = 0)) && setB n x
def gameB (n : Int) (l : List (List Int)) : Bool := (decide (1 ≤ n) && decide (n ≤ 9)) && (!(decide ((l.length : Int) = 0)) && (setsB n l && (List.range' 0 l.length).all (gS l)))
structure GoodG (n : Int) (l : List (List Int)) : Prop where
  n1 : 1 ≤ n
  n9 : n ≤ 9
  ne : l.length ≠ 0
  sets : ∀ x ∈ l, x.length ≠ 0 ∧ setB n x = true
  gs : ∀ i, i < l.length → gS l i = true
theorem game_iff (n : Int) (l : List (List Int)) : gameB n l = true ↔ GoodG n l := by
  simp only [gameB, setsB, Bool.and_eq_true, decide_eq_true_eq, Bool.not_eq_true', decide_eq_false_iff_not, List.all_eq_true]
  constructor
  · rintro ⟨⟨h1, h2⟩, h3, h4, h5⟩
    exact ⟨h1, h2, by omega, fun x hx => ⟨by have := (h4 x hx).1; omega, (h4 x hx).2⟩, fun i hi => h5 i (by rw [List.mem_range'_1]; omega)⟩
  · intro h
    exact ⟨⟨h.n1, h.n9⟩, by have := h.ne; omega, fun x hx => ⟨by have := (h.sets x hx).1; omega, (h.sets x hx).2⟩, fun i hi => h.gs i (by rw [List.mem_range'_1] at hi; omega)⟩
theorem setsB_mask {n : Int} {l : List (List Int)} (h : setsB n l = true) (h9 : n ≤ 9) : ∀ x ∈ l, (∀ y ∈ x, 0 ≤ y ∧ y ≤ 8) ∧ maskN x < 512 := by
  intro x hx
  simp only [setsB, List.all_eq_true, Bool.and_eq_true] at h
  have h1 := setB_in (h x hx).2
  have h2 : ∀ y ∈ x, 0 ≤ y ∧ y < ((9 : Nat) : Int) := fun y hy => by have := h1 y hy; omega
  exact ⟨fun y hy => by have := h1 y hy; omega, maskN_lt 9 x h2⟩
theorem game_few {n : Int} {l : List (List Int)} (h9 : n ≤ 9) (hs : setsB n l = true) (hg : (List.range' 0 l.length).all (gS l) = true) : l.length ≤ 126 := by
  have h := sperner (l.map maskN) (fun m hm => by
    obtain ⟨x, hx, rfl⟩ := List.mem_map.1 hm
    exact (setsB_mask hs h9 x hx).2) (by
    rw [List.pairwise_iff_getElem]
    intro i j hi hj hij
    rw [List.length_map] at hi hj
    have h1 := List.all_eq_true.1 hg j (by rw [List.mem_range'_1]; omega)
    simp only [gS, Bool.and_eq_true, List.all_eq_true] at h1
    have h2 := h1.2 i (by rw [List.mem_range'_1]; omega)
    simp only [gInS, Bool.and_eq_true, Bool.not_eq_true', decide_eq_false_iff_not] at h2
    rw [show mAt l i = maskN l[i] by simp [mAt, hi], show mAt l j = maskN l[j] by simp [mAt, hj]] at h2
    rw [List.getElem_map, List.getElem_map]
    refine ⟨fun e => h2.2 ?_, fun e => h2.1 ?_⟩
    · rw [Nat.and_comm]; exact e
    · rw [Nat.and_comm]; exact e)
  simpa using h
/-- Which sets win by sets. -/
def winsG (n : Nat) (l : List (List Int)) : List Bool := (List.range (2 ^ n)).map fun m => l.any fun x => decide (m &&& maskN x = maskN x)
theorem winsG_length (n : Nat) (l : List (List Int)) : (winsG n l).length = 2 ^ n := by simp [winsG]
theorem winsG_get (n : Nat) (l : List (List Int)) (m : Nat) (h : m < (winsG n l).length) : (winsG n l)[m] = l.any fun x => decide (m &&& maskN x = maskN x) := by simp [winsG]
end Go.Proofs.Ytmmmblfghhcndaa.Q

namespace Go.Proofs.Ytmmmblfghhcndaa.Q
open Go.RowKit Go.Proofs.YtmmmblfghhcndaaW.PrintWords Go.Proofs.YtmmmblfghhcndaaW.PrintLast Go.Proofs.YtmmmblfghhcndaaW.PrintMore Go.Proofs.YtmmmblfghhcndaaM
set_option linter.unusedVariables false
set_option linter.unusedSimpArgs false
theorem impl_isIncreasing.ev_l (l : List Int) (hl : l.length ≤ 9223372036854775807) : ∀ (d i : Nat), i + d = l.length → Ev (fun k => impl_isIncreasing.l0 k l (l.length : Int) (i : Int)) (incB (l.drop (i - 1))) := by
  intro d
  induction d with
  | zero =>
    intro i h
    refine ev_step ?_
    simp only [impl_isIncreasing.l0]
    rw [ev_neg (by omega), ev_now, incB_short (by rw [List.length_drop]; omega)]
  | succ d ih =>
    intro i h
    refine ev_step ?_
    simp only [impl_isIncreasing.l0]
    have hi : i < l.length := by omega
    rw [ev_pos (by omega), w64i (n := l.length) (by omega) (by omega) hl]
    by_cases h0 : i = 0
    · subst h0
      rw [ev_neg (by omega)]
      exact ih 1 (by omega)
    · have e1 : (i : Int) - 1 = ((i - 1 : Nat) : Int) := by omega
      rw [ev_pos (by omega), ev_pos (by omega), ev_pos (by omega), w64 (by omega) (by omega), e1, ev_pos (by omega), ev_pos (by omega), rd_lt l i hi, rd_lt l (i - 1) (by omega), incB_at l i (by omega) hi]
      by_cases hc : l[i] ≤ l[i - 1]
      · rw [ev_pos hc, ev_now, decide_eq_false (by omega), Bool.false_and]
      · rw [ev_neg hc, decide_eq_true (by omega), Bool.true_and]
        have := ih (i + 1) (by omega)
        rw [Nat.add_sub_cancel] at this
        exact this
theorem impl_isIncreasing.ev (l : List Int) (hl : l.length ≤ 9223372036854775807) : Ev (fun k => impl_isIncreasing.f k l) (incB l) := impl_isIncreasing.ev_l l hl l.length 0 (by omega)
theorem impl_isSet.ev (l : List Int) (n : Int) (h0 : 0 ≤ n) (h9 : n ≤ 1000) (hl : l.length ≤ 9223372036854775807) : Ev (fun k => impl_isSet.f k l n) (setB n l) := by
  simp only [impl_isSet.f]
  rw [w64 (by omega) (by omega), ev_bind (ev_of (show impl_areIn.f l 0 (n - 1) = some _ from rfl))]
  unfold setB
  cases (l.all fun x => decide (0 ≤ x) && decide (x ≤ n - 1)) with
  | true => rw [ev_pos rfl, ev_bind (impl_isIncreasing.ev l hl), ev_now, Bool.true_and]
  | false => rw [ev_neg (by simp), ev_now, Bool.false_and]
end Go.Proofs.Ytmmmblfghhcndaa.Q

namespace Go.Proofs.Ytmmmblfghhcndaa.Q
open Go.RowKit Go.Proofs.YtmmmblfghhcndaaW.PrintWords Go.Proofs.YtmmmblfghhcndaaW.PrintLast Go.Proofs.YtmmmblfghhcndaaW.PrintMore Go.Proofs.YtmmmblfghhcndaaM
set_option linter.unusedVariables false
set_option linter.unusedSimpArgs false
theorem orBits_lt61 (l : List Int) (m : Nat) (hm : m < 2 ^ 61) (h : ∀ x ∈ l, 0 ≤ x ∧ x ≤ 60) : orBits m l < 2 ^ 61 := orBits_lt 61 l m hm (fun x hx => by have := h x hx; omega)
theorem impl_maskOf.ev_l (l : List Int) (hl : l.length ≤ 9223372036854775807) (hx : ∀ x ∈ l, 0 ≤ x ∧ x ≤ 60) : ∀ (d i m : Nat), i + d = l.length → m < 2 ^ 61 → Ev (fun k => impl_maskOf.l0 k (m : Int) l (l.length : Int) (i : Int)) ((orBits m (l.drop i) : Nat) : Int) := by
  intro d
  induction d with
  | zero =>
    intro i m h hm
    refine ev_step ?_
    simp only [impl_maskOf.l0]
    rw [ev_neg (by omega), ev_now, List.drop_of_length_le (by omega)]
    rfl
  | succ d ih =>
    intro i m h hm
    refine ev_step ?_
    simp only [impl_maskOf.l0]
    have hi : i < l.length := by omega
    have hxi := hx l[i] (List.getElem_mem hi)
    obtain ⟨c, hc⟩ := Int.eq_ofNat_of_zero_le hxi.1
    have hp : 2 ^ c ≤ 2 ^ 60 := Nat.pow_le_pow_right (by omega) (by omega)
    have ho : m ||| 2 ^ c < 2 ^ 61 := Nat.or_lt_two_pow hm (by omega)
    rw [ev_pos (by omega), ev_pos (by omega), ev_pos (by omega), rd_lt l i hi, hc, ev_pos (by omega), w64i (n := l.length) (by omega) (by omega) hl, shl_one c (by omega), or_nat m (2 ^ c) (by omega) (by omega)]
    have := ih (i + 1) (m ||| 2 ^ c) (by omega) ho
    rw [List.drop_eq_getElem_cons hi]
    show Ev _ ((orBits (m ||| 2 ^ l[i].toNat) (l.drop (i + 1)) : Nat) : Int)
    rw [hc]
    exact this
theorem impl_maskOf.ev (l : List Int) (hl : l.length ≤ 9223372036854775807) (hx : ∀ x ∈ l, 0 ≤ x ∧ x ≤ 60) : Ev (fun k => impl_maskOf.f k l) ((maskN l : Nat) : Int) := impl_maskOf.ev_l l hl hx l.length 0 0 (by omega) (by omega)
end Go.Proofs.Ytmmmblfghhcndaa.Q

namespace Go.Proofs.Ytmmmblfghhcndaa.Q
open Go.RowKit Go.Proofs.YtmmmblfghhcndaaW.PrintWords Go.Proofs.YtmmmblfghhcndaaW.PrintLast Go.Proofs.YtmmmblfghhcndaaW.PrintMore Go.Proofs.YtmmmblfghhcndaaM
set_option linter.unusedVariables false
set_option linter.unusedSimpArgs false
theorem rd_L2_lt (l : List (List Int)) (i : Nat) (h : i < l.length) : rd_L2 l (i : Int) = l[i] := by simp [rd_L2, h]
theorem rd_L2_at (l : List (List Int)) (i : Nat) : rd_L2 l (i : Int) = l.getD i [] := by simp [rd_L2]
end Go.Proofs.Ytmmmblfghhcndaa.Q

namespace Go.Proofs.Ytmmmblfghhcndaa.Q
open Go.RowKit Go.Proofs.YtmmmblfghhcndaaW.PrintWords Go.Proofs.YtmmmblfghhcndaaW.PrintLast Go.Proofs.YtmmmblfghhcndaaW.PrintMore Go.Proofs.YtmmmblfghhcndaaM
set_option linter.unusedVariables false
set_option linter.unusedSimpArgs false
theorem cmp_Compare_int.v (a b : Int) : cmp_Compare_int.f a b = some (if a < b then -1 else if b < a then 1 else 0) := by
  have h : ∀ x : Int, cmp_isNaN_int.f x = some false := fun x => by simp [cmp_isNaN_int.f]
  simp only [cmp_Compare_int.f, h, Option.bind_some, Bool.false_eq_true, if_false]
  by_cases h1 : a < b
  · rw [if_pos h1, if_pos h1]
  · by_cases h2 : b < a
    · rw [if_neg h1, if_pos h2, if_neg h1, if_pos h2]
    · rw [if_neg h1, if_neg h2, if_neg h1, if_neg h2]
theorem slices_Compare_int_int.ev_l (a b : List Int) (ha : a.length ≤ 9223372036854775807) : ∀ (d i : Nat), i + d = a.length → i ≤ b.length → a.take i = b.take i → Ev (fun k => slices_Compare_int_int.l0 k a b a (a.length : Int) (i : Int)) (cmpL (a.drop i) (b.drop i)) := by
  intro d
  induction d with
  | zero =>
    intro i h hb _
    refine ev_step ?_
    simp only [slices_Compare_int_int.l0]
    rw [ev_neg (by omega), List.drop_of_length_le (by omega)]
    by_cases hc : (a.length : Int) < (b.length : Int)
    · rw [ev_pos hc, ev_now, List.drop_eq_getElem_cons (by omega)]
      rfl
    · rw [ev_neg hc, ev_now, List.drop_of_length_le (by omega)]
      rfl
  | succ d ih =>
    intro i h hb ht
    refine ev_step ?_
    simp only [slices_Compare_int_int.l0]
    have hi : i < a.length := by omega
    rw [ev_pos (by omega), ev_pos (by omega), ev_pos (by omega)]
    by_cases hc : (i : Int) ≥ (b.length : Int)
    · rw [ev_pos hc, ev_now, List.drop_eq_getElem_cons hi, List.drop_of_length_le (by omega : b.length ≤ i)]
      rfl
    · have hib : i < b.length := by omega
      rw [ev_neg hc, ev_pos (by omega), rd_lt a i hi, rd_lt b i hib, ev_bind (ev_of (cmp_Compare_int.v _ _)), w64i (n := a.length) (by omega) (by omega) ha, List.drop_eq_getElem_cons hi, List.drop_eq_getElem_cons hib]
      simp only [cmpL]
      by_cases h1 : a[i] < b[i]
      · rw [if_pos h1, ev_neg (by decide), ev_now, if_pos h1]
      · by_cases h2 : b[i] < a[i]
        · rw [if_neg h1, if_pos h2, ev_neg (by decide), ev_now, if_neg h1, if_pos h2]
        · rw [if_neg h1, if_neg h2, ev_pos rfl, if_neg h1, if_neg h2]
          refine ih (i + 1) (by omega) (by omega) ?_
          rw [List.take_succ_eq_append_getElem hi, List.take_succ_eq_append_getElem hib, ht, show a[i] = b[i] by omega]
theorem slices_Compare_int_int.ev (a b : List Int) (ha : a.length ≤ 9223372036854775807) : Ev (fun k => slices_Compare_int_int.f k a b) (cmpL a b) := slices_Compare_int_int.ev_l a b ha a.length 0 (by omega) (by omega) (by simp)
end Go.Proofs.Ytmmmblfghhcndaa.Q

namespace Go.Proofs.Ytmmmblfghhcndaa.Q
open Go.RowKit Go.Proofs.YtmmmblfghhcndaaW.PrintWords Go.Proofs.YtmmmblfghhcndaaW.PrintLast Go.Proofs.YtmmmblfghhcndaaW.PrintMore Go.Proofs.YtmmmblfghhcndaaM
set_option linter.unusedVariables false
set_option linter.unusedSimpArgs false
theorem impl_areSets.ev (l : List (List Int)) (n : Int) (h0 : 0 ≤ n) (h9 : n ≤ 1000) (hl : ∀ x ∈ l, x.length ≤ 9223372036854775807) : Ev (fun k => impl_areSets.f k l n) (setsB n l) := by
  simp only [impl_areSets.f]
  have h : Ev (fun k => anyO (impl_areSets_1.f k n) l) (l.any fun x => decide ((x.length : Int) = 0) || !(setB n x)) := by
    refine ev_anyO (fun x hx => ?_)
    simp only [impl_areSets_1.f]
    by_cases hc : (x.length : Int) = 0
    · rw [ev_pos hc, ev_now, decide_eq_true hc, Bool.true_or]
    · rw [ev_neg hc, ev_bind (impl_isSet.ev x n h0 h9 (hl x hx)), ev_now, decide_eq_false hc, Bool.false_or]
  rw [ev_bind h, ev_now, setsB]
  clear h hl
  induction l with
  | nil => rfl
  | cons x l ih => rw [List.any_cons, List.all_cons, ← ih, Bool.not_or, Bool.not_or, Bool.not_not]
theorem gOrd_pos (l : List (List Int)) (i : Nat) (h0 : i ≠ 0) (hi : i < l.length) : gOrd l i = decide (cmpL (l[i - 1]'(by omega)) l[i] < 0) := by
  unfold gOrd
  rw [decide_eq_false h0, Bool.false_or, List.getD_eq_getElem?_getD, List.getD_eq_getElem?_getD, List.getElem?_eq_getElem hi, List.getElem?_eq_getElem (show i - 1 < l.length by omega)]
  rfl
theorem mAt_lt (l : List (List Int)) (i : Nat) (hi : i < l.length) : mAt l i = maskN l[i] := by simp [mAt, hi]
theorem impl_IsGame.ev_l1 (n : Int) (l : List (List Int)) (hl : l.length ≤ 9223372036854775807) (hs : ∀ x ∈ l, x.length ≤ 9223372036854775807 ∧ (∀ y ∈ x, 0 ≤ y ∧ y ≤ 8) ∧ maskN x < 512) (i : Nat) (hi : i < l.length) (R : Bool) (hR : Ev (fun k => impl_IsGame.l0 k l (l.length : Int) ((i : Int) + 1) n l) R) : ∀ (d j : Nat), j + d = l.length → Ev (fun k => impl_IsGame.l1 k (i : Int) l[i] l (l.length : Int) (i : Int) l (l.length : Int) (j : Int) n l) ((List.range' j d).all (gInI l i) && R) := by
  intro d
  induction d with
  | zero =>
    intro j h
    refine ev_step ?_
    simp only [impl_IsGame.l1]
    rw [ev_neg (by omega), w64i (n := l.length) (by omega) (by omega) hl]
    exact hR
  | succ d ih =>
    intro j h
    refine ev_step ?_
    simp only [impl_IsGame.l1]
    have hj : j < l.length := by omega
    rw [ev_pos (by omega), ev_pos (by omega), ev_pos (by omega), w64i (i := (j : Int)) (n := l.length) (by omega) (by omega) hl, List.range'_succ, List.all_cons]
    by_cases e : j = i
    · rw [ev_pos (by omega), show gInI l i j = true by simp [gInI, e], Bool.true_and]
      exact ih (j + 1) (by omega)
    · obtain ⟨hx1, hx2, hx3⟩ := hs l[i] (List.getElem_mem hi)
      obtain ⟨hy1, hy2, hy3⟩ := hs l[j] (List.getElem_mem hj)
      have m1 := impl_maskOf.ev l[i] hx1 (fun y hy => by have := hx2 y hy; omega)
      have m2 := impl_maskOf.ev l[j] hy1 (fun y hy => by have := hy2 y hy; omega)
      rw [ev_neg (by omega), ev_bind m1, rd_L2_lt l j hj, ev_bind m2, ev_bind m2, and_nat _ _ (by omega) (by omega)]
      by_cases c : maskN l[i] &&& maskN l[j] = maskN l[j]
      · rw [ev_pos (by rw [c]), ev_now, gInI, mAt_lt l i hi, mAt_lt l j hj, decide_eq_false e, decide_eq_true c]
        rfl
      · rw [ev_neg (by omega), gInI, mAt_lt l i hi, mAt_lt l j hj, decide_eq_false e, decide_eq_false c]
        exact ih (j + 1) (by omega)
theorem impl_IsGame.ev_l0 (n : Int) (l : List (List Int)) (hl : l.length ≤ 9223372036854775807) (hs : ∀ x ∈ l, x.length ≤ 9223372036854775807 ∧ (∀ y ∈ x, 0 ≤ y ∧ y ≤ 8) ∧ maskN x < 512) : ∀ (d i : Nat), i + d = l.length → Ev (fun k => impl_IsGame.l0 k l (l.length : Int) (i : Int) n l) ((List.range' i d).all (gI l)) := by
  intro d
  induction d with
  | zero =>
    intro i h
    refine ev_step ?_
    simp only [impl_IsGame.l0]
    rw [ev_neg (by omega), ev_now]
    rfl
  | succ d ih =>
    intro i h
    refine ev_step ?_
    simp only [impl_IsGame.l0]
    have hi : i < l.length := by omega
    rw [ev_pos (by omega), ev_pos (by omega), ev_pos (by omega), rd_L2_lt l i hi, List.range'_succ, List.all_cons]
    have hin : Ev (fun k => impl_IsGame.l1 k (i : Int) l[i] l (l.length : Int) (i : Int) l (l.length : Int) ((0 : Nat) : Int) n l) ((List.range' 0 l.length).all (gInI l i) && (List.range' (i + 1) d).all (gI l)) := impl_IsGame.ev_l1 n l hl hs i hi _ (by have := ih (i + 1) (by omega); exact this) l.length 0 (by omega)
    by_cases e : i = 0
    · rw [ev_neg (by omega)]
      refine ev_step ?_
      simp only [impl_IsGame.j2]
      rw [ev_neg (by decide), gI, show gOrd l i = true by simp [gOrd, e], Bool.true_and]
      exact hin
    · have e1 : (i : Int) - 1 = ((i - 1 : Nat) : Int) := by omega
      rw [ev_pos (by omega), w64 (by omega) (by omega), e1, ev_pos (by omega), ev_pos (by omega), rd_L2_lt l (i - 1) (by omega), ev_bind (slices_Compare_int_int.ev _ _ (hs _ (List.getElem_mem (by omega))).1)]
      refine ev_step ?_
      simp only [impl_IsGame.j2]
      rw [gI, gOrd_pos l i e hi]
      by_cases c : cmpL (l[i - 1]'(by omega)) l[i] < 0
      · rw [ev_neg (by simp; omega), decide_eq_true c, Bool.true_and]
        exact hin
      · rw [ev_pos (by simp; omega), ev_now, decide_eq_false c]
        rfl
theorem impl_IsGame.ev (n : Int) (l : List (List Int)) (hl : l.length ≤ 9223372036854775807) (hx : ∀ x ∈ l, x.length ≤ 9223372036854775807) : Ev (fun k => impl_IsGame.f k n l) (gameB n l) := by
  simp only [impl_IsGame.f]
  rw [ev_bind (ev_of (impl_within.v _ _ _)), gameB]
  cases h1 : (decide (1 ≤ n) && decide (n ≤ 9)) with
  | false =>
    rw [ev_neg (by decide)]
    refine ev_step ?_
    simp only [impl_IsGame.j0]
    rw [ev_pos trivial, ev_now]
    rfl
  | true =>
    simp only [Bool.and_eq_true, decide_eq_true_eq] at h1
    rw [ev_pos rfl, Bool.true_and]
    by_cases h2 : (l.length : Int) = 0
    · rw [ev_pos h2, decide_eq_true h2]
      refine ev_step ?_
      simp only [impl_IsGame.j0]
      rw [ev_pos trivial, ev_now]
      rfl
    · rw [ev_neg h2, decide_eq_false h2, ev_bind (impl_areSets.ev l n (by omega) (by omega) hx)]
      refine ev_step ?_
      simp only [impl_IsGame.j0]
      cases h3 : setsB n l with
      | false =>
        rw [ev_pos (by decide), ev_now]
        rfl
      | true =>
        rw [ev_neg (by decide), ← gIS]
        exact impl_IsGame.ev_l0 n l hl (fun x hx' => ⟨hx x hx', setsB_mask h3 (by omega) x hx'⟩) l.length 0 (by omega)
end Go.Proofs.Ytmmmblfghhcndaa.Q

namespace Go.Proofs.Ytmmmblfghhcndaa.Q
open Go.RowKit Go.Proofs.YtmmmblfghhcndaaW.PrintWords Go.Proofs.YtmmmblfghhcndaaW.PrintLast Go.Proofs.YtmmmblfghhcndaaW.PrintMore Go.Proofs.YtmmmblfghhcndaaM
set_option linter.unusedVariables false
set_option linter.unusedSimpArgs false
theorem spec_voBefore.ev_l (a b : List Int) (ha : a.length ≤ 9223372036854775807) : ∀ (d i : Nat), i + d = a.length → i ≤ b.length → Ev (fun k => spec_voBefore.l0 k a b (i : Int)) (decide (cmpL (a.drop i) (b.drop i) < 0)) := by
  intro d
  induction d with
  | zero =>
    intro i h hb
    refine ev_step ?_
    simp only [spec_voBefore.l0]
    rw [ev_neg (by omega)]
    refine ev_step ?_
    simp only [spec_voBefore.j1]
    rw [ev_neg (by simp), ev_now, List.drop_of_length_le (by omega)]
    by_cases hc : (a.length : Int) < (b.length : Int)
    · rw [decide_eq_true hc, List.drop_eq_getElem_cons (by omega)]
      rfl
    · rw [decide_eq_false hc, List.drop_of_length_le (by omega)]
      rfl
  | succ d ih =>
    intro i h hb
    refine ev_step ?_
    simp only [spec_voBefore.l0]
    have hi : i < a.length := by omega
    rw [ev_pos (by omega)]
    refine ev_step ?_
    simp only [spec_voBefore.j1]
    by_cases hc : (i : Int) < (b.length : Int)
    · have hib : i < b.length := by omega
      rw [ev_pos (decide_eq_true hc), ev_pos (by omega), ev_pos (by omega), ev_pos (by omega), rd_lt a i hi, rd_lt b i hib, w64i (n := a.length) (by omega) (by omega) ha, List.drop_eq_getElem_cons hi, List.drop_eq_getElem_cons hib]
      by_cases h1 : a[i] = b[i]
      · have e : cmpL (a[i] :: a.drop (i + 1)) (b[i] :: b.drop (i + 1)) = cmpL (a.drop (i + 1)) (b.drop (i + 1)) := by simp only [cmpL]; rw [if_neg (by omega), if_neg (by omega)]
        rw [ev_pos h1, e]
        exact ih (i + 1) (by omega) (by omega)
      · rw [ev_neg h1, ev_now]
        by_cases h2 : a[i] < b[i]
        · have e : cmpL (a[i] :: a.drop (i + 1)) (b[i] :: b.drop (i + 1)) = -1 := by simp only [cmpL]; rw [if_pos h2]
          rw [e, decide_eq_true h2]; rfl
        · have e : cmpL (a[i] :: a.drop (i + 1)) (b[i] :: b.drop (i + 1)) = 1 := by simp only [cmpL]; rw [if_neg h2, if_pos (by omega)]
          rw [e, decide_eq_false h2]; rfl
    · rw [ev_neg (by simp; omega), ev_now, List.drop_eq_getElem_cons hi, List.drop_of_length_le (by omega : b.length ≤ i), decide_eq_false (by omega)]
      rfl
theorem spec_voBefore.ev (a b : List Int) (ha : a.length ≤ 9223372036854775807) : Ev (fun k => spec_voBefore.f k a b) (decide (cmpL a b < 0)) := spec_voBefore.ev_l a b ha a.length 0 (by omega) (by omega)
end Go.Proofs.Ytmmmblfghhcndaa.Q

namespace Go.Proofs.Ytmmmblfghhcndaa.Q
open Go.RowKit Go.Proofs.YtmmmblfghhcndaaW.PrintWords Go.Proofs.YtmmmblfghhcndaaW.PrintLast Go.Proofs.YtmmmblfghhcndaaW.PrintMore Go.Proofs.YtmmmblfghhcndaaM
set_option linter.unusedVariables false
set_option linter.unusedSimpArgs false
theorem spec_voBits.ev_l (l : List Int) (hl : l.length ≤ 9223372036854775807) (hx : ∀ x ∈ l, 0 ≤ x ∧ x ≤ 60) : ∀ (d i m : Nat), i + d = l.length → m < 2 ^ 61 → Ev (fun k => spec_voBits.l0 k (m : Int) l (l.length : Int) (i : Int)) ((orBits m (l.drop i) : Nat) : Int) := by
  intro d
  induction d with
  | zero =>
    intro i m h hm
    refine ev_step ?_
    simp only [spec_voBits.l0]
    rw [ev_neg (by omega), ev_now, List.drop_of_length_le (by omega)]
    rfl
  | succ d ih =>
    intro i m h hm
    refine ev_step ?_
    simp only [spec_voBits.l0]
    have hi : i < l.length := by omega
    have hxi := hx l[i] (List.getElem_mem hi)
    obtain ⟨c, hc⟩ := Int.eq_ofNat_of_zero_le hxi.1
    have hp : 2 ^ c ≤ 2 ^ 60 := Nat.pow_le_pow_right (by omega) (by omega)
    have ho : m ||| 2 ^ c < 2 ^ 61 := Nat.or_lt_two_pow hm (by omega)
    rw [ev_pos (by omega), ev_pos (by omega), ev_pos (by omega), rd_lt l i hi, hc, ev_pos (by omega), w64i (n := l.length) (by omega) (by omega) hl, shl_one c (by omega), or_nat m (2 ^ c) (by omega) (by omega)]
    have := ih (i + 1) (m ||| 2 ^ c) (by omega) ho
    rw [List.drop_eq_getElem_cons hi]
    show Ev _ ((orBits (m ||| 2 ^ l[i].toNat) (l.drop (i + 1)) : Nat) : Int)
    rw [hc]
    exact this
theorem spec_voBits.ev (l : List Int) (hl : l.length ≤ 9223372036854775807) (hx : ∀ x ∈ l, 0 ≤ x ∧ x ≤ 60) : Ev (fun k => spec_voBits.f k l) ((maskN l : Nat) : Int) := spec_voBits.ev_l l hl hx l.length 0 0 (by omega) (by omega)
end Go.Proofs.Ytmmmblfghhcndaa.Q

namespace Go.Proofs.Ytmmmblfghhcndaa.Q
open Go.RowKit Go.Proofs.YtmmmblfghhcndaaX Go.Proofs.YtmmmblfghhcndaaW.PrintWords Go.Proofs.YtmmmblfghhcndaaW.PrintLast Go.Proofs.YtmmmblfghhcndaaW.PrintMore
attribute [local go_sem] max2_int min2_int max_two min_two max_three min_three max_four min_four   -- for this text's walks alone
set_option linter.unusedVariables false
set_option linter.unusedSimpArgs false

/-! ### spec_voSum: function 87 -/
def spec_voSum.l0 : Nat → Int → List Int → Int → Int → Option (Int)
 | 0, _, _, _, _ => none
 | k + 1, x3, x6, x7, x8 => if x8 < x7 then (if 0 ≤ x8 then (if x8 < (x6.length : Int) then (spec_voSum.l0 k (wrap64 (x3 + (rd x6 x8))) x6 x7 (wrap64 (x8 + 1))) else (none)) else (none)) else (some x3)
def spec_voSum.f (k : Nat) (l0 : List Int) : Option (Int) := spec_voSum.l0 k 0 l0 (l0.length : Int) 0
theorem spec_voSum.mono_l : ∀ k, (∀ y0 y1 y2 y3, LeO (spec_voSum.l0 k y0 y1 y2 y3) (spec_voSum.l0 (k + 1) y0 y1 y2 y3))
 | 0 => fun _ _ _ _ r h => by simp [spec_voSum.l0] at h
 | k + 1 => by
  have ih0 := spec_voSum.mono_l k
  ·intro y0 y1 y2 y3
   unfold spec_voSum.l0
   repeat' first
   | (with_reducible exact ih0 _ _ _ _)
   | (with_reducible exact LeO.refl _)
   | (with_reducible exact LeO.none _)
   | (with_reducible refine LeO.ite ?_ ?_)
   | (with_reducible refine LeO.bind ?_ (fun _ => ?_))
   | exact ih0 _ _ _ _
   | exact LeO.none _
   | refine LeO.ite ?_ ?_
   | refine LeO.bind ?_ (fun _ => ?_)
theorem spec_voSum.mono : ∀ a0 k, LeO (spec_voSum.f k a0) (spec_voSum.f (k + 1) a0) := by
 intro a0 k
 have ih0 := spec_voSum.mono_l k
 unfold spec_voSum.f
 repeat' first
   | (with_reducible exact ih0 _ _ _ _)
   | (with_reducible exact LeO.refl _)
   | (with_reducible exact LeO.none _)
   | (with_reducible refine LeO.ite ?_ ?_)
   | (with_reducible refine LeO.bind ?_ (fun _ => ?_))
   | exact ih0 _ _ _ _
   | exact LeO.none _
   | refine LeO.ite ?_ ?_
   | refine LeO.bind ?_ (fun _ => ?_)
set_option maxHeartbeats 8000000 in
set_option maxRecDepth 100000 in
theorem spec_voSum.calls (k : Nat) (A0 : Option Addr) (c0 : Nat) (l0 : List Int) (r : Int) (w : World) (hr0 : Kd.C (Kd.int .i64) w A0 l0.length l0) (hc0 : l0.length ≤ c0) (h : spec_voSum.f k l0 = some r) :
  Calls Try.prog 87 #[.slice A0 l0.length c0] w fun e w' => e = .returned (.int .i64 r) ∧ Drawn0 w w' := by
 have HR0 := Aside0.mk hr0
 have HC0 := Aside0.mk hc0
 clear hr0 hc0
 have H : (spec_voSum.l0 k 0 l0 (l0.length : Int) 0) = some r := h
 clear h
 have H' := Aside0.mk H
 clear H
 go_enter Try.func87, Try.ntmps87
 go_wp2
 go_loopg [3, 8] k (fun kq v3 v8 w' => ∃ (x3_1 : Int) (x8_1 : Int), v3 = .int .i64 x3_1 ∧ v8 = .int .i64 x8_1 ∧ Aside0 (spec_voSum.l0 kq x3_1 l0 (l0.length : Int) x8_1 = some r) ∧ Aside0 (kq ≤ k) ∧ Drawn0 w w')
 case atStart => exact ⟨(0), (0), (by first | rfl | (simp; done) | (simp [*]; done)), (by first | rfl | (simp; done) | (simp [*]; done)), H', ⟨Nat.le_refl _⟩, by repeat (first | exact Drawn0.refl _ | apply Drawn0.step)⟩
 case round =>
  clear H'
  obtain ⟨x3_1, x8_1, rfl, rfl, HA, HK1, ⟨m1, rfl⟩⟩ := hrel
  cases gk with
  | zero => exact absurd HA.out (by simp [spec_voSum.l0])
  | succ k1 =>
   have H := HA.out
   clear HA
   simp only [spec_voSum.l0] at H
   by_cases c2 : x8_1 < (l0.length : Int)
   ·rw [if_pos c2] at H
    have c2b0 : decide (x8_1 < (l0.length : Int)) = true := decide_eq_true c2
    clear c2
    by_cases c3 : 0 ≤ x8_1
    ·rw [if_pos c3] at H
     have c3b0 : decide (0 ≤ x8_1) = true := decide_eq_true c3
     clear c3
     by_cases c4 : x8_1 < (l0.length : Int)
     ·rw [if_pos c4] at H
      have c4b0 : decide (x8_1 < (l0.length : Int)) = true := decide_eq_true c4
      clear c4
      have H' := Aside0.mk H
      clear H
      have p101 : 0 ≤ (x8_1 : Int) := of_decide_eq_true (by first | (with_reducible assumption) | assumption)
      have q101 : x8_1 < (l0.length : Int) := of_decide_eq_true (by first | (with_reducible assumption) | assumption)
      obtain ⟨ad101, e101, hx101_0⟩ := Kd.at_int HR0.out x8_1 p101 q101
      cases e101
      replace p101 := eq_true p101
      replace q101 := eq_true q101
      go_wp2
      go_roundg k1
      case measure => have := HK1.out; omega
      case rel => exact ⟨(wrap64 (x3_1 + (rd l0 x8_1))), (wrap64 (x8_1 + 1)), (by first | rfl | (simp; done) | (simp [*]; done)), (by first | rfl | (simp; done) | (simp [*]; done)), H', ⟨by have := HK1.out; omega⟩, by repeat (first | exact Drawn0.refl _ | apply Drawn0.step)⟩
     ·rw [if_neg c4] at H
      exact absurd H (by simp)
    ·rw [if_neg c3] at H
     exact absurd H (by simp)
   ·rw [if_neg c2] at H
    have c2b0 : decide (x8_1 < (l0.length : Int)) = false := decide_eq_false c2
    clear c2
    obtain rfl := Option.some.inj H
    go_wp2
    go_ret
    exact ⟨by first | rfl | (simp; done) | (simp [*]; done), by repeat (first | exact Drawn0.refl _ | apply Drawn0.step)⟩

end Go.Proofs.Ytmmmblfghhcndaa.Q

namespace Go.Proofs.Ytmmmblfghhcndaa.Q
open Go.RowKit Go.Proofs.YtmmmblfghhcndaaW.PrintWords Go.Proofs.YtmmmblfghhcndaaW.PrintLast Go.Proofs.YtmmmblfghhcndaaW.PrintMore Go.Proofs.YtmmmblfghhcndaaM
set_option linter.unusedVariables false
set_option linter.unusedSimpArgs false
theorem spec_voSum.ev_l (l : List Int) (hl : l.length ≤ 9223372036854775807) : ∀ (d i : Nat) (s : Int), i + d = l.length → Ev (fun k => spec_voSum.l0 k s l (l.length : Int) (i : Int)) (wfold (l.drop i) s) := by
  intro d
  induction d with
  | zero =>
    intro i s h
    refine ev_step ?_
    simp only [spec_voSum.l0]
    rw [ev_neg (by omega), ev_now, List.drop_of_length_le (by omega)]
    rfl
  | succ d ih =>
    intro i s h
    refine ev_step ?_
    simp only [spec_voSum.l0]
    have hi : i < l.length := by omega
    rw [ev_pos (by omega), ev_pos (by omega), ev_pos (by omega), w64i (n := l.length) (by omega) (by omega) hl, rd_lt l i hi, wfold_take l i hi]
    exact ih (i + 1) _ (by omega)
theorem spec_voSum.ev (l : List Int) (hl : l.length ≤ 9223372036854775807) : Ev (fun k => spec_voSum.f k l) (wfold l 0) := spec_voSum.ev_l l hl l.length 0 0 (by omega)
end Go.Proofs.Ytmmmblfghhcndaa.Q

namespace Go.Proofs.Ytmmmblfghhcndaa.Q
open Go.RowKit Go.Proofs.YtmmmblfghhcndaaX Go.Proofs.YtmmmblfghhcndaaW.PrintWords Go.Proofs.YtmmmblfghhcndaaW.PrintLast Go.Proofs.YtmmmblfghhcndaaW.PrintMore
attribute [local go_sem] max2_int min2_int max_two min_two max_three min_three max_four min_four   -- for this text's walks alone
set_option linter.unusedVariables false
set_option linter.unusedSimpArgs false

/-! ### spec_l1All: function 112 -/
def spec_l1All.l0 : Nat → Int → Int → List Int → Int → Int → Option (Bool)
 | 0, _, _, _, _, _ => none
 | k + 1, x1, x2, x9, x10, x11 => if x11 < x10 then (if 0 ≤ x11 then (if x11 < (x9.length : Int) then ((spec_l1In.f (rd x9 x11) x1 x2).bind fun t102 => (if t102 = true then (spec_l1All.l0 k x1 x2 x9 x10 (wrap64 (x11 + 1))) else (some false))) else (none)) else (none)) else (some true)
def spec_l1All.f (k : Nat) (l0 : List Int) (a1 : Int) (a2 : Int) : Option (Bool) := spec_l1All.l0 k a1 a2 l0 (l0.length : Int) 0
theorem spec_l1All.mono_l : ∀ k, (∀ y0 y1 y2 y3 y4, LeO (spec_l1All.l0 k y0 y1 y2 y3 y4) (spec_l1All.l0 (k + 1) y0 y1 y2 y3 y4))
 | 0 => fun _ _ _ _ _ r h => by simp [spec_l1All.l0] at h
 | k + 1 => by
  have ih0 := spec_l1All.mono_l k
  ·intro y0 y1 y2 y3 y4
   unfold spec_l1All.l0
   repeat' first
   | (with_reducible exact ih0 _ _ _ _ _)
   | (with_reducible exact LeO.refl _)
   | (with_reducible exact LeO.none _)
   | (with_reducible refine LeO.ite ?_ ?_)
   | (with_reducible refine LeO.bind ?_ (fun _ => ?_))
   | exact ih0 _ _ _ _ _
   | exact LeO.none _
   | refine LeO.ite ?_ ?_
   | refine LeO.bind ?_ (fun _ => ?_)
theorem spec_l1All.mono : ∀ a0 a1 a2 k, LeO (spec_l1All.f k a0 a1 a2) (spec_l1All.f (k + 1) a0 a1 a2) := by
 intro a0 a1 a2 k
 have ih0 := spec_l1All.mono_l k
 unfold spec_l1All.f
 repeat' first
   | (with_reducible exact ih0 _ _ _ _ _)
   | (with_reducible exact LeO.refl _)
   | (with_reducible exact LeO.none _)
   | (with_reducible refine LeO.ite ?_ ?_)
   | (with_reducible refine LeO.bind ?_ (fun _ => ?_))
   | exact ih0 _ _ _ _ _
   | exact LeO.none _
   | refine LeO.ite ?_ ?_
   | refine LeO.bind ?_ (fun _ => ?_)
set_option maxHeartbeats 8000000 in
set_option maxRecDepth 100000 in
theorem spec_l1All.calls (k : Nat) (A0 : Option Addr) (c0 : Nat) (l0 : List Int) (a1 : Int) (a2 : Int) (r : Bool) (w : World) (hr0 : Kd.C (Kd.int .i64) w A0 l0.length l0) (hc0 : l0.length ≤ c0) (h : spec_l1All.f k l0 a1 a2 = some r) :
  Calls Try.prog 112 #[.slice A0 l0.length c0, .int .i64 a1, .int .i64 a2] w fun e w' => e = .returned (.bool r) ∧ Drawn0 w w' := by
 have HR0 := Aside0.mk hr0
 have HC0 := Aside0.mk hc0
 clear hr0 hc0
 have H : (spec_l1All.l0 k a1 a2 l0 (l0.length : Int) 0) = some r := h
 clear h
 have H' := Aside0.mk H
 clear H
 go_enter Try.func112, Try.ntmps112
 go_wp2
 go_loopg [11] k (fun kq v11 w' => ∃ (x11_1 : Int), v11 = .int .i64 x11_1 ∧ Aside0 (spec_l1All.l0 kq a1 a2 l0 (l0.length : Int) x11_1 = some r) ∧ Aside0 (kq ≤ k) ∧ Drawn0 w w')
 case atStart => exact ⟨(0), (by first | rfl | (simp; done) | (simp [*]; done)), H', ⟨Nat.le_refl _⟩, by repeat (first | exact Drawn0.refl _ | apply Drawn0.step)⟩
 case round =>
  clear H'
  try clear c1
  try clear p2
  obtain ⟨x11_1, rfl, HA, HK1, ⟨m1, rfl⟩⟩ := hrel
  cases gk with
  | zero => exact absurd HA.out (by simp [spec_l1All.l0])
  | succ k1 =>
   have H := HA.out
   clear HA
   simp only [spec_l1All.l0] at H
   by_cases c4 : x11_1 < (l0.length : Int)
   ·rw [if_pos c4] at H
    have c4b0 : decide (x11_1 < (l0.length : Int)) = true := decide_eq_true c4
    clear c4
    by_cases c5 : 0 ≤ x11_1
    ·rw [if_pos c5] at H
     have c5b0 : decide (0 ≤ x11_1) = true := decide_eq_true c5
     clear c5
     by_cases c6 : x11_1 < (l0.length : Int)
     ·rw [if_pos c6] at H
      have c6b0 : decide (x11_1 < (l0.length : Int)) = true := decide_eq_true c6
      clear c6
      replace H := oB H
      obtain ⟨t102, A70, H⟩ := H
      replace H : (if t102 = true then (spec_l1All.l0 k1 a1 a2 l0 (l0.length : Int) (wrap64 (x11_1 + 1))) else (some false)) = some r := H
      have A7 := Aside0.mk A70
      clear A70
      by_cases c8 : t102 = true
      ·subst c8
       have H1 : (spec_l1All.l0 k1 a1 a2 l0 (l0.length : Int) (wrap64 (x11_1 + 1))) = some r := by rw [if_pos rfl] at H; exact H
       clear H
       have H := H1
       clear H1
       have H' := Aside0.mk H
       clear H
       have p101 : 0 ≤ (x11_1 : Int) := of_decide_eq_true (by first | (with_reducible assumption) | assumption)
       have q101 : x11_1 < (l0.length : Int) := of_decide_eq_true (by first | (with_reducible assumption) | assumption)
       obtain ⟨ad101, e101, hx101_0⟩ := Kd.at_int HR0.out x11_1 p101 q101
       cases e101
       replace p101 := eq_true p101
       replace q101 := eq_true q101
       go_wp2_with (first | ((with_reducible refine gate_callee (f := 55) rfl ?_); refine goesL_ (some 18) rfl rfl Try.func55 (by kernel_rfl) rfl #[.int .i64 (rd l0 x11_1), .int .i64 a1, .int .i64 a2] rfl (by (try simp only [mA, mC, mN]); first | done | rfl | (simp only [List.length_drop, List.length_take]; rfl)) ?_; (with_reducible refine (spec_l1In.calls (rd l0 x11_1) a1 a2 true _ A7.out).mono ?_); rintro e w' ⟨rfl, ⟨nd, rfl⟩⟩; refine ⟨_, rfl, ?_⟩))
       go_roundg k1
       case measure => have := HK1.out; omega
       case rel => exact ⟨(wrap64 (x11_1 + 1)), (by first | rfl | (simp; done) | (simp [*]; done)), H', ⟨by have := HK1.out; omega⟩, by repeat (first | exact Drawn0.refl _ | apply Drawn0.step)⟩
      ·replace c8 := Bool.eq_false_iff.mpr c8
       subst c8
       have H1 : (some false) = some r := by rw [if_neg (show ¬ (false = true) by decide)] at H; exact H
       clear H
       have H := H1
       clear H1
       obtain rfl := Option.some.inj H
       have p101 : 0 ≤ (x11_1 : Int) := of_decide_eq_true (by first | (with_reducible assumption) | assumption)
       have q101 : x11_1 < (l0.length : Int) := of_decide_eq_true (by first | (with_reducible assumption) | assumption)
       obtain ⟨ad101, e101, hx101_0⟩ := Kd.at_int HR0.out x11_1 p101 q101
       cases e101
       replace p101 := eq_true p101
       replace q101 := eq_true q101
       go_wp2_with (first | ((with_reducible refine gate_callee (f := 55) rfl ?_); refine goesL_ (some 18) rfl rfl Try.func55 (by kernel_rfl) rfl #[.int .i64 (rd l0 x11_1), .int .i64 a1, .int .i64 a2] rfl (by (try simp only [mA, mC, mN]); first | done | rfl | (simp only [List.length_drop, List.length_take]; rfl)) ?_; (with_reducible refine (spec_l1In.calls (rd l0 x11_1) a1 a2 false _ A7.out).mono ?_); rintro e w' ⟨rfl, ⟨nd, rfl⟩⟩; refine ⟨_, rfl, ?_⟩))
       go_ret
       exact ⟨by first | rfl | (simp; done) | (simp [*]; done), by repeat (first | exact Drawn0.refl _ | apply Drawn0.step)⟩
     ·rw [if_neg c6] at H
      exact absurd H (by simp)
    ·rw [if_neg c5] at H
     exact absurd H (by simp)
   ·rw [if_neg c4] at H
    have c4b0 : decide (x11_1 < (l0.length : Int)) = false := decide_eq_false c4
    clear c4
    obtain rfl := Option.some.inj H
    go_wp2
    go_ret
    exact ⟨by first | rfl | (simp; done) | (simp [*]; done), by repeat (first | exact Drawn0.refl _ | apply Drawn0.step)⟩

end Go.Proofs.Ytmmmblfghhcndaa.Q

namespace Go.Proofs.Ytmmmblfghhcndaa.Q
open Go.RowKit Go.Proofs.YtmmmblfghhcndaaX Go.Proofs.YtmmmblfghhcndaaW.PrintWords Go.Proofs.YtmmmblfghhcndaaW.PrintLast Go.Proofs.YtmmmblfghhcndaaW.PrintMore
attribute [local go_sem] max2_int min2_int max_two min_two max_three min_three max_four min_four   -- for this text's walks alone
set_option linter.unusedVariables false
set_option linter.unusedSimpArgs false

/-! ### spec_voGood: function 71 -/
def spec_voGood.j0 : Nat → Bool → Int → List Int → Option (Bool)
 | 0, _, _, _ => none
 | k + 1, x13, x102000, x102001 => if x13 = true then (some false) else ((spec_voSum.f k x102001).bind fun t104 => ((spec_l1In.f x102000 1 t104).bind fun t105 => (some t105)))
def spec_voGood.f (k : Nat) (a0_0 : Int) (l0_1 : List Int) : Option (Bool) := (spec_l1In.f (l0_1.length : Int) 1 9).bind fun t102 => (if t102 = true then ((spec_l1All.f k l0_1 0 1000).bind fun t103 => (spec_voGood.j0 k (!t103) a0_0 l0_1)) else (spec_voGood.j0 k true a0_0 l0_1))
theorem spec_voGood.mono_l : ∀ k, (∀ y0 y1 y2, LeO (spec_voGood.j0 k y0 y1 y2) (spec_voGood.j0 (k + 1) y0 y1 y2))
 | 0 => fun _ _ _ r h => by simp [spec_voGood.j0] at h
 | k + 1 => by
  have ih0 := spec_voGood.mono_l k
  ·intro y0 y1 y2
   unfold spec_voGood.j0
   repeat' first
   | (with_reducible exact ih0 _ _ _)
   | (with_reducible exact spec_l1All.mono _ _ _ _)
   | (with_reducible exact spec_voSum.mono _ _)
   | (with_reducible exact LeO.refl _)
   | (with_reducible exact LeO.none _)
   | (with_reducible refine LeO.ite ?_ ?_)
   | (with_reducible refine LeO.bind ?_ (fun _ => ?_))
   | exact ih0 _ _ _
   | exact spec_l1All.mono _ _ _ _
   | exact spec_voSum.mono _ _
   | exact LeO.none _
   | refine LeO.ite ?_ ?_
   | refine LeO.bind ?_ (fun _ => ?_)
theorem spec_voGood.mono : ∀ a0 a1 k, LeO (spec_voGood.f k a0 a1) (spec_voGood.f (k + 1) a0 a1) := by
 intro a0 a1 k
 have ih0 := spec_voGood.mono_l k
 unfold spec_voGood.f
 repeat' first
   | (with_reducible exact ih0 _ _ _)
   | (with_reducible exact spec_l1All.mono _ _ _ _)
   | (with_reducible exact spec_voSum.mono _ _)
   | (with_reducible exact LeO.refl _)
   | (with_reducible exact LeO.none _)
   | (with_reducible refine LeO.ite ?_ ?_)
   | (with_reducible refine LeO.bind ?_ (fun _ => ?_))
   | exact ih0 _ _ _
   | exact spec_l1All.mono _ _ _ _
   | exact spec_voSum.mono _ _
   | exact LeO.none _
   | refine LeO.ite ?_ ?_
   | refine LeO.bind ?_ (fun _ => ?_)
set_option maxHeartbeats 8000000 in
set_option maxRecDepth 100000 in
theorem spec_voGood.calls (k : Nat) (a0_0 : Int) (A0_1 : Option Addr) (c0_1 : Nat) (l0_1 : List Int) (r : Bool) (w : World) (hr0_1 : Kd.C (Kd.int .i64) w A0_1 l0_1.length l0_1) (hc0_1 : l0_1.length ≤ c0_1) (h : spec_voGood.f k a0_0 l0_1 = some r) :
  Calls Try.prog 71 #[.agg #[.int .i64 a0_0, .slice A0_1 l0_1.length c0_1]] w fun e w' => e = .returned (.bool r) ∧ Below w.heap.size w w' := by
 have hu41 := Try.underlying41
 have HR0_1 := Aside0.mk hr0_1
 have HC0_1 := Aside0.mk hc0_1
 clear hr0_1 hc0_1
 have HB := Aside0.mk (Below.refl w.heap.size w)
 have H : ((spec_l1In.f (l0_1.length : Int) 1 9).bind fun t102 => (if t102 = true then ((spec_l1All.f k l0_1 0 1000).bind fun t103 => (spec_voGood.j0 k (!t103) a0_0 l0_1)) else (spec_voGood.j0 k true a0_0 l0_1))) = some r := h
 clear h
 have HC2 := Aside0.mk H
 clear H
 go_enter Try.func71, Try.ntmps71
 go_upto_region 1 with (first | ((with_reducible refine gate_dst (N := 1) rfl ?_); refine box_event ?hg (N := 1) ?hd (cs := #[.int .i64 a0_0, .slice A0_1 l0_1.length c0_1]) (t := 41) ?hr ?_; (case hd => rfl); (case hg => rfl); (case hr => first | (go_simp; done) | (go_simp; rfl)); intro gb101 hg w3 hbox hb; have n0_ := Aside0.mk (below_step (by repeat (first | (with_reducible first | exact HB.out | apply ba | apply bd | apply be) | exact HB.out)) hb); have n1_ := Aside0.mk (hbox); have n2_ := Aside0.mk ((by rw [hg]; exact (below_size (by repeat (first | (with_reducible first | exact HB.out | apply ba | apply bd | apply be) | exact HB.out))) : w.heap.size ≤ gb101)); have n3_ := Aside0.mk ((by rw [hg]; exact (below_size (by repeat (first | (with_reducible first | exact HB.out | apply ba | apply bd | apply be) | exact HB.out))) : w.heap.size ≤ gb101)); clear HB; have HB := n0_; have BK101 := n1_; have GW101 := n2_; have GE101 := n3_; clear n0_ n1_ n2_ n3_; clear hb hbox hg))
 repeat (go_quiet (first | ((with_reducible refine gate_dst (N := 1) rfl ?_); refine box_event ?hg (N := 1) ?hd (cs := #[.int .i64 a0_0, .slice A0_1 l0_1.length c0_1]) (t := 41) ?hr ?_; (case hd => rfl); (case hg => rfl); (case hr => first | (go_simp; done) | (go_simp; rfl)); intro gb101 hg w3 hbox hb; have n0_ := Aside0.mk (below_step (by repeat (first | (with_reducible first | exact HB.out | apply ba | apply bd | apply be) | exact HB.out)) hb); have n1_ := Aside0.mk (hbox); have n2_ := Aside0.mk ((by rw [hg]; exact (below_size (by repeat (first | (with_reducible first | exact HB.out | apply ba | apply bd | apply be) | exact HB.out))) : w.heap.size ≤ gb101)); have n3_ := Aside0.mk ((by rw [hg]; exact (below_size (by repeat (first | (with_reducible first | exact HB.out | apply ba | apply bd | apply be) | exact HB.out))) : w.heap.size ≤ gb101)); clear HB; have HB := n0_; have BK101 := n1_; have GW101 := n2_; have GE101 := n3_; clear n0_ n1_ n2_ n3_; clear hb hbox hg)); go_upto_region 1 with (first | ((with_reducible refine gate_dst (N := 1) rfl ?_); refine box_event ?hg (N := 1) ?hd (cs := #[.int .i64 a0_0, .slice A0_1 l0_1.length c0_1]) (t := 41) ?hr ?_; (case hd => rfl); (case hg => rfl); (case hr => first | (go_simp; done) | (go_simp; rfl)); intro gb101 hg w3 hbox hb; have n0_ := Aside0.mk (below_step (by repeat (first | (with_reducible first | exact HB.out | apply ba | apply bd | apply be) | exact HB.out)) hb); have n1_ := Aside0.mk (hbox); have n2_ := Aside0.mk ((by rw [hg]; exact (below_size (by repeat (first | (with_reducible first | exact HB.out | apply ba | apply bd | apply be) | exact HB.out))) : w.heap.size ≤ gb101)); have n3_ := Aside0.mk ((by rw [hg]; exact (below_size (by repeat (first | (with_reducible first | exact HB.out | apply ba | apply bd | apply be) | exact HB.out))) : w.heap.size ≤ gb101)); clear HB; have HB := n0_; have BK101 := n1_; have GW101 := n2_; have GE101 := n3_; clear n0_ n1_ n2_ n3_; clear hb hbox hg)))
 (try simp only [Act.put, sA, sZ, sS])
 go_cut [13] (fun v13 wc => ∃ (kq : Nat) (x13_1 : Bool), v13 = .bool x13_1 ∧ Aside0 (spec_voGood.j0 kq x13_1 a0_0 l0_1 = some r) ∧ Aside0 (kq ≤ k) ∧ Aside0 (wc.heap[gb101]? = some (.cells #[.int .i64 a0_0, (.slice A0_1 l0_1.length c0_1)] 41 (0, 0))) ∧ Aside0 (Below w.heap.size w wc))
 case first =>
  have H := HC2.out
  clear HC2
  replace H := oB H
  obtain ⟨t102, A40, H⟩ := H
  replace H : (if t102 = true then ((spec_l1All.f k l0_1 0 1000).bind fun t103 => (spec_voGood.j0 k (!t103) a0_0 l0_1)) else (spec_voGood.j0 k true a0_0 l0_1)) = some r := H
  have A4 := Aside0.mk A40
  clear A40
  by_cases c5 : t102 = true
  ·subst c5
   have H1 : ((spec_l1All.f k l0_1 0 1000).bind fun t103 => (spec_voGood.j0 k (!t103) a0_0 l0_1)) = some r := by rw [if_pos rfl] at H; exact H
   clear H
   have H := H1
   clear H1
   replace H := oB H
   obtain ⟨t103, A60, H⟩ := H
   replace H : (spec_voGood.j0 k (!t103) a0_0 l0_1) = some r := H
   have A6 := Aside0.mk A60
   clear A60
   have H' := Aside0.mk H
   clear H
   have hcz7_0 : w3.cell? ⟨gb101, 0, none⟩ = some (.int .i64 a0_0) := (blk_cell BK101.out 0).trans rfl
   have hcz7_1 : w3.cell? ⟨gb101, 1, none⟩ = some (.slice A0_1 l0_1.length c0_1) := (blk_cell BK101.out 1).trans rfl
   have hfz7_0 := blk_frozen BK101.out 0
   have hfz7_1 := blk_frozen BK101.out 1
   go_wp2_with (first | (go_at_call 55; (with_reducible refine (spec_l1In.calls (l0_1.length : Int) 1 9 true _ A4.out).mono ?_); rintro e w' ⟨rfl, ⟨nd, rfl⟩⟩; (try first | exact ⟨rfl, _, World.drewN_drewN _ _ _⟩ | exact ⟨rfl, _, Eq.trans (World.drewN_drewN _ _ _) (congrArg (World.drewN _) (Nat.add_assoc _ _ _))⟩)) | (go_at_call 112; (with_reducible refine (spec_l1All.calls k _ _ l0_1 0 1000 t103 _ ?side1 ?side2 A6.out).mono ?_); (case side1 => repeat (first | exact (Kd.C_below HR0_1.out (by repeat (first | (with_reducible first | exact HB.out | apply ba | apply bd | apply be | refine bs ?_ GE101.out) | exact HB.out))) | (with_reducible refine Kd.C_alloc ?_ _) | (with_reducible refine Kd.C_drewN ?_ _) | (with_reducible refine Kd.C_drew ?_))); (case side2 => exact HC0_1.out); rintro e w' ⟨rfl, ⟨nd, rfl⟩⟩; (try first | exact ⟨rfl, _, World.drewN_drewN _ _ _⟩ | exact ⟨rfl, _, Eq.trans (World.drewN_drewN _ _ _) (congrArg (World.drewN _) (Nat.add_assoc _ _ _))⟩)))
   repeat (go_quiet (first | (go_at_call 55; (with_reducible refine (spec_l1In.calls (l0_1.length : Int) 1 9 true _ A4.out).mono ?_); rintro e w' ⟨rfl, ⟨nd, rfl⟩⟩; (try first | exact ⟨rfl, _, World.drewN_drewN _ _ _⟩ | exact ⟨rfl, _, Eq.trans (World.drewN_drewN _ _ _) (congrArg (World.drewN _) (Nat.add_assoc _ _ _))⟩)) | (go_at_call 112; (with_reducible refine (spec_l1All.calls k _ _ l0_1 0 1000 t103 _ ?side1 ?side2 A6.out).mono ?_); (case side1 => repeat (first | exact (Kd.C_below HR0_1.out (by repeat (first | (with_reducible first | exact HB.out | apply ba | apply bd | apply be | refine bs ?_ GE101.out) | exact HB.out))) | (with_reducible refine Kd.C_alloc ?_ _) | (with_reducible refine Kd.C_drewN ?_ _) | (with_reducible refine Kd.C_drew ?_))); (case side2 => exact HC0_1.out); rintro e w' ⟨rfl, ⟨nd, rfl⟩⟩; (try first | exact ⟨rfl, _, World.drewN_drewN _ _ _⟩ | exact ⟨rfl, _, Eq.trans (World.drewN_drewN _ _ _) (congrArg (World.drewN _) (Nat.add_assoc _ _ _))⟩))); try go_wp2_with (first | (go_at_call 55; (with_reducible refine (spec_l1In.calls (l0_1.length : Int) 1 9 true _ A4.out).mono ?_); rintro e w' ⟨rfl, ⟨nd, rfl⟩⟩; (try first | exact ⟨rfl, _, World.drewN_drewN _ _ _⟩ | exact ⟨rfl, _, Eq.trans (World.drewN_drewN _ _ _) (congrArg (World.drewN _) (Nat.add_assoc _ _ _))⟩)) | (go_at_call 112; (with_reducible refine (spec_l1All.calls k _ _ l0_1 0 1000 t103 _ ?side1 ?side2 A6.out).mono ?_); (case side1 => repeat (first | exact (Kd.C_below HR0_1.out (by repeat (first | (with_reducible first | exact HB.out | apply ba | apply bd | apply be | refine bs ?_ GE101.out) | exact HB.out))) | (with_reducible refine Kd.C_alloc ?_ _) | (with_reducible refine Kd.C_drewN ?_ _) | (with_reducible refine Kd.C_drew ?_))); (case side2 => exact HC0_1.out); rintro e w' ⟨rfl, ⟨nd, rfl⟩⟩; (try first | exact ⟨rfl, _, World.drewN_drewN _ _ _⟩ | exact ⟨rfl, _, Eq.trans (World.drewN_drewN _ _ _) (congrArg (World.drewN _) (Nat.add_assoc _ _ _))⟩))))
   go_meet
   case rel => exact ⟨_, (!t103), (by first | rfl | (simp; done) | (simp [*]; done)), H', ⟨by first | omega | exact Nat.le_refl _⟩, ⟨by (first | exact bp BK101.out | exact BK101.out)⟩, ⟨by repeat (first | (with_reducible first | exact HB.out | apply ba | apply bd | apply be | refine bs ?_ GE101.out) | exact HB.out)⟩⟩
  ·replace c5 := Bool.eq_false_iff.mpr c5
   subst c5
   have H1 : (spec_voGood.j0 k true a0_0 l0_1) = some r := by rw [if_neg (show ¬ (false = true) by decide)] at H; exact H
   clear H
   have H := H1
   clear H1
   have H' := Aside0.mk H
   clear H
   have hcz8_0 : w3.cell? ⟨gb101, 0, none⟩ = some (.int .i64 a0_0) := (blk_cell BK101.out 0).trans rfl
   have hcz8_1 : w3.cell? ⟨gb101, 1, none⟩ = some (.slice A0_1 l0_1.length c0_1) := (blk_cell BK101.out 1).trans rfl
   have hfz8_0 := blk_frozen BK101.out 0
   have hfz8_1 := blk_frozen BK101.out 1
   go_wp2_with (first | (go_at_call 55; (with_reducible refine (spec_l1In.calls (l0_1.length : Int) 1 9 false _ A4.out).mono ?_); rintro e w' ⟨rfl, ⟨nd, rfl⟩⟩; (try first | exact ⟨rfl, _, World.drewN_drewN _ _ _⟩ | exact ⟨rfl, _, Eq.trans (World.drewN_drewN _ _ _) (congrArg (World.drewN _) (Nat.add_assoc _ _ _))⟩)))
   repeat (go_quiet (first | (go_at_call 55; (with_reducible refine (spec_l1In.calls (l0_1.length : Int) 1 9 false _ A4.out).mono ?_); rintro e w' ⟨rfl, ⟨nd, rfl⟩⟩; (try first | exact ⟨rfl, _, World.drewN_drewN _ _ _⟩ | exact ⟨rfl, _, Eq.trans (World.drewN_drewN _ _ _) (congrArg (World.drewN _) (Nat.add_assoc _ _ _))⟩))); try go_wp2_with (first | (go_at_call 55; (with_reducible refine (spec_l1In.calls (l0_1.length : Int) 1 9 false _ A4.out).mono ?_); rintro e w' ⟨rfl, ⟨nd, rfl⟩⟩; (try first | exact ⟨rfl, _, World.drewN_drewN _ _ _⟩ | exact ⟨rfl, _, Eq.trans (World.drewN_drewN _ _ _) (congrArg (World.drewN _) (Nat.add_assoc _ _ _))⟩))))
   go_meet
   case rel => exact ⟨_, (true), (by first | rfl | (simp; done) | (simp [*]; done)), H', ⟨by first | omega | exact Nat.le_refl _⟩, ⟨by (first | exact bp BK101.out | exact BK101.out)⟩, ⟨by repeat (first | (with_reducible first | exact HB.out | apply ba | apply bd | apply be | refine bs ?_ GE101.out) | exact HB.out)⟩⟩
 case rest =>
  clear HC2
  try clear p2
  try clear c5
  try clear c7
  try clear hcz7_0
  try clear hcz7_1
  try clear hcz8_0
  try clear hcz8_1
  try clear hfz7_0
  try clear hfz7_1
  try clear hfz8_0
  try clear hfz8_1
  obtain ⟨kq, x13_1, rfl, HA, HJ1, BK101, HB⟩ := hcut
  cases kq with
  | zero => exact absurd HA.out (by simp [spec_voGood.j0])
  | succ kj1 =>
   have H := HA.out
   clear HA
   simp only [spec_voGood.j0] at H
   by_cases c9 : x13_1 = true
   ·subst c9
    have H1 : (some false) = some r := by rw [if_pos rfl] at H; exact H
    clear H
    have H := H1
    clear H1
    obtain rfl := Option.some.inj H
    go_wp2
    repeat (go_quiet (fail); try go_wp2)
    go_ret
    exact ⟨by first | rfl | (simp <;> rfl) | (simp [*] <;> rfl), by repeat (first | (with_reducible first | exact HB.out | apply ba | apply bd | apply be | refine bs ?_ GE101.out) | exact HB.out)⟩
   ·replace c9 := Bool.eq_false_iff.mpr c9
    subst c9
    have H1 : ((spec_voSum.f kj1 l0_1).bind fun t104 => ((spec_l1In.f a0_0 1 t104).bind fun t105 => (some t105))) = some r := by rw [if_neg (show ¬ (false = true) by decide)] at H; exact H
    clear H
    have H := H1
    clear H1
    replace H := oB H
    obtain ⟨t104, A100, H⟩ := H
    replace H : ((spec_l1In.f a0_0 1 t104).bind fun t105 => (some t105)) = some r := H
    have A10 := Aside0.mk A100
    clear A100
    replace H := oB H
    obtain ⟨t105, A110, H⟩ := H
    replace H : (some t105) = some r := H
    have A11 := Aside0.mk A110
    clear A110
    obtain rfl := Option.some.inj H
    have hcz12_0 : wc.cell? ⟨gb101, 0, none⟩ = some (.int .i64 a0_0) := (blk_cell BK101.out 0).trans rfl
    have hcz12_1 : wc.cell? ⟨gb101, 1, none⟩ = some (.slice A0_1 l0_1.length c0_1) := (blk_cell BK101.out 1).trans rfl
    have hfz12_0 := blk_frozen BK101.out 0
    have hfz12_1 := blk_frozen BK101.out 1
    go_wp2_with (first | (go_at_call 87; (with_reducible refine (spec_voSum.calls kj1 _ _ l0_1 t104 _ ?side1 ?side2 A10.out).mono ?_); (case side1 => repeat (first | exact (Kd.C_below HR0_1.out HB.out) | (with_reducible refine Kd.C_alloc ?_ _) | (with_reducible refine Kd.C_drewN ?_ _) | (with_reducible refine Kd.C_drew ?_))); (case side2 => exact HC0_1.out); rintro e w' ⟨rfl, ⟨nd, rfl⟩⟩; (try first | exact ⟨rfl, _, World.drewN_drewN _ _ _⟩ | exact ⟨rfl, _, Eq.trans (World.drewN_drewN _ _ _) (congrArg (World.drewN _) (Nat.add_assoc _ _ _))⟩)) | (go_at_call 55; (with_reducible refine (spec_l1In.calls a0_0 1 t104 t105 _ A11.out).mono ?_); rintro e w' ⟨rfl, ⟨nd, rfl⟩⟩; (try first | exact ⟨rfl, _, World.drewN_drewN _ _ _⟩ | exact ⟨rfl, _, Eq.trans (World.drewN_drewN _ _ _) (congrArg (World.drewN _) (Nat.add_assoc _ _ _))⟩)))
    repeat (go_quiet (first | (go_at_call 87; (with_reducible refine (spec_voSum.calls kj1 _ _ l0_1 t104 _ ?side1 ?side2 A10.out).mono ?_); (case side1 => repeat (first | exact (Kd.C_below HR0_1.out HB.out) | (with_reducible refine Kd.C_alloc ?_ _) | (with_reducible refine Kd.C_drewN ?_ _) | (with_reducible refine Kd.C_drew ?_))); (case side2 => exact HC0_1.out); rintro e w' ⟨rfl, ⟨nd, rfl⟩⟩; (try first | exact ⟨rfl, _, World.drewN_drewN _ _ _⟩ | exact ⟨rfl, _, Eq.trans (World.drewN_drewN _ _ _) (congrArg (World.drewN _) (Nat.add_assoc _ _ _))⟩)) | (go_at_call 55; (with_reducible refine (spec_l1In.calls a0_0 1 t104 t105 _ A11.out).mono ?_); rintro e w' ⟨rfl, ⟨nd, rfl⟩⟩; (try first | exact ⟨rfl, _, World.drewN_drewN _ _ _⟩ | exact ⟨rfl, _, Eq.trans (World.drewN_drewN _ _ _) (congrArg (World.drewN _) (Nat.add_assoc _ _ _))⟩))); try go_wp2_with (first | (go_at_call 87; (with_reducible refine (spec_voSum.calls kj1 _ _ l0_1 t104 _ ?side1 ?side2 A10.out).mono ?_); (case side1 => repeat (first | exact (Kd.C_below HR0_1.out HB.out) | (with_reducible refine Kd.C_alloc ?_ _) | (with_reducible refine Kd.C_drewN ?_ _) | (with_reducible refine Kd.C_drew ?_))); (case side2 => exact HC0_1.out); rintro e w' ⟨rfl, ⟨nd, rfl⟩⟩; (try first | exact ⟨rfl, _, World.drewN_drewN _ _ _⟩ | exact ⟨rfl, _, Eq.trans (World.drewN_drewN _ _ _) (congrArg (World.drewN _) (Nat.add_assoc _ _ _))⟩)) | (go_at_call 55; (with_reducible refine (spec_l1In.calls a0_0 1 t104 t105 _ A11.out).mono ?_); rintro e w' ⟨rfl, ⟨nd, rfl⟩⟩; (try first | exact ⟨rfl, _, World.drewN_drewN _ _ _⟩ | exact ⟨rfl, _, Eq.trans (World.drewN_drewN _ _ _) (congrArg (World.drewN _) (Nat.add_assoc _ _ _))⟩))))
    go_ret
    exact ⟨by first | rfl | (simp <;> rfl) | (simp [*] <;> rfl), by repeat (first | (with_reducible first | exact HB.out | apply ba | apply bd | apply be | refine bs ?_ GE101.out) | exact HB.out)⟩

end Go.Proofs.Ytmmmblfghhcndaa.Q

namespace Go.Proofs.Ytmmmblfghhcndaa.Q
open Go.RowKit Go.Proofs.YtmmmblfghhcndaaW.PrintWords Go.Proofs.YtmmmblfghhcndaaW.PrintLast Go.Proofs.YtmmmblfghhcndaaW.PrintMore Go.Proofs.YtmmmblfghhcndaaM
set_option linter.unusedVariables false
set_option linter.unusedSimpArgs false
theorem spec_l1In.v (a b c : Int) : spec_l1In.f a b c = some (decide (b ≤ a) && decide (a ≤ c)) := by
  unfold spec_l1In.f
  by_cases h : b ≤ a
  · rw [if_pos h]; simp [h]
  · rw [if_neg h]; simp [h]
theorem spec_l1All.ev_l (l : List Int) (lo hi : Int) (hl : l.length ≤ 9223372036854775807) : ∀ (d i : Nat), i + d = l.length → Ev (fun k => spec_l1All.l0 k lo hi l (l.length : Int) (i : Int)) ((l.drop i).all fun x => decide (lo ≤ x) && decide (x ≤ hi)) := by
  intro d
  induction d with
  | zero =>
    intro i h
    refine ev_step ?_
    simp only [spec_l1All.l0]
    rw [ev_neg (by omega), ev_now, List.drop_of_length_le (by omega)]
    rfl
  | succ d ih =>
    intro i h
    refine ev_step ?_
    simp only [spec_l1All.l0]
    have hi' : i < l.length := by omega
    rw [ev_pos (by omega), ev_pos (by omega), ev_pos (by omega), w64i (n := l.length) (by omega) (by omega) hl, rd_lt l i hi', List.drop_eq_getElem_cons hi', List.all_cons, ev_bind (ev_of (spec_l1In.v _ _ _))]
    cases hb : (decide (lo ≤ l[i]) && decide (l[i] ≤ hi)) with
    | true =>
      rw [ev_pos rfl, Bool.true_and]
      exact ih (i + 1) (by omega)
    | false =>
      rw [ev_neg (by decide), ev_now]
      rfl
theorem spec_l1All.ev (l : List Int) (lo hi : Int) (hl : l.length ≤ 9223372036854775807) : Ev (fun k => spec_l1All.f k l lo hi) (l.all fun x => decide (lo ≤ x) && decide (x ≤ hi)) := spec_l1All.ev_l l lo hi hl l.length 0 (by omega)
theorem spec_voGood.ev (q : Int) (l : List Int) (hl : l.length ≤ 9223372036854775807) : Ev (fun k => spec_voGood.f k q l) (goodB q l) := by
  simp only [spec_voGood.f]
  rw [ev_bind (ev_of (spec_l1In.v _ _ _))]
  unfold goodB
  by_cases h1 : 1 ≤ (l.length : Int) ∧ (l.length : Int) ≤ 9
  · rw [ev_pos (by simp [h1]), ev_bind (spec_l1All.ev l 0 1000 hl)]
    refine ev_step ?_
    simp only [spec_voGood.j0]
    cases hb : (l.all fun x => decide (0 ≤ x) && decide (x ≤ 1000)) with
    | true =>
      rw [ev_neg (by simp), ev_bind (spec_voSum.ev l hl), ev_bind (ev_of (spec_l1In.v _ _ _)), ev_now, wfold_w l (by omega) hb]
      have e1 : 1 ≤ l.length := by omega
      have e2 : l.length ≤ 9 := by omega
      simp [e1, e2]
    | false =>
      rw [ev_pos (by simp), ev_now]
      simp
  · rw [ev_neg (by simpa using h1)]
    refine ev_step ?_
    simp only [spec_voGood.j0]
    rw [ev_pos (by simp), ev_now]
    have : ¬ (1 ≤ l.length ∧ l.length ≤ 9) := by omega
    by_cases e1 : 1 ≤ l.length
    · have e2 : ¬ l.length ≤ 9 := by omega
      simp [e2]
    · simp [e1]
end Go.Proofs.Ytmmmblfghhcndaa.Q

namespace Go.Proofs.Ytmmmblfghhcndaa.Q
open Go.RowKit Go.Proofs.YtmmmblfghhcndaaW.PrintWords Go.Proofs.YtmmmblfghhcndaaW.PrintLast Go.Proofs.YtmmmblfghhcndaaW.PrintMore Go.Proofs.YtmmmblfghhcndaaM
set_option linter.unusedVariables false
set_option linter.unusedSimpArgs false
theorem spec_l1Rising.ev_l (l : List Int) (lo hi : Int) (hl : l.length ≤ 9223372036854775807) : ∀ (d i : Nat), i + d = l.length → Ev (fun k => spec_l1Rising.l0 k l lo hi l (l.length : Int) (i : Int)) (((l.drop i).all fun x => decide (lo ≤ x) && decide (x ≤ hi)) && incB (l.drop (i - 1))) := by
  intro d
  induction d with
  | zero =>
    intro i h
    refine ev_step ?_
    simp only [spec_l1Rising.l0]
    rw [ev_neg (by omega), ev_now, incB_short (by rw [List.length_drop]; omega), List.drop_of_length_le (by omega)]
    rfl
  | succ d ih =>
    intro i h
    refine ev_step ?_
    simp only [spec_l1Rising.l0]
    have hi' : i < l.length := by omega
    rw [ev_pos (by omega), ev_pos (by omega), ev_pos (by omega), w64i (n := l.length) (by omega) (by omega) hl, rd_lt l i hi', ev_bind (ev_of (spec_l1In.v _ _ _)), show (l.drop i).all (fun x => decide (lo ≤ x) && decide (x ≤ hi)) = ((decide (lo ≤ l[i]) && decide (l[i] ≤ hi)) && (l.drop (i + 1)).all fun x => decide (lo ≤ x) && decide (x ≤ hi)) by rw [List.drop_eq_getElem_cons hi', List.all_cons]]
    cases hb : (decide (lo ≤ l[i]) && decide (l[i] ≤ hi)) with
    | false =>
      rw [ev_neg (by decide), ev_now]
      simp
    | true =>
      rw [ev_pos rfl, Bool.true_and]
      by_cases h0 : i = 0
      · subst h0
        rw [ev_neg (by omega)]
        exact ih 1 (by omega)
      · have e1 : (i : Int) - 1 = ((i - 1 : Nat) : Int) := by omega
        rw [ev_pos (by omega), w64 (by omega) (by omega), e1, ev_pos (by omega), ev_pos (by omega), rd_lt l (i - 1) (by omega), incB_at l i (by omega) hi']
        by_cases hc : l[i - 1] ≥ l[i]
        · rw [ev_pos hc, ev_now, decide_eq_false (by omega)]
          simp
        · rw [ev_neg hc, decide_eq_true (by omega), Bool.true_and]
          have := ih (i + 1) (by omega)
          rw [Nat.add_sub_cancel] at this
          exact this
theorem spec_voSet.ev (n : Int) (l : List Int) (h0 : 0 ≤ n) (h9 : n ≤ 1000) (hl : l.length ≤ 9223372036854775807) : Ev (fun k => spec_voSet.f k n l) (setB n l) := by
  simp only [spec_voSet.f]
  have h := spec_l1Rising.ev_l l 0 (n - 1) hl l.length 0 (by omega)
  rw [List.drop_zero] at h
  rw [w64 (by omega) (by omega), ev_bind (show Ev (fun k => spec_l1Rising.f k l 0 (n - 1)) (setB n l) from h), ev_now]
end Go.Proofs.Ytmmmblfghhcndaa.Q

namespace Go.Proofs.Ytmmmblfghhcndaa.Q
open Go.RowKit Go.Proofs.YtmmmblfghhcndaaW.PrintWords Go.Proofs.YtmmmblfghhcndaaW.PrintLast Go.Proofs.YtmmmblfghhcndaaW.PrintMore Go.Proofs.YtmmmblfghhcndaaM
set_option linter.unusedVariables false
set_option linter.unusedSimpArgs false
theorem spec_gmSets.ev_l (n : Int) (l : List (List Int)) (h0 : 0 ≤ n) (h9 : n ≤ 1000) (hl : l.length ≤ 9223372036854775807) (hx : ∀ x ∈ l, x.length ≤ 9223372036854775807) : ∀ (d i : Nat), i + d = l.length → Ev (fun k => spec_gmSets.l0 k n l (l.length : Int) (i : Int)) (setsB n (l.drop i)) := by
  intro d
  induction d with
  | zero =>
    intro i h
    refine ev_step ?_
    simp only [spec_gmSets.l0]
    rw [ev_neg (by omega), ev_now, List.drop_of_length_le (by omega)]
    rfl
  | succ d ih =>
    intro i h
    refine ev_step ?_
    simp only [spec_gmSets.l0]
    have hi : i < l.length := by omega
    have e : setsB n (l.drop i) = ((!(decide ((l[i].length : Int) = 0)) && setB n l[i]) && setsB n (l.drop (i + 1))) := by
      unfold setsB
      rw [List.drop_eq_getElem_cons hi, List.all_cons]
    rw [ev_pos (by omega), ev_pos (by omega), ev_pos (by omega), w64i (n := l.length) (by omega) (by omega) hl, rd_L2_lt l i hi, e]
    by_cases hc : (l[i].length : Int) = 0
    · rw [ev_pos hc, ev_now, decide_eq_true hc]
      rfl
    · rw [ev_neg hc, decide_eq_false hc, ev_bind (spec_voSet.ev n l[i] h0 h9 (hx _ (List.getElem_mem hi)))]
      cases setB n l[i] with
      | true =>
        rw [ev_pos rfl]
        exact ih (i + 1) (by omega)
      | false =>
        rw [ev_neg (by decide), ev_now]
        rfl
theorem spec_gmSets.ev (n : Int) (l : List (List Int)) (most : Int) (hl : l.length ≤ 9223372036854775807) (hx : ∀ x ∈ l, x.length ≤ 9223372036854775807) : Ev (fun k => spec_gmSets.f k n l most) ((decide (1 ≤ n) && decide (n ≤ 9)) && ((decide (1 ≤ (l.length : Int)) && decide ((l.length : Int) ≤ most)) && setsB n l)) := by
  simp only [spec_gmSets.f]
  rw [ev_bind (ev_of (spec_l1In.v _ _ _))]
  cases h1 : (decide (1 ≤ n) && decide (n ≤ 9)) with
  | false =>
    rw [ev_neg (by decide)]
    refine ev_step ?_
    simp only [spec_gmSets.j0]
    rw [ev_pos trivial, ev_now]
    rfl
  | true =>
    simp only [Bool.and_eq_true, decide_eq_true_eq] at h1
    rw [ev_pos rfl, ev_bind (ev_of (spec_l1In.v _ _ _)), Bool.true_and]
    refine ev_step ?_
    simp only [spec_gmSets.j0]
    cases (decide (1 ≤ (l.length : Int)) && decide ((l.length : Int) ≤ most)) with
    | false =>
      rw [ev_pos (by decide), ev_now]
      rfl
    | true =>
      rw [ev_neg (by decide), Bool.true_and]
      exact spec_gmSets.ev_l n l (by omega) (by omega) hl hx l.length 0 (by omega)
theorem spec_gmGood.ev_l1 (n : Int) (l : List (List Int)) (hl : l.length ≤ 9223372036854775807) (hs : ∀ x ∈ l, x.length ≤ 9223372036854775807 ∧ (∀ y ∈ x, 0 ≤ y ∧ y ≤ 8) ∧ maskN x < 512) (i : Nat) (hi : i < l.length) (R : Bool) (hR : Ev (fun k => spec_gmGood.l0 k l (l.length : Int) ((i : Int) + 1) n l) R) : ∀ (d j : Nat), j + d = i → Ev (fun k => spec_gmGood.l1 k ((maskN l[i] : Nat) : Int) l (l.length : Int) (i : Int) (l.take i) ((l.take i).length : Int) (j : Int) n l) ((List.range' j d).all (gInS l i) && R) := by
  have ht : (l.take i).length = i := by rw [List.length_take]; omega
  intro d
  induction d with
  | zero =>
    intro j h
    refine ev_step ?_
    simp only [spec_gmGood.l1]
    rw [ev_neg (by omega), w64i (n := l.length) (by omega) (by omega) hl]
    exact hR
  | succ d ih =>
    intro j h
    refine ev_step ?_
    simp only [spec_gmGood.l1]
    have hj : j < l.length := by omega
    have hjt : j < (l.take i).length := by omega
    obtain ⟨hx1, hx2, hx3⟩ := hs l[i] (List.getElem_mem hi)
    obtain ⟨hy1, hy2, hy3⟩ := hs l[j] (List.getElem_mem hj)
    have m2 := spec_voBits.ev l[j] hy1 (fun y hy => by have := hy2 y hy; omega)
    rw [ev_pos (by omega), ev_pos (by omega), ev_pos (by omega), w64i (i := (j : Int)) (n := l.length) (by omega) (by omega) hl, List.range'_succ, List.all_cons, rd_L2_lt (l.take i) j hjt, List.getElem_take, ev_bind m2, and_nat _ _ (by omega) (by omega), gInS, mAt_lt l i hi, mAt_lt l j hj]
    by_cases c : maskN l[i] &&& maskN l[j] = maskN l[i]
    · rw [ev_pos (by rw [c]), ev_now, decide_eq_true c]
      rfl
    · rw [ev_neg (by omega), decide_eq_false c]
      by_cases c2 : maskN l[i] &&& maskN l[j] = maskN l[j]
      · rw [ev_pos (by rw [c2]), ev_now, decide_eq_true c2]
        rfl
      · rw [ev_neg (by omega), decide_eq_false c2]
        exact ih (j + 1) (by omega)
theorem spec_gmGood.ev_l0 (n : Int) (l : List (List Int)) (hl : l.length ≤ 9223372036854775807) (hs : ∀ x ∈ l, x.length ≤ 9223372036854775807 ∧ (∀ y ∈ x, 0 ≤ y ∧ y ≤ 8) ∧ maskN x < 512) : ∀ (d i : Nat), i + d = l.length → Ev (fun k => spec_gmGood.l0 k l (l.length : Int) (i : Int) n l) ((List.range' i d).all (gS l)) := by
  intro d
  induction d with
  | zero =>
    intro i h
    refine ev_step ?_
    simp only [spec_gmGood.l0]
    rw [ev_neg (by omega), ev_now]
    rfl
  | succ d ih =>
    intro i h
    refine ev_step ?_
    simp only [spec_gmGood.l0]
    have hi : i < l.length := by omega
    obtain ⟨hx1, hx2, hx3⟩ := hs l[i] (List.getElem_mem hi)
    have m1 := spec_voBits.ev l[i] hx1 (fun y hy => by have := hx2 y hy; omega)
    rw [ev_pos (by omega), ev_pos (by omega), ev_pos (by omega), rd_L2_lt l i hi, List.range'_succ, List.all_cons]
    have hin : Ev (fun k => spec_gmGood.l1 k ((maskN l[i] : Nat) : Int) l (l.length : Int) (i : Int) (l.take i) ((l.take i).length : Int) ((0 : Nat) : Int) n l) ((List.range' 0 i).all (gInS l i) && (List.range' (i + 1) d).all (gS l)) := spec_gmGood.ev_l1 n l hl hs i hi _ (by have := ih (i + 1) (by omega); exact this) i 0 (by omega)
    by_cases e : i = 0
    · rw [ev_neg (by omega)]
      refine ev_step ?_
      simp only [spec_gmGood.j1]
      rw [ev_neg (by decide), ev_bind m1, ev_pos (by omega), ev_pos (by omega), Int.toNat_natCast, gS, show gOrd l i = true by simp [gOrd, e], Bool.true_and]
      exact hin
    · have e1 : (i : Int) - 1 = ((i - 1 : Nat) : Int) := by omega
      rw [ev_pos (by omega), w64 (by omega) (by omega), e1, ev_pos (by omega), ev_pos (by omega), rd_L2_lt l (i - 1) (by omega), ev_bind (spec_voBefore.ev _ _ (hs _ (List.getElem_mem (by omega))).1)]
      refine ev_step ?_
      simp only [spec_gmGood.j1]
      rw [gS, gOrd_pos l i e hi]
      by_cases c : cmpL (l[i - 1]'(by omega)) l[i] < 0
      · rw [ev_neg (by simp [c]), decide_eq_true c, Bool.true_and, ev_bind m1, ev_pos (by omega), ev_pos (by omega), Int.toNat_natCast]
        exact hin
      · rw [ev_pos (by simp; omega), ev_now, decide_eq_false c]
        rfl
theorem spec_gmGood.ev (n : Int) (l : List (List Int)) (hl : l.length ≤ 9223372036854775807) (hx : ∀ x ∈ l, x.length ≤ 9223372036854775807) : Ev (fun k => spec_gmGood.f k n l) (gameB n l) := by
  simp only [spec_gmGood.f]
  rw [ev_bind (spec_gmSets.ev n l 126 hl hx), gameB]
  cases h1 : (decide (1 ≤ n) && decide (n ≤ 9)) with
  | false =>
    rw [ev_neg (by simp), ev_now]
    rfl
  | true =>
    simp only [Bool.and_eq_true, decide_eq_true_eq] at h1
    rw [Bool.true_and, Bool.true_and]
    by_cases h2 : (l.length : Int) = 0
    · rw [decide_eq_false (show ¬ (1 ≤ (l.length : Int)) by omega), ev_neg (by simp), ev_now, decide_eq_true h2]
      rfl
    · rw [decide_eq_true (show 1 ≤ (l.length : Int) by omega), decide_eq_false h2]
      cases h3 : setsB n l with
      | false =>
        rw [ev_neg (by simp), ev_now]
        rfl
      | true =>
        have hs : ∀ x ∈ l, x.length ≤ 9223372036854775807 ∧ (∀ y ∈ x, 0 ≤ y ∧ y ≤ 8) ∧ maskN x < 512 := fun x hx' => ⟨hx x hx', setsB_mask h3 (by omega) x hx'⟩
        have hfull := spec_gmGood.ev_l0 n l hl hs l.length 0 (by omega)
        by_cases h4 : (l.length : Int) ≤ 126
        · rw [ev_pos (by simp [h4])]
          exact hfull
        · rw [ev_neg (by simp [h4]), ev_now]
          cases h5 : (List.range' 0 l.length).all (gS l) with
          | false => rfl
          | true => exact absurd (game_few (by omega) h3 h5) (by omega)
end Go.Proofs.Ytmmmblfghhcndaa.Q

namespace Go.Proofs.Ytmmmblfghhcndaa.Q
open Go.RowKit Go.Proofs.YtmmmblfghhcndaaW.PrintWords Go.Proofs.YtmmmblfghhcndaaW.PrintLast Go.Proofs.YtmmmblfghhcndaaW.PrintMore Go.Proofs.YtmmmblfghhcndaaM
set_option linter.unusedVariables false
set_option linter.unusedSimpArgs false
theorem good_sets {n : Int} {l : List (List Int)} (h : GoodG n l) : l.length ≤ 126 ∧ ∀ x ∈ l, x.length ≤ 9223372036854775807 ∧ (∀ y ∈ x, 0 ≤ y ∧ y ≤ 60) := by
  have h9 := h.n9
  have h1 := h.n1
  have hg := (game_iff n l).2 h
  simp only [gameB, Bool.and_eq_true] at hg
  refine ⟨game_few h9 hg.2.2.1 hg.2.2.2, fun x hx => ⟨?_, fun y hy => ?_⟩⟩
  · have := setB_len (h.sets x hx).2 (by omega)
    omega
  · have := setB_in (h.sets x hx).2 y hy
    omega
end Go.Proofs.Ytmmmblfghhcndaa.Q

namespace Go.Proofs.Ytmmmblfghhcndaa.Q
open Go.RowKit Go.Proofs.YtmmmblfghhcndaaW.PrintWords Go.Proofs.YtmmmblfghhcndaaW.PrintLast Go.Proofs.YtmmmblfghhcndaaW.PrintMore Go.Proofs.YtmmmblfghhcndaaM
set_option linter.unusedVariables false
set_option linter.unusedSimpArgs false
def bitB (m i : Nat) : Bool := decide (m / 2 ^ i % 2 = 1)
def setN (m : Nat) : List Int := ((List.range 62).filter (bitB m)).map fun (i : Nat) => (i : Int)
def setTo (m i : Nat) : List Int := ((List.range i).filter (bitB m)).map fun (i : Nat) => (i : Int)
theorem bitB_high {m i j : Nat} (h : m / 2 ^ i = 0) (hij : i ≤ j) : bitB m j = false := by
  unfold bitB
  have : m < 2 ^ i := by
    rcases Nat.lt_or_ge m (2 ^ i) with h1 | h1
    · exact h1
    · have := Nat.div_pos h1 (Nat.two_pow_pos i)
      omega
  have h2 : 2 ^ i ≤ 2 ^ j := Nat.pow_le_pow_right (by omega) hij
  rw [Nat.div_eq_of_lt (by omega)]
  rfl
theorem setTo_done {m i : Nat} (h : m / 2 ^ i = 0) (hi : i ≤ 62) : setTo m i = setN m := by
  unfold setTo setN
  rw [show List.range 62 = List.range i ++ (List.range (62 - i)).map (i + ·) by rw [← List.range_add]; congr 1; omega, List.filter_append]
  have : ((List.range (62 - i)).map (i + ·)).filter (bitB m) = [] := by
    rw [List.filter_eq_nil_iff]
    intro j hj
    obtain ⟨a, _, rfl⟩ := List.mem_map.1 hj
    rw [bitB_high h (by omega)]
    decide
  rw [this, List.append_nil]
theorem setTo_succ (m i : Nat) : setTo m (i + 1) = if bitB m i = true then setTo m i ++ [(i : Int)] else setTo m i := by
  unfold setTo
  rw [List.range_succ, List.filter_append, List.map_append]
  by_cases h : bitB m i = true
  · rw [if_pos h]
    simp [h]
  · rw [if_neg h]
    simp [h]
theorem setTo_len (m i : Nat) : (setTo m i).length ≤ i := by
  unfold setTo
  rw [List.length_map]
  have := List.length_filter_le (bitB m) (List.range i)
  rw [List.length_range] at this
  exact this
theorem setN_to {m n : Nat} (h : m < 2 ^ n) (hn : n ≤ 62) : setN m = setTo m n := (setTo_done (Nat.div_eq_of_lt h) hn).symm
theorem setTo_in {m n : Nat} : ∀ x ∈ setTo m n, 0 ≤ x ∧ x < (n : Int) ∧ bitB m x.toNat = true := by
  intro x hx
  obtain ⟨i, hi, rfl⟩ := List.mem_map.1 hx
  rw [List.mem_filter, List.mem_range] at hi
  exact ⟨by omega, by omega, by rw [Int.toNat_natCast]; exact hi.2⟩
theorem setTo_all (m n : Nat) (q : Nat → Bool) : ((setTo m n).all fun x => q x.toNat) = (List.range n).all fun i => !(bitB m i) || q i := by
  unfold setTo
  rw [List.all_map, List.all_filter]
  rfl
/-- A set that wins, but loses without any one member. -/
def leastB (W : List Bool) (n m : Nat) : Bool := W.getD m false && (List.range n).all fun i => !(bitB m i) || !(W.getD (m - 2 ^ i) false)
/-- What is taken of the numbers below a bound, one by one. -/
def takeL (P : Nat → Bool) (i : Nat) : List (List Int) := ((List.range i).filter P).map setN
theorem takeL_succ (P : Nat → Bool) (i : Nat) : takeL P (i + 1) = if P i = true then takeL P i ++ [setN i] else takeL P i := by
  unfold takeL
  rw [List.range_succ, List.filter_append, List.map_append]
  by_cases h : P i = true
  · rw [if_pos h]
    simp [h]
  · rw [if_neg h]
    simp [h]
theorem takeL_len (P : Nat → Bool) (i : Nat) : (takeL P i).length ≤ i := by
  unfold takeL
  rw [List.length_map]
  have := List.length_filter_le P (List.range i)
  rw [List.length_range] at this
  exact this
theorem takeL_mem {P : Nat → Bool} {i : Nat} : ∀ x ∈ takeL P i, ∃ m, m < i ∧ P m = true ∧ x = setN m := by
  intro x hx
  obtain ⟨m, hm, rfl⟩ := List.mem_map.1 hx
  rw [List.mem_filter, List.mem_range] at hm
  exact ⟨m, hm.1, hm.2, rfl⟩
end Go.Proofs.Ytmmmblfghhcndaa.Q

namespace Go.Proofs.Ytmmmblfghhcndaa.Q
open Go.RowKit Go.Proofs.YtmmmblfghhcndaaW.PrintWords Go.Proofs.YtmmmblfghhcndaaW.PrintLast Go.Proofs.YtmmmblfghhcndaaW.PrintMore Go.Proofs.YtmmmblfghhcndaaM
set_option linter.unusedVariables false
set_option linter.unusedSimpArgs false
theorem andNot_pow (m i : Nat) (hm : m < 2 ^ 62) (hi : i ≤ 61) (h : bitB m i = true) : Go.bits .andNot .i64 (m : Int) ((2 ^ i : Nat) : Int) = ((m - 2 ^ i : Nat) : Int) := by
  have hp : 2 ^ i ≤ 2 ^ 61 := Nat.pow_le_pow_right (by omega) hi
  have hb : m / 2 ^ i % 2 = 1 := by simpa [bitB] using h
  have hmi : m - 2 ^ i < 2 ^ 62 := Nat.lt_of_le_of_lt (Nat.sub_le _ _) hm
  have key : m &&& (2 ^ 64 - 1 - 2 ^ i) = m - 2 ^ i := by
    have hge : 2 ^ i ≤ m := by
      rcases Nat.lt_or_ge m (2 ^ i) with h1 | h1
      · rw [Nat.div_eq_of_lt h1] at hb; omega
      · exact h1
    have h0 : (m - 2 ^ i) / 2 ^ i % 2 = 0 := by
      have e : m = (m - 2 ^ i) + 2 ^ i := by omega
      have e2 : m / 2 ^ i = (m - 2 ^ i) / 2 ^ i + 1 := by
        conv => lhs; rw [e]
        exact Nat.add_div_right _ (Nat.two_pow_pos i)
      omega
    have hor := or_pow i (m - 2 ^ i) h0
    rw [Nat.sub_add_cancel hge] at hor
    apply Nat.eq_of_testBit_eq
    intro j
    rw [Nat.testBit_and, show 2 ^ 64 - 1 - 2 ^ i = 2 ^ 64 - (2 ^ i + 1) by omega, Nat.testBit_two_pow_sub_succ (by omega : 2 ^ i < 2 ^ 64)]
    have hmj : m.testBit j = ((m - 2 ^ i).testBit j || (2 ^ i).testBit j) := by rw [← Nat.testBit_or, hor]
    by_cases e : j = i
    · subst e
      have : (m - 2 ^ j).testBit j = false := by
        rw [Nat.testBit_eq_decide_div_mod_eq, h0]
        rfl
      rw [this, Nat.testBit_two_pow_self]
      simp
    · have h2 : (2 ^ i).testBit j = false := Nat.testBit_two_pow_of_ne (fun h => e h.symm)
      rw [hmj, h2]
      by_cases hj : j < 64
      · simp [hj]
      · have : (m - 2 ^ i).testBit j = false := Nat.testBit_lt_two_pow (Nat.lt_of_lt_of_le hmi (Nat.pow_le_pow_right (by omega) (by omega)))
        rw [this]
        simp
  have hbv : ((BitVec.ofInt 64 (m : Int)) &&& ~~~(BitVec.ofInt 64 ((2 ^ i : Nat) : Int))).toNat = m - 2 ^ i := by
    rw [BitVec.toNat_and, BitVec.toNat_not, BitVec.ofInt_natCast, BitVec.ofInt_natCast, BitVec.toNat_ofNat, BitVec.toNat_ofNat, Nat.mod_eq_of_lt (by omega : m < 2 ^ 64), Nat.mod_eq_of_lt (by omega : 2 ^ i < 2 ^ 64)]
    exact key
  show IntKind.i64.wrap (((BitVec.ofInt 64 (m : Int)) &&& ~~~(BitVec.ofInt 64 ((2 ^ i : Nat) : Int))).toNat : Int) = _
  rw [hbv]
  exact (fun (x : Nat) (hx : x < 2 ^ 62) => i64_wrap (x := (x : Int)) (by omega) (by omega)) (m - 2 ^ i) hmi
end Go.Proofs.Ytmmmblfghhcndaa.Q

namespace Go.Proofs.Ytmmmblfghhcndaa.Q
open Go.RowKit Go.Proofs.YtmmmblfghhcndaaW.PrintWords Go.Proofs.YtmmmblfghhcndaaW.PrintLast Go.Proofs.YtmmmblfghhcndaaW.PrintMore Go.Proofs.YtmmmblfghhcndaaM
set_option linter.unusedVariables false
set_option linter.unusedSimpArgs false
theorem impl_setOf.ev_l (m : Nat) (hm : m < 2 ^ 62) : ∀ (d i : Nat), i + d = 62 → Ev (fun k => impl_setOf.l0 k (m : Int) (setTo m i) (i : Int)) (setN m) := by
  intro d
  induction d with
  | zero =>
    intro i h
    refine ev_step ?_
    simp only [impl_setOf.l0]
    have e : m / 2 ^ i = 0 := by rw [show i = 62 by omega]; exact Nat.div_eq_of_lt hm
    rw [ev_pos (by omega), shr_nat m i (by omega), e, ev_neg (by omega), ev_now, setTo_done e (by omega)]
  | succ d ih =>
    intro i h
    refine ev_step ?_
    simp only [impl_setOf.l0]
    have hlt : m / 2 ^ i < 2 ^ 62 := Nat.lt_of_le_of_lt (Nat.div_le_self _ _) hm
    have hl := setTo_len m i
    rw [ev_pos (by omega), shr_nat m i (by omega), w64 (by omega) (by omega)]
    by_cases e : m / 2 ^ i = 0
    · rw [ev_neg (by omega), ev_now, setTo_done e (by omega)]
    · rw [ev_pos (Int.natCast_pos.2 (Nat.pos_of_ne_zero e)), and_one _ hlt]
      have := ih (i + 1) (by omega)
      rw [setTo_succ] at this
      by_cases hb : m / 2 ^ i % 2 = 1
      · rw [if_pos (by simp [bitB, hb])] at this
        rw [ev_pos (by rw [hb]; rfl), ev_pos (by omega)]
        exact this
      · rw [if_neg (by simp [bitB]; omega)] at this
        rw [ev_neg (c := ((m / 2 ^ i % 2 : Nat) : Int) = 1) (fun h_ => hb (Int.ofNat_inj.1 h_))]
        exact this
theorem impl_setOf.ev (m : Nat) (hm : m < 2 ^ 62) : Ev (fun k => impl_setOf.f k (m : Int)) (setN m) := impl_setOf.ev_l m hm 62 0 (by omega)
end Go.Proofs.Ytmmmblfghhcndaa.Q

namespace Go.Proofs.Ytmmmblfghhcndaa.Q
open Go.RowKit Go.Proofs.YtmmmblfghhcndaaX Go.Proofs.YtmmmblfghhcndaaW.PrintWords Go.Proofs.YtmmmblfghhcndaaW.PrintLast Go.Proofs.YtmmmblfghhcndaaW.PrintMore
attribute [local go_sem] max2_int min2_int max_two min_two max_three min_three max_four min_four   -- for this text's walks alone
set_option linter.unusedVariables false
set_option linter.unusedSimpArgs false

/-! ### impl_Committee_weight: function 116 -/
def impl_Committee_weight.l0 : Nat → Int → Int → List Int → Int → Int → Option (Int)
 | 0, _, _, _, _, _ => none
 | k + 1, x1, x5, x9, x10, x11 => if x11 < x10 then (if 0 ≤ x11 then (if x11 < (x9.length : Int) then ((impl_has.f x1 x11).bind fun t103 => (if t103 = true then (impl_Committee_weight.l0 k x1 (wrap64 (x5 + (rd x9 x11))) x9 x10 (wrap64 (x11 + 1))) else (impl_Committee_weight.l0 k x1 x5 x9 x10 (wrap64 (x11 + 1))))) else (none)) else (none)) else (some x5)
def impl_Committee_weight.f (k : Nat) (a0_0 : Int) (l0_1 : List Int) (a1 : Int) : Option (Int) := impl_Committee_weight.l0 k a1 0 l0_1 (l0_1.length : Int) 0
theorem impl_Committee_weight.mono_l : ∀ k, (∀ y0 y1 y2 y3 y4, LeO (impl_Committee_weight.l0 k y0 y1 y2 y3 y4) (impl_Committee_weight.l0 (k + 1) y0 y1 y2 y3 y4))
 | 0 => fun _ _ _ _ _ r h => by simp [impl_Committee_weight.l0] at h
 | k + 1 => by
  have ih0 := impl_Committee_weight.mono_l k
  ·intro y0 y1 y2 y3 y4
   unfold impl_Committee_weight.l0
   repeat' first
   | (with_reducible exact ih0 _ _ _ _ _)
   | (with_reducible exact LeO.refl _)
   | (with_reducible exact LeO.none _)
   | (with_reducible refine LeO.ite ?_ ?_)
   | (with_reducible refine LeO.bind ?_ (fun _ => ?_))
   | exact ih0 _ _ _ _ _
   | exact LeO.none _
   | refine LeO.ite ?_ ?_
   | refine LeO.bind ?_ (fun _ => ?_)
theorem impl_Committee_weight.mono : ∀ a0 a1 a2 k, LeO (impl_Committee_weight.f k a0 a1 a2) (impl_Committee_weight.f (k + 1) a0 a1 a2) := by
 intro a0 a1 a2 k
 have ih0 := impl_Committee_weight.mono_l k
 unfold impl_Committee_weight.f
 repeat' first
   | (with_reducible exact ih0 _ _ _ _ _)
   | (with_reducible exact LeO.refl _)
   | (with_reducible exact LeO.none _)
   | (with_reducible refine LeO.ite ?_ ?_)
   | (with_reducible refine LeO.bind ?_ (fun _ => ?_))
   | exact ih0 _ _ _ _ _
   | exact LeO.none _
   | refine LeO.ite ?_ ?_
   | refine LeO.bind ?_ (fun _ => ?_)
set_option maxHeartbeats 8000000 in
set_option maxRecDepth 100000 in
theorem impl_Committee_weight.calls (k : Nat) (a0_0 : Int) (A0_1 : Option Addr) (c0_1 : Nat) (l0_1 : List Int) (a1 : Int) (r : Int) (w : World) (hr0_1 : Kd.C (Kd.int .i64) w A0_1 l0_1.length l0_1) (hc0_1 : l0_1.length ≤ c0_1) (h : impl_Committee_weight.f k a0_0 l0_1 a1 = some r) :
  Calls Try.prog 116 #[.agg #[.int .i64 a0_0, .slice A0_1 l0_1.length c0_1], .int .i64 a1] w fun e w' => e = .returned (.int .i64 r) ∧ Below w.heap.size w w' := by
 have hu41 := Try.underlying41
 have HR0_1 := Aside0.mk hr0_1
 have HC0_1 := Aside0.mk hc0_1
 clear hr0_1 hc0_1
 have HB := Aside0.mk (Below.refl w.heap.size w)
 have H : (impl_Committee_weight.l0 k a1 0 l0_1 (l0_1.length : Int) 0) = some r := h
 clear h
 have H' := Aside0.mk H
 clear H
 go_enter Try.func116, Try.ntmps116
 go_wp2_with (first | ((with_reducible refine gate_dst (N := 2) rfl ?_); refine box_event ?hg (N := 2) ?hd (cs := #[.int .i64 a0_0, .slice A0_1 l0_1.length c0_1]) (t := 41) ?hr ?_; (case hd => rfl); (case hg => rfl); (case hr => first | (go_simp; done) | (go_simp; rfl)); intro gb101 hg w3 hbox hb; have n0_ := Aside0.mk (below_step (by repeat (first | (with_reducible first | exact HB.out | apply ba | apply bd | apply be) | exact HB.out)) hb); have n1_ := Aside0.mk (hbox); have n2_ := Aside0.mk ((by rw [hg]; exact (below_size (by repeat (first | (with_reducible first | exact HB.out | apply ba | apply bd | apply be) | exact HB.out))) : w.heap.size ≤ gb101)); have n3_ := Aside0.mk ((by rw [hg]; exact (below_size (by repeat (first | (with_reducible first | exact HB.out | apply ba | apply bd | apply be) | exact HB.out))) : w.heap.size ≤ gb101)); clear HB; have HB := n0_; have BK101 := n1_; have GW101 := n2_; have GE101 := n3_; clear n0_ n1_ n2_ n3_; clear hb hbox hg; have hcz4_0 : w3.cell? ⟨gb101, 0, none⟩ = some (.int .i64 a0_0) := (blk_cell BK101.out 0).trans rfl; have hcz4_1 : w3.cell? ⟨gb101, 1, none⟩ = some (.slice A0_1 l0_1.length c0_1) := (blk_cell BK101.out 1).trans rfl; have hfz4_0 := blk_frozen BK101.out 0; have hfz4_1 := blk_frozen BK101.out 1))
 go_loopg [5, 11] k (fun kq v5 v11 w' => ∃ (x5_1 : Int) (x11_1 : Int), v5 = .int .i64 x5_1 ∧ v11 = .int .i64 x11_1 ∧ Aside0 (impl_Committee_weight.l0 kq a1 x5_1 l0_1 (l0_1.length : Int) x11_1 = some r) ∧ Aside0 (kq ≤ k) ∧ Aside0 (w'.heap[gb101]? = some (.cells #[.int .i64 a0_0, (.slice A0_1 l0_1.length c0_1)] 41 (0, 0))) ∧ Aside0 (Below w.heap.size w w'))
 case atStart => exact ⟨(0), (0), (by first | rfl | (simp; done) | (simp [*]; done)), (by first | rfl | (simp; done) | (simp [*]; done)), H', ⟨Nat.le_refl _⟩, ⟨by (first | exact bp BK101.out | exact BK101.out)⟩, ⟨by repeat (first | (with_reducible first | exact HB.out | apply ba | apply bd | apply be | refine bs ?_ GE101.out) | exact HB.out)⟩⟩
 case round =>
  clear H'
  try clear c1
  try clear p2
  try clear hcz4_0
  try clear hcz4_1
  try clear hfz4_0
  try clear hfz4_1
  obtain ⟨x5_1, x11_1, rfl, rfl, HA, HK1, BK101, HB⟩ := hrel
  cases gk with
  | zero => exact absurd HA.out (by simp [impl_Committee_weight.l0])
  | succ k1 =>
   have H := HA.out
   clear HA
   simp only [impl_Committee_weight.l0] at H
   by_cases c5 : x11_1 < (l0_1.length : Int)
   ·rw [if_pos c5] at H
    have c5b0 : decide (x11_1 < (l0_1.length : Int)) = true := decide_eq_true c5
    clear c5
    by_cases c6 : 0 ≤ x11_1
    ·rw [if_pos c6] at H
     have c6b0 : decide (0 ≤ x11_1) = true := decide_eq_true c6
     clear c6
     by_cases c7 : x11_1 < (l0_1.length : Int)
     ·rw [if_pos c7] at H
      have c7b0 : decide (x11_1 < (l0_1.length : Int)) = true := decide_eq_true c7
      clear c7
      replace H := oB H
      obtain ⟨t103, A80, H⟩ := H
      replace H : (if t103 = true then (impl_Committee_weight.l0 k1 a1 (wrap64 (x5_1 + (rd l0_1 x11_1))) l0_1 (l0_1.length : Int) (wrap64 (x11_1 + 1))) else (impl_Committee_weight.l0 k1 a1 x5_1 l0_1 (l0_1.length : Int) (wrap64 (x11_1 + 1)))) = some r := H
      have A8 := Aside0.mk A80
      clear A80
      by_cases c9 : t103 = true
      ·subst c9
       have H1 : (impl_Committee_weight.l0 k1 a1 (wrap64 (x5_1 + (rd l0_1 x11_1))) l0_1 (l0_1.length : Int) (wrap64 (x11_1 + 1))) = some r := by rw [if_pos rfl] at H; exact H
       clear H
       have H := H1
       clear H1
       have H' := Aside0.mk H
       clear H
       have p102 : 0 ≤ (x11_1 : Int) := of_decide_eq_true (by first | (with_reducible assumption) | assumption)
       have q102 : x11_1 < (l0_1.length : Int) := of_decide_eq_true (by first | (with_reducible assumption) | assumption)
       obtain ⟨ad102, e102, hx102_0⟩ := Kd.at_int HR0_1.out x11_1 p102 q102
       cases e102
       replace hx102_0 := (HB.out.cell (World.block_lt_of_cell? w _ hx102_0)).trans hx102_0
       replace p102 := eq_true p102
       replace q102 := eq_true q102
       go_wp2_with (first | ((with_reducible refine gate_callee (f := 133) rfl ?_); refine goesL_ (some 18) rfl rfl Try.func133 (by kernel_rfl) rfl #[.int .i64 a1, .int .i64 x11_1] rfl (by (try simp only [mA, mC, mN]); first | done | rfl | (simp only [List.length_drop, List.length_take]; rfl)) ?_; (with_reducible refine (impl_has.calls a1 x11_1 true _ A8.out).mono ?_); rintro e w' ⟨rfl, ⟨nd, rfl⟩⟩; refine ⟨_, rfl, ?_⟩))
       go_roundg k1
       case measure => have := HK1.out; omega
       case rel => exact ⟨(wrap64 (x5_1 + (rd l0_1 x11_1))), (wrap64 (x11_1 + 1)), (by first | rfl | (simp; done) | (simp [*]; done)), (by first | rfl | (simp; done) | (simp [*]; done)), H', ⟨by have := HK1.out; omega⟩, ⟨by (first | exact bp BK101.out | exact BK101.out)⟩, ⟨by repeat (first | (with_reducible first | exact HB.out | apply ba | apply bd | apply be | refine bs ?_ GE101.out) | exact HB.out)⟩⟩
      ·replace c9 := Bool.eq_false_iff.mpr c9
       subst c9
       have H1 : (impl_Committee_weight.l0 k1 a1 x5_1 l0_1 (l0_1.length : Int) (wrap64 (x11_1 + 1))) = some r := by rw [if_neg (show ¬ (false = true) by decide)] at H; exact H
       clear H
       have H := H1
       clear H1
       have H' := Aside0.mk H
       clear H
       have p102 : 0 ≤ (x11_1 : Int) := of_decide_eq_true (by first | (with_reducible assumption) | assumption)
       have q102 : x11_1 < (l0_1.length : Int) := of_decide_eq_true (by first | (with_reducible assumption) | assumption)
       obtain ⟨ad102, e102, hx102_0⟩ := Kd.at_int HR0_1.out x11_1 p102 q102
       cases e102
       replace hx102_0 := (HB.out.cell (World.block_lt_of_cell? w _ hx102_0)).trans hx102_0
       replace p102 := eq_true p102
       replace q102 := eq_true q102
       go_wp2_with (first | ((with_reducible refine gate_callee (f := 133) rfl ?_); refine goesL_ (some 18) rfl rfl Try.func133 (by kernel_rfl) rfl #[.int .i64 a1, .int .i64 x11_1] rfl (by (try simp only [mA, mC, mN]); first | done | rfl | (simp only [List.length_drop, List.length_take]; rfl)) ?_; (with_reducible refine (impl_has.calls a1 x11_1 false _ A8.out).mono ?_); rintro e w' ⟨rfl, ⟨nd, rfl⟩⟩; refine ⟨_, rfl, ?_⟩))
       go_roundg k1
       case measure => have := HK1.out; omega
       case rel => exact ⟨(x5_1), (wrap64 (x11_1 + 1)), (by first | rfl | (simp; done) | (simp [*]; done)), (by first | rfl | (simp; done) | (simp [*]; done)), H', ⟨by have := HK1.out; omega⟩, ⟨by (first | exact bp BK101.out | exact BK101.out)⟩, ⟨by repeat (first | (with_reducible first | exact HB.out | apply ba | apply bd | apply be | refine bs ?_ GE101.out) | exact HB.out)⟩⟩
     ·rw [if_neg c7] at H
      exact absurd H (by simp)
    ·rw [if_neg c6] at H
     exact absurd H (by simp)
   ·rw [if_neg c5] at H
    have c5b0 : decide (x11_1 < (l0_1.length : Int)) = false := decide_eq_false c5
    clear c5
    obtain rfl := Option.some.inj H
    go_wp2
    go_ret
    exact ⟨by first | rfl | (simp <;> rfl) | (simp [*] <;> rfl), by repeat (first | (with_reducible first | exact HB.out | apply ba | apply bd | apply be | refine bs ?_ GE101.out) | exact HB.out)⟩

end Go.Proofs.Ytmmmblfghhcndaa.Q

namespace Go.Proofs.Ytmmmblfghhcndaa.Q
open Go.RowKit Go.Proofs.YtmmmblfghhcndaaW.PrintWords Go.Proofs.YtmmmblfghhcndaaW.PrintLast Go.Proofs.YtmmmblfghhcndaaW.PrintMore Go.Proofs.YtmmmblfghhcndaaM
set_option linter.unusedVariables false
set_option linter.unusedSimpArgs false
theorem impl_has.v (m i : Nat) (hm : m < 2 ^ 62) (hi : i ≤ 62) : impl_has.f (m : Int) (i : Int) = some (decide (m / 2 ^ i % 2 = 1)) := by
  unfold impl_has.f
  have hlt : m / 2 ^ i < 2 ^ 62 := Nat.lt_of_le_of_lt (Nat.div_le_self _ _) hm
  rw [if_pos (by omega), shr_nat m i (by omega), and_one _ hlt]
  congr 1
  by_cases h : m / 2 ^ i % 2 = 1
  · simp [h]
  · have : m / 2 ^ i % 2 = 0 := by omega
    simp [this]
theorem impl_Committee_weight.ev_l (q : Int) (ws : List Int) (m : Nat) (hm : m < 2 ^ 62) (hl : ws.length ≤ 60) (hw : ∀ x ∈ ws, 0 ≤ x ∧ x ≤ 1000000000) : ∀ (d i : Nat) (s : Int), i + d = ws.length → 0 ≤ s → s + wsum (ws.drop i) (m / 2 ^ i) ≤ 1000000000000 → Ev (fun k => impl_Committee_weight.l0 k (m : Int) s ws (ws.length : Int) (i : Int)) (s + wsum (ws.drop i) (m / 2 ^ i)) := by
  intro d
  induction d with
  | zero =>
    intro i s h _ _
    refine ev_step ?_
    simp only [impl_Committee_weight.l0]
    rw [ev_neg (by omega), ev_now, List.drop_of_length_le (by omega)]
    simp [wsum]
  | succ d ih =>
    intro i s h h0 h1
    refine ev_step ?_
    simp only [impl_Committee_weight.l0]
    have hi : i < ws.length := by omega
    have hx := hw ws[i] (List.getElem_mem hi)
    have hd : wsum (ws.drop i) (m / 2 ^ i) = (if m / 2 ^ i % 2 = 1 then ws[i] else 0) + wsum (ws.drop (i + 1)) (m / 2 ^ (i + 1)) := by
      rw [wsum_drop ws i _ hi, Nat.div_div_eq_div_mul, ← Nat.pow_succ]
    have hb := wsum_bounds (ws.drop (i + 1)) (fun x hx => (hw x (List.mem_of_mem_drop hx)).1) (m / 2 ^ (i + 1))
    rw [ev_pos (by omega), ev_pos (by omega), ev_pos (by omega), ev_bind (ev_of (impl_has.v m i hm (by omega))), w64i (n := ws.length) (by omega) (by omega) (by omega), rd_lt ws i hi, hd]
    rw [hd] at h1
    by_cases hbit : m / 2 ^ i % 2 = 1
    · rw [if_pos hbit] at h1 ⊢
      rw [ev_pos (by simpa using hbit), w64 (by omega) (by omega), ← Int.add_assoc]
      exact ih (i + 1) (s + ws[i]) (by omega) (by omega) (by omega)
    · rw [if_neg hbit] at h1 ⊢
      rw [ev_neg (by simpa using hbit), Int.zero_add]
      exact ih (i + 1) s (by omega) h0 (by omega)
theorem impl_Committee_weight.ev (q : Int) (ws : List Int) (m : Nat) (hm : m < 2 ^ 62) (hl : ws.length ≤ 60) (hw : ∀ x ∈ ws, 0 ≤ x ∧ x ≤ 1000000000) : Ev (fun k => impl_Committee_weight.f k q ws (m : Int)) (wsum ws m) := by
  have hb := wsum_bounds ws (fun x hx => (hw x hx).1) m
  have hs := sum_bounds ws 1000000000 hw
  have := impl_Committee_weight.ev_l q ws m hm hl hw ws.length 0 0 (by omega) (by omega) (by simp; omega)
  simpa [impl_Committee_weight.f] using this
end Go.Proofs.Ytmmmblfghhcndaa.Q

namespace Go.Proofs.Ytmmmblfghhcndaa.Q
open Go.RowKit Go.Proofs.YtmmmblfghhcndaaW.PrintWords Go.Proofs.YtmmmblfghhcndaaW.PrintLast Go.Proofs.YtmmmblfghhcndaaW.PrintMore Go.Proofs.YtmmmblfghhcndaaM
set_option linter.unusedVariables false
set_option linter.unusedSimpArgs false
theorem impl_votes_isLeast.ev_l (W : List Bool) (n m : Nat) (hW : W.length = 2 ^ n) (hn : n ≤ 18) (hm : m < 2 ^ n) : ∀ (d i : Nat), i + d = n → Ev (fun k => impl_votes_isLeast.l0 k (m : Int) (n : Int) (i : Int) (n : Int) W) ((List.range' i d).all fun i => !(bitB m i) || !(W.getD (m - 2 ^ i) false)) := by
  have hp : 2 ^ n ≤ 2 ^ 18 := Nat.pow_le_pow_right (by omega) hn
  intro d
  induction d with
  | zero =>
    intro i h
    refine ev_step ?_
    simp only [impl_votes_isLeast.l0]
    rw [ev_neg (by omega), ev_now]
    rfl
  | succ d ih =>
    intro i h
    refine ev_step ?_
    simp only [impl_votes_isLeast.l0]
    have hih := ih (i + 1) (by omega)
    rw [ev_pos (by omega), ev_bind (ev_of (show impl_has.f (m : Int) (i : Int) = some (bitB m i) from impl_has.v m i (by omega) (by omega))), w64 (by omega) (by omega), List.range'_succ, List.all_cons]
    by_cases hb : bitB m i = true
    · have hpi : 2 ^ i ≤ 2 ^ n := Nat.pow_le_pow_right (by omega) (by omega)
      have hsub : m - 2 ^ i < W.length := by rw [hW]; exact Nat.lt_of_le_of_lt (Nat.sub_le _ _) hm
      rw [ev_pos hb, ev_pos (by omega), shl_one i (by omega), andNot_pow m i (by omega) (by omega) hb, ev_pos (Int.natCast_nonneg _), ev_pos (Int.ofNat_lt.2 hsub), rdOf_nat, hb]
      cases hw : W.getD (m - 2 ^ i) false with
      | true =>
        rw [ev_pos rfl, ev_now]
        rfl
      | false =>
        rw [ev_neg (by decide)]
        exact hih
    · rw [ev_neg hb, Bool.eq_false_iff.2 hb]
      exact hih
theorem impl_votes_isLeast.ev (W : List Bool) (n m : Nat) (hW : W.length = 2 ^ n) (hn : n ≤ 18) (hm : m < 2 ^ n) : Ev (fun k => impl_votes_isLeast.f k (n : Int) W (m : Int)) (leastB W n m) := by
  simp only [impl_votes_isLeast.f]
  rw [ev_pos (by omega), ev_pos (by omega), rdOf_nat, leastB]
  cases hw : W.getD m false with
  | true =>
    rw [ev_pos rfl, Bool.true_and, List.range_eq_range']
    exact impl_votes_isLeast.ev_l W n m hW hn hm n 0 (by omega)
  | false =>
    rw [ev_neg (by decide), ev_now]
    rfl
theorem impl_votes_sets.at_l (W : List Bool) (hW : W.length ≤ 1000000) (P : Int → Option Bool) (p : Nat → Bool) (K : Nat) (hP : ∀ m, m < W.length → P (m : Int) = some (p m)) (hS : ∀ k, K ≤ k → ∀ m, m < W.length → impl_setOf.f k (m : Int) = some (setN m)) : ∀ (d i k : Nat), i + d = W.length → K + d < k → impl_votes_sets.l0 k P W (takeL p i) (i : Int) = some (takeL p W.length) := by
  intro d
  induction d with
  | zero =>
    intro i k h hk
    obtain ⟨k, rfl⟩ : ∃ j, k = j + 1 := ⟨k - 1, by omega⟩
    simp only [impl_votes_sets.l0]
    rw [if_neg (by omega), show i = W.length by omega]
  | succ d ih =>
    intro i k h hk
    obtain ⟨k, rfl⟩ : ∃ j, k = j + 1 := ⟨k - 1, by omega⟩
    have hi : i < W.length := by omega
    have hl := takeL_len p i
    have hih := ih (i + 1) k (by omega) (by omega)
    rw [takeL_succ] at hih
    simp only [impl_votes_sets.l0]
    rw [if_pos (by omega), hP i hi, Option.bind_some, w64 (by omega) (by omega), hS k (by omega) i hi, Option.bind_some]
    cases hp : p i with
    | true =>
      rw [hp, if_pos rfl] at hih
      rw [if_pos rfl, if_pos (by omega)]
      exact hih
    | false =>
      rw [hp, if_neg (by decide)] at hih
      rw [if_neg (by decide)]
      exact hih
theorem impl_votes_sets.ev (W : List Bool) (hW : W.length ≤ 1000000) (P : Nat → Int → Option Bool) (p : Nat → Bool) (hP : ∀ m, m < W.length → Ev (fun k => P k (m : Int)) (p m)) : Ev (fun k => impl_votes_sets.g k W (P k)) (Go.Proofs.YtmmmblfghhcndaaS.sortL (takeL p W.length)) := by
  obtain ⟨K1, h1⟩ := ev_all W.length (fun k m => P k (m : Int)) p hP
  obtain ⟨K2, h2⟩ := ev_all W.length (fun k m => impl_setOf.f k (m : Int)) setN (fun m hm => impl_setOf.ev m (by omega))
  refine ⟨max K1 (K2 + W.length + 1), fun k hk => ?_⟩
  have hl := takeL_len p W.length
  simp only [impl_votes_sets.g]
  rw [show impl_votes_sets.l0 k (P k) W [] 0 = some (takeL p W.length) from impl_votes_sets.at_l W hW (P k) p K2 (fun m hm => h1 k (by omega) m hm) h2 W.length 0 k (by omega) (by omega), Option.bind_some, if_pos (by omega)]
theorem impl_votes_least.ev (W : List Bool) (n : Nat) (hW : W.length = 2 ^ n) (hn : n ≤ 18) : Ev (fun k => impl_votes_least.f k (n : Int) W) (Go.Proofs.YtmmmblfghhcndaaS.sortL (takeL (leastB W n) W.length)) := by
  have hp : 2 ^ n ≤ 2 ^ 18 := Nat.pow_le_pow_right (by omega) hn
  exact impl_votes_sets.ev W (by omega) (fun k x => impl_votes_isLeast.f k (n : Int) W x) (leastB W n) (fun m hm => impl_votes_isLeast.ev W n m hW hn (by omega))
theorem sortL_in {P : Nat → Bool} {n N : Nat} (hN : N ≤ 2 ^ n) (hn : n ≤ 62) : ∀ x ∈ Go.Proofs.YtmmmblfghhcndaaS.sortL (takeL P N), x.length ≤ n ∧ ∀ y ∈ x, 0 ≤ y ∧ y < (n : Int) := by
  intro x hx
  obtain ⟨a, ha, _, rfl⟩ := takeL_mem x ((Go.Proofs.YtmmmblfghhcndaaS.sortL_perm _).mem_iff.1 hx)
  rw [setN_to (m := a) (n := n) (by omega) hn]
  exact ⟨setTo_len a n, fun y hy => by have := setTo_in y hy; omega⟩
theorem sortL_len (xs : List (List Int)) : (Go.Proofs.YtmmmblfghhcndaaS.sortL xs).length = xs.length := (Go.Proofs.YtmmmblfghhcndaaS.sortL_perm xs).length_eq
end Go.Proofs.Ytmmmblfghhcndaa.Q

namespace Go.Proofs.Ytmmmblfghhcndaa.Q
open Go.RowKit Go.Proofs.YtmmmblfghhcndaaW.PrintWords Go.Proofs.YtmmmblfghhcndaaW.PrintLast Go.Proofs.YtmmmblfghhcndaaW.PrintMore Go.Proofs.YtmmmblfghhcndaaM
set_option linter.unusedVariables false
set_option linter.unusedSimpArgs false
def takeI (P : Nat → Bool) (i : Nat) : List Int := ((List.range i).filter P).map fun (i : Nat) => (i : Int)
theorem takeI_succ (P : Nat → Bool) (i : Nat) : takeI P (i + 1) = if P i = true then takeI P i ++ [(i : Int)] else takeI P i := by
  unfold takeI
  rw [List.range_succ, List.filter_append, List.map_append]
  by_cases h : P i = true
  · rw [if_pos h]
    simp [h]
  · rw [if_neg h]
    simp [h]
theorem takeI_len (P : Nat → Bool) (i : Nat) : (takeI P i).length ≤ i := by
  unfold takeI
  rw [List.length_map]
  have := List.length_filter_le P (List.range i)
  rw [List.length_range] at this
  exact this
theorem takeI_congr {P Q : Nat → Bool} {n : Nat} (h : ∀ i, i < n → P i = Q i) : takeI P n = takeI Q n := by
  unfold takeI
  congr 1
  exact List.filter_congr (fun i hi => h i (List.mem_range.1 hi))
theorem impl_members.ev_l (n : Nat) (hn : n ≤ 1000000) (p : Int → Bool) : ∀ (d i : Nat), i + d = n → Ev (fun k => impl_members.l0 k (fun x => some (p x)) (n : Int) (takeI (fun i => p (i : Int)) i) (i : Int)) (takeI (fun i => p (i : Int)) n) := by
  intro d
  induction d with
  | zero =>
    intro i h
    refine ev_step ?_
    simp only [impl_members.l0]
    rw [ev_neg (by omega), ev_now, show i = n by omega]
  | succ d ih =>
    intro i h
    refine ev_step ?_
    simp only [impl_members.l0, Option.bind_some]
    have hl := takeI_len (fun i => p (i : Int)) i
    have hih := ih (i + 1) (by omega)
    rw [takeI_succ] at hih
    rw [ev_pos (by omega), w64 (by omega) (by omega)]
    by_cases hp : p (i : Int) = true
    · rw [if_pos hp] at hih
      rw [ev_pos hp, ev_pos (by omega)]
      exact hih
    · rw [if_neg hp] at hih
      rw [ev_neg hp]
      exact hih
theorem impl_members.ev (n : Nat) (hn : n ≤ 1000000) (p : Int → Bool) : Ev (fun k => impl_members.g k (n : Int) (fun x => some (p x))) (takeI (fun i => p (i : Int)) n) := impl_members.ev_l n hn p n 0 (by omega)
def idleP (L : List (List Int)) (i : Nat) : Bool := !(L.any fun s => s.contains (i : Int))
theorem impl_votes_idle.ev (W : List Bool) (n : Nat) (hW : W.length = 2 ^ n) (hn : n ≤ 18) : Ev (fun k => impl_votes_idle.f k (n : Int) W) (takeI (idleP (Go.Proofs.YtmmmblfghhcndaaS.sortL (takeL (leastB W n) W.length))) n) := by
  simp only [impl_votes_idle.f]
  rw [ev_pos (by omega), ev_bind (impl_votes_least.ev W n hW hn)]
  exact impl_members.ev n (by omega) _
end Go.Proofs.Ytmmmblfghhcndaa.Q

namespace Go.Proofs.Ytmmmblfghhcndaa.Q
open Go.RowKit Go.Proofs.YtmmmblfghhcndaaW.PrintWords Go.Proofs.YtmmmblfghhcndaaW.PrintLast Go.Proofs.YtmmmblfghhcndaaW.PrintMore Go.Proofs.YtmmmblfghhcndaaM
set_option linter.unusedVariables false
set_option linter.unusedSimpArgs false
theorem bitB_test (m i : Nat) : bitB m i = m.testBit i := by rw [bitB, Nat.testBit_eq_decide_div_mod_eq]
theorem orBits_test : ∀ (x : List Int) (m i : Nat), (∀ y ∈ x, 0 ≤ y) → (orBits m x).testBit i = (m.testBit i || x.contains (i : Int))
  | [], m, i, _ => by simp [orBits]
  | y :: x, m, i, h => by
    have hy := h y List.mem_cons_self
    have ih := orBits_test x (m ||| 2 ^ y.toNat) i (fun z hz => h z (List.mem_cons_of_mem _ hz))
    show (orBits (m ||| 2 ^ y.toNat) x).testBit i = _
    rw [ih, Nat.testBit_or, Nat.testBit_two_pow, List.contains_cons, Bool.or_assoc]
    congr 2
    by_cases e : y.toNat = i
    · rw [decide_eq_true e, beq_iff_eq.2 (show (i : Int) = y by omega)]
    · rw [decide_eq_false e, beq_eq_false_iff_ne.2 (show (i : Int) ≠ y by omega)]
theorem maskN_test (x : List Int) (i : Nat) (h : ∀ y ∈ x, 0 ≤ y) : (maskN x).testBit i = x.contains (i : Int) := by
  rw [maskN, orBits_test x 0 i h]
  simp
theorem and_eq_iff (a b : Nat) : a &&& b = b ↔ ∀ i, b.testBit i = true → a.testBit i = true := by
  constructor
  · intro h i hb
    rw [← h, Nat.testBit_and] at hb
    simp only [Bool.and_eq_true] at hb
    exact hb.1
  · intro h
    apply Nat.eq_of_testBit_eq
    intro i
    rw [Nat.testBit_and]
    cases hb : b.testBit i with
    | false => simp
    | true => rw [h i hb]; rfl
theorem sub_pow_test (m i j : Nat) (h : m.testBit i = true) : (m - 2 ^ i).testBit j = (m.testBit j && !(decide (j = i))) := by
  have hb : m / 2 ^ i % 2 = 1 := by rw [Nat.testBit_eq_decide_div_mod_eq] at h; simpa using h
  have hge : 2 ^ i ≤ m := by
    rcases Nat.lt_or_ge m (2 ^ i) with h1 | h1
    · rw [Nat.div_eq_of_lt h1] at hb; omega
    · exact h1
  have h0 : (m - 2 ^ i) / 2 ^ i % 2 = 0 := by
    have e : m = (m - 2 ^ i) + 2 ^ i := by omega
    have e2 : m / 2 ^ i = (m - 2 ^ i) / 2 ^ i + 1 := by
      conv => lhs; rw [e]
      exact Nat.add_div_right _ (Nat.two_pow_pos i)
    omega
  have hor := or_pow i (m - 2 ^ i) h0
  rw [Nat.sub_add_cancel hge] at hor
  have hmj : m.testBit j = ((m - 2 ^ i).testBit j || (2 ^ i).testBit j) := by rw [← Nat.testBit_or, hor]
  by_cases e : j = i
  · subst e
    rw [decide_eq_true rfl, Bool.not_true, Bool.and_false, Nat.testBit_eq_decide_div_mod_eq, h0]
    rfl
  · rw [hmj, Nat.testBit_two_pow_of_ne (fun h => e h.symm), decide_eq_false e]
    simp
theorem setN_contains (m i : Nat) (hi : i < 62) : (setN m).contains (i : Int) = m.testBit i := by
  rw [← bitB_test, Bool.eq_iff_iff, List.contains_iff_mem, setN, List.mem_map]
  constructor
  · rintro ⟨j, hj, e⟩
    rw [List.mem_filter] at hj
    rw [← show j = i by omega]
    exact hj.2
  · intro h
    exact ⟨i, List.mem_filter.2 ⟨List.mem_range.2 hi, h⟩, rfl⟩
end Go.Proofs.Ytmmmblfghhcndaa.Q

namespace Go.Proofs.Ytmmmblfghhcndaa.Q
open Go.RowKit Go.Proofs.YtmmmblfghhcndaaW.PrintWords Go.Proofs.YtmmmblfghhcndaaW.PrintLast Go.Proofs.YtmmmblfghhcndaaW.PrintMore Go.Proofs.YtmmmblfghhcndaaM
set_option linter.unusedVariables false
set_option linter.unusedSimpArgs false
theorem winsG_iff (n : Nat) (l : List (List Int)) (m : Nat) (hm : m < 2 ^ n) : (winsG n l).getD m false = true ↔ ∃ x ∈ l, m &&& maskN x = maskN x := by
  rw [List.getD_eq_getElem?_getD, List.getElem?_eq_getElem (by rw [winsG_length]; exact hm), Option.getD_some, winsG_get, List.any_eq_true]
  simp
theorem good_apart {n : Int} {l : List (List Int)} (h : GoodG n l) {x y : List Int} (hx : x ∈ l) (hy : y ∈ l) (he : maskN x &&& maskN y = maskN y) : maskN x = maskN y := by
  obtain ⟨i, hi, rfl⟩ := List.getElem_of_mem hx
  obtain ⟨j, hj, rfl⟩ := List.getElem_of_mem hy
  rcases Nat.lt_trichotomy i j with hlt | heq | hgt
  · have h1 := h.gs j hj
    simp only [gS, Bool.and_eq_true, List.all_eq_true] at h1
    have h2 := h1.2 i (by rw [List.mem_range'_1]; omega)
    simp only [gInS, Bool.and_eq_true, Bool.not_eq_true', decide_eq_false_iff_not] at h2
    rw [show mAt l j = maskN l[j] by simp [mAt, hj], show mAt l i = maskN l[i] by simp [mAt, hi], Nat.and_comm] at h2
    exact absurd he h2.1
  · subst heq
    rfl
  · have h1 := h.gs i hi
    simp only [gS, Bool.and_eq_true, List.all_eq_true] at h1
    have h2 := h1.2 j (by rw [List.mem_range'_1]; omega)
    simp only [gInS, Bool.and_eq_true, Bool.not_eq_true', decide_eq_false_iff_not] at h2
    rw [show mAt l j = maskN l[j] by simp [mAt, hj], show mAt l i = maskN l[i] by simp [mAt, hi]] at h2
    exact absurd he h2.2
theorem good_mask {n : Int} {l : List (List Int)} (h : GoodG n l) : ∀ x ∈ l, maskN x < 2 ^ n.toNat := fun x hx => by
  have h1 := h.n1
  exact maskN_lt n.toNat x (fun y hy => by have := setB_in (h.sets x hx).2 y hy; omega)
theorem leastB_game {n : Int} {l : List (List Int)} (h : GoodG n l) (m : Nat) (hm : m < 2 ^ n.toNat) : leastB (winsG n.toNat l) n.toNat m = true ↔ ∃ x ∈ l, maskN x = m := by
  unfold leastB
  rw [Bool.and_eq_true, winsG_iff _ _ _ hm, List.all_eq_true]
  constructor
  · rintro ⟨⟨x, hx, he⟩, hl⟩
    refine ⟨x, hx, ?_⟩
    apply Nat.eq_of_testBit_eq
    intro i
    cases hi : m.testBit i with
    | false =>
      cases hxi : (maskN x).testBit i with
      | false => rfl
      | true => rw [(and_eq_iff _ _).1 he i hxi] at hi; cases hi
    | true =>
      cases hxi : (maskN x).testBit i with
      | true => rfl
      | false =>
        have hin : i < n.toNat := by
          rcases Nat.lt_or_ge i n.toNat with h1 | h1
          · exact h1
          · rw [Nat.testBit_lt_two_pow (Nat.lt_of_lt_of_le hm (Nat.pow_le_pow_right (by omega) h1))] at hi; cases hi
        have h2 := hl i (List.mem_range.2 hin)
        rw [bitB_test, hi, Bool.not_true, Bool.false_or, Bool.not_eq_true'] at h2
        have h3 : (winsG n.toNat l).getD (m - 2 ^ i) false = true := (winsG_iff _ _ _ (Nat.lt_of_le_of_lt (Nat.sub_le _ _) hm)).2 ⟨x, hx, (and_eq_iff _ _).2 (fun j hj => by
          rw [sub_pow_test m i j hi, (and_eq_iff _ _).1 he j hj]
          by_cases e : j = i
          · subst e; rw [hxi] at hj; cases hj
          · simp [e])⟩
        rw [h3] at h2
        cases h2
  · rintro ⟨x, hx, rfl⟩
    refine ⟨⟨x, hx, Nat.and_self _⟩, fun i hi => ?_⟩
    rw [bitB_test]
    cases hb : (maskN x).testBit i with
    | false => rfl
    | true =>
      rw [Bool.not_true, Bool.false_or, Bool.not_eq_true']
      refine Bool.eq_false_iff.2 fun hw => ?_
      obtain ⟨y, hy, he⟩ := (winsG_iff _ _ _ (Nat.lt_of_le_of_lt (Nat.sub_le _ _) hm)).1 hw
      have h1 := (and_eq_iff _ _).1 he
      have h2 : maskN x &&& maskN y = maskN y := (and_eq_iff _ _).2 (fun j hj => by
        have := h1 j hj
        rw [sub_pow_test _ i j hb] at this
        simp only [Bool.and_eq_true] at this
        exact this.1)
      have h3 := good_apart h hx hy h2
      rw [h3] at hb
      have := h1 i hb
      rw [sub_pow_test _ i i (by rw [h3]; exact hb)] at this
      simp at this
end Go.Proofs.Ytmmmblfghhcndaa.Q

namespace Go.Proofs.Ytmmmblfghhcndaa.Q
open Go.RowKit Go.Proofs.YtmmmblfghhcndaaW.PrintWords Go.Proofs.YtmmmblfghhcndaaW.PrintLast Go.Proofs.YtmmmblfghhcndaaW.PrintMore Go.Proofs.YtmmmblfghhcndaaM
set_option linter.unusedVariables false
set_option linter.unusedSimpArgs false
theorem spec_voList.ev_l (m : Nat) (hm : m < 2 ^ 62) : ∀ (d i : Nat), i + d = 62 → Ev (fun k => spec_voList.l0 k (m : Int) (setTo m i) (i : Int)) (setN m) := by
  intro d
  induction d with
  | zero =>
    intro i h
    refine ev_step ?_
    simp only [spec_voList.l0]
    have e : m / 2 ^ i = 0 := by rw [show i = 62 by omega]; exact Nat.div_eq_of_lt hm
    rw [ev_pos (by omega), shr_nat m i (by omega), e, ev_neg (by omega), ev_now, setTo_done e (by omega)]
  | succ d ih =>
    intro i h
    refine ev_step ?_
    simp only [spec_voList.l0]
    have hl := setTo_len m i
    have et : Int.tmod ((m / 2 ^ i : Nat) : Int) 2 = ((m / 2 ^ i % 2 : Nat) : Int) := (Int.ofNat_tmod (m / 2 ^ i) 2).symm
    rw [ev_pos (by omega), shr_nat m i (by omega), w64 (by omega) (by omega)]
    by_cases e : m / 2 ^ i = 0
    · rw [ev_neg (by omega), ev_now, setTo_done e (by omega)]
    · rw [ev_pos (Int.natCast_pos.2 (Nat.pos_of_ne_zero e)), et]
      have := ih (i + 1) (by omega)
      rw [setTo_succ] at this
      by_cases hb : m / 2 ^ i % 2 = 1
      · rw [if_pos (by simp [bitB, hb])] at this
        rw [ev_pos (by rw [hb]; rfl), ev_pos (by omega)]
        exact this
      · rw [if_neg (by simp [bitB]; omega)] at this
        rw [ev_neg (c := ((m / 2 ^ i % 2 : Nat) : Int) = 1) (fun h_ => hb (Int.ofNat_inj.1 h_))]
        exact this
theorem spec_voList.ev (m : Nat) (hm : m < 2 ^ 62) : Ev (fun k => spec_voList.f k (m : Int)) (setN m) := spec_voList.ev_l m hm 62 0 (by omega)
end Go.Proofs.Ytmmmblfghhcndaa.Q

namespace Go.Proofs.Ytmmmblfghhcndaa.Q
open Go.RowKit Go.Proofs.YtmmmblfghhcndaaX Go.Proofs.YtmmmblfghhcndaaW.PrintWords Go.Proofs.YtmmmblfghhcndaaW.PrintLast Go.Proofs.YtmmmblfghhcndaaW.PrintMore
attribute [local go_sem] max2_int min2_int max_two min_two max_three min_three max_four min_four   -- for this text's walks alone
set_option linter.unusedVariables false
set_option linter.unusedSimpArgs false

/-! ### spec_voWeight: function 113 -/
def spec_voWeight.l0 : Nat → Int → Int → List Int → Int → Int → Option (Int)
 | 0, _, _, _, _, _ => none
 | k + 1, x1, x5, x9, x10, x11 => if x11 < x10 then (if 0 ≤ x11 then (if x11 < (x9.length : Int) then (if (Int.tmod (shr .i64 x1 x11) 2) = 1 then (spec_voWeight.l0 k x1 (wrap64 (x5 + (rd x9 x11))) x9 x10 (wrap64 (x11 + 1))) else (spec_voWeight.l0 k x1 x5 x9 x10 (wrap64 (x11 + 1)))) else (none)) else (none)) else (some x5)
def spec_voWeight.f (k : Nat) (a0_0 : Int) (l0_1 : List Int) (a1 : Int) : Option (Int) := spec_voWeight.l0 k a1 0 l0_1 (l0_1.length : Int) 0
theorem spec_voWeight.mono_l : ∀ k, (∀ y0 y1 y2 y3 y4, LeO (spec_voWeight.l0 k y0 y1 y2 y3 y4) (spec_voWeight.l0 (k + 1) y0 y1 y2 y3 y4))
 | 0 => fun _ _ _ _ _ r h => by simp [spec_voWeight.l0] at h
 | k + 1 => by
  have ih0 := spec_voWeight.mono_l k
  ·intro y0 y1 y2 y3 y4
   unfold spec_voWeight.l0
   repeat' first
   | (with_reducible exact ih0 _ _ _ _ _)
   | (with_reducible exact LeO.refl _)
   | (with_reducible exact LeO.none _)
   | (with_reducible refine LeO.ite ?_ ?_)
   | (with_reducible refine LeO.bind ?_ (fun _ => ?_))
   | exact ih0 _ _ _ _ _
   | exact LeO.none _
   | refine LeO.ite ?_ ?_
   | refine LeO.bind ?_ (fun _ => ?_)
theorem spec_voWeight.mono : ∀ a0 a1 a2 k, LeO (spec_voWeight.f k a0 a1 a2) (spec_voWeight.f (k + 1) a0 a1 a2) := by
 intro a0 a1 a2 k
 have ih0 := spec_voWeight.mono_l k
 unfold spec_voWeight.f
 repeat' first
   | (with_reducible exact ih0 _ _ _ _ _)
   | (with_reducible exact LeO.refl _)
   | (with_reducible exact LeO.none _)
   | (with_reducible refine LeO.ite ?_ ?_)
   | (with_reducible refine LeO.bind ?_ (fun _ => ?_))
   | exact ih0 _ _ _ _ _
   | exact LeO.none _
   | refine LeO.ite ?_ ?_
   | refine LeO.bind ?_ (fun _ => ?_)
set_option maxHeartbeats 8000000 in
set_option maxRecDepth 100000 in
theorem spec_voWeight.calls (k : Nat) (a0_0 : Int) (A0_1 : Option Addr) (c0_1 : Nat) (l0_1 : List Int) (a1 : Int) (r : Int) (w : World) (hr0_1 : Kd.C (Kd.int .i64) w A0_1 l0_1.length l0_1) (hc0_1 : l0_1.length ≤ c0_1) (h : spec_voWeight.f k a0_0 l0_1 a1 = some r) :
  Calls Try.prog 113 #[.agg #[.int .i64 a0_0, .slice A0_1 l0_1.length c0_1], .int .i64 a1] w fun e w' => e = .returned (.int .i64 r) ∧ Below w.heap.size w w' := by
 have hu41 := Try.underlying41
 have HR0_1 := Aside0.mk hr0_1
 have HC0_1 := Aside0.mk hc0_1
 clear hr0_1 hc0_1
 have HB := Aside0.mk (Below.refl w.heap.size w)
 have H : (spec_voWeight.l0 k a1 0 l0_1 (l0_1.length : Int) 0) = some r := h
 clear h
 have H' := Aside0.mk H
 clear H
 go_enter Try.func113, Try.ntmps113
 go_wp2_with (first | ((with_reducible refine gate_dst (N := 2) rfl ?_); refine box_event ?hg (N := 2) ?hd (cs := #[.int .i64 a0_0, .slice A0_1 l0_1.length c0_1]) (t := 41) ?hr ?_; (case hd => rfl); (case hg => rfl); (case hr => first | (go_simp; done) | (go_simp; rfl)); intro gb101 hg w3 hbox hb; have n0_ := Aside0.mk (below_step (by repeat (first | (with_reducible first | exact HB.out | apply ba | apply bd | apply be) | exact HB.out)) hb); have n1_ := Aside0.mk (hbox); have n2_ := Aside0.mk ((by rw [hg]; exact (below_size (by repeat (first | (with_reducible first | exact HB.out | apply ba | apply bd | apply be) | exact HB.out))) : w.heap.size ≤ gb101)); have n3_ := Aside0.mk ((by rw [hg]; exact (below_size (by repeat (first | (with_reducible first | exact HB.out | apply ba | apply bd | apply be) | exact HB.out))) : w.heap.size ≤ gb101)); clear HB; have HB := n0_; have BK101 := n1_; have GW101 := n2_; have GE101 := n3_; clear n0_ n1_ n2_ n3_; clear hb hbox hg; have hcz4_0 : w3.cell? ⟨gb101, 0, none⟩ = some (.int .i64 a0_0) := (blk_cell BK101.out 0).trans rfl; have hcz4_1 : w3.cell? ⟨gb101, 1, none⟩ = some (.slice A0_1 l0_1.length c0_1) := (blk_cell BK101.out 1).trans rfl; have hfz4_0 := blk_frozen BK101.out 0; have hfz4_1 := blk_frozen BK101.out 1))
 go_loopg [5, 11] k (fun kq v5 v11 w' => ∃ (x5_1 : Int) (x11_1 : Int), v5 = .int .i64 x5_1 ∧ v11 = .int .i64 x11_1 ∧ Aside0 (spec_voWeight.l0 kq a1 x5_1 l0_1 (l0_1.length : Int) x11_1 = some r) ∧ Aside0 (kq ≤ k) ∧ Aside0 (w'.heap[gb101]? = some (.cells #[.int .i64 a0_0, (.slice A0_1 l0_1.length c0_1)] 41 (0, 0))) ∧ Aside0 (Below w.heap.size w w'))
 case atStart => exact ⟨(0), (0), (by first | rfl | (simp; done) | (simp [*]; done)), (by first | rfl | (simp; done) | (simp [*]; done)), H', ⟨Nat.le_refl _⟩, ⟨by (first | exact bp BK101.out | exact BK101.out)⟩, ⟨by repeat (first | (with_reducible first | exact HB.out | apply ba | apply bd | apply be | refine bs ?_ GE101.out) | exact HB.out)⟩⟩
 case round =>
  clear H'
  try clear c1
  try clear p2
  try clear hcz4_0
  try clear hcz4_1
  try clear hfz4_0
  try clear hfz4_1
  obtain ⟨x5_1, x11_1, rfl, rfl, HA, HK1, BK101, HB⟩ := hrel
  cases gk with
  | zero => exact absurd HA.out (by simp [spec_voWeight.l0])
  | succ k1 =>
   have H := HA.out
   clear HA
   simp only [spec_voWeight.l0] at H
   by_cases c5 : x11_1 < (l0_1.length : Int)
   ·rw [if_pos c5] at H
    have c5b0 : decide (x11_1 < (l0_1.length : Int)) = true := decide_eq_true c5
    clear c5
    by_cases c6 : 0 ≤ x11_1
    ·rw [if_pos c6] at H
     have c6b0 : decide (0 ≤ x11_1) = true := decide_eq_true c6
     clear c6
     by_cases c7 : x11_1 < (l0_1.length : Int)
     ·rw [if_pos c7] at H
      have c7b0 : decide (x11_1 < (l0_1.length : Int)) = true := decide_eq_true c7
      clear c7
      have c8b0 := eq_true (of_decide_eq_true (by first | (with_reducible assumption) | assumption) : 0 ≤ x11_1)
      obtain ⟨ji9, hji9⟩ : ∃ j_ : Int, (shr .i64 a1 x11_1) = j_ := ⟨_, rfl⟩
      replace H : (if (Int.tmod (ji9) 2) = 1 then (spec_voWeight.l0 k1 a1 (wrap64 (x5_1 + (rd l0_1 x11_1))) l0_1 (l0_1.length : Int) (wrap64 (x11_1 + 1))) else (spec_voWeight.l0 k1 a1 x5_1 l0_1 (l0_1.length : Int) (wrap64 (x11_1 + 1)))) = some r := by first | (rw [hji9] at H; exact H) | (simp only [hji9] at H ⊢; exact H)
      have hji9_ : (a1 / 2 ^ min x11_1.toNat 64) = ji9 := hji9
      have hji9z : x11_1 ≤ 64 → (a1 / 2 ^ x11_1.toNat) = ji9 := shr_small hji9
      by_cases c10 : (Int.tmod (ji9) 2) = 1
      ·rw [if_pos c10] at H
       have c10b0 : ((Int.tmod (ji9) 2) == 1) = true := beq_iff_eq.mpr c10
       have c10b1 : ((Int.tmod (ji9) 2) != 1) = false := bne_eq_false_iff_eq.mpr c10
       clear c10
       have H' := Aside0.mk H
       clear H
       have p102 : 0 ≤ (x11_1 : Int) := of_decide_eq_true (by first | (with_reducible assumption) | assumption)
       have q102 : x11_1 < (l0_1.length : Int) := of_decide_eq_true (by first | (with_reducible assumption) | assumption)
       obtain ⟨ad102, e102, hx102_0⟩ := Kd.at_int HR0_1.out x11_1 p102 q102
       cases e102
       replace hx102_0 := (HB.out.cell (World.block_lt_of_cell? w _ hx102_0)).trans hx102_0
       replace p102 := eq_true p102
       replace q102 := eq_true q102
       go_wp2
       go_roundg k1
       case measure => have := HK1.out; omega
       case rel => exact ⟨(wrap64 (x5_1 + (rd l0_1 x11_1))), (wrap64 (x11_1 + 1)), (by first | rfl | (simp; done) | (simp [*]; done)), (by first | rfl | (simp; done) | (simp [*]; done)), H', ⟨by have := HK1.out; omega⟩, ⟨by (first | exact bp BK101.out | exact BK101.out)⟩, ⟨by repeat (first | (with_reducible first | exact HB.out | apply ba | apply bd | apply be | refine bs ?_ GE101.out) | exact HB.out)⟩⟩
      ·rw [if_neg c10] at H
       have c10b0 : ((Int.tmod (ji9) 2) == 1) = false := beq_eq_false_iff_ne.mpr c10
       have c10b1 : ((Int.tmod (ji9) 2) != 1) = true := bne_iff_ne.mpr c10
       have H' := Aside0.mk H
       clear H
       have p102 : 0 ≤ (x11_1 : Int) := of_decide_eq_true (by first | (with_reducible assumption) | assumption)
       have q102 : x11_1 < (l0_1.length : Int) := of_decide_eq_true (by first | (with_reducible assumption) | assumption)
       obtain ⟨ad102, e102, hx102_0⟩ := Kd.at_int HR0_1.out x11_1 p102 q102
       cases e102
       replace hx102_0 := (HB.out.cell (World.block_lt_of_cell? w _ hx102_0)).trans hx102_0
       replace p102 := eq_true p102
       replace q102 := eq_true q102
       go_wp2
       go_roundg k1
       case measure => have := HK1.out; omega
       case rel => exact ⟨(x5_1), (wrap64 (x11_1 + 1)), (by first | rfl | (simp; done) | (simp [*]; done)), (by first | rfl | (simp; done) | (simp [*]; done)), H', ⟨by have := HK1.out; omega⟩, ⟨by (first | exact bp BK101.out | exact BK101.out)⟩, ⟨by repeat (first | (with_reducible first | exact HB.out | apply ba | apply bd | apply be | refine bs ?_ GE101.out) | exact HB.out)⟩⟩
     ·rw [if_neg c7] at H
      exact absurd H (by simp)
    ·rw [if_neg c6] at H
     exact absurd H (by simp)
   ·rw [if_neg c5] at H
    have c5b0 : decide (x11_1 < (l0_1.length : Int)) = false := decide_eq_false c5
    clear c5
    obtain rfl := Option.some.inj H
    go_wp2
    go_ret
    exact ⟨by first | rfl | (simp <;> rfl) | (simp [*] <;> rfl), by repeat (first | (with_reducible first | exact HB.out | apply ba | apply bd | apply be | refine bs ?_ GE101.out) | exact HB.out)⟩

end Go.Proofs.Ytmmmblfghhcndaa.Q

namespace Go.Proofs.Ytmmmblfghhcndaa.Q
open Go.RowKit Go.Proofs.YtmmmblfghhcndaaW.PrintWords Go.Proofs.YtmmmblfghhcndaaW.PrintLast Go.Proofs.YtmmmblfghhcndaaW.PrintMore Go.Proofs.YtmmmblfghhcndaaM
set_option linter.unusedVariables false
set_option linter.unusedSimpArgs false
theorem spec_bit (m i : Nat) (hm : m < 2 ^ 62) (hi : i ≤ 62) : Int.tmod (shr .i64 (m : Int) (i : Int)) 2 = ((m / 2 ^ i % 2 : Nat) : Int) := by
  rw [shr_nat m i (by omega)]
  generalize m / 2 ^ i = x
  rw [Int.tmod_eq_emod_of_nonneg (by omega)]
  omega
theorem spec_voWeight.ev_l (q : Int) (ws : List Int) (m : Nat) (hm : m < 2 ^ 62) (hl : ws.length ≤ 60) (hw : ∀ x ∈ ws, 0 ≤ x ∧ x ≤ 1000000000) : ∀ (d i : Nat) (s : Int), i + d = ws.length → 0 ≤ s → s + wsum (ws.drop i) (m / 2 ^ i) ≤ 1000000000000 → Ev (fun k => spec_voWeight.l0 k (m : Int) s ws (ws.length : Int) (i : Int)) (s + wsum (ws.drop i) (m / 2 ^ i)) := by
  intro d
  induction d with
  | zero =>
    intro i s h _ _
    refine ev_step ?_
    simp only [spec_voWeight.l0]
    rw [ev_neg (by omega), ev_now, List.drop_of_length_le (by omega)]
    simp [wsum]
  | succ d ih =>
    intro i s h h0 h1
    refine ev_step ?_
    simp only [spec_voWeight.l0]
    have hi : i < ws.length := by omega
    have hx := hw ws[i] (List.getElem_mem hi)
    have hd : wsum (ws.drop i) (m / 2 ^ i) = (if m / 2 ^ i % 2 = 1 then ws[i] else 0) + wsum (ws.drop (i + 1)) (m / 2 ^ (i + 1)) := by
      rw [wsum_drop ws i _ hi, Nat.div_div_eq_div_mul, ← Nat.pow_succ]
    have hb := wsum_bounds (ws.drop (i + 1)) (fun x hx => (hw x (List.mem_of_mem_drop hx)).1) (m / 2 ^ (i + 1))
    rw [ev_pos (by omega), ev_pos (by omega), ev_pos (by omega), spec_bit m i hm (by omega), w64i (n := ws.length) (by omega) (by omega) (by omega), rd_lt ws i hi, hd]
    rw [hd] at h1
    by_cases hbit : m / 2 ^ i % 2 = 1
    · rw [if_pos hbit] at h1 ⊢
      rw [ev_pos (by rw [hbit]; rfl), w64 (by omega) (by omega), ← Int.add_assoc]
      exact ih (i + 1) (s + ws[i]) (by omega) (by omega) (by omega)
    · rw [if_neg hbit] at h1 ⊢
      rw [ev_neg (by omega), Int.zero_add]
      exact ih (i + 1) s (by omega) h0 (by omega)
theorem spec_voWeight.ev (q : Int) (ws : List Int) (m : Nat) (hm : m < 2 ^ 62) (hl : ws.length ≤ 60) (hw : ∀ x ∈ ws, 0 ≤ x ∧ x ≤ 1000000000) : Ev (fun k => spec_voWeight.f k q ws (m : Int)) (wsum ws m) := by
  have hb := wsum_bounds ws (fun x hx => (hw x hx).1) m
  have hs := sum_bounds ws 1000000000 hw
  have := spec_voWeight.ev_l q ws m hm hl hw ws.length 0 0 (by omega) (by omega) (by simp; omega)
  simpa [spec_voWeight.f] using this
end Go.Proofs.Ytmmmblfghhcndaa.Q

namespace Go.Proofs.Ytmmmblfghhcndaa.Q
open Go.RowKit Go.Proofs.YtmmmblfghhcndaaX Go.Proofs.YtmmmblfghhcndaaW.PrintWords Go.Proofs.YtmmmblfghhcndaaW.PrintLast Go.Proofs.YtmmmblfghhcndaaW.PrintMore
attribute [local go_sem] max2_int min2_int max_two min_two max_three min_three max_four min_four   -- for this text's walks alone
set_option linter.unusedVariables false
set_option linter.unusedSimpArgs false

/-! ### spec_voWins: function 72 -/
def spec_voWins.l0 : Nat → List Bool → Int → Int → List Int → Option (List Bool)
 | 0, _, _, _, _ => none
 | k + 1, x3, x4, x102000, x102001 => (spec_voAll.f (x102001.length : Int)).bind fun t102 => (if x4 ≤ t102 then ((spec_voWeight.f k x102000 x102001 x4).bind fun t103 => (if x3.length < 140737488355328 then (spec_voWins.l0 k (x3 ++ [decide (t103 ≥ x102000)]) (wrap64 (x4 + 1)) x102000 x102001) else (none))) else (some x3))
def spec_voWins.f (k : Nat) (a0_0 : Int) (l0_1 : List Int) : Option (List Bool) := spec_voWins.l0 k ([] : List Bool) 0 a0_0 l0_1
theorem spec_voWins.mono_l : ∀ k, (∀ y0 y1 y2 y3, LeO (spec_voWins.l0 k y0 y1 y2 y3) (spec_voWins.l0 (k + 1) y0 y1 y2 y3))
 | 0 => fun _ _ _ _ r h => by simp [spec_voWins.l0] at h
 | k + 1 => by
  have ih0 := spec_voWins.mono_l k
  ·intro y0 y1 y2 y3
   unfold spec_voWins.l0
   repeat' first
   | (with_reducible exact ih0 _ _ _ _)
   | (with_reducible exact spec_voWeight.mono _ _ _ _)
   | (with_reducible exact LeO.refl _)
   | (with_reducible exact LeO.none _)
   | (with_reducible refine LeO.ite ?_ ?_)
   | (with_reducible refine LeO.bind ?_ (fun _ => ?_))
   | exact ih0 _ _ _ _
   | exact spec_voWeight.mono _ _ _ _
   | exact LeO.none _
   | refine LeO.ite ?_ ?_
   | refine LeO.bind ?_ (fun _ => ?_)
theorem spec_voWins.mono : ∀ a0 a1 k, LeO (spec_voWins.f k a0 a1) (spec_voWins.f (k + 1) a0 a1) := by
 intro a0 a1 k
 have ih0 := spec_voWins.mono_l k
 unfold spec_voWins.f
 repeat' first
   | (with_reducible exact ih0 _ _ _ _)
   | (with_reducible exact spec_voWeight.mono _ _ _ _)
   | (with_reducible exact LeO.refl _)
   | (with_reducible exact LeO.none _)
   | (with_reducible refine LeO.ite ?_ ?_)
   | (with_reducible refine LeO.bind ?_ (fun _ => ?_))
   | exact ih0 _ _ _ _
   | exact spec_voWeight.mono _ _ _ _
   | exact LeO.none _
   | refine LeO.ite ?_ ?_
   | refine LeO.bind ?_ (fun _ => ?_)
def spec_voWins.T5 : Bool × List (List Nat × List Nat) := (true, [([], []), ([], []), ([], []), ([1, 2], [1, 2]), ([], []), ([4], [4]), ([3, 5], [3, 5]), ([6], [6]), ([0, 7, 3], [0, 7]), ([8, 8, 0, 1, 2, 3, 4, 5, 6, 7, 8], [0, 8])])
def spec_voWins.B5 : List Nat := [0, 0, 0, 6, 0, 16, 62, 126, 255, 511]
theorem spec_voWins.tab5 : rtab .any (opsOf Try.f72 5) = spec_voWins.T5 := by kernel_rfl
theorem spec_voWins.bits5 : waitsOk spec_voWins.T5.2 spec_voWins.B5 = true := by kernel_rfl
set_option maxHeartbeats 8000000 in
set_option maxRecDepth 100000 in
theorem spec_voWins.calls (k : Nat) (a0_0 : Int) (A0_1 : Option Addr) (c0_1 : Nat) (l0_1 : List Int) (r : List Bool) (w : World) (hr0_1 : Kd.C (Kd.int .i64) w A0_1 l0_1.length l0_1) (hc0_1 : l0_1.length ≤ c0_1) (h : spec_voWins.f k a0_0 l0_1 = some r) :
  Calls Try.prog 72 #[.agg #[.int .i64 a0_0, .slice A0_1 l0_1.length c0_1]] w fun e w' => ∃ v0_ : Value, e = .returned (v0_) ∧ Kd.R Kd.bool 4 w' w.heap.size (fun _ => True) v0_ r ∧ Below w.heap.size w w' := by
 have hu41 := Try.underlying41
 have HR0_1 := Aside0.mk hr0_1
 have HC0_1 := Aside0.mk hc0_1
 clear hr0_1 hc0_1
 have HB := Aside0.mk (Below.refl w.heap.size w)
 have H : (spec_voWins.l0 k ([] : List Bool) 0 a0_0 l0_1) = some r := h
 clear h
 have H' := Aside0.mk H
 clear H
 go_enter Try.func72, Try.ntmps72
 go_wp2_with (first | ((with_reducible refine gate_dst (N := 1) rfl ?_); refine box_event ?hg (N := 1) ?hd (cs := #[.int .i64 a0_0, .slice A0_1 l0_1.length c0_1]) (t := 41) ?hr ?_; (case hd => rfl); (case hg => rfl); (case hr => first | (go_simp; done) | (go_simp; rfl)); intro gb101 hg w2 hbox hb; have n0_ := Aside0.mk (below_step (by repeat (first | (with_reducible first | exact HB.out | apply ba | apply bd | apply be) | exact HB.out)) hb); have n1_ := Aside0.mk (hbox); have n2_ := Aside0.mk ((by rw [hg]; exact (below_size (by repeat (first | (with_reducible first | exact HB.out | apply ba | apply bd | apply be) | exact HB.out))) : w.heap.size ≤ gb101)); have n3_ := Aside0.mk ((by rw [hg]; exact (below_size (by repeat (first | (with_reducible first | exact HB.out | apply ba | apply bd | apply be) | exact HB.out))) : w.heap.size ≤ gb101)); clear HB; have HB := n0_; have BK101 := n1_; have GW101 := n2_; have GE101 := n3_; clear n0_ n1_ n2_ n3_; clear hb hbox hg))
 go_loopg [3, 4] k (fun kq v3 v4 w' => ∃ (x3_1 : List Bool) (x4_1 : Int), v4 = .int .i64 x4_1 ∧ Aside0 (spec_voWins.l0 kq x3_1 x4_1 a0_0 l0_1 = some r) ∧ Aside0 (kq ≤ k) ∧ Aside0 (Kd.R Kd.bool 4 w' w.heap.size (fun _ => True) v3 x3_1) ∧ Aside0 (w'.heap[gb101]? = some (.cells #[.int .i64 a0_0, (.slice A0_1 l0_1.length c0_1)] 41 (0, 0))) ∧ Aside0 (Below w.heap.size w w'))
 case atStart => exact ⟨(([] : List Bool)), (0), (by first | rfl | (simp; done) | (simp [*]; done)), H', ⟨Nat.le_refl _⟩, ⟨by first | exact Kd.R_nil _ _ _ _ _ | exact Kd.N_nil _ _ _ _ _ | exact Kd.V_nil _ _ _ _ _ | exact Kd.Q_nil _ _ _ _ _ | exact Kd.S_nil _ _ _ _ _⟩, ⟨by (first | exact bp BK101.out | exact BK101.out)⟩, ⟨by repeat (first | (with_reducible first | exact HB.out | apply ba | apply bd | apply be | refine bs ?_ GE101.out) | exact HB.out)⟩⟩
 case round =>
  clear H'
  try clear p2
  obtain ⟨x3_1, x4_1, rfl, HA, HK1, HO_3, BK101, HB⟩ := hrel
  cases gk with
  | zero => exact absurd HA.out (by simp [spec_voWins.l0])
  | succ k1 =>
   have H := HA.out
   clear HA
   simp only [spec_voWins.l0] at H
   replace H := oB H
   obtain ⟨t102, A30, H⟩ := H
   replace H : (if x4_1 ≤ t102 then ((spec_voWeight.f k1 a0_0 l0_1 x4_1).bind fun t103 => (if x3_1.length < 140737488355328 then (spec_voWins.l0 k1 (x3_1 ++ [decide (t103 ≥ a0_0)]) (wrap64 (x4_1 + 1)) a0_0 l0_1) else (none))) else (some x3_1)) = some r := H
   have A3 := Aside0.mk A30
   clear A30
   by_cases c4 : x4_1 ≤ t102
   ·rw [if_pos c4] at H
    have c4b0 : decide (x4_1 ≤ t102) = true := decide_eq_true c4
    clear c4
    replace H := oB H
    obtain ⟨t103, A50, H⟩ := H
    replace H : (if x3_1.length < 140737488355328 then (spec_voWins.l0 k1 (x3_1 ++ [decide (t103 ≥ a0_0)]) (wrap64 (x4_1 + 1)) a0_0 l0_1) else (none)) = some r := H
    have A5 := Aside0.mk A50
    clear A50
    by_cases c6 : x3_1.length < 140737488355328
    ·rw [if_pos c6] at H
     have LMc6 := Aside0.mk c6
     clear c6
     obtain ⟨y104, hy104⟩ : ∃ y_ : List Bool, y_ = (x3_1 ++ [decide (t103 ≥ a0_0)]) := ⟨_, rfl⟩
     replace H : (spec_voWins.l0 k1 y104 (wrap64 (x4_1 + 1)) a0_0 l0_1) = some r := by first | (rw [hy104]; with_reducible exact H) | (have H2_ := (Option.bind_some _ _).symm.trans H; rw [hy104]; with_reducible exact H2_) | (have H2_ := (Option.bind_some _ _).symm.trans H; with_reducible exact H2_) | with_reducible exact H | (rw [hy104]; exact H) | exact H
     have Ny104 := Aside0.mk hy104
     clear hy104
     have H' := Aside0.mk H
     clear H
     have hcz7_0 : wr.cell? ⟨gb101, 0, none⟩ = some (.int .i64 a0_0) := (blk_cell BK101.out 0).trans rfl
     have hcz7_1 : wr.cell? ⟨gb101, 1, none⟩ = some (.slice A0_1 l0_1.length c0_1) := (blk_cell BK101.out 1).trans rfl
     have hfz7_0 := blk_frozen BK101.out 0
     have hfz7_1 := blk_frozen BK101.out 1
     try go_wp2_with (first | ((with_reducible refine gate_callee (f := 78) rfl ?_); refine goesL_ (some 9) rfl rfl Try.func78 (by kernel_rfl) rfl #[.int .i64 (l0_1.length : Int)] rfl (by (try simp only [mA, mC, mN]); first | done | rfl | (simp only [List.length_drop, List.length_take]; rfl)) ?_; (with_reducible refine (spec_voAll.calls (l0_1.length : Int) t102 _ A3.out).mono ?_); rintro e w' ⟨rfl, ⟨nd, rfl⟩⟩; refine ⟨_, rfl, ?_⟩))
     (try (rw [drewN_self wr]; generalize hq_ : World.drewN wr _ = wr; have n0_ : Aside0 (Kd.R Kd.bool 4 wr w.heap.size (fun _ => True) u3 x3_1) := ⟨by rw [← hq_]; exact (by (first | exact rp HO_3.out | exact HO_3.out))⟩; have n1_ : Aside0 (wr.heap[gb101]? = some (.cells #[.int .i64 a0_0, .slice A0_1 l0_1.length c0_1] 41 (0, 0))) := ⟨by rw [← hq_]; exact (by (first | exact bp BK101.out | exact BK101.out))⟩; have n2_ : Aside0 (Below w.heap.size w wr) := ⟨by rw [← hq_]; exact (by repeat (first | (with_reducible first | exact HB.out | apply ba | apply bd | apply be | refine bs ?_ GE101.out) | exact HB.out))⟩; clear HO_3 BK101 HB hq_; have HO_3 := n0_; have BK101 := n1_; have HB := n2_; clear n0_ n1_ n2_))
     have n0_ := Aside0.mk (Kd.R_drew HO_3.out)
     have n1_ := Aside0.mk (blk_drew BK101.out)
     have n2_ := Aside0.mk (below_drew1 HB.out)
     clear HO_3
     clear BK101
     clear HB
     have HO_3 := n0_
     have BK101 := n1_
     have HB := n2_
     clear n0_ n1_ n2_
     refine start_ (n := 10) (S := fun w' => w'.cell? ⟨gb101, 0, none⟩ = some (.int .i64 a0_0) ∧ w'.cell? ⟨gb101, 1, none⟩ = some (.slice A0_1 l0_1.length c0_1)) (ds := []) #[false, false, false, false, false, false, false, false, false, false] (by kernel_rfl) rfl rfl ⟨(blk_cell BK101.out 0).trans rfl, (blk_cell BK101.out 1).trans rfl⟩ (fun hHeld => ?_); refine with_tabW spec_voWins.tab5 spec_voWins.bits5 (fun HT_ HW_ => ?_)
     generalize wr.drew = w8 at HO_3 BK101 HB hHeld ⊢
     refine pure_ (i := 0) (N := some 13) (v := ?_) (a' := ?_) #[true, false, false, false, false, false, false, false, false, false] rfl rfl (any_of HT_.out (by kernel_rfl)) (fun _ _ _ h => h) (Or.inl ⟨by rfl, ?_⟩) ?_ ?_
     rotate_left
     ·intro w'
      go_simp
      with_reducible rfl
     rotate_left
     ·simp only [Act.put, sA, sZ, sS, i64_w, i32_w]
      rfl
     refine pure_ (i := 2) (N := some 15) (v := ?_) (a' := ?_) #[true, false, true, false, false, false, false, false, false, false] rfl rfl (any_of HT_.out (by kernel_rfl)) (fun _ _ _ h => h) (Or.inl ⟨by rfl, ?_⟩) ?_ ?_
     rotate_left
     ·intro w'
      go_simp
      with_reducible rfl
     rotate_left
     ·simp only [Act.put, sA, sZ, sS, i64_w, i32_w]
      rfl
     refine pure_ (i := 4) (N := some 17) (v := ?_) (a' := ?_) #[true, false, true, false, true, false, false, false, false, false] rfl rfl (any_of HT_.out (by kernel_rfl)) (fun _ _ _ h => h) (Or.inl ⟨by rfl, ?_⟩) ?_ ?_
     rotate_left
     ·intro w'
      go_simp
      with_reducible rfl
     rotate_left
     ·simp only [Act.put, sA, sZ, sS, i64_w, i32_w]
      rfl
     refine take_ (i := 1) (N := some 14) (v := ?_) (a' := ?_) #[true, true, true, false, true, false, false, false, false, false] rfl rfl (take_ofW HT_.out HW_.out (by kernel_rfl)) (fun _ _ _ h => h) (Or.inl ⟨by rfl, ?_⟩) hHeld ?_ ?_
     rotate_left
     ·rintro w' ⟨s0, s1⟩
      go_simp
      with_reducible rfl
     rotate_left
     ·simp only [Act.put, sA, sZ, sS, i64_w, i32_w]
      rfl
     refine take_ (i := 5) (N := some 18) (v := ?_) (a' := ?_) #[true, true, true, false, true, true, false, false, false, false] rfl rfl (take_ofW HT_.out HW_.out (by kernel_rfl)) (fun _ _ _ h => h) (Or.inl ⟨by rfl, ?_⟩) hHeld ?_ ?_
     rotate_left
     ·rintro w' ⟨s0, s1⟩
      go_simp
      with_reducible rfl
     rotate_left
     ·simp only [Act.put, sA, sZ, sS, i64_w, i32_w]
      rfl
     refine one_ (i := 3) (N := some 16) #[true, true, true, true, true, true, false, false, false, false] rfl rfl (one_of HT_.out (by kernel_rfl)) (by decide) (fun K hK => ?_)
     refine goes_ Try.func113 (by kernel_rfl) rfl #[.agg #[.int .i64 a0_0, .slice A0_1 l0_1.length c0_1], .int .i64 x4_1] (by rfl) rfl rfl (by (try simp only [mA, mC, mN]); first | done | rfl | (simp only [List.length_drop, List.length_take]; rfl)) ?_
     with_reducible refine (spec_voWeight.calls k1 a0_0 _ _ l0_1 x4_1 t103 _ ?side1 ?side2 A5.out).mono ?_
     (case side1 => repeat (first | exact (Kd.C_below HR0_1.out HB.out) | (with_reducible refine Kd.C_alloc ?_ _) | (with_reducible refine Kd.C_drewN ?_ _) | (with_reducible refine Kd.C_drew ?_)))
     (case side2 => exact HC0_1.out)
     rintro e w9 ⟨rfl, hb⟩
     refine ⟨_, rfl, ?_⟩
     have n0_ := Aside0.mk (Kd.R_below (by (first | exact rp HO_3.out | exact HO_3.out)) hb)
     have n1_ := Aside0.mk (blk_below (g := gb101) (o := .cells #[.int .i64 a0_0, .slice A0_1 l0_1.length c0_1] 41 (0, 0)) (by (first | exact bp BK101.out | exact BK101.out)) hb)
     have n2_ := Aside0.mk (below_step (by repeat (first | (with_reducible first | exact HB.out | apply ba | apply bd | apply be | refine bs ?_ GE101.out) | exact HB.out)) hb)
     clear HO_3
     clear BK101
     clear HB
     have HO_3 := n0_
     have BK101 := n1_
     have HB := n2_
     clear n0_ n1_ n2_
     (try clear hb)
     (try clear hb2)
     (try clear hk)
     (try clear hi)
     refine hK.out _ _ ⟨(blk_cell BK101.out 0).trans rfl, (blk_cell BK101.out 1).trans rfl⟩ (fun hHeld => ?_)
     clear hK K
     refine norm_ (a' := ?_) ?_ ?_
     rotate_left
     ·show Act.put _ (some 16) _ = _
      simp only [Act.put, sA, sZ, sS, i64_w, i32_w]
      rfl
     refine pure_ (i := 6) (N := some 19) (v := ?_) (a' := ?_) #[true, true, true, true, true, true, true, false, false, false] rfl rfl (any_of HT_.out (by kernel_rfl)) (fun _ _ _ h => h) (Or.inl ⟨by rfl, ?_⟩) ?_ ?_
     rotate_left
     ·intro w'
      go_simp
      with_reducible rfl
     rotate_left
     ·simp only [Act.put, sA, sZ, sS, i64_w, i32_w]
      rfl
     refine one_ (i := 7) (N := some 20) #[true, true, true, true, true, true, true, true, false, false] rfl rfl (one_of HT_.out (by kernel_rfl)) (by decide) (fun K hK => ?_)
     refine value_ (w1 := ?_) (v := ?_) (by rfl) rfl ?_ ?_
     rotate_left 2
     ·go_simp
      constructor
      ·rfl
      ·rfl
     refine hK.out _ _ ⟨(blk_cell (blk_alloc BK101.out _) 0).trans rfl, (blk_cell (blk_alloc BK101.out _) 1).trans rfl⟩ (fun hHeld => ?_)
     clear hK K
     refine norm_ (a' := ?_) ?_ ?_
     rotate_left
     ·show Act.put _ (some 20) _ = _
      simp only [Act.put, sA, sZ, sS, i64_w, i32_w]
      rfl
     refine one_ (i := 8) (N := some 21) #[true, true, true, true, true, true, true, true, true, false] rfl rfl (one_of HT_.out (by kernel_rfl)) (by decide) (fun K hK => ?_)
     refine Kd.R_append_step Kd.bool (w0 := w) w.heap.size (by rfl) (.tmp 13) (.tmp 20) 66 4 (.bool false) 1 rfl Try.underlying66 info4 rfl (by decide) (by omega) u3 x3_1 (decide (t103 ≥ a0_0)) [.bool (decide (t103 ≥ a0_0))] (fun _ => True) (fun _ => False) rfl rfl ?aP (fun _ hk => hk.elim) ?aF ?aO ?aB ?aS ?aL ?_
     (case aP => exact rfl)
     (case aB => exact (by repeat (first | (with_reducible first | exact HB.out | apply ba | apply bd | apply be | refine bs ?_ GE101.out) | exact HB.out)))
     (case aF => exact (fun _ _ => trivial))
     (case aO => exact (by (first | exact rp HO_3.out | exact HO_3.out)))
     (case aS => exact (below_size (by repeat (first | (with_reducible first | exact HB.out | apply ba | apply bd | apply be | refine bs ?_ GE101.out) | exact HB.out))))
     (case aL => have := LMc6.out; omega)
     intro v105 w10 ho hb hg hat
     rw [← Ny104.out] at ho
     have n0_ := Aside0.mk (blk_grown (g := gb101) (o := .cells #[.int .i64 a0_0, .slice A0_1 l0_1.length c0_1] 41 (0, 0)) (by (first | exact bp BK101.out | exact BK101.out)) hg (Kd.R_ne HO_3.out BK101.out (by decide)))
     have n1_ := Aside0.mk (hb)
     have n2_ := Aside0.mk (ho)
     clear BK101
     clear HB
     clear HO_3
     have BK101 := n0_
     have HB := n1_
     have HO106 := n2_
     clear n0_ n1_ n2_
     clear ho hb hg hat
     refine hK.out _ _ ⟨(blk_cell BK101.out 0).trans rfl, (blk_cell BK101.out 1).trans rfl⟩ (fun hHeld => ?_)
     clear hK K
     refine norm_ (a' := ?_) ?_ ?_
     rotate_left
     ·show Act.put _ (some 21) _ = _
      simp only [Act.put, sA, sZ, sS, i64_w, i32_w]
      rfl
     refine pure_ (i := 9) (N := some 3) (v := ?_) (a' := ?_) #[true, true, true, true, true, true, true, true, true, true] rfl rfl (any_of HT_.out (by kernel_rfl)) (fun _ _ _ h => h) (Or.inl ⟨by rfl, ?_⟩) ?_ ?_
     rotate_left
     ·intro w'
      go_simp
      with_reducible rfl
     rotate_left
     ·simp only [Act.put, sA, sZ, sS, i64_w, i32_w]
      rfl
     refine done_ (done_of HT_.out (by kernel_rfl)) ?_
     try go_wp2
     go_roundg k1
     case measure => have := HK1.out; omega
     case rel => exact ⟨(y104), (wrap64 (x4_1 + 1)), (by first | rfl | (simp; done) | (simp [*]; done)), H', ⟨by have := HK1.out; omega⟩, ⟨by (first | exact rp HO106.out | exact HO106.out)⟩, ⟨by (first | exact bp BK101.out | exact BK101.out)⟩, ⟨by repeat (first | (with_reducible first | exact HB.out | apply ba | apply bd | apply be | refine bs ?_ GE101.out) | exact HB.out)⟩⟩
    ·rw [if_neg c6] at H
     exact absurd H (by simp)
   ·rw [if_neg c4] at H
    have c4b0 : decide (x4_1 ≤ t102) = false := decide_eq_false c4
    clear c4
    obtain rfl := Option.some.inj H
    have hcz11_0 : wr.cell? ⟨gb101, 0, none⟩ = some (.int .i64 a0_0) := (blk_cell BK101.out 0).trans rfl
    have hcz11_1 : wr.cell? ⟨gb101, 1, none⟩ = some (.slice A0_1 l0_1.length c0_1) := (blk_cell BK101.out 1).trans rfl
    have hfz11_0 := blk_frozen BK101.out 0
    have hfz11_1 := blk_frozen BK101.out 1
    go_wp2_with (first | ((with_reducible refine gate_callee (f := 78) rfl ?_); refine goesL_ (some 9) rfl rfl Try.func78 (by kernel_rfl) rfl #[.int .i64 (l0_1.length : Int)] rfl (by (try simp only [mA, mC, mN]); first | done | rfl | (simp only [List.length_drop, List.length_take]; rfl)) ?_; (with_reducible refine (spec_voAll.calls (l0_1.length : Int) t102 _ A3.out).mono ?_); rintro e w' ⟨rfl, ⟨nd, rfl⟩⟩; refine ⟨_, rfl, ?_⟩))
    go_ret
    exact ⟨_, by first | rfl | (simp <;> rfl) | (simp [*] <;> rfl), by (first | exact rp HO_3.out | exact HO_3.out), by repeat (first | (with_reducible first | exact HB.out | apply ba | apply bd | apply be | refine bs ?_ GE101.out) | exact HB.out)⟩

end Go.Proofs.Ytmmmblfghhcndaa.Q

namespace Go.Proofs.Ytmmmblfghhcndaa.Q
open Go.RowKit Go.Proofs.YtmmmblfghhcndaaW.PrintWords Go.Proofs.YtmmmblfghhcndaaW.PrintLast Go.Proofs.YtmmmblfghhcndaaW.PrintMore Go.Proofs.YtmmmblfghhcndaaM
set_option linter.unusedVariables false
set_option linter.unusedSimpArgs false
theorem spec_voAll.v (n : Nat) (hn : n ≤ 60) : spec_voAll.f (n : Int) = some ((2 ^ n - 1 : Nat) : Int) := by
  unfold spec_voAll.f
  have h0 : 0 < 2 ^ n := Nat.two_pow_pos n
  have h : 2 ^ n ≤ 2 ^ 60 := Nat.pow_le_pow_right (by omega) hn
  rw [if_pos (by omega), shl_one n (by omega), w64 (by omega) (by omega)]
  congr 1
  omega
theorem winsL_take (q : Int) (ws : List Int) (m : Nat) (h : m < 2 ^ ws.length) : (winsL q ws).take (m + 1) = (winsL q ws).take m ++ [decide (q ≤ wsum ws m)] := by
  rw [List.take_succ_eq_append_getElem (by rw [winsL_length]; exact h), winsL_get]
theorem spec_voWins.ev_l (q : Int) (ws : List Int) (hl : ws.length ≤ 9) (hw : ∀ x ∈ ws, 0 ≤ x ∧ x ≤ 1000000000) : ∀ (d m : Nat), m + d = 2 ^ ws.length → Ev (fun k => spec_voWins.l0 k ((winsL q ws).take m) (m : Int) q ws) (winsL q ws) := by
  have hp : 2 ^ ws.length ≤ 2 ^ 9 := Nat.pow_le_pow_right (by omega) hl
  have h0 : 0 < 2 ^ ws.length := Nat.two_pow_pos _
  intro d
  induction d with
  | zero =>
    intro m h
    refine ev_step ?_
    simp only [spec_voWins.l0]
    rw [ev_bind (ev_of (spec_voAll.v ws.length (by omega))), ev_neg (by omega), ev_now, List.take_of_length_le (by rw [winsL_length]; omega)]
  | succ d ih =>
    intro m h
    refine ev_step ?_
    simp only [spec_voWins.l0]
    rw [ev_bind (ev_of (spec_voAll.v ws.length (by omega))), ev_pos (by omega), ev_bind (spec_voWeight.ev q ws m (by omega) (by omega) hw), ev_pos (by simp; omega), w64i (n := 512) (by omega) (by omega) (by omega)]
    have := ih (m + 1) (by omega)
    rw [winsL_take q ws m (by omega)] at this
    exact this
theorem spec_voWins.ev (q : Int) (ws : List Int) (hl : ws.length ≤ 9) (hw : ∀ x ∈ ws, 0 ≤ x ∧ x ≤ 1000000000) : Ev (fun k => spec_voWins.f k q ws) (winsL q ws) := by
  have := spec_voWins.ev_l q ws hl hw (2 ^ ws.length) 0 (by omega)
  simpa [spec_voWins.f] using this
end Go.Proofs.Ytmmmblfghhcndaa.Q

namespace Go.Proofs.Ytmmmblfghhcndaa.Q
open Go.RowKit Go.Proofs.YtmmmblfghhcndaaW.PrintWords Go.Proofs.YtmmmblfghhcndaaW.PrintLast Go.Proofs.YtmmmblfghhcndaaW.PrintMore Go.Proofs.YtmmmblfghhcndaaM
set_option linter.unusedVariables false
set_option linter.unusedSimpArgs false
theorem impl_votesOf.at_l (n N : Nat) (hN : N ≤ 1000000) (P : Int → Option Bool) (p : Nat → Bool) (hP : ∀ m, m < N → P (m : Int) = some (p m)) : ∀ (d m k : Nat) (acc : List Bool), m + d = N → d < k → acc.length = N → acc.take m = ((List.range N).map p).take m → impl_votesOf.l0 k P (N : Int) (m : Int) (n : Int) acc = some ((n : Int), (List.range N).map p) := by
  intro d
  induction d with
  | zero =>
    intro m k acc h hk hlen ht
    obtain ⟨k, rfl⟩ : ∃ j, k = j + 1 := ⟨k - 1, by omega⟩
    simp only [impl_votesOf.l0]
    rw [List.take_of_length_le (by omega), List.take_of_length_le (by simp; omega)] at ht
    rw [if_neg (by omega), ht]
  | succ d ih =>
    intro m k acc h hk hlen ht
    obtain ⟨k, rfl⟩ : ∃ j, k = j + 1 := ⟨k - 1, by omega⟩
    have hm : m < N := by omega
    simp only [impl_votesOf.l0]
    rw [if_pos (by omega), hP m hm, Option.bind_some, if_pos (by omega), if_pos (by omega), w64i (n := N) (by omega) (by omega) (by omega), Int.toNat_natCast]
    refine ih (m + 1) k (acc.set m (p m)) (by omega) (by omega) (by simpa using hlen) ?_
    rw [List.take_succ_eq_append_getElem (by simp; omega), List.take_succ_eq_append_getElem (by simp; omega), List.take_set_of_le (by omega), ht]
    simp
theorem impl_votesOf.ev (n : Nat) (hn : n ≤ 19) (g : Nat → Int → Option Bool) (p : Nat → Bool) (hg : ∀ m : Nat, m < 2 ^ n → Ev (fun k => g k (m : Int)) (p m)) : Ev (fun k => impl_votesOf.f k (n : Int) (g k)) ((n : Int), (List.range (2 ^ n)).map p) := by
  have hp : 2 ^ n ≤ 2 ^ 19 := Nat.pow_le_pow_right (by omega) hn
  have h0 : 0 < 2 ^ n := Nat.two_pow_pos n
  generalize hN : 2 ^ n = N at *
  obtain ⟨K, hK⟩ := ev_all N (fun k m => g k (m : Int)) p hg
  refine ⟨max K (N + 1), fun k hk => ?_⟩
  simp only [impl_votesOf.f]
  rw [if_pos (by omega), shl_one n (by omega), hN, if_pos (by omega), Int.toNat_natCast, if_pos (by omega), Option.bind_some, List.length_replicate]
  exact impl_votesOf.at_l n N (by omega) (g k) p (fun m hm => hK k (by omega) m hm) N 0 k _ (by omega) (by omega) (by simp) (by simp)
end Go.Proofs.Ytmmmblfghhcndaa.Q

namespace Go.Proofs.Ytmmmblfghhcndaa.Q
open Go.RowKit Go.Proofs.YtmmmblfghhcndaaW.PrintWords Go.Proofs.YtmmmblfghhcndaaW.PrintLast Go.Proofs.YtmmmblfghhcndaaW.PrintMore Go.Proofs.YtmmmblfghhcndaaM
set_option linter.unusedVariables false
set_option linter.unusedSimpArgs false
theorem impl_votesBy.ev_l (l : List (List Int)) (hl : l.length ≤ 1000000) (hs : ∀ x ∈ l, x.length ≤ 9223372036854775807 ∧ (∀ y ∈ x, 0 ≤ y ∧ y ≤ 60)) : ∀ (d i : Nat), i + d = l.length → Ev (fun k => impl_votesBy.l0 k ((l.map fun x => ((maskN x : Nat) : Int)).take i) l (i : Int)) (l.map fun x => ((maskN x : Nat) : Int)) := by
  have hml : (l.map fun x => ((maskN x : Nat) : Int)).length = l.length := by simp
  intro d
  induction d with
  | zero =>
    intro i h
    refine ev_step ?_
    simp only [impl_votesBy.l0]
    rw [ev_neg (by omega), ev_now, List.take_of_length_le (by omega)]
  | succ d ih =>
    intro i h
    refine ev_step ?_
    simp only [impl_votesBy.l0]
    have hi : i < l.length := by omega
    have hx := hs l[i] (List.getElem_mem hi)
    rw [ev_pos (by omega), ev_pos (by omega), rdOf_lt [] l i hi, ev_bind (impl_maskOf.ev l[i] hx.1 hx.2), ev_pos (by rw [List.length_take]; omega), w64i (n := l.length) (by omega) (by omega) (by omega)]
    have := ih (i + 1) (by omega)
    rw [List.take_succ_eq_append_getElem (by omega), List.getElem_map] at this
    exact this
theorem impl_votesBy.ev (n : Nat) (hn : n ≤ 18) (l : List (List Int)) (hl : l.length ≤ 1000000) (hs : ∀ x ∈ l, x.length ≤ 9223372036854775807 ∧ (∀ y ∈ x, 0 ≤ y ∧ y ≤ 60)) : Ev (fun k => impl_votesBy.f k (n : Int) l) ((n : Int), winsG n l) := by
  have hp : 2 ^ n ≤ 2 ^ 18 := Nat.pow_le_pow_right (by omega) hn
  simp only [impl_votesBy.f]
  have h0 := impl_votesBy.ev_l l hl hs l.length 0 (by omega)
  rw [List.take_zero] at h0
  rw [ev_bind (show Ev (fun k => impl_votesBy.l0 k ([] : List Int) l 0) _ from h0)]
  refine impl_votesOf.ev n (by omega) (fun _ x => some (impl_votesBy_1.p (l.map fun x => ((maskN x : Nat) : Int)) x)) (fun m => l.any fun x => decide (m &&& maskN x = maskN x)) (fun m hm => ?_)
  rw [ev_now, impl_votesBy_1.p]
  clear h0 hl
  induction l with
  | nil => rfl
  | cons x l ih =>
    have hx := hs x List.mem_cons_self
    have hlt := orBits_lt61 x 0 (by omega) hx.2
    have hm2 : maskN x < 2 ^ 61 := hlt
    rw [List.map_cons, List.any_cons, List.any_cons, ih (fun y hy => hs y (List.mem_cons_of_mem _ hy)), and_nat m (maskN x) (by omega) (by omega)]
    congr 1
    by_cases c : m &&& maskN x = maskN x
    · rw [decide_eq_true c, c, decide_eq_true rfl]
    · rw [decide_eq_false c, decide_eq_false (by omega)]
theorem impl_Game_votes.ev (n : Nat) (hn : n ≤ 18) (l : List (List Int)) (hl : l.length ≤ 1000000) (hs : ∀ x ∈ l, x.length ≤ 9223372036854775807 ∧ (∀ y ∈ x, 0 ≤ y ∧ y ≤ 60)) : Ev (fun k => impl_Game_votes.f k (n : Int) l) ((n : Int), winsG n l) := by
  simp only [impl_Game_votes.f]
  rw [ev_bind (impl_votesBy.ev n hn l hl hs), ev_now]
end Go.Proofs.Ytmmmblfghhcndaa.Q

namespace Go.Proofs.Ytmmmblfghhcndaa.Q
open Go.RowKit Go.Proofs.YtmmmblfghhcndaaW.PrintWords Go.Proofs.YtmmmblfghhcndaaW.PrintLast Go.Proofs.YtmmmblfghhcndaaW.PrintMore Go.Proofs.YtmmmblfghhcndaaM
set_option linter.unusedVariables false
set_option linter.unusedSimpArgs false
def idV (n : Int) (l : List (List Int)) : List Int × Bool := if gameB n l = true then (takeI (idleP (Go.Proofs.YtmmmblfghhcndaaS.sortL (takeL (leastB (winsG n.toNat l) n.toNat) (winsG n.toNat l).length))) n.toNat, true) else ([], false)
theorem impl_IdleMembers.ev (n : Int) (l : List (List Int)) (hl : l.length ≤ 9223372036854775807) (hx : ∀ x ∈ l, x.length ≤ 9223372036854775807) : Ev (fun k => impl_IdleMembers.f k n l) (idV n l) := by
  simp only [impl_IdleMembers.f]
  rw [ev_bind (impl_IsGame.ev n l hl hx)]
  unfold idV
  cases hg : gameB n l with
  | false => rw [ev_neg (by decide), ev_now, if_neg (by decide)]
  | true =>
    have hc := (game_iff n l).1 hg
    have h1 := hc.n1
    have h9 := hc.n9
    obtain ⟨h3, h4⟩ := good_sets hc
    have hv := impl_Game_votes.ev n.toNat (by omega) l (by omega) h4
    have hi := impl_votes_idle.ev (winsG n.toNat l) n.toNat (winsG_length _ _) (by omega)
    rw [show ((n.toNat : Nat) : Int) = n by omega] at hv hi
    rw [ev_pos rfl, if_pos rfl, ev_bind hv, ev_bind hi, ev_now]
def orAll (l : List (List Int)) (m : Nat) : Nat := l.foldl (fun m x => m ||| maskN x) m
theorem orAll_test : ∀ (l : List (List Int)) (m i : Nat), (orAll l m).testBit i = (m.testBit i || l.any fun x => (maskN x).testBit i)
  | [], m, i => by simp [orAll]
  | x :: l, m, i => by
    show (orAll l (m ||| maskN x)).testBit i = _
    rw [orAll_test l, Nat.testBit_or, List.any_cons, Bool.or_assoc]
theorem orAll_lt (n : Nat) : ∀ (l : List (List Int)) (m : Nat), m < 2 ^ n → (∀ x ∈ l, maskN x < 2 ^ n) → orAll l m < 2 ^ n
  | [], _, hm, _ => hm
  | x :: l, m, hm, h => orAll_lt n l _ (Nat.or_lt_two_pow hm (h x List.mem_cons_self)) (fun y hy => h y (List.mem_cons_of_mem _ hy))
theorem spec_IdleMembers.ev_l (n : Int) (h0 : 1 ≤ n) (h9 : n ≤ 9) (l : List (List Int)) (hl : l.length ≤ 1000000) (hs : ∀ x ∈ l, x.length ≤ 9223372036854775807 ∧ (∀ y ∈ x, 0 ≤ y ∧ y ≤ 60)) (hm : ∀ x ∈ l, maskN x < 2 ^ n.toNat) : ∀ (d i m : Nat), i + d = l.length → m < 2 ^ n.toNat → Ev (fun k => spec_IdleMembers.l0 k (m : Int) l (l.length : Int) (i : Int) n l) (setN (2 ^ n.toNat - 1 - orAll (l.drop i) m), true) := by
  have hp : 2 ^ n.toNat ≤ 2 ^ 9 := Nat.pow_le_pow_right (by omega) (by omega)
  intro d
  induction d with
  | zero =>
    intro i m h hlt
    refine ev_step ?_
    simp only [spec_IdleMembers.l0]
    have ha := spec_voAll.v n.toNat (by omega)
    rw [show ((n.toNat : Nat) : Int) = n by omega] at ha
    have e : wrap64 (((2 ^ n.toNat - 1 : Nat) : Int) - (m : Int)) = ((2 ^ n.toNat - 1 - m : Nat) : Int) := by
      rw [w64 (by omega) (by omega)]
      omega
    rw [ev_neg (by omega), ev_bind (ev_of ha), e, ev_bind (spec_voList.ev _ (by omega)), ev_now, List.drop_of_length_le (by omega)]
    rfl
  | succ d ih =>
    intro i m h hlt
    refine ev_step ?_
    simp only [spec_IdleMembers.l0]
    have hi : i < l.length := by omega
    have hx := hs l[i] (List.getElem_mem hi)
    have hmx := hm l[i] (List.getElem_mem hi)
    rw [ev_pos (by omega), ev_pos (by omega), ev_pos (by omega), rd_L2_lt l i hi, ev_bind (spec_voBits.ev l[i] hx.1 hx.2), or_nat m (maskN l[i]) (by omega) (by omega), w64i (n := l.length) (by omega) (by omega) (by omega), List.drop_eq_getElem_cons hi]
    exact ih (i + 1) (m ||| maskN l[i]) (by omega) (Nat.or_lt_two_pow hlt hmx)
theorem idle_same {n : Int} {l : List (List Int)} (h : GoodG n l) : setN (2 ^ n.toNat - 1 - orAll l 0) = takeI (idleP (Go.Proofs.YtmmmblfghhcndaaS.sortL (takeL (leastB (winsG n.toNat l) n.toNat) (winsG n.toNat l).length))) n.toNat := by
  have h1 := h.n1
  have h9 := h.n9
  have hp : 2 ^ n.toNat ≤ 2 ^ 9 := Nat.pow_le_pow_right (by omega) (by omega)
  have hu := orAll_lt n.toNat l 0 (Nat.two_pow_pos _) (good_mask h)
  rw [setN_to (m := 2 ^ n.toNat - 1 - orAll l 0) (n := n.toNat) (by omega) (by omega), setTo, takeI]
  congr 1
  refine List.filter_congr (fun i hi => ?_)
  rw [List.mem_range] at hi
  rw [bitB_test, show 2 ^ n.toNat - 1 - orAll l 0 = 2 ^ n.toNat - (orAll l 0 + 1) by omega, Nat.testBit_two_pow_sub_succ hu, decide_eq_true hi, Bool.true_and, orAll_test, idleP]
  congr 1
  rw [Nat.zero_testBit, Bool.false_or, Bool.eq_iff_iff, List.any_eq_true, List.any_eq_true]
  constructor
  · rintro ⟨x, hx, hb⟩
    have hm := good_mask h x hx
    refine ⟨setN (maskN x), (Go.Proofs.YtmmmblfghhcndaaS.sortL_perm _).mem_iff.2 (List.mem_map.2 ⟨maskN x, List.mem_filter.2 ⟨List.mem_range.2 (by rw [winsG_length]; exact hm), (leastB_game h _ hm).2 ⟨x, hx, rfl⟩⟩, rfl⟩), ?_⟩
    rw [setN_contains _ _ (by omega)]
    exact hb
  · rintro ⟨s, hs, hb⟩
    obtain ⟨m, hm, hl, rfl⟩ := takeL_mem s ((Go.Proofs.YtmmmblfghhcndaaS.sortL_perm _).mem_iff.1 hs)
    rw [winsG_length] at hm
    obtain ⟨x, hx, rfl⟩ := (leastB_game h m hm).1 hl
    rw [setN_contains _ _ (by omega)] at hb
    exact ⟨x, hx, hb⟩
theorem spec_IdleMembers.ev (n : Int) (l : List (List Int)) (hl : l.length ≤ 9223372036854775807) (hx : ∀ x ∈ l, x.length ≤ 9223372036854775807) : Ev (fun k => spec_IdleMembers.f k n l) (idV n l) := by
  simp only [spec_IdleMembers.f]
  rw [ev_bind (spec_gmGood.ev n l hl hx)]
  unfold idV
  cases hg : gameB n l with
  | false => rw [ev_neg (by decide), ev_now, if_neg (by decide)]
  | true =>
    have hc := (game_iff n l).1 hg
    have h1 := hc.n1
    have h9 := hc.n9
    obtain ⟨h3, h4⟩ := good_sets hc
    rw [ev_pos rfl, if_pos rfl, ← idle_same hc]
    exact spec_IdleMembers.ev_l n h1 h9 l (by omega) h4 (good_mask hc) l.length 0 0 (by omega) (Nat.two_pow_pos _)
theorem idV_few (n : Int) (l : List (List Int)) : (idV n l).1.length ≤ 512 := by
  unfold idV
  split
  · next h =>
    have hc := (game_iff n l).1 h
    have h1 := hc.n1
    have h9 := hc.n9
    have := takeI_len (idleP (Go.Proofs.YtmmmblfghhcndaaS.sortL (takeL (leastB (winsG n.toNat l) n.toNat) (winsG n.toNat l).length))) n.toNat
    show (takeI _ _).length ≤ 512
    omega
  · simp
end Go.Proofs.Ytmmmblfghhcndaa.Q
