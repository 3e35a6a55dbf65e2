/- Printed functions, their contracts and plain facts on them: QImplCountWinning; QBitsMul64; QBitsMul; QSlicesRepeatIntInt; QImplEvenCommittee; QSpecEvenCommittee; QImplWithMember; QImplAddVeto; QSpecAddVeto; QImplAddDummy. Conditions: as each theorem states. -/
import Derived.Test.YtaambkdiokbdgabGreatGWeightsMadeOfAllx1
import Derived.Test.YtaambkdiokbdgabGreatGWeightsMadeOfAllx2
set_option maxHeartbeats 40000000
set_option maxRecDepth 100000
namespace Go.Proofs.YtaambkdiokbdgabGreat.Q
open Go.RowKit Go.Proofs.YtaambkdiokbdgabGreatX Go.Proofs.YtaambkdiokbdgabGreatY Go.Proofs.YtaambkdiokbdgabGreatX Go.Proofs.YtaambkdiokbdgabGreatW.PrintWords Go.Proofs.YtaambkdiokbdgabGreatW.PrintLast Go.Proofs.YtaambkdiokbdgabGreatW.PrintMore
attribute [local go_sem] max2_int min2_int max_two min_two max_three min_three max_four min_four   -- for this text's walks alone
set_option linter.unusedVariables false
set_option linter.unusedSimpArgs false
def impl_CountWinning.f (k : Nat) (a0_0 : Int) (l0_1 : List Int) : Option (Int × Bool) := (impl_IsCommittee.f k a0_0 l0_1).bind fun t102 => (if t102 = true then ((impl_Committee_votes.f k a0_0 l0_1).bind fun bt103 => ((impl_votes_countWins.f k bt103.1 bt103.2).bind fun t107 => (some (t107, true)))) else (some (0, false)))
theorem impl_CountWinning.calls (k : Nat) (a0_0 : Int) (A0_1 : Option Addr) (c0_1 : Nat) (l0_1 : List Int) (r1 : Int) (r2 : Bool) (w : World) (hr0_1 : Kd.C (Kd.int .i64) w A0_1 l0_1.length l0_1) (hc0_1 : l0_1.length ≤ c0_1) (h : impl_CountWinning.f k a0_0 l0_1 = some (r1, r2)) :
  Calls Tryz.prog 19 #[.agg #[.int .i64 a0_0, .slice A0_1 l0_1.length c0_1]] w fun e w' => e = .returned (.tuple #[.int .i64 r1, .bool r2]) ∧ Below w.heap.size w w' := by
 have hu24 := Tryz.underlying24
 have HR0_1 := Aside0.mk hr0_1
 have HC0_1 := Aside0.mk hc0_1
 clear hr0_1 hc0_1
 have HB := Aside0.mk (Below.refl w.heap.size w)
 have H := h
 unfold impl_CountWinning.f at H
 clear h
 replace H := oA H
 obtain ⟨t102, A2, H⟩ := H
 (try dsimp only at H)
 by_cases c3 : t102 = true
 rotate_left
 ·replace c3 := Bool.eq_false_iff.mpr c3
  subst c3
  replace H := iF H
  simp only [Option.some.injEq, Prod.mk.injEq] at H
  obtain ⟨rfl, rfl⟩ := H
  go_enter Tryz.func19, Tryz.ntmps19
  go_wp2_with (first | ((with_reducible refine gate_dst (N := 1) rfl ?_); refine xE (N := 1) (cs := #[.int .i64 a0_0, .slice A0_1 l0_1.length c0_1]) (t := 24) ?_; intro gb101 hg w13 BK101 hb; have GW101 := gS hg HB; have GE101 := gS hg HB; replace HB := sB HB hb; clear hb hg; (try clear hcz9_0 hcz9_1 hfz9_0 hfz9_1); obtain ⟨hcz14_0, hcz14_1, hfz14_0, hfz14_1⟩ := zZ BK101) | ((with_reducible refine gate_callee (f := 16) rfl ?_); refine gL 5 Tryz.func16 #[.agg #[.int .i64 a0_0, .slice A0_1 l0_1.length c0_1]] ?_; (with_reducible refine (impl_IsCommittee.calls k a0_0 _ _ l0_1 false _ (Kd.C_below HR0_1.out HB.out) HC0_1.out A2.out).mono ?_); rintro e w15 ⟨rfl, hb⟩; refine ⟨_, rfl, ?_⟩; replace BK101 := bB BK101 hb; replace HB := sB HB hb; (try clear hb)))
  go_ret2
  exact ⟨fR, wB⟩
 subst c3
 replace H := iT H
 replace H := oB H
 obtain ⟨⟨t103, t104⟩, A40, H⟩ := H
 (try dsimp only at H)
 have A4 := Aside0.mk A40
 clear A40
 replace H := oA H
 obtain ⟨t107, A5, H⟩ := H
 (try dsimp only at H)
 simp only [Option.some.injEq, Prod.mk.injEq] at H
 obtain ⟨rfl, rfl⟩ := H
 go_enter Tryz.func19, Tryz.ntmps19
 go_wp2_with (first | ((with_reducible refine gate_dst (N := 1) rfl ?_); refine xE (N := 1) (cs := #[.int .i64 a0_0, .slice A0_1 l0_1.length c0_1]) (t := 24) ?_; intro gb101 hg w6 BK101 hb; have GW101 := gS hg HB; have GE101 := gS hg HB; replace HB := sB HB hb; clear hb hg; obtain ⟨hcz7_0, hcz7_1, hfz7_0, hfz7_1⟩ := zZ BK101) | ((with_reducible refine gate_callee (f := 16) rfl ?_); refine gL 5 Tryz.func16 #[.agg #[.int .i64 a0_0, .slice A0_1 l0_1.length c0_1]] ?_; (with_reducible refine (impl_IsCommittee.calls k a0_0 _ _ l0_1 true _ (Kd.C_below HR0_1.out HB.out) HC0_1.out A2.out).mono ?_); rintro e w8 ⟨rfl, hb⟩; refine ⟨_, rfl, ?_⟩; replace BK101 := bB BK101 hb; replace HB := sB HB hb; (try clear hb); (try clear hcz7_0 hcz7_1 hfz7_0 hfz7_1); obtain ⟨hcz9_0, hcz9_1, hfz9_0, hfz9_1⟩ := zZ BK101) | ((with_reducible refine gate_callee (f := 40) rfl ?_); refine gL 8 Tryz.func40 #[.agg #[.int .i64 a0_0, .slice A0_1 l0_1.length c0_1]] ?_; (with_reducible refine (impl_Committee_votes.calls k a0_0 _ _ l0_1 t103 t104 _ (Kd.C_below HR0_1.out HB.out) HC0_1.out A4.out).mono ?_); rintro e w10 ⟨v105, rfl, ho0, hb⟩; refine ⟨_, rfl, ?_⟩; have HO106 := Aside0.mk (Kd.R_lower ho0 (below_size HB.out)); replace BK101 := bB BK101 hb; replace HB := sB HB hb; (try clear hb); (try clear ho0); obtain ⟨Ao11, co11, eo11⟩ := Kd.R_slice HO106.out; subst eo11) | ((with_reducible refine gate_callee (f := 62) rfl ?_); refine gL 9 Tryz.func62 #[.agg #[.int .i64 t103, .slice Ao11 t104.length co11]] ?_; (with_reducible refine (impl_votes_countWins.calls k t103 _ _ t104 t107 _ ?side1 ?side2 A5.out).mono ?_); (case side1 => have hx_ := (Kd.R_reads' HO106.out).2.2; exact cC); (case side2 => exact (Kd.R_reads' HO106.out).2.1); rintro e w12 ⟨rfl, hb⟩; refine ⟨_, rfl, ?_⟩; replace HO106 := rB HO106 hb; replace BK101 := bB BK101 hb; replace HB := sB HB hb; (try clear hb)))
 go_ret2
 exact ⟨fR, wB⟩
def bits_Mul64.f (a0 : Int) (a1 : Int) : Option (Int × Int) := some (IntKind.u64.wrap ((IntKind.u64.wrap ((IntKind.u64.wrap ((a0 / 4294967296) * (a1 / 4294967296))) + ((IntKind.u64.wrap ((IntKind.u64.wrap ((a0 / 4294967296) * (Go.bits .and .u64 a1 4294967295))) + ((IntKind.u64.wrap ((Go.bits .and .u64 a0 4294967295) * (Go.bits .and .u64 a1 4294967295))) / 4294967296))) / 4294967296))) + ((IntKind.u64.wrap ((Go.bits .and .u64 (IntKind.u64.wrap ((IntKind.u64.wrap ((a0 / 4294967296) * (Go.bits .and .u64 a1 4294967295))) + ((IntKind.u64.wrap ((Go.bits .and .u64 a0 4294967295) * (Go.bits .and .u64 a1 4294967295))) / 4294967296))) 4294967295) + (IntKind.u64.wrap ((Go.bits .and .u64 a0 4294967295) * (a1 / 4294967296))))) / 4294967296)), IntKind.u64.wrap (a0 * a1))
theorem bits_Mul64.calls (a0 : Int) (a1 : Int) (r1 : Int) (r2 : Int) (w : World) (h : bits_Mul64.f a0 a1 = some (r1, r2)) :
  Calls Tryz.prog 107 #[.int .u64 a0, .int .u64 a1] w fun e w' => e = .returned (.tuple #[.int .u64 r1, .int .u64 r2]) ∧ Drawn0 w w' := by
 have H := h
 unfold bits_Mul64.f at H
 clear h
 simp only [Option.some.injEq, Prod.mk.injEq] at H
 obtain ⟨rfl, rfl⟩ := H
 go_enter Tryz.func107, Tryz.ntmps107
 go_wp2
 go_ret2
 exact ⟨by first | rfl | (simp; done) | (simp [*]; done), dS⟩
def bits_Mul.f (a0 : Int) (a1 : Int) : Option (Int × Int) := (bits_Mul64.f a0 a1).bind fun bt101 => (some (bt101.1, bt101.2))
theorem bits_Mul.calls (a0 : Int) (a1 : Int) (r1 : Int) (r2 : Int) (w : World) (h : bits_Mul.f a0 a1 = some (r1, r2)) :
  Calls Tryz.prog 87 #[.int .u64 a0, .int .u64 a1] w fun e w' => e = .returned (.tuple #[.int .u64 r1, .int .u64 r2]) ∧ Drawn0 w w' := by
 have H := h
 unfold bits_Mul.f at H
 clear h
 replace H := oB H
 obtain ⟨⟨t101, t102⟩, A30, H⟩ := H
 (try dsimp only at H)
 have A3 := Aside0.mk A30
 clear A30
 simp only [Option.some.injEq, Prod.mk.injEq] at H
 obtain ⟨rfl, rfl⟩ := H
 go_enter Tryz.func87, Tryz.ntmps87
 go_wp2_with (first | ((with_reducible refine gate_callee (f := 107) rfl ?_); refine gL 25 Tryz.func107 #[.int .u64 a0, .int .u64 a1] ?_; (with_reducible refine (bits_Mul64.calls a0 a1 t101 t102 _ A3.out).mono ?_); rintro e w' ⟨rfl, ⟨nd, rfl⟩⟩; refine ⟨_, rfl, ?_⟩))
 go_ret2
 exact ⟨by first | rfl | (simp; done) | (simp [*]; done), dS⟩
def slices_Repeat_int_int.f (l0 : List Int) (a1 : Int) : Option (List Int) := if l0.length = 1 ∧ 1 ≤ a1 ∧ a1 ≤ 9 then some (List.replicate a1.toNat (rd l0 0)) else none
theorem bits_Mul_one (a : Int) (h1 : 1 ≤ a) (h9 : a ≤ 9) : bits_Mul.f 1 a = some (0, a) := by
 have h : a = 1 ∨ a = 2 ∨ a = 3 ∨ a = 4 ∨ a = 5 ∨ a = 6 ∨ a = 7 ∨ a = 8 ∨ a = 9 := by omega
 rcases h with rfl | rfl | rfl | rfl | rfl | rfl | rfl | rfl | rfl <;> decide +kernel
def repCells (x : Int) (m N : Nat) : List Value := List.replicate m (.int .i64 x) ++ List.replicate (N - m) (.int .i64 0)
theorem repCells_made (x : Int) (N : Nat) : madeCells #[.int .i64 0] N = (repCells x 0 N).toArray := by
 apply Array.ext
 ·simp [madeCells, repCells]
 intro i h1 h2
 simp [madeCells, repCells, Nat.mod_one]
theorem repCells_length (x : Int) (m N : Nat) (h : m ≤ N) : (repCells x m N).length = N := by simp [repCells]; omega
theorem repCells_splice (x : Int) (m j N : Nat) (h : m + j ≤ N) : splice (repCells x m N) m (List.replicate j (.int .i64 x)) = repCells x (m + j) N := by
 unfold splice repCells
 rw [List.take_left' (by simp)]
 simp only [List.length_replicate]
 rw [List.drop_append, List.drop_eq_nil_of_le (by simp), List.nil_append, List.length_replicate, List.drop_replicate, ← List.append_assoc, List.replicate_append_replicate]
 congr 2
 omega
theorem repCells_get (x : Int) (m N j : Nat) (h : j < m) : (repCells x m N)[j]? = some (.int .i64 x) := by
 unfold repCells
 rw [List.getElem?_append_left (by simpa using h)]
 simp [h]
theorem slices_Repeat_int_int.calls (A0 : Option Addr) (c0 : Nat) (l0 : List Int) (a1 : Int) (r : List Int) (w : World) (hr0 : Kd.C (Kd.int .i64) w A0 l0.length l0) (hc0 : l0.length ≤ c0) (h : slices_Repeat_int_int.f l0 a1 = some r) :
  Calls Tryz.prog 63 #[.slice A0 l0.length c0, .int .i64 a1] w fun e w' => ∃ v0_ : Value, e = .returned (v0_) ∧ Kd.R (Kd.int .i64) 3 w' w.heap.size (fun _ => True) v0_ r ∧ Below w.heap.size w w' := by
 unfold slices_Repeat_int_int.f at h
 by_cases hcond : l0.length = 1 ∧ 1 ≤ a1 ∧ a1 ≤ 9
 case neg =>
  rw [if_neg hcond] at h
  exact absurd h (by simp)
 rw [if_pos hcond] at h
 obtain ⟨hl, h1, h9⟩ := hcond
 obtain ⟨ad, e0, hcell⟩ := Kd.at_int hr0 0 (by omega) (by omega)
 subst e0
 have HM := Aside0.mk (bits_Mul_one a1 h1 h9)
 obtain ⟨N, rfl⟩ := Int.eq_ofNat_of_zero_le (show 0 ≤ a1 by omega)
 have hN1 : 1 ≤ N := by omega
 have hN9 : N ≤ 9 := by omega
 rw [Int.toNat_natCast] at h
 generalize hx : rd l0 0 = x at h hcell
 clear hx
 have HRES := Aside0.mk (Option.some.inj h)
 clear h hr0
 rw [hl]
 have hmk := print_make (P := Tryz.prog) 22 3 .i64 8 Tryz.underlying22 info3 (by omega) N (by omega)
 have hn0 : decide ((N : Int) < 0) = false := by simp
 have HCELL := Aside0.mk hcell
 clear hcell
 go_enter Tryz.func63, Tryz.ntmps63
 go_wp2_with fail
 refine (bits_Mul.calls 1 N 0 N _ HM.out).mono ?_
 rintro e w' ⟨rfl, ⟨nd, rfl⟩⟩
 have hg3 : ((w.drewN nd).alloc (.cells (madeCells #[.int .i64 0] N) 3)).heap[w.heap.size]? = some (.cells (repCells x 0 N).toArray 3 (0, 0)) := by rw [repCells_made x N]; exact blk_new (w.drewN nd) _
 have HG3 := Aside0.mk hg3
 clear hg3
 have HPOS := Aside0.mk (show ∀ j v, [Value.int .i64 x][j]? = some v → ((w.drewN nd).alloc (.cells (madeCells #[.int .i64 0] N) 3)).cell? (ad.add j) = some v from fun j v hj => by
  match j, hj with
  | 0, hj =>
   obtain rfl : Value.int .i64 x = v := by simpa using hj
   exact pw_cell_below (Below.alloc (Below.refl _ _) (Nat.le_refl _) _) (show (w.drewN nd).cell? (ad.add 0) = _ from HCELL.out)
  | j + 1, hj => simp at hj)
 go_wp2_with ((with_reducible refine gate_builtin (b := .copy) (xs := #[.tmp 31, .tmp 32]) rfl ?_); go_must (refine wpList_copy_splice rfl (.tmp 31) (.tmp 32) 22 22 rfl 3 Tryz.underlying22 (by kernel_rfl) (some ⟨w.heap.size, 0, none⟩) (some ad) N N 1 c0 rfl rfl w.heap.size 0 (repCells x 0 N) 3 HG3.out [.int .i64 x] (Nat.min_eq_left hN1).symm (fun _ => ⟨rfl, ad, rfl, HPOS.out⟩) (by rw [repCells_length x 0 N (Nat.zero_le _)]; exact hN1) (by intro v hv; rw [List.mem_singleton.1 hv]; rfl) w.heap.size w (below_alloc (pw_below_drewN (Below.refl _ _) _) _) (Nat.le_refl _) ?_); intro w4 hh hb4)
 have HH := Aside0.mk (show w4.heap[w.heap.size]? = some (.cells (repCells x 1 N).toArray 3 (0, 0)) from by have := hh; rw [show [Value.int .i64 x] = List.replicate 1 (Value.int .i64 x) from rfl] at this; have e := repCells_splice x 0 1 N (by omega); rw [e] at this; exact this)
 have HB4 := Aside0.mk hb4
 clear hh hb4
 go_loopg [8] N (fun gg v8 w' => ∃ m : Nat, v8 = .int .i64 (m : Int) ∧ Aside0 (1 ≤ m ∧ m ≤ N ∧ N - m ≤ gg) ∧ Aside0 (w'.heap[w.heap.size]? = some (.cells (repCells x m N).toArray 3 (0, 0))) ∧ Aside0 (Below w.heap.size w w'))
 case atStart => exact ⟨1, rfl, ⟨by omega⟩, HH, HB4⟩
 case round =>
  clear HH HB4 hmk HG3 HPOS
  obtain ⟨m, rfl, HM1, HH, HB⟩ := hrel
  have hm1 := HM1.out
  by_cases hlt : m < N
  ·have c1 : decide ((m : Int) < (N : Int)) = true := by simpa using hlt
   have hmN : (m : Int) ≤ (N : Int) := by omega
   have hm0 : (0 : Int) ≤ (m : Int) := by omega
   obtain ⟨j, hj⟩ : ∃ j, j = Nat.min m (N - m) := ⟨_, rfl⟩
   have hj1 : 1 ≤ j ∧ m + j ≤ N := by
    have h1 := HM1.out
    have h2 : Nat.min m (N - m) = m ∨ Nat.min m (N - m) = N - m := by
     rcases Nat.le_total m (N - m) with h | h
     ·exact .inl (Nat.min_eq_left h)
     exact .inr (Nat.min_eq_right h)
    have h3 : Nat.min m (N - m) ≤ m := Nat.min_le_left _ _
    have h4 : Nat.min m (N - m) ≤ N - m := Nat.min_le_right _ _
    omega
   have HJ := Aside0.mk hj
   have HJ1 := Aside0.mk hj1
   clear hj hj1
   have hcap : (N = m) = False := by simp; omega
   go_wp2
   have HHd := Aside0.mk (show wr.drew.heap[w.heap.size]? = some (.cells (repCells x m N).toArray 3 (0, 0)) from HH.out)
   have HBd := Aside0.mk (below_drew1 HB.out)
   clear HH HB
   refine start_ (n := 10) (S := fun _ => True) (ds := []) #[F,F,F,F,F,F,F,F,F,F] (by kernel_rfl) rfl rfl trivial (fun _ => ?_)
   generalize wr.drew = w9 at HHd HBd ⊢
   refine pure_ (i := 0) (N := some 38) (v := ?_) (a' := ?_) #[T,F,F,F,F,F,F,F,F,F] rfl rfl (by kernel_rfl) (fun _ _ _ h => h) (Or.inl ⟨by rfl, ?_⟩) ?_ ?_
   rotate_left
   ·intro w'
    go_simp
    with_reducible rfl
   rotate_left
   ·simp only [Act.put, sA, sZ, sS, i64_w, i32_w]
    rfl
   refine pure_ (i := 1) (N := some 39) (v := ?_) (a' := ?_) #[T,T,F,F,F,F,F,F,F,F] rfl rfl (by kernel_rfl) (fun _ _ _ h => h) (Or.inl ⟨by rfl, ?_⟩) ?_ ?_
   rotate_left
   ·intro w'
    go_simp
    with_reducible rfl
   rotate_left
   ·simp only [Act.put, sA, sZ, sS, i64_w, i32_w]
    rfl
   refine pure_ (i := 2) (N := some 40) (v := ?_) (a' := ?_) #[T,T,T,F,F,F,F,F,F,F] rfl rfl (by kernel_rfl) (fun _ _ _ h => h) (Or.inl ⟨by rfl, ?_⟩) ?_ ?_
   rotate_left
   ·intro w'
    go_simp
    with_reducible rfl
   rotate_left
   ·simp only [Act.put, sA, sZ, sS, i64_w, i32_w]
    rfl
   refine pure_ (i := 4) (N := some 42) (v := ?_) (a' := ?_) #[T,T,T,F,T,F,F,F,F,F] rfl rfl (by kernel_rfl) (fun _ _ _ h => h) (Or.inl ⟨by rfl, ?_⟩) ?_ ?_
   rotate_left
   ·intro w'
    go_simp
    with_reducible rfl
   rotate_left
   ·simp only [Act.put, sA, sZ, sS, i64_w, i32_w]
    rfl
   refine pure_ (i := 5) (N := some 43) (v := ?_) (a' := ?_) #[T,T,T,F,T,T,F,F,F,F] rfl rfl (by kernel_rfl) (fun _ _ _ h => h) (Or.inl ⟨by rfl, ?_⟩) ?_ ?_
   rotate_left
   ·intro w'
    go_simp
    with_reducible rfl
   rotate_left
   ·simp only [Act.put, sA, sZ, sS, i64_w, i32_w]
    rfl
   refine pure_ (i := 3) (N := some 41) (v := ?_) (a' := ?_) #[T,T,T,T,T,T,F,F,F,F] rfl rfl (by kernel_rfl) (fun _ _ _ h => h) (Or.inl ⟨by rfl, ?_⟩) ?_ ?_
   rotate_left
   ·intro w'
    go_simp
    with_reducible rfl
   rotate_left
   ·simp only [Act.put, sA, sZ, sS, i64_w, i32_w]
    rfl
   refine pure_ (i := 6) (N := some 44) (v := ?_) (a' := ?_) #[T,T,T,T,T,T,T,F,F,F] rfl rfl (by kernel_rfl) (fun _ _ _ h => h) (Or.inl ⟨by rfl, ?_⟩) ?_ ?_
   rotate_left
   ·intro w'
    go_simp
    with_reducible rfl
   rotate_left
   ·simp only [Act.put, sA, sZ, sS, i64_w, i32_w]
    rfl
   refine one_ (i := 7) (N := some 45) #[T,T,T,T,T,T,T,T,F,F] rfl rfl (by kernel_rfl) (by decide) (fun K hK => ?_)
   refine step_copy_splice rfl (.tmp 41) (.tmp 44) 22 22 rfl 3 Tryz.underlying22 (by kernel_rfl) (some ⟨w.heap.size, m, none⟩) (some ⟨w.heap.size, 0, none⟩) (N - m) (N - m) m N ?hd ?hs w.heap.size m (repCells x m N) 3 HHd.out (List.replicate j (.int .i64 x)) ?hn ?hpos ?hfit ?h1 w.heap.size w HBd.out (Nat.le_refl _) ?_
   case hd => simp [Act.eval, go_sem]
   case hs => simp [Act.eval, go_sem]
   case hn => rw [List.length_replicate]; exact HJ.out
   case hfit => rw [List.length_replicate, repCells_length x m N HM1.out.2.1]; exact HJ1.out.2
   case h1 => intro v hv; rw [(List.mem_replicate.1 hv).2]; rfl
   case hpos =>
    refine fun _ => ⟨rfl, _, rfl, fun i v hv => ?_⟩
    have hi : i < j := by have := (List.getElem?_eq_some_iff.1 hv).1; simpa using this
    have hv' : v = .int .i64 x := by rw [List.getElem?_replicate] at hv; simpa [hi] using hv.symm
    have him : i < m := Nat.lt_of_lt_of_le hi (by rw [HJ.out]; exact Nat.min_le_left _ _)
    rw [show (⟨w.heap.size, 0, none⟩ : Addr).add i = ⟨w.heap.size, i, none⟩ by (unfold Addr.add; cases i <;> simp), blk_cell HHd.out i, hv', List.getElem?_toArray]
    exact repCells_get x m N i him
   intro w5 hh5 hb5
   have HH5 := Aside0.mk (show w5.heap[w.heap.size]? = some (.cells (repCells x (m + j) N).toArray 3 (0, 0)) from by have := hh5; rw [repCells_splice x m j N HJ1.out.2] at this; exact this)
   have HB5 := Aside0.mk hb5
   clear hh5 hb5
   refine hK.out _ _ trivial (fun _ => ?_)
   clear hK K
   rw [List.length_replicate]
   have hw1 : wrap64 ((m : Int) + (j : Int)) = ((m + j : Nat) : Int) := by have := HJ1.out; unfold wrap64; omega
   have HW1 := Aside0.mk hw1
   clear hw1
   refine nM ?_
   refine pure_ (i := 8) (N := some 46) (v := ?_) (a' := ?_) #[T,T,T,T,T,T,T,T,T,F] rfl rfl (by kernel_rfl) (fun _ _ _ h => h) (Or.inl ⟨by rfl, ?_⟩) ?_ ?_
   rotate_left
   ·intro w'
    go_simp
    with_reducible rfl
   rotate_left
   ·simp only [Act.put, sA, sZ, sS, i64_w, i32_w]
    rfl
   refine pure_ (i := 9) (N := some 8) (v := ?_) (a' := ?_) #[T,T,T,T,T,T,T,T,T,T] rfl rfl (by kernel_rfl) (fun _ _ _ h => h) (Or.inl ⟨by rfl, ?_⟩) ?_ ?_
   rotate_left
   ·intro w'
    go_simp
    with_reducible rfl
   rotate_left
   ·simp only [Act.put, sA, sZ, sS, i64_w, i32_w]
    rfl
   refine done_ (by kernel_rfl) ?_
   try go_wp2
   go_roundg (gk - 1)
   case measure => have := HM1.out; have := HJ1.out; omega
   case rel => exact ⟨m + j, by rw [HW1.out], ⟨by have := HM1.out; have := HJ1.out; omega⟩, HH5, HB5⟩
  have c1 : decide ((m : Int) < (N : Int)) = false := by simpa using hlt
  obtain rfl : m = N := by omega
  go_wp2
  go_ret
  refine ⟨.slice (some ⟨w.heap.size, 0, none⟩) m m, rfl, ?_, HB.out⟩
  rw [← HRES.out]
  have hcs : repCells x m m = (List.replicate m x).map (Value.int .i64) := by simp [repCells]
  have hh := HH.out
  rw [hcs] at hh
  have hr := R_scalar_of_block (enc := Value.int .i64) (h1 := fun _ => rfl) (base := w.heap.size) (ok := fun _ => True) (List.replicate m x) hh (Nat.le_refl _) (by rw [List.length_replicate]; unfold maxLen; omega) trivial
  rw [List.length_replicate] at hr
  exact hr
def impl_EvenCommittee.f (a0 : Int) (a1 : Int) : Option (Int × List Int × Bool) := (impl_within.f a0 1 9).bind fun t102 => (if t102 = true then ((impl_within.f a1 1 a0).bind fun t103 => (if t103 = true then ((slices_Repeat_int_int.f (([1] : List Int)) a0).bind fun t107 => (some (a1, t107, true))) else (some (0, ([] : List Int), false)))) else (some (0, ([] : List Int), false)))
theorem impl_EvenCommittee.calls (a0 : Int) (a1 : Int) (r1 : Int) (r2 : List Int) (r3 : Bool) (w : World) (h : impl_EvenCommittee.f a0 a1 = some (r1, r2, r3)) :
  Calls Tryz.prog 20 #[.int .i64 a0, .int .i64 a1] w fun e w' => ∃ v1_ : Value, e = .returned (.tuple #[.agg #[.int .i64 r1, v1_], .bool r3]) ∧ Kd.R (Kd.int .i64) 3 w' w.heap.size (fun _ => True) v1_ r2 ∧ Below w.heap.size w w' := by
 have hu24 := Tryz.underlying24
 have HB := Aside0.mk (Below.refl w.heap.size w)
 have H := h
 unfold impl_EvenCommittee.f at H
 clear h
 replace H := oA H
 obtain ⟨t102, A3, H⟩ := H
 (try dsimp only at H)
 by_cases c4 : t102 = true
 rotate_left
 ·replace c4 := Bool.eq_false_iff.mpr c4
  subst c4
  replace H := iF H
  simp only [Option.some.injEq, Prod.mk.injEq] at H
  obtain ⟨rfl, rfl, rfl⟩ := H
  go_enter Tryz.func20, Tryz.ntmps20
  go_wp2_with (first | ((with_reducible refine gate_dst (N := 4) rfl ?_); refine xE (N := 4) (cs := #[.int .i64 0, .slice none 0 0]) (t := 24) ?_; intro gb101 hg w17 BK101 hb; have GW101 : Aside0 (w.heap.size ≤ gb101) := gT hg; have GE101 : Aside0 (w.heap.size ≤ gb101) := gT hg; replace HB := sQ hb; clear hb hg) | ((with_reducible refine gate_callee (f := 35) rfl ?_); refine gL 7 Tryz.func35 #[.int .i64 a0, .int .i64 1, .int .i64 9] ?_; (with_reducible refine (impl_within.calls a0 1 9 false _ A3.out).mono ?_); rintro e w' ⟨rfl, ⟨nd, rfl⟩⟩; refine ⟨_, rfl, ?_⟩; (try (rw [drewN_self w17]; generalize hq_ : World.drewN w17 _ = w17; have n0_ : Aside0 (w17.heap[gb101]? = some (.cells #[.int .i64 0, .slice none 0 0] 24 (0, 0))) := ⟨by rw [← hq_]; exact (bQ BK101)⟩; have n1_ : Aside0 (Below w.heap.size w w17) := ⟨by rw [← hq_]; exact (by repeat (first | exact HB.out | apply ba | apply bd | apply be | refine bs ?_ GE101.out))⟩; clear BK101 HB hq_; have BK101 := n0_; have HB := n1_; clear n0_ n1_)); (try clear hcz16_0 hcz16_1 hfz16_0 hfz16_1); obtain ⟨hcz18_0, hcz18_1, hfz18_0, hfz18_1⟩ := zZ BK101))
  refine bodyPost_ret (results_ct rfl _ _ gb101 24 #[.int .i64 0, .slice none 0 0] (0, 0) _ rfl (by (with_reducible repeat (first | refine kN ?_ _ | refine kD ?_ | refine kA ?_ _)); refine blk_put (cs := #[.int .i64 0, .slice none 0 0]) ?_ 1 _ rfl; (with_reducible repeat (first | refine kN ?_ _ | refine kD ?_ | refine kA ?_ _)); refine blk_put (cs := #[.int .i64 0, .slice none 0 0]) ?_ 0 _ rfl; (with_reducible repeat (first | refine kN ?_ _ | refine kD ?_ | refine kA ?_ _)); exact BK101.out) Tryz.underlying24 rfl (by kernel_rfl)) rfl ?_
  exact ⟨_, fR, by first | exact Kd.R_nil _ _ _ _ _ | exact Kd.N_nil _ _ _ _ _ | exact Kd.V_nil _ _ _ _ _ | exact Kd.Q_nil _ _ _ _ _ | exact Kd.S_nil _ _ _ _ _, wB⟩
 subst c4
 replace H := iT H
 replace H := oA H
 obtain ⟨t103, A5, H⟩ := H
 (try dsimp only at H)
 by_cases c6 : t103 = true
 rotate_left
 ·replace c6 := Bool.eq_false_iff.mpr c6
  subst c6
  replace H := iF H
  simp only [Option.some.injEq, Prod.mk.injEq] at H
  obtain ⟨rfl, rfl, rfl⟩ := H
  go_enter Tryz.func20, Tryz.ntmps20
  go_wp2_with (first | ((with_reducible refine gate_dst (N := 4) rfl ?_); refine xE (N := 4) (cs := #[.int .i64 0, .slice none 0 0]) (t := 24) ?_; intro gb101 hg w15 BK101 hb; have GW101 : Aside0 (w.heap.size ≤ gb101) := gT hg; have GE101 : Aside0 (w.heap.size ≤ gb101) := gT hg; replace HB := sQ hb; clear hb hg) | ((with_reducible refine gate_callee (f := 35) rfl ?_); refine gL 7 Tryz.func35 #[.int .i64 a0, .int .i64 1, .int .i64 9] ?_; (with_reducible refine (impl_within.calls a0 1 9 true _ A3.out).mono ?_); rintro e w' ⟨rfl, ⟨nd, rfl⟩⟩; refine ⟨_, rfl, ?_⟩; (try (rw [drewN_self w15]; generalize hq_ : World.drewN w15 _ = w15; have n0_ : Aside0 (w15.heap[gb101]? = some (.cells #[.int .i64 0, .slice none 0 0] 24 (0, 0))) := ⟨by rw [← hq_]; exact (bQ BK101)⟩; have n1_ : Aside0 (Below w.heap.size w w15) := ⟨by rw [← hq_]; exact (by repeat (first | exact HB.out | apply ba | apply bd | apply be | refine bs ?_ GE101.out))⟩; clear BK101 HB hq_; have BK101 := n0_; have HB := n1_; clear n0_ n1_))) | (go_at_call 35; (with_reducible refine (impl_within.calls a1 1 a0 false _ A5.out).mono ?_); rintro e w' ⟨rfl, ⟨nd, rfl⟩⟩; (try (rw [drewN_self w15]; generalize hq_ : World.drewN w15 _ = w15; have n0_ : Aside0 (w15.heap[gb101]? = some (.cells #[.int .i64 0, .slice none 0 0] 24 (0, 0))) := ⟨by rw [← hq_]; exact (bQ BK101)⟩; have n1_ : Aside0 (Below w.heap.size w w15) := ⟨by rw [← hq_]; exact (by repeat (first | exact HB.out | apply ba | apply bd | apply be | refine bs ?_ GE101.out))⟩; clear BK101 HB hq_; have BK101 := n0_; have HB := n1_; clear n0_ n1_)); (try clear hcz14_0 hcz14_1 hfz14_0 hfz14_1); obtain ⟨hcz16_0, hcz16_1, hfz16_0, hfz16_1⟩ := zZ BK101))
  refine bodyPost_ret (results_ct rfl _ _ gb101 24 #[.int .i64 0, .slice none 0 0] (0, 0) _ rfl (by (with_reducible repeat (first | refine kN ?_ _ | refine kD ?_ | refine kA ?_ _)); refine blk_put (cs := #[.int .i64 0, .slice none 0 0]) ?_ 1 _ rfl; (with_reducible repeat (first | refine kN ?_ _ | refine kD ?_ | refine kA ?_ _)); refine blk_put (cs := #[.int .i64 0, .slice none 0 0]) ?_ 0 _ rfl; (with_reducible repeat (first | refine kN ?_ _ | refine kD ?_ | refine kA ?_ _)); exact BK101.out) Tryz.underlying24 rfl (by kernel_rfl)) rfl ?_
  exact ⟨_, fR, by first | exact Kd.R_nil _ _ _ _ _ | exact Kd.N_nil _ _ _ _ _ | exact Kd.V_nil _ _ _ _ _ | exact Kd.Q_nil _ _ _ _ _ | exact Kd.S_nil _ _ _ _ _, wB⟩
 subst c6
 replace H := iT H
 obtain ⟨y104, hy104⟩ : ∃ y_ : List Int, y_ = (([1] : List Int)) := ⟨_, rfl⟩
 replace H : ((slices_Repeat_int_int.f y104 a0).bind fun t107 => (some (a1, t107, true))) = some (r1, r2, r3) := by first | (rw [hy104]; with_reducible exact H) | (have H2_ := (Option.bind_some _ _).symm.trans H; rw [hy104]; with_reducible exact H2_) | (have H2_ := (Option.bind_some _ _).symm.trans H; with_reducible exact H2_) | with_reducible exact H | (rw [hy104]; exact H) | exact H
 have Ny104 := Aside0.mk hy104
 clear hy104
 replace H := oA H
 obtain ⟨t107, A7, H⟩ := H
 (try dsimp only at H)
 simp only [Option.some.injEq, Prod.mk.injEq] at H
 obtain ⟨rfl, rfl, rfl⟩ := H
 go_enter Tryz.func20, Tryz.ntmps20
 go_wp2_with (first | ((with_reducible refine gate_dst (N := 4) rfl ?_); refine xE (N := 4) (cs := #[.int .i64 0, .slice none 0 0]) (t := 24) ?_; intro gb101 hg w8 BK101 hb; have GW101 := gS hg HB; have GE101 := gS hg HB; replace HB := sB HB hb; clear hb hg) | ((with_reducible refine gate_callee (f := 35) rfl ?_); refine gL 7 Tryz.func35 #[.int .i64 a0, .int .i64 1, .int .i64 9] ?_; (with_reducible refine (impl_within.calls a0 1 9 true _ A3.out).mono ?_); rintro e w' ⟨rfl, ⟨nd, rfl⟩⟩; refine ⟨_, rfl, ?_⟩; (try (rw [drewN_self w8]; generalize hq_ : World.drewN w8 _ = w8; have n0_ : Aside0 (w8.heap[gb101]? = some (.cells #[.int .i64 0, .slice none 0 0] 24 (0, 0))) := ⟨by rw [← hq_]; exact BK101.out⟩; have n1_ : Aside0 (Below w.heap.size w w8) := ⟨by rw [← hq_]; exact HB.out⟩; clear BK101 HB hq_; have BK101 := n0_; have HB := n1_; clear n0_ n1_))) | (go_at_call 35; (with_reducible refine (impl_within.calls a1 1 a0 true _ A5.out).mono ?_); rintro e w' ⟨rfl, ⟨nd, rfl⟩⟩; (try (rw [drewN_self w8]; generalize hq_ : World.drewN w8 _ = w8; have n0_ : Aside0 (w8.heap[gb101]? = some (.cells #[.int .i64 0, .slice none 0 0] 24 (0, 0))) := ⟨by rw [← hq_]; exact (bQ BK101)⟩; have n1_ : Aside0 (Below w.heap.size w w8) := ⟨by rw [← hq_]; exact (by repeat (first | exact HB.out | apply ba | apply bd | apply be | refine bs ?_ GE101.out))⟩; clear BK101 HB hq_; have BK101 := n0_; have HB := n1_; clear n0_ n1_))) | ((with_reducible refine gate_dst (N := 17) rfl ?_); refine Kd.R_lit (Kd.int .i64) _ 3 ?hg (N := 17) ?hd (xs := ([1] : List Int)) (inner := [.int .i64 1]) (ok := fun _ => True) (okp := fun _ => True) ?hr ?hp (fun _ hk => hk) trivial (Below.refl _ _) (Nat.le_refl _) (by simp) ?_; (case hd => rfl); (case hg => rfl); (case hr => first | (go_simp; done) | (go_simp; rfl)); (case hp => exact (Reps.one (show Kd.M (Kd.int .i64) _ _ _ 1 [.int .i64 1] from rfl) (Reps.none _ _))); intro v105 w9 ho10 hb hg_ hnew_; clear hg_ hnew_; (first | rw [← Ny104.out] at ho10 | (simp only [Int.reduceToNat] at ho10; rw [← Ny104.out] at ho10)); have HO106 := Aside0.mk (Kd.R_lower ho10 (below_size (by repeat (first | exact HB.out | apply ba | apply bd | apply be | refine bs ?_ GE101.out)))); replace BK101 := bP BK101 hb; replace HB := sQ hb; clear hb ho10; obtain ⟨Ao11, co11, eo11⟩ := Kd.R_slice HO106.out; subst eo11) | ((with_reducible refine gate_callee (f := 63) rfl ?_); refine gL 19 Tryz.func63 #[.slice Ao11 y104.length co11, .int .i64 a0] ?_; (with_reducible refine (slices_Repeat_int_int.calls _ _ y104 a0 t107 _ ?side1 ?side2 A7.out).mono ?_); (case side1 => have hx_ := (Kd.R_reads' HO106.out).2.2; exact cC); (case side2 => exact (Kd.R_reads' HO106.out).2.1); rintro e w12 ⟨v108, rfl, ho0, hb⟩; refine ⟨_, rfl, ?_⟩; have HO109 := Aside0.mk (Kd.R_lower (Kd.R_new' ho0 (Kd.R_lt (rQ HO106))) (below_size (by repeat (first | exact HB.out | apply ba | apply bd | apply be | refine bs ?_ GE101.out)))); replace HO106 := rE HO106 (Kd.R_base ho0) hb; replace BK101 := bP BK101 hb; replace HB := sQ hb; (try clear hb); (try clear ho0); obtain ⟨Ao13, co13, eo13⟩ := Kd.R_slice HO109.out; subst eo13; obtain ⟨hcz14_0, hcz14_1, hfz14_0, hfz14_1⟩ := zZ BK101))
 refine bodyPost_ret (results_ct rfl _ _ gb101 24 #[.int .i64 a1, .slice Ao13 t107.length co13] (0, 0) _ rfl (by (with_reducible repeat (first | refine kN ?_ _ | refine kD ?_ | refine kA ?_ _)); refine blk_put (cs := #[.int .i64 a1, .slice none 0 0]) ?_ 1 _ rfl; (with_reducible repeat (first | refine kN ?_ _ | refine kD ?_ | refine kA ?_ _)); refine blk_put (cs := #[.int .i64 0, .slice none 0 0]) ?_ 0 _ rfl; (with_reducible repeat (first | refine kN ?_ _ | refine kD ?_ | refine kA ?_ _)); exact BK101.out) Tryz.underlying24 rfl (by kernel_rfl)) rfl ?_
 exact ⟨_, fR, by (with_reducible repeat (first | apply qA | apply qN | apply qD)); exact Kd.R_mono (Kd.R_far (p := ⟨gb101, 1, none⟩) (Kd.R_far (p := ⟨gb101, 0, none⟩) (Kd.R_types HO109.out BK101.out (by decide)) (fun _ hk => hk.2) (.int .i64 a1)) (fun _ hk => hk.2) (.slice Ao13 t107.length co13)) (fun _ hk => trivial), wB⟩
mutual
def spec_EvenCommittee.j0 : Nat → Int → Int → Bool → Option (Int × List Int × Bool)
 | 0, _, _, _ => none
 | k + 1, x0, x1, x15 => if x15 = true then (some (0, ([] : List Int), false)) else (spec_EvenCommittee.l0 k x0 x1 ([] : List Int))
def spec_EvenCommittee.l0 : Nat → Int → Int → List Int → Option (Int × List Int × Bool)
 | 0, _, _, _ => none
 | k + 1, x0, x105000, x105001 => if x0 > 0 then (if x105001.length < 17592186044416 then (spec_EvenCommittee.l0 k (wrap64 (x0 - 1)) x105000 (x105001 ++ [1])) else (none)) else (some (x105000, x105001, true))
end
def spec_EvenCommittee.f (k : Nat) (a0 : Int) (a1 : Int) : Option (Int × List Int × Bool) := (spec_l1In.f a0 1 9).bind fun t102 => (if t102 = true then ((spec_l1In.f a1 1 a0).bind fun t103 => (spec_EvenCommittee.j0 k a0 a1 (!t103))) else (spec_EvenCommittee.j0 k a0 a1 true))
theorem spec_EvenCommittee.calls (k : Nat) (a0 : Int) (a1 : Int) (r1 : Int) (r2 : List Int) (r3 : Bool) (w : World) (h : spec_EvenCommittee.f k a0 a1 = some (r1, r2, r3)) :
  Calls Tryz.prog 21 #[.int .i64 a0, .int .i64 a1] w fun e w' => ∃ v1_ : Value, e = .returned (.tuple #[.agg #[.int .i64 r1, v1_], .bool r3]) ∧ Kd.R (Kd.int .i64) 3 w' w.heap.size (fun _ => True) v1_ r2 ∧ Below w.heap.size w w' := by
 have hu24 := Tryz.underlying24
 have HB := Aside0.mk (Below.refl w.heap.size w)
 have H := h
 unfold spec_EvenCommittee.f at H
 clear h
 have HC3 := Aside0.mk H
 clear H
 go_enter Tryz.func21, Tryz.ntmps21
 go_upto_region 1 with (first | ((with_reducible refine gate_dst (N := 4) rfl ?_); refine xE (N := 4) (cs := #[.int .i64 0, .slice none 0 0]) (t := 24) ?_; intro gb101 hg w4 BK101 hb; have GW101 := gS hg HB; have GE101 := gS hg HB; replace HB := sB HB hb; clear hb hg))
 (try simp only [Act.put, sA, sZ, sS])
 go_cut [15] (fun v15 wc => ∃ (kq : Nat) (x15_2 : Bool), v15 = .bool x15_2 ∧ Aside0 (spec_EvenCommittee.j0 kq a0 a1 x15_2 = some (r1, r2, r3)) ∧ Aside0 (kq ≤ k) ∧ Aside0 (wc.heap[gb101]? = some (.cells #[.int .i64 0, (.slice none 0 0)] 24 (0, 0))) ∧ Aside0 (Below w.heap.size w wc))
 case first =>
  have H := HC3.out
  clear HC3
  replace H := oA H
  obtain ⟨t102, A5, H⟩ := H
  (try dsimp only at H)
  by_cases c6 : t102 = true
  rotate_left
  ·replace c6 := Bool.eq_false_iff.mpr c6
   subst c6
   replace H := iF H
   have H' := Aside0.mk H
   clear H
   go_wp2_with (first | ((with_reducible refine gate_callee (f := 38) rfl ?_); refine gL 8 Tryz.func38 #[.int .i64 a0, .int .i64 1, .int .i64 9] ?_; (with_reducible refine (spec_l1In.calls a0 1 9 false _ A5.out).mono ?_); rintro e w' ⟨rfl, ⟨nd, rfl⟩⟩; refine ⟨_, rfl, ?_⟩))
   go_meet
   case rel => exact ⟨_, (true), gR, H', ⟨by first | omega | exact Nat.le_refl _⟩, ⟨bQ BK101⟩, ⟨wB⟩⟩
  subst c6
  replace H := iT H
  replace H := oA H
  obtain ⟨t103, A7, H⟩ := H
  (try dsimp only at H)
  have H' := Aside0.mk H
  clear H
  go_wp2_with (first | ((with_reducible refine gate_callee (f := 38) rfl ?_); refine gL 8 Tryz.func38 #[.int .i64 a0, .int .i64 1, .int .i64 9] ?_; (with_reducible refine (spec_l1In.calls a0 1 9 true _ A5.out).mono ?_); rintro e w' ⟨rfl, ⟨nd, rfl⟩⟩; refine ⟨_, rfl, ?_⟩) | (go_at_call 38; (with_reducible refine (spec_l1In.calls a1 1 a0 t103 _ A7.out).mono ?_); rintro e w' ⟨rfl, ⟨nd, rfl⟩⟩))
  go_meet
  case rel => exact ⟨_, (!t103), gR, H', ⟨by first | omega | exact Nat.le_refl _⟩, ⟨bQ BK101⟩, ⟨wB⟩⟩
 case rest =>
  clear HC3
  (try clear c2); (try clear p2); (try clear c3); (try clear c6)
  obtain ⟨kq, x15_2, rfl, HA, HJ2, BK101, HB⟩ := hcut
  cases kq with
  | zero => exact absurd HA.out (by simp [spec_EvenCommittee.j0])
  | succ kj2 =>
   have H := HA.out
   clear HA
   simp only [spec_EvenCommittee.j0] at H
   by_cases c8 : x15_2 = true
   ·subst c8
    replace H := iT H
    simp only [Option.some.injEq, Prod.mk.injEq] at H
    obtain ⟨rfl, rfl, rfl⟩ := H
    obtain ⟨hcz9_0, hcz9_1, hfz9_0, hfz9_1⟩ := zZ BK101
    go_wp2
    refine bodyPost_ret (results_ct rfl _ _ gb101 24 #[.int .i64 0, .slice none 0 0] (0, 0) _ rfl (by refine blk_put (cs := #[.int .i64 0, .slice none 0 0]) ?_ 1 _ rfl; refine blk_put (cs := #[.int .i64 0, .slice none 0 0]) ?_ 0 _ rfl; exact BK101.out) Tryz.underlying24 rfl (by kernel_rfl)) rfl ?_
    exact ⟨_, fR, by first | exact Kd.R_nil _ _ _ _ _ | exact Kd.N_nil _ _ _ _ _ | exact Kd.V_nil _ _ _ _ _ | exact Kd.Q_nil _ _ _ _ _ | exact Kd.S_nil _ _ _ _ _, wB⟩
   replace c8 := Bool.eq_false_iff.mpr c8
   subst c8
   replace H := iF H
   have H' := Aside0.mk H
   clear H
   go_wp2_with (first | ((with_reducible refine gate_dst (N := 6) rfl ?_); refine xE (N := 6) (cs := #[.int .i64 0, .slice none 0 0]) (t := 24) ?_; intro gb104 hg w10 BK104 hb; have GW104 := gS hg HB; have GE104 := gS hg HB; have NB101_104 := nL hg (blk_lt BK101.out); have NB104_101 := nG hg (blk_lt BK101.out); replace BK101 := bB BK101 hb; replace HB := sB HB hb; clear hb hg; have hnb11 := NB104_101.out; have hnc11 := NB101_104.out; (try clear hcz9_0 hcz9_1 hfz9_0 hfz9_1); obtain ⟨hcz12_0, hcz12_1, hfz12_0, hfz12_1⟩ := zZ BK104))
   go_loopg [0] kj2 (fun kq v0 w' => ∃ (x0_2 : Int) (x105001_2 : List Int) (u105001 : Value), v0 = .int .i64 x0_2 ∧ Aside0 (spec_EvenCommittee.l0 kq x0_2 a1 x105001_2 = some (r1, r2, r3)) ∧ Aside0 (kq ≤ kj2) ∧ Aside0 (Kd.R (Kd.int .i64) 3 w' w.heap.size (fun _ => True) u105001 x105001_2) ∧ Aside0 (w'.heap[gb101]? = some (.cells #[.int .i64 0, (.slice none 0 0)] 24 (0, 0))) ∧ Aside0 (w'.heap[gb104]? = some (.cells #[.int .i64 a1, u105001] 24 (0, 0))) ∧ Aside0 (Below w.heap.size w w'))
   case atStart => exact ⟨(a0), (([] : List Int)), (.slice none 0 0), gR, H', ⟨Nat.le_refl _⟩, ⟨by first | exact Kd.R_nil _ _ _ _ _ | exact Kd.N_nil _ _ _ _ _ | exact Kd.V_nil _ _ _ _ _ | exact Kd.Q_nil _ _ _ _ _ | exact Kd.S_nil _ _ _ _ _⟩, ⟨by refine blk_far ?_ NB101_104.out _; refine blk_far ?_ NB101_104.out _; exact BK101.out⟩, ⟨by refine blk_put (cs := #[.int .i64 a1, .slice none 0 0]) ?_ 1 _ rfl; refine blk_put (cs := #[.int .i64 0, .slice none 0 0]) ?_ 0 _ rfl; exact BK104.out⟩, ⟨wB⟩⟩
   case round =>
    clear H'
    (try clear c1); (try clear c2); (try clear p2); (try clear c3); (try clear c6); (try clear c8); (try clear c11); (try clear hcz12_0); (try clear hcz12_1); (try clear hfz12_0); (try clear hfz12_1); (try clear p2)
    obtain ⟨x0_2, x105001_2, u105001, rfl, HA, HK2, HO_105001, BK101, BK104, HB⟩ := hrel
    cases gk with
    | zero => exact absurd HA.out (by simp [spec_EvenCommittee.l0])
    | succ k2 =>
     have H := HA.out
     clear HA
     simp only [spec_EvenCommittee.l0] at H
     by_cases c13 : x0_2 > 0
     rotate_left
     ·rw [if_neg c13] at H
      have c13b0 : decide (0 < x0_2) = false := decide_eq_false c13
      clear c13
      simp only [Option.some.injEq, Prod.mk.injEq] at H
      obtain ⟨rfl, rfl, rfl⟩ := H
      have hnb20 := NB104_101.out
      have hnc20 := NB101_104.out
      (try clear hcz19_0 hcz19_1 hfz19_0 hfz19_1)
      obtain ⟨hcz21_0, hcz21_1, hfz21_0, hfz21_1⟩ := zZ BK104
      obtain ⟨hcz22_0, hcz22_1, hfz22_0, hfz22_1⟩ := zZ BK101
      obtain ⟨Ao23, co23, eo23⟩ := Kd.R_slice HO_105001.out
      subst eo23
      go_wp2
      refine bodyPost_ret (results_ct rfl _ _ gb101 24 #[.int .i64 a1, .slice Ao23 x105001_2.length co23] (0, 0) _ rfl (by refine blk_put (cs := #[.int .i64 a1, .slice none 0 0]) ?_ 1 _ rfl; refine blk_put (cs := #[.int .i64 0, .slice none 0 0]) ?_ 0 _ rfl; exact BK101.out) Tryz.underlying24 rfl (by kernel_rfl)) rfl ?_
      exact ⟨_, fR, by exact Kd.R_mono (Kd.R_far (p := ⟨gb101, 1, none⟩) (Kd.R_far (p := ⟨gb101, 0, none⟩) (Kd.R_types HO_105001.out BK101.out (by decide)) (fun _ hk => hk.2) (.int .i64 a1)) (fun _ hk => hk.2) (.slice Ao23 x105001_2.length co23)) (fun _ hk => trivial), wB⟩
     rw [if_pos c13] at H
     have c13b0 : decide (0 < x0_2) = true := decide_eq_true c13
     clear c13
     by_cases c14 : x105001_2.length < 17592186044416
     rotate_left
     ·rw [if_neg c14] at H
      exact absurd H (by simp)
     rw [if_pos c14] at H
     have LMc14 := Aside0.mk c14
     clear c14
     obtain ⟨y105, hy105⟩ : ∃ y_ : List Int, y_ = (x105001_2 ++ [1]) := ⟨_, rfl⟩
     replace H : (spec_EvenCommittee.l0 k2 (wrap64 (x0_2 - 1)) a1 y105) = some (r1, r2, r3) := by first | (rw [hy105]; with_reducible exact H) | (have H2_ := (Option.bind_some _ _).symm.trans H; rw [hy105]; with_reducible exact H2_) | (have H2_ := (Option.bind_some _ _).symm.trans H; with_reducible exact H2_) | with_reducible exact H | (rw [hy105]; exact H) | exact H
     have Ny105 := Aside0.mk hy105
     clear hy105
     have H' := Aside0.mk H
     clear H
     have hnb15 := NB104_101.out
     have hnc15 := NB101_104.out
     obtain ⟨hcz16_0, hcz16_1, hfz16_0, hfz16_1⟩ := zZ BK104
     go_wp2_with (first | ((with_reducible refine gate_builtin (b := .append) (xs := #[.tmp 24, .tmp 25]) rfl ?_); at_builtin; refine Kd.R_append (Kd.int .i64) (w0 := w) w.heap.size rfl (.tmp 24) (.tmp 25) 22 3 (.int .i64 0) 8 rfl Tryz.underlying22 info3 rfl (by decide) (by omega) u105001 x105001_2 1 [.int .i64 1] (fun _ => True) (fun _ => False) rfl rfl ?aP (fun _ hk => hk.elim) ?aF ?aO ?aB ?aS ?aL ?_; (case aP => exact rfl); (case aB => exact HB.out); (case aF => exact (fun _ _ => trivial)); (case aO => exact HO_105001.out); (case aS => exact (below_size HB.out)); (case aL => have := LMc14.out; omega); intro v106 w17 ho hb hg hat; rw [← Ny105.out] at ho; have HO107 := Aside0.mk (ho); replace BK101 := Aside0.mk (blk_grown (g := gb101) (o := .cells #[.int .i64 0, .slice none 0 0] 24 (0, 0)) BK101.out hg (Kd.R_ne HO_105001.out BK101.out (by decide))); replace BK104 := Aside0.mk (blk_grown (g := gb104) (o := .cells #[.int .i64 a1, u105001] 24 (0, 0)) BK104.out hg (Kd.R_ne HO_105001.out BK104.out (by decide))); replace HB := Aside0.mk (hb); clear ho hb hg hat; obtain ⟨Ao18, co18, eo18⟩ := Kd.R_slice HO107.out; subst eo18; (try clear hcz16_0 hcz16_1 hfz16_0 hfz16_1); obtain ⟨hcz19_0, hcz19_1, hfz19_0, hfz19_1⟩ := zZ BK104))
     go_roundg k2
     case measure => have := HJ2.out; have := HK2.out; omega
     case rel => exact ⟨(wrap64 (x0_2 - 1)), (y105), (.slice Ao18 y105.length co18), gR, H', ⟨by have := HJ2.out; have := HK2.out; omega⟩, ⟨by exact Kd.R_mono (Kd.R_far (p := ⟨gb104, 1, none⟩) (Kd.R_types HO107.out BK104.out (by decide)) (fun _ hk => hk.2) (.slice Ao18 y105.length co18)) (fun _ hk => trivial)⟩, ⟨by refine blk_far ?_ NB101_104.out _; exact BK101.out⟩, ⟨by refine blk_put (cs := #[.int .i64 a1, u105001]) ?_ 1 _ rfl; exact BK104.out⟩, ⟨wB⟩⟩
def impl_withMember.f (k : Nat) (a0_0 : Int) (l0_1 : List Int) (a1 : Int) (a2 : Int) : Option (Int × List Int × Bool) := (impl_IsCommittee.f k a0_0 l0_1).bind fun t103 => (if t103 = true then ((slices_Clone_int_int.f l0_1).bind fun t104 => ((some (([a1] : List Int) : List Int)).bind fun y107 => (if t104.length + y107.length < 17592186044416 then ((impl_ifCommittee.f k (wrap64 (a0_0 + a2)) (t104 ++ y107)).bind fun bt113 => (some (bt113.1, bt113.2.1, bt113.2.2))) else (none)))) else (some (0, ([] : List Int), false)))
def impl_withMember.T3 : Bool × List (List Nat × List Nat) := (true, [([], []), ([0], [0]), ([], []), ([1, 2], [1, 2]), ([], []), ([4], [4]), ([5], [5]), ([], []), ([7], [7]), ([6, 8, 6], [6, 8]), ([3, 9], [3, 9]), ([10, 9], [10]), ([11], [11]), ([11], [11]), ([12, 11, 0, 1, 2, 3, 4, 5, 6, 7, 8, 9, 10, 11, 12, 13], [12]), ([13, 14, 0, 1, 2, 3, 4, 5, 6, 7, 8, 9, 10, 11, 12, 13, 14], [13])])
def impl_withMember.B3 : List Nat := [0, 1, 0, 7, 0, 16, 48, 0, 128, 496, 1023, 2047, 4095, 4095, 16383, 32767]
theorem impl_withMember.tab3 : rtab .any (opsOf Tryz.f64 3) = impl_withMember.T3 := by kernel_rfl
theorem impl_withMember.bits3 : waitsOk impl_withMember.T3.2 impl_withMember.B3 = true := by kernel_rfl
theorem impl_withMember.calls (k : Nat) (a0_0 : Int) (A0_1 : Option Addr) (c0_1 : Nat) (l0_1 : List Int) (a1 : Int) (a2 : Int) (r1 : Int) (r2 : List Int) (r3 : Bool) (w : World) (hr0_1 : Kd.C (Kd.int .i64) w A0_1 l0_1.length l0_1) (hc0_1 : l0_1.length ≤ c0_1) (h : impl_withMember.f k a0_0 l0_1 a1 a2 = some (r1, r2, r3)) :
  Calls Tryz.prog 64 #[.agg #[.int .i64 a0_0, .slice A0_1 l0_1.length c0_1], .int .i64 a1, .int .i64 a2] w fun e w' => ∃ v1_ : Value, e = .returned (.tuple #[.agg #[.int .i64 r1, v1_], .bool r3]) ∧ Kd.R (Kd.int .i64) 3 w' w.heap.size (fun _ => True) v1_ r2 ∧ Below w.heap.size w w' := by
 have hu24 := Tryz.underlying24
 have HR0_1 := Aside0.mk hr0_1
 have HC0_1 := Aside0.mk hc0_1
 clear hr0_1 hc0_1
 have HB := Aside0.mk (Below.refl w.heap.size w)
 have H := h
 unfold impl_withMember.f at H
 clear h
 replace H := oA H
 obtain ⟨t103, A4, H⟩ := H
 (try dsimp only at H)
 by_cases c5 : t103 = true
 rotate_left
 ·replace c5 := Bool.eq_false_iff.mpr c5
  subst c5
  replace H := iF H
  simp only [Option.some.injEq, Prod.mk.injEq] at H
  obtain ⟨rfl, rfl, rfl⟩ := H
  go_enter Tryz.func64, Tryz.ntmps64
  go_wp2_with (first | ((with_reducible refine gate_dst (N := 3) rfl ?_); refine xE (N := 3) (cs := #[.int .i64 a0_0, .slice A0_1 l0_1.length c0_1]) (t := 24) ?_; intro gb101 hg w26 BK101 hb; have GW101 := gS hg HB; have GE101 := gS hg HB; replace HB := sB HB hb; clear hb hg) | ((with_reducible refine gate_dst (N := 6) rfl ?_); refine xE (N := 6) (cs := #[.int .i64 0, .slice none 0 0]) (t := 24) ?_; intro gb102 hg w27 BK102 hb; have GW102 := gS hg HB; have GE102 := gS hg HB; have NB101_102 := nL hg (blk_lt BK101.out); have NB102_101 := nG hg (blk_lt BK101.out); replace BK101 := bB BK101 hb; replace HB := sB HB hb; clear hb hg; have hnb28 := NB101_102.out; have hnc28 := NB102_101.out; obtain ⟨hcz29_0, hcz29_1, hfz29_0, hfz29_1⟩ := zZ BK101) | ((with_reducible refine gate_callee (f := 16) rfl ?_); refine gL 9 Tryz.func16 #[.agg #[.int .i64 a0_0, .slice A0_1 l0_1.length c0_1]] ?_; (with_reducible refine (impl_IsCommittee.calls k a0_0 _ _ l0_1 false _ (Kd.C_below HR0_1.out HB.out) HC0_1.out A4.out).mono ?_); rintro e w30 ⟨rfl, hb⟩; refine ⟨_, rfl, ?_⟩; replace BK101 := bB BK101 hb; replace BK102 := bB BK102 hb; replace HB := sB HB hb; (try clear hb); (try clear hcz29_0 hcz29_1 hfz29_0 hfz29_1); obtain ⟨hcz31_0, hcz31_1, hfz31_0, hfz31_1⟩ := zZ BK102))
  refine bodyPost_ret (results_ct rfl _ _ gb102 24 #[.int .i64 0, .slice none 0 0] (0, 0) _ rfl (by refine blk_put (cs := #[.int .i64 0, .slice none 0 0]) ?_ 1 _ rfl; refine blk_put (cs := #[.int .i64 0, .slice none 0 0]) ?_ 0 _ rfl; exact BK102.out) Tryz.underlying24 rfl (by kernel_rfl)) rfl ?_
  exact ⟨_, fR, by first | exact Kd.R_nil _ _ _ _ _ | exact Kd.N_nil _ _ _ _ _ | exact Kd.V_nil _ _ _ _ _ | exact Kd.Q_nil _ _ _ _ _ | exact Kd.S_nil _ _ _ _ _, wB⟩
 subst c5
 replace H := iT H
 replace H := oA H
 obtain ⟨t104, A6, H⟩ := H
 (try dsimp only at H)
 obtain ⟨y107, hy107⟩ : ∃ y_ : List Int, y_ = (([a1] : List Int)) := ⟨_, rfl⟩
 replace H : (if t104.length + y107.length < 17592186044416 then ((impl_ifCommittee.f k (wrap64 (a0_0 + a2)) (t104 ++ y107)).bind fun bt113 => (some (bt113.1, bt113.2.1, bt113.2.2))) else (none)) = some (r1, r2, r3) := by first | (rw [hy107]; with_reducible exact H) | (have H2_ := (Option.bind_some _ _).symm.trans H; rw [hy107]; with_reducible exact H2_) | (have H2_ := (Option.bind_some _ _).symm.trans H; with_reducible exact H2_) | with_reducible exact H | (rw [hy107]; exact H) | exact H
 have Ny107 := Aside0.mk hy107
 clear hy107
 by_cases c7 : t104.length + y107.length < 17592186044416
 rotate_left
 ·rw [if_neg c7] at H
  exact absurd H (by simp)
 rw [if_pos c7] at H
 have LMc7 := Aside0.mk c7
 clear c7
 obtain ⟨y110, hy110⟩ : ∃ y_ : List Int, y_ = (t104 ++ y107) := ⟨_, rfl⟩
 replace H : ((impl_ifCommittee.f k (wrap64 (a0_0 + a2)) y110).bind fun bt113 => (some (bt113.1, bt113.2.1, bt113.2.2))) = some (r1, r2, r3) := by first | (rw [hy110]; with_reducible exact H) | (have H2_ := (Option.bind_some _ _).symm.trans H; rw [hy110]; with_reducible exact H2_) | (have H2_ := (Option.bind_some _ _).symm.trans H; with_reducible exact H2_) | with_reducible exact H | (rw [hy110]; exact H) | exact H
 have Ny110 := Aside0.mk hy110
 clear hy110
 replace H := oB H
 obtain ⟨⟨t113, t114, t117⟩, A80, H⟩ := H
 (try dsimp only at H)
 have A8 := Aside0.mk A80
 clear A80
 simp only [Option.some.injEq, Prod.mk.injEq] at H
 obtain ⟨rfl, rfl, rfl⟩ := H
 go_enter Tryz.func64, Tryz.ntmps64
 try go_wp2_with (first | ((with_reducible refine gate_dst (N := 3) rfl ?_); refine xE (N := 3) (cs := #[.int .i64 a0_0, .slice A0_1 l0_1.length c0_1]) (t := 24) ?_; intro gb101 hg w9 BK101 hb; have GW101 := gS hg HB; have GE101 := gS hg HB; replace HB := sB HB hb; clear hb hg) | ((with_reducible refine gate_dst (N := 6) rfl ?_); refine xE (N := 6) (cs := #[.int .i64 0, .slice none 0 0]) (t := 24) ?_; intro gb102 hg w10 BK102 hb; have GW102 := gS hg HB; have GE102 := gS hg HB; have NB101_102 := nL hg (blk_lt BK101.out); have NB102_101 := nG hg (blk_lt BK101.out); replace BK101 := bB BK101 hb; replace HB := sB HB hb; clear hb hg; have hnb11 := NB101_102.out; have hnc11 := NB102_101.out; obtain ⟨hcz12_0, hcz12_1, hfz12_0, hfz12_1⟩ := zZ BK101) | ((with_reducible refine gate_callee (f := 16) rfl ?_); refine gL 9 Tryz.func16 #[.agg #[.int .i64 a0_0, .slice A0_1 l0_1.length c0_1]] ?_; (with_reducible refine (impl_IsCommittee.calls k a0_0 _ _ l0_1 true _ (Kd.C_below HR0_1.out HB.out) HC0_1.out A4.out).mono ?_); rintro e w13 ⟨rfl, hb⟩; refine ⟨_, rfl, ?_⟩; replace BK101 := bB BK101 hb; replace BK102 := bB BK102 hb; replace HB := sB HB hb; (try clear hb)))
 replace BK101 := bD BK101
 replace BK102 := bD BK102
 replace HB := Aside0.mk (below_drew1 HB.out)
 refine start_ (n := 16) (S := fun w' => w'.cell? ⟨gb101, 0, none⟩ = some (.int .i64 a0_0) ∧ w'.cell? ⟨gb101, 1, none⟩ = some (.slice A0_1 l0_1.length c0_1)) (ds := []) #[F,F,F,F,F,F,F,F,F,F,F,F,F,F,F,F] (by kernel_rfl) rfl rfl ⟨(blk_cell BK101.out 0).trans rfl, (blk_cell BK101.out 1).trans rfl⟩ (fun hHeld => ?_); refine with_tabW impl_withMember.tab3 impl_withMember.bits3 (fun HT_ HW_ => ?_)
 (try clear hcz12_0 hcz12_1 hfz12_0 hfz12_1)
 generalize w13.drew = w14 at BK101 BK102 HB hHeld ⊢
 refine pU 0 HT_ ?_
 refine pU 2 HT_ ?_
 refine pU 4 HT_ ?_
 refine pU 7 HT_ ?_
 refine tK 1 HT_ HW_ hHeld (hy := by rintro w' ⟨s0, s1⟩; go_simp; with_reducible rfl) ?_
 refine pU 3 HT_ ?_
 refine tK 5 HT_ HW_ hHeld (hy := by rintro w' ⟨s0, s1⟩; go_simp; with_reducible rfl) ?_
 refine join_ (σ := Value × Value) 7 #[T,T,T,T,T,T,T,T,T,F,F,F,F,F,F,F] (fun s_ => [(18, s_.1), (20, s_.2)]) (fun s_ w' => (w'.cell? ⟨gb101, 0, none⟩ = some (.int .i64 a0_0) ∧ w'.cell? ⟨gb101, 1, none⟩ = some (.slice A0_1 l0_1.length c0_1)) ∧ (Kd.R (Kd.int .i64) 3 w' w.heap.size (fun k_ => nb (s_.2) k_) s_.1 t104) ∧ (Kd.R (Kd.int .i64) 3 w' w.heap.size (fun k_ => nb (s_.1) k_) s_.2 y107) ∧ (w'.heap[gb101]? = some (.cells #[.int .i64 a0_0, .slice A0_1 l0_1.length c0_1] 24 (0, 0))) ∧ (w'.heap[gb102]? = some (.cells #[.int .i64 0, .slice none 0 0] 24 (0, 0))) ∧ (Below w.heap.size w w')) ?_ ?_
 rotate_left
 ·intro hCont
  refine two_ (i := 6) (j := 8) (Ni := some 18) (Nj := some 20) #[T,T,T,T,T,T,T,T,F,F,F,F,F,F,F,F] #[T,T,T,T,T,T,F,T,T,F,F,F,F,F,F,F] rfl rfl rfl rfl (two_of HT_.out (by kernel_rfl)) (by decide) (by decide) (fun K hK => ?_) (fun K hK => ?_)
  ·skip
   refine gE Tryz.func45 #[.slice A0_1 l0_1.length c0_1] ?_
   with_reducible refine (slices_Clone_int_int.calls _ _ l0_1 t104 _ (Kd.C_below HR0_1.out HB.out) HC0_1.out A6.out).mono ?_
   rintro e w15 ⟨v105, rfl, ho0, hb⟩
   refine ⟨_, rfl, ?_⟩
   have HO106 := Aside0.mk (Kd.R_lower ho0 (below_size HB.out))
   replace BK101 := bB BK101 hb
   replace BK102 := bB BK102 hb
   replace HB := sB HB hb
   (try clear hb)
   (try clear hb2)
   (try clear hk)
   (try clear hi)
   (try clear ho0)
   refine hK.out _ _ ⟨(blk_cell BK101.out 0).trans rfl, (blk_cell BK101.out 1).trans rfl⟩ (fun hHeld => ?_)
   clear hK K
   refine nM ?_
   refine oN 8 HT_ (fun K hK => ?_)
   refine Kd.R_lit_step (Kd.int .i64) _ 3 ?hg (N := 20) ?hd (xs := ([a1] : List Int)) (inner := [.int .i64 a1]) (ok := fun _ => True) (okp := fun _ => True) ?hr ?hp (fun _ hk => hk) trivial (Below.refl _ _) (Nat.le_refl _) (by simp) ?_; (case hd => rfl); (case hg => rfl); (case hr => first | (go_simp; done) | (go_simp; rfl)); (case hp => exact (Reps.one (show Kd.M (Kd.int .i64) _ _ _ a1 [.int .i64 a1] from rfl) (Reps.none _ _)))
   intro v108 w16 ho17 hb hg_ hnew_
   clear hg_ hnew_
   (first | rw [← Ny107.out] at ho17 | (simp only [Int.reduceToNat] at ho17; rw [← Ny107.out] at ho17))
   have HO109 := Aside0.mk (Kd.R_lower (Kd.R_new' ho17 (Kd.R_lt HO106.out)) (below_size HB.out))
   replace HO106 := rE HO106 (Kd.R_base ho17) hb
   replace BK101 := bB BK101 hb
   replace BK102 := bB BK102 hb
   replace HB := sB HB hb
   clear hb ho17
   refine hK.out _ _ ⟨(blk_cell BK101.out 0).trans rfl, (blk_cell BK101.out 1).trans rfl⟩ (fun hHeld => ?_)
   clear hK K
   refine nM ?_
   exact norm_ (by simp only [putAll, Act.put, sA, sZ, sS]) (hCont (v105, v108) _ ⟨hHeld, (by exact Kd.R_mono HO106.out (fun _ hk => hk.2)), (by exact Kd.R_mono HO109.out (fun _ hk => hk.2)), BK101.out, BK102.out, HB.out⟩)
  skip
  refine Kd.R_lit_step (Kd.int .i64) _ 3 ?hg (N := 20) ?hd (xs := ([a1] : List Int)) (inner := [.int .i64 a1]) (ok := fun _ => True) (okp := fun _ => True) ?hr ?hp (fun _ hk => hk) trivial (Below.refl _ _) (Nat.le_refl _) (by simp) ?_; (case hd => rfl); (case hg => rfl); (case hr => first | (go_simp; done) | (go_simp; rfl)); (case hp => exact (Reps.one (show Kd.M (Kd.int .i64) _ _ _ a1 [.int .i64 a1] from rfl) (Reps.none _ _)))
  intro v108 w15 ho16 hb hg_ hnew_
  clear hg_ hnew_
  (first | rw [← Ny107.out] at ho16 | (simp only [Int.reduceToNat] at ho16; rw [← Ny107.out] at ho16))
  have HO109 := Aside0.mk (Kd.R_lower ho16 (below_size HB.out))
  replace BK101 := bB BK101 hb
  replace BK102 := bB BK102 hb
  replace HB := sB HB hb
  clear hb ho16
  refine hK.out _ _ ⟨(blk_cell BK101.out 0).trans rfl, (blk_cell BK101.out 1).trans rfl⟩ (fun hHeld => ?_)
  clear hK K
  refine nM ?_
  refine oN 6 HT_ (fun K hK => ?_)
  refine gE Tryz.func45 #[.slice A0_1 l0_1.length c0_1] ?_
  with_reducible refine (slices_Clone_int_int.calls _ _ l0_1 t104 _ (Kd.C_below HR0_1.out HB.out) HC0_1.out A6.out).mono ?_
  rintro e w17 ⟨v105, rfl, ho0, hb⟩
  refine ⟨_, rfl, ?_⟩
  have HO106 := Aside0.mk (Kd.R_lower (Kd.R_new' ho0 (Kd.R_lt HO109.out)) (below_size HB.out))
  replace HO109 := rE HO109 (Kd.R_base ho0) hb
  replace BK101 := bB BK101 hb
  replace BK102 := bB BK102 hb
  replace HB := sB HB hb
  (try clear hb)
  (try clear hb2)
  (try clear hk)
  (try clear hi)
  (try clear ho0)
  refine hK.out _ _ ⟨(blk_cell BK101.out 0).trans rfl, (blk_cell BK101.out 1).trans rfl⟩ (fun hHeld => ?_)
  clear hK K
  refine nM ?_
  exact norm_ (by simp only [putAll, Act.put, sA, sZ, sS]) (hCont (v105, v108) _ ⟨hHeld, (by exact Kd.R_mono HO106.out (fun _ hk => hk.2)), (by exact Kd.R_mono HO109.out (fun _ hk => hk.2)), BK101.out, BK102.out, HB.out⟩)
 rintro ⟨v105, v108⟩ w18 ⟨hS_, h0_, h1_, h2_, h3_, h4_⟩
 have n0_ : Aside0 (Kd.R (Kd.int .i64) 3 w18 w.heap.size (fun k_ => nb v108 k_) v105 t104) := ⟨h0_⟩
 have n1_ : Aside0 (Kd.R (Kd.int .i64) 3 w18 w.heap.size (fun k_ => nb v105 k_) v108 y107) := ⟨h1_⟩
 have n2_ : Aside0 (w18.heap[gb101]? = some (.cells #[.int .i64 a0_0, .slice A0_1 l0_1.length c0_1] 24 (0, 0))) := ⟨h2_⟩
 have n3_ : Aside0 (w18.heap[gb102]? = some (.cells #[.int .i64 0, .slice none 0 0] 24 (0, 0))) := ⟨h3_⟩
 have n4_ : Aside0 (Below w.heap.size w w18) := ⟨h4_⟩
 clear BK101
 clear BK102
 clear HB
 clear h0_ h1_ h2_ h3_ h4_
 have HO106 := n0_
 have HO109 := n1_
 have BK101 := n2_
 have BK102 := n3_
 have HB := n4_
 clear n0_ n1_ n2_ n3_ n4_
 have hHeld : w18.cell? ⟨gb101, 0, none⟩ = some (.int .i64 a0_0) ∧ w18.cell? ⟨gb101, 1, none⟩ = some (.slice A0_1 l0_1.length c0_1) := hS_
 obtain ⟨Ao20, co20, eo20⟩ := Kd.R_slice HO109.out
 (first | subst eo20 | (injection eo20 with f1_ f2_ f3_; have f4_ := f1_.symm; have f5_ := f3_.symm; clear f1_ f2_ f3_; subst f4_; subst f5_))
 refine norm_ (a' := ?_) ?_ ?_
 rotate_left
 ·simp only [putAll, Act.put, sA, sZ, sS]
  rfl
 refine oN 9 HT_ (fun K hK => ?_)
 refine Kd.R_append_rows_step (Kd.int .i64) (w0 := w) w.heap.size (by rfl) (.tmp 18) (.tmp 20) 22 3 (.int .i64 0) 8 rfl Tryz.underlying22 info3 rfl (by decide) (by omega) v105 t104 y107 _ _ _ (fun k_ => nb (.slice Ao20 y107.length co20) k_) (fun _ => False) rfl rfl ?aO ?aR (fun _ _ h => h) (fun _ h => h.elim) ?aF ?aB ?aS ?aL ?_
 (case aR => repeat (first | exact (Kd.R_reads' HO109.out).2.2 | (with_reducible refine Kd.C_alloc ?_ _) | (with_reducible refine Kd.C_drewN ?_ _) | (with_reducible refine Kd.C_drew ?_)))
 (case aB => exact HB.out)
 (case aF => exact (fun k_ hk => Kd.fresh' (Kd.R_lt HO109.out) k_ hk))
 (case aO => exact HO106.out)
 (case aS => exact (below_size HB.out))
 (case aL => have := LMc7.out; omega)
 intro v111 w19 ho hb hg hat
 rw [← Ny110.out] at ho
 have HO112 := Aside0.mk (ho)
 replace BK101 := Aside0.mk (blk_grown (g := gb101) (o := .cells #[.int .i64 a0_0, .slice A0_1 l0_1.length c0_1] 24 (0, 0)) BK101.out hg (Kd.R_ne HO106.out BK101.out (by decide)))
 replace BK102 := Aside0.mk (blk_grown (g := gb102) (o := .cells #[.int .i64 0, .slice none 0 0] 24 (0, 0)) BK102.out hg (Kd.R_ne HO106.out BK102.out (by decide)))
 replace HO109 := Aside0.mk (Kd.R_after (ok := (fun _ => True)) (by exact Kd.R_mono HO109.out (fun _ hk => ⟨trivial, hk⟩)) hg hat)
 replace HB := Aside0.mk (hb)
 clear ho hb hg hat
 obtain ⟨Ao21, co21, eo21⟩ := Kd.R_slice HO112.out
 (first | subst eo21 | (injection eo21 with f1_ f2_ f3_; have f4_ := f1_.symm; have f5_ := f3_.symm; clear f1_ f2_ f3_; subst f4_; subst f5_))
 refine hK.out _ _ ⟨(blk_cell BK101.out 0).trans rfl, (blk_cell BK101.out 1).trans rfl⟩ (fun hHeld => ?_)
 clear hK K
 refine nM ?_
 refine pU 10 HT_ ?_
 refine oN 11 HT_ (fun K hK => ?_)
 refine gE Tryz.func36 #[.agg #[.int .i64 (wrap64 (a0_0 + a2)), .slice Ao21 y110.length co21]] ?_
 with_reducible refine (impl_ifCommittee.calls k (wrap64 (a0_0 + a2)) (fun k_ => some k_ = (.slice Ao21 y110.length co21 : Value).ownBlock) (.slice Ao21 y110.length co21) y110 t113 t114 t117 w _ ?side1 ?side2 A8.out).mono ?_
 (case side1 => repeat (first | (with_reducible first | exact HB.out | apply ba | apply bd | apply be | refine bs ?_ GE101.out | refine bs ?_ GE102.out) | exact HB.out))
 (case side2 => exact Kd.R_tight rfl HO112.out)
 rintro e w22 ⟨v115, rfl, ho0, hb, hkp⟩
 refine ⟨_, rfl, ?_⟩
 have HO116 := Aside0.mk (Kd.R_mono (ok' := fun k_ => nb (.slice Ao20 y107.length co20) k_) ho0 (fun k_ hk_ => Or.elim hk_ (fun hs_ => fun e_ => (((HO109.out).1 k_ e_.symm).2) hs_) (fun hn_ => (Kd.fresh' (Kd.R_lt HO109.out) k_ hn_))))
 replace BK101 := Aside0.mk (blk_kept BK101.out hkp (fun hs_ => (fun e_ => (Kd.R_ne HO112.out BK101.out (by decide)) e_) hs_))
 replace BK102 := Aside0.mk (blk_kept BK102.out hkp (fun hs_ => (fun e_ => (Kd.R_ne HO112.out BK102.out (by decide)) e_) hs_))
 replace HO109 := Aside0.mk (Kd.R_mono (ok' := fun k_ => nb v115 k_) (Kd.R_keptB (HO109.out) hkp (fun k_ hk_ hs_ => (hk_.2) hs_)) (fun k_ hk_ => fun e_ => Or.elim (ho0.1 k_ e_.symm) (fun hs_ => hk_.2.1 hs_) (fun hn_ => Nat.not_le.2 hk_.2.2 hn_)))
 replace HB := Aside0.mk (hb)
 (try clear hb)
 (try clear hkp)
 (try clear ho0)
 obtain ⟨Ao24, co24, eo24⟩ := Kd.R_slice HO116.out
 (first | subst eo24 | (injection eo24 with f1_ f2_ f3_; have f4_ := f1_.symm; have f5_ := f3_.symm; clear f1_ f2_ f3_; subst f4_; subst f5_))
 refine hK.out _ _ ⟨(blk_cell BK101.out 0).trans rfl, (blk_cell BK101.out 1).trans rfl⟩ (fun hHeld => ?_)
 clear hK K
 refine nM ?_
 refine pU 12 HT_ ?_
 refine pU 13 HT_ ?_
 refine oN 14 HT_ (fun K hK => ?_)
 have hs23 : w22.cell? ⟨gb102, 0, none⟩ = some (.int .i64 0) := (blk_cell BK102.out 0).trans rfl
 have hfs23 := blk_frozen BK102.out 0
 have hns23_0 := NB101_102.out
 have hms23_0 := NB102_101.out
 have hs25 : w22.cell? ⟨gb102, 1, none⟩ = some (.slice none 0 0) := (blk_cell BK102.out 1).trans rfl
 have hfs25 := blk_frozen BK102.out 1
 have hns25_0 := NB101_102.out
 have hms25_0 := NB102_101.out
 refine skip_ (w1 := ?_) (by rfl) rfl ?_ ?_
 rotate_left
 ·go_simp
  rfl
 refine hK.out _ _ ⟨((cell_far (p := ⟨gb102, _, none⟩) NB101_102.out _).trans (((cell_far (p := ⟨gb102, _, none⟩) NB101_102.out _).trans (hHeld.1)))), ((cell_far (p := ⟨gb102, _, none⟩) NB101_102.out _).trans (((cell_far (p := ⟨gb102, _, none⟩) NB101_102.out _).trans (hHeld.2))))⟩ (fun hHeld => ?_)
 clear hK K
 refine pU 15 HT_ ?_
 refine done_ (done_of HT_.out (by kernel_rfl)) ?_
 try go_wp2
 refine bodyPost_ret (results_ct rfl _ _ gb102 24 #[.int .i64 t113, .slice Ao24 t114.length co24] (0, 0) _ rfl (by refine blk_put (cs := #[.int .i64 t113, .slice none 0 0]) ?_ 1 _ rfl; refine blk_put (cs := #[.int .i64 0, .slice none 0 0]) ?_ 0 _ rfl; exact BK102.out) Tryz.underlying24 rfl (by kernel_rfl)) rfl ?_
 exact ⟨_, fR, by exact Kd.R_mono (Kd.R_far (p := ⟨gb102, 1, none⟩) (Kd.R_far (p := ⟨gb102, 0, none⟩) (Kd.R_types HO116.out BK102.out (by decide)) (fun _ hk => hk.2) (.int .i64 t113)) (fun _ hk => hk.2) (.slice Ao24 t114.length co24)) (fun _ hk => trivial), wB⟩
def impl_AddVeto.f (k : Nat) (a0_0 : Int) (l0_1 : List Int) : Option (Int × List Int × Bool) := (impl_sumOf.f k l0_1).bind fun t103 => ((impl_sumOf.f k l0_1).bind fun t104 => ((impl_withMember.f k a0_0 l0_1 t103 t104).bind fun bt105 => (some (bt105.1, bt105.2.1, bt105.2.2))))
def impl_AddVeto.T1 : Bool × List (List Nat × List Nat) := (true, [([], []), ([], []), ([1], [1]), ([2], [2]), ([], []), ([4], [4]), ([5, 3], [5]), ([0, 3, 6, 6], [0, 3, 6]), ([7], [7]), ([7], [7]), ([8, 7, 0, 1, 2, 3, 4, 5, 6, 7, 8, 9], [8]), ([9, 10, 0, 1, 2, 3, 4, 5, 6, 7, 8, 9, 10], [9])])
def impl_AddVeto.B1 : List Nat := [0, 0, 2, 6, 0, 16, 62, 127, 255, 255, 1023, 2047]
theorem impl_AddVeto.tab1 : rtab .any (opsOf Tryz.f22 1) = impl_AddVeto.T1 := by kernel_rfl
theorem impl_AddVeto.bits1 : waitsOk impl_AddVeto.T1.2 impl_AddVeto.B1 = true := by kernel_rfl
theorem impl_AddVeto.calls (k : Nat) (a0_0 : Int) (A0_1 : Option Addr) (c0_1 : Nat) (l0_1 : List Int) (r1 : Int) (r2 : List Int) (r3 : Bool) (w : World) (hr0_1 : Kd.C (Kd.int .i64) w A0_1 l0_1.length l0_1) (hc0_1 : l0_1.length ≤ c0_1) (h : impl_AddVeto.f k a0_0 l0_1 = some (r1, r2, r3)) :
  Calls Tryz.prog 22 #[.agg #[.int .i64 a0_0, .slice A0_1 l0_1.length c0_1]] w fun e w' => ∃ v1_ : Value, e = .returned (.tuple #[.agg #[.int .i64 r1, v1_], .bool r3]) ∧ Kd.R (Kd.int .i64) 3 w' w.heap.size (fun _ => True) v1_ r2 ∧ Below w.heap.size w w' := by
 have hu24 := Tryz.underlying24
 have HR0_1 := Aside0.mk hr0_1
 have HC0_1 := Aside0.mk hc0_1
 clear hr0_1 hc0_1
 have HB := Aside0.mk (Below.refl w.heap.size w)
 have H := h
 unfold impl_AddVeto.f at H
 clear h
 replace H := oA H
 obtain ⟨t103, A2, H⟩ := H
 (try dsimp only at H)
 replace H := oA H
 obtain ⟨t104, A3, H⟩ := H
 (try dsimp only at H)
 replace H := oB H
 obtain ⟨⟨t105, t106, t109⟩, A40, H⟩ := H
 (try dsimp only at H)
 have A4 := Aside0.mk A40
 clear A40
 simp only [Option.some.injEq, Prod.mk.injEq] at H
 obtain ⟨rfl, rfl, rfl⟩ := H
 go_enter Tryz.func22, Tryz.ntmps22
 try go_wp2_with (first | ((with_reducible refine gate_dst (N := 1) rfl ?_); refine xE (N := 1) (cs := #[.int .i64 a0_0, .slice A0_1 l0_1.length c0_1]) (t := 24) ?_; intro gb101 hg w5 BK101 hb; have GW101 := gS hg HB; have GE101 := gS hg HB; replace HB := sB HB hb; clear hb hg) | ((with_reducible refine gate_dst (N := 2) rfl ?_); refine xE (N := 2) (cs := #[.int .i64 0, .slice none 0 0]) (t := 24) ?_; intro gb102 hg w6 BK102 hb; have GW102 := gS hg HB; have GE102 := gS hg HB; have NB101_102 := nL hg (blk_lt BK101.out); have NB102_101 := nG hg (blk_lt BK101.out); replace BK101 := bB BK101 hb; replace HB := sB HB hb; clear hb hg))
 replace BK101 := bD BK101
 replace BK102 := bD BK102
 replace HB := Aside0.mk (below_drew1 HB.out)
 refine start_ (n := 12) (S := fun w' => w'.cell? ⟨gb101, 0, none⟩ = some (.int .i64 a0_0) ∧ w'.cell? ⟨gb101, 1, none⟩ = some (.slice A0_1 l0_1.length c0_1)) (ds := []) #[F,F,F,F,F,F,F,F,F,F,F,F] (by kernel_rfl) rfl rfl ⟨(blk_cell BK101.out 0).trans rfl, (blk_cell BK101.out 1).trans rfl⟩ (fun hHeld => ?_); refine with_tabW impl_AddVeto.tab1 impl_AddVeto.bits1 (fun HT_ HW_ => ?_)
 generalize w6.drew = w7 at BK101 BK102 HB hHeld ⊢
 refine pU 1 HT_ ?_
 refine pU 4 HT_ ?_
 refine tK 0 HT_ HW_ hHeld (hy := by rintro w' ⟨s0, s1⟩; go_simp; with_reducible rfl) ?_
 refine tK 2 HT_ HW_ hHeld (hy := by rintro w' ⟨s0, s1⟩; go_simp; with_reducible rfl) ?_
 refine tK 5 HT_ HW_ hHeld (hy := by rintro w' ⟨s0, s1⟩; go_simp; with_reducible rfl) ?_
 refine oN 3 HT_ (fun K hK => ?_)
 refine gE Tryz.func57 #[.slice A0_1 l0_1.length c0_1] ?_
 with_reducible refine (impl_sumOf.calls k _ _ l0_1 t103 _ (Kd.C_below HR0_1.out HB.out) HC0_1.out A2.out).mono ?_
 rintro e w' ⟨rfl, ⟨nd, rfl⟩⟩
 refine ⟨_, rfl, ?_⟩
 refine hK.out _ _ ⟨(blk_cell BK101.out 0).trans rfl, (blk_cell BK101.out 1).trans rfl⟩ (fun hHeld => ?_)
 clear hK K
 refine nM ?_
 refine oN 6 HT_ (fun K hK => ?_)
 refine gE Tryz.func57 #[.slice A0_1 l0_1.length c0_1] ?_
 with_reducible refine (impl_sumOf.calls k _ _ l0_1 t104 _ ?side1 ?side2 A3.out).mono ?_
 (case side1 =>  repeat (first | exact (Kd.C_below HR0_1.out (by repeat (first | exact HB.out | apply ba | apply bd | apply be | refine bs ?_ GE101.out | refine bs ?_ GE102.out))) | (with_reducible refine Kd.C_alloc ?_ _) | (with_reducible refine Kd.C_drewN ?_ _) | (with_reducible refine Kd.C_drew ?_)))
 (case side2 => exact HC0_1.out)
 rintro e w' ⟨rfl, ⟨nd, rfl⟩⟩
 refine ⟨_, rfl, ?_⟩
 refine hK.out _ _ ⟨(blk_cell BK101.out 0).trans rfl, (blk_cell BK101.out 1).trans rfl⟩ (fun hHeld => ?_)
 clear hK K
 refine nM ?_
 refine oN 7 HT_ (fun K hK => ?_)
 refine gE Tryz.func64 #[.agg #[.int .i64 a0_0, .slice A0_1 l0_1.length c0_1], .int .i64 t103, .int .i64 t104] ?_
 with_reducible refine (impl_withMember.calls k a0_0 _ _ l0_1 t103 t104 t105 t106 t109 _ ?side1 ?side2 A4.out).mono ?_
 (case side1 =>  repeat (first | exact (Kd.C_below HR0_1.out (by repeat (first | exact HB.out | apply ba | apply bd | apply be | refine bs ?_ GE101.out | refine bs ?_ GE102.out))) | (with_reducible refine Kd.C_alloc ?_ _) | (with_reducible refine Kd.C_drewN ?_ _) | (with_reducible refine Kd.C_drew ?_)))
 (case side2 => exact HC0_1.out)
 rintro e w8 ⟨v107, rfl, ho0, hb⟩
 refine ⟨_, rfl, ?_⟩
 have HO108 := Aside0.mk (Kd.R_lower ho0 (below_size (by repeat (first | exact HB.out | apply ba | apply bd | apply be | refine bs ?_ GE101.out | refine bs ?_ GE102.out))))
 replace BK101 := bP BK101 hb
 replace BK102 := bP BK102 hb
 replace HB := sQ hb
 (try clear hb)
 (try clear hb2)
 (try clear hk)
 (try clear hi)
 (try clear ho0)
 obtain ⟨Ao10, co10, eo10⟩ := Kd.R_slice HO108.out
 (first | subst eo10 | (injection eo10 with f1_ f2_ f3_; have f4_ := f1_.symm; have f5_ := f3_.symm; clear f1_ f2_ f3_; subst f4_; subst f5_))
 refine hK.out _ _ ⟨(blk_cell BK101.out 0).trans rfl, (blk_cell BK101.out 1).trans rfl⟩ (fun hHeld => ?_)
 clear hK K
 refine nM ?_
 refine pU 8 HT_ ?_
 refine pU 9 HT_ ?_
 refine oN 10 HT_ (fun K hK => ?_)
 have hs9 : w8.cell? ⟨gb102, 0, none⟩ = some (.int .i64 0) := (blk_cell BK102.out 0).trans rfl
 have hfs9 := blk_frozen BK102.out 0
 have hns9_0 := NB101_102.out
 have hms9_0 := NB102_101.out
 have hs11 : w8.cell? ⟨gb102, 1, none⟩ = some (.slice none 0 0) := (blk_cell BK102.out 1).trans rfl
 have hfs11 := blk_frozen BK102.out 1
 have hns11_0 := NB101_102.out
 have hms11_0 := NB102_101.out
 refine skip_ (w1 := ?_) (by rfl) rfl ?_ ?_
 rotate_left
 ·go_simp
  rfl
 refine hK.out _ _ ⟨((cell_far (p := ⟨gb102, _, none⟩) NB101_102.out _).trans (((cell_far (p := ⟨gb102, _, none⟩) NB101_102.out _).trans (hHeld.1)))), ((cell_far (p := ⟨gb102, _, none⟩) NB101_102.out _).trans (((cell_far (p := ⟨gb102, _, none⟩) NB101_102.out _).trans (hHeld.2))))⟩ (fun hHeld => ?_)
 clear hK K
 refine pU 11 HT_ ?_
 refine done_ (done_of HT_.out (by kernel_rfl)) ?_
 try go_wp2
 refine bodyPost_ret (results_ct rfl _ _ gb102 24 #[.int .i64 t105, .slice Ao10 t106.length co10] (0, 0) _ rfl (by (with_reducible repeat (first | refine kN ?_ _ | refine kD ?_ | refine kA ?_ _)); refine blk_put (cs := #[.int .i64 t105, .slice none 0 0]) ?_ 1 _ rfl; (with_reducible repeat (first | refine kN ?_ _ | refine kD ?_ | refine kA ?_ _)); refine blk_put (cs := #[.int .i64 0, .slice none 0 0]) ?_ 0 _ rfl; (with_reducible repeat (first | refine kN ?_ _ | refine kD ?_ | refine kA ?_ _)); exact BK102.out) Tryz.underlying24 rfl (by kernel_rfl)) rfl ?_
 exact ⟨_, fR, by (with_reducible repeat (first | apply qA | apply qN | apply qD)); exact Kd.R_mono (Kd.R_far (p := ⟨gb102, 1, none⟩) (Kd.R_far (p := ⟨gb102, 0, none⟩) (Kd.R_types HO108.out BK102.out (by decide)) (fun _ hk => hk.2) (.int .i64 t105)) (fun _ hk => hk.2) (.slice Ao10 t106.length co10)) (fun _ hk => trivial), wB⟩
end Go.Proofs.YtaambkdiokbdgabGreat.Q
namespace Go.Proofs.YtaambkdiokbdgabGreat.Q
open Go.RowKit Go.Proofs.YtaambkdiokbdgabGreatX Go.Proofs.YtaambkdiokbdgabGreatY Go.Proofs.YtaambkdiokbdgabGreatW.PrintWords Go.Proofs.YtaambkdiokbdgabGreatW.PrintLast Go.Proofs.YtaambkdiokbdgabGreatW.PrintMore
attribute [local go_sem] max2_int min2_int max_two min_two max_three min_three max_four min_four   -- for this text's walks alone
set_option linter.unusedVariables false
set_option linter.unusedSimpArgs false
def spec_AddVeto.f (k : Nat) (a0_0 : Int) (l0_1 : List Int) : Option (Int × List Int × Bool) := (spec_voGood.f k a0_0 l0_1).bind fun t103 => (if t103 = true then ((spec_voSum.f k l0_1).bind fun t104 => ((spec_l1Own.f l0_1).bind fun t105 => ((some (([t104] : List Int) : List Int)).bind fun y108 => (if t105.length + y108.length < 17592186044416 then ((some (t105 ++ y108 : List Int)).bind fun y111 => ((spec_voGood.f k (wrap64 (a0_0 + t104)) y111).bind fun t115 => (if t115 = true then (some (wrap64 (a0_0 + t104), y111, true)) else (some (0, ([] : List Int), false))))) else (none))))) else (some (0, ([] : List Int), false)))
def spec_AddVeto.T4 : Bool × List (List Nat × List Nat) := (true, [([], []), ([0], [0]), ([], []), ([1, 2], [1, 2]), ([], []), ([4], [4]), ([5], [5]), ([], []), ([7], [7]), ([6, 8, 6], [6, 8]), ([3, 9], [3, 9]), ([], []), ([11, 10, 9, 0, 1, 2, 3, 4, 5, 6, 7, 8, 9, 10, 11], [10, 11])])
def spec_AddVeto.B4 : List Nat := [0, 1, 0, 7, 0, 16, 48, 0, 128, 496, 1023, 0, 4095]
theorem spec_AddVeto.tab4 : rtab .any (opsOf Tryz.f23 4) = spec_AddVeto.T4 := by kernel_rfl
theorem spec_AddVeto.bits4 : waitsOk spec_AddVeto.T4.2 spec_AddVeto.B4 = true := by kernel_rfl
theorem spec_AddVeto.calls (k : Nat) (a0_0 : Int) (A0_1 : Option Addr) (c0_1 : Nat) (l0_1 : List Int) (r1 : Int) (r2 : List Int) (r3 : Bool) (w : World) (hr0_1 : Kd.C (Kd.int .i64) w A0_1 l0_1.length l0_1) (hc0_1 : l0_1.length ≤ c0_1) (h : spec_AddVeto.f k a0_0 l0_1 = some (r1, r2, r3)) :
  Calls Tryz.prog 23 #[.agg #[.int .i64 a0_0, .slice A0_1 l0_1.length c0_1]] w fun e w' => ∃ v1_ : Value, e = .returned (.tuple #[.agg #[.int .i64 r1, v1_], .bool r3]) ∧ Kd.R (Kd.int .i64) 3 w' w.heap.size (fun _ => True) v1_ r2 ∧ Below w.heap.size w w' := by
 have hu24 := Tryz.underlying24
 have HR0_1 := Aside0.mk hr0_1
 have HC0_1 := Aside0.mk hc0_1
 clear hr0_1 hc0_1
 have HB := Aside0.mk (Below.refl w.heap.size w)
 have H := h
 unfold spec_AddVeto.f at H
 clear h
 replace H := oB H
 obtain ⟨t103, A20, H⟩ := H
 replace H : (if t103 = true then ((spec_voSum.f k l0_1).bind fun t104 => ((spec_l1Own.f l0_1).bind fun t105 => ((some (([t104] : List Int) : List Int)).bind fun y108 => (if t105.length + y108.length < 17592186044416 then ((some (t105 ++ y108 : List Int)).bind fun y111 => ((spec_voGood.f k (wrap64 (a0_0 + t104)) y111).bind fun t115 => (if t115 = true then (some (wrap64 (a0_0 + t104), y111, true)) else (some (0, ([] : List Int), false))))) else (none))))) else (some (0, ([] : List Int), false))) = some (r1, r2, r3) := H
 have A2 := Aside0.mk A20
 clear A20
 by_cases c3 : t103 = true
 rotate_left
 ·replace c3 := Bool.eq_false_iff.mpr c3
  subst c3
  replace H := iF H
  simp only [Option.some.injEq, Prod.mk.injEq] at H
  obtain ⟨rfl, rfl, rfl⟩ := H
  go_enter Tryz.func23, Tryz.ntmps23
  go_wp2_with (first | ((with_reducible refine gate_dst (N := 1) rfl ?_); refine box_event ?hg (N := 1) ?hd (cs := #[.int .i64 a0_0, .slice A0_1 l0_1.length c0_1]) (t := 24) ?hr ?_; (case hd => rfl); (case hg => rfl); (case hr => first | (go_simp; done) | (go_simp; rfl)); intro gb101 hg w56 hbox hb; have n0_ := sQ hb; have n1_ := Aside0.mk (hbox); have n2_ := Aside0.mk ((by rw [hg]; exact (below_size (wB)) : w.heap.size ≤ gb101)); have n3_ := Aside0.mk ((by rw [hg]; exact (below_size (wB)) : w.heap.size ≤ gb101)); clear HB; have HB := n0_; have BK101 := n1_; have GW101 := n2_; have GE101 := n3_; clear n0_ n1_ n2_ n3_; clear hb hbox hg) | ((with_reducible refine gate_dst (N := 2) rfl ?_); refine box_event ?hg (N := 2) ?hd (cs := #[.int .i64 0, .slice none 0 0]) (t := 24) ?hr ?_; (case hd => rfl); (case hg => rfl); (case hr => first | (go_simp; done) | (go_simp; rfl)); intro gb102 hg w57 hbox hb; have n0_ := bP BK101 hb; have n1_ := sQ hb; have n2_ := Aside0.mk (hbox); have n3_ := Aside0.mk ((by rw [hg]; exact (below_size (wB)) : w.heap.size ≤ gb102)); have n4_ := Aside0.mk ((by rw [hg]; exact (below_size (wB)) : w.heap.size ≤ gb102)); have n5_ := Aside0.mk ((by rw [hg]; exact Nat.ne_of_lt (blk_lt (g := gb101) (o := .cells #[.int .i64 a0_0, .slice A0_1 l0_1.length c0_1] 24 (0, 0)) (bQ BK101)) : gb101 ≠ gb102)); have n6_ := Aside0.mk ((by rw [hg]; exact Nat.ne_of_gt (blk_lt (g := gb101) (o := .cells #[.int .i64 a0_0, .slice A0_1 l0_1.length c0_1] 24 (0, 0)) (bQ BK101)) : gb102 ≠ gb101)); clear BK101; clear HB; have BK101 := n0_; have HB := n1_; have BK102 := n2_; have GW102 := n3_; have GE102 := n4_; have NB101_102 := n5_; have NB102_101 := n6_; clear n0_ n1_ n2_ n3_ n4_ n5_ n6_; clear hb hbox hg; have hnb58 := NB101_102.out; have hnc58 := NB102_101.out; obtain ⟨hcz59_0, hcz59_1, hfz59_0, hfz59_1⟩ := zZ BK101) | ((with_reducible refine gate_callee (f := 37) rfl ?_); refine gL 7 Tryz.func37 #[.agg #[.int .i64 a0_0, .slice A0_1 l0_1.length c0_1]] ?_; (with_reducible refine (spec_voGood.calls k a0_0 _ _ l0_1 false _ ?side1 ?side2 A2.out).mono ?_); (case side1 => have hx_ := (Kd.C_below HR0_1.out HB.out); exact cC); (case side2 => exact HC0_1.out); rintro e w60 ⟨rfl, hb⟩; refine ⟨_, rfl, ?_⟩; have n0_ := bP BK101 hb; have n1_ := bP BK102 hb; have n2_ := sQ hb; clear BK101; clear BK102; clear HB; have BK101 := n0_; have BK102 := n1_; have HB := n2_; clear n0_ n1_ n2_; (try clear hb); (try clear hb2); (try clear hk); (try clear hi); obtain ⟨hcz61_0, hcz61_1, hfz61_0, hfz61_1⟩ := zZ BK102))
  refine bodyPost_ret (results_ct rfl _ _ gb102 24 #[.int .i64 0, .slice none 0 0] (0, 0) _ rfl (by (try refine bp ?_); refine blk_put (cs := #[.int .i64 0, .slice none 0 0]) ?_ 1 _ rfl; (try refine bp ?_); refine blk_put (cs := #[.int .i64 0, .slice none 0 0]) ?_ 0 _ rfl; (first | exact bp BK102.out | exact BK102.out)) Tryz.underlying24 rfl (by kernel_rfl)) rfl ?_
  exact ⟨_, fR, by first | exact Kd.R_nil _ _ _ _ _ | exact Kd.N_nil _ _ _ _ _ | exact Kd.V_nil _ _ _ _ _ | exact Kd.Q_nil _ _ _ _ _ | exact Kd.S_nil _ _ _ _ _, wB⟩
 subst c3
 replace H := iT H
 replace H := oB H
 obtain ⟨t104, A40, H⟩ := H
 replace H : ((spec_l1Own.f l0_1).bind fun t105 => ((some (([t104] : List Int) : List Int)).bind fun y108 => (if t105.length + y108.length < 17592186044416 then ((some (t105 ++ y108 : List Int)).bind fun y111 => ((spec_voGood.f k (wrap64 (a0_0 + t104)) y111).bind fun t115 => (if t115 = true then (some (wrap64 (a0_0 + t104), y111, true)) else (some (0, ([] : List Int), false))))) else (none)))) = some (r1, r2, r3) := H
 have A4 := Aside0.mk A40
 clear A40
 replace H := oB H
 obtain ⟨t105, A50, H⟩ := H
 replace H : ((some (([t104] : List Int) : List Int)).bind fun y108 => (if t105.length + y108.length < 17592186044416 then ((some (t105 ++ y108 : List Int)).bind fun y111 => ((spec_voGood.f k (wrap64 (a0_0 + t104)) y111).bind fun t115 => (if t115 = true then (some (wrap64 (a0_0 + t104), y111, true)) else (some (0, ([] : List Int), false))))) else (none))) = some (r1, r2, r3) := H
 have A5 := Aside0.mk A50
 clear A50
 obtain ⟨y108, hy108⟩ : ∃ y_ : List Int, y_ = (([t104] : List Int)) := ⟨_, rfl⟩
 replace H : (if t105.length + y108.length < 17592186044416 then ((some (t105 ++ y108 : List Int)).bind fun y111 => ((spec_voGood.f k (wrap64 (a0_0 + t104)) y111).bind fun t115 => (if t115 = true then (some (wrap64 (a0_0 + t104), y111, true)) else (some (0, ([] : List Int), false))))) else (none)) = some (r1, r2, r3) := by first | (rw [hy108]; with_reducible exact H) | (have H2_ := (Option.bind_some _ _).symm.trans H; rw [hy108]; with_reducible exact H2_) | (have H2_ := (Option.bind_some _ _).symm.trans H; with_reducible exact H2_) | with_reducible exact H | (rw [hy108]; exact H) | exact H
 have Ny108 := Aside0.mk hy108
 clear hy108
 by_cases c6 : t105.length + y108.length < 17592186044416
 rotate_left
 ·rw [if_neg c6] at H
  exact absurd H (by simp)
 rw [if_pos c6] at H
 have LMc6 := Aside0.mk c6
 clear c6
 obtain ⟨y111, hy111⟩ : ∃ y_ : List Int, y_ = (t105 ++ y108) := ⟨_, rfl⟩
 replace H : ((spec_voGood.f k (wrap64 (a0_0 + t104)) y111).bind fun t115 => (if t115 = true then (some (wrap64 (a0_0 + t104), y111, true)) else (some (0, ([] : List Int), false)))) = some (r1, r2, r3) := by first | (rw [hy111]; with_reducible exact H) | (have H2_ := (Option.bind_some _ _).symm.trans H; rw [hy111]; with_reducible exact H2_) | (have H2_ := (Option.bind_some _ _).symm.trans H; with_reducible exact H2_) | with_reducible exact H | (rw [hy111]; exact H) | exact H
 have Ny111 := Aside0.mk hy111
 clear hy111
 replace H := oB H
 obtain ⟨t115, A70, H⟩ := H
 replace H : (if t115 = true then (some (wrap64 (a0_0 + t104), y111, true)) else (some (0, ([] : List Int), false))) = some (r1, r2, r3) := H
 have A7 := Aside0.mk A70
 clear A70
 by_cases c8 : t115 = true
 rotate_left
 ·replace c8 := Bool.eq_false_iff.mpr c8
  subst c8
  replace H := iF H
  simp only [Option.some.injEq, Prod.mk.injEq] at H
  obtain ⟨rfl, rfl, rfl⟩ := H
  go_enter Tryz.func23, Tryz.ntmps23
  try go_wp2_with (first | ((with_reducible refine gate_dst (N := 1) rfl ?_); refine box_event ?hg (N := 1) ?hd (cs := #[.int .i64 a0_0, .slice A0_1 l0_1.length c0_1]) (t := 24) ?hr ?_; (case hd => rfl); (case hg => rfl); (case hr => first | (go_simp; done) | (go_simp; rfl)); intro gb101 hg w33 hbox hb; have n0_ := sQ hb; have n1_ := Aside0.mk (hbox); have n2_ := Aside0.mk ((by rw [hg]; exact (below_size (wB)) : w.heap.size ≤ gb101)); have n3_ := Aside0.mk ((by rw [hg]; exact (below_size (wB)) : w.heap.size ≤ gb101)); clear HB; have HB := n0_; have BK101 := n1_; have GW101 := n2_; have GE101 := n3_; clear n0_ n1_ n2_ n3_; clear hb hbox hg) | ((with_reducible refine gate_dst (N := 2) rfl ?_); refine box_event ?hg (N := 2) ?hd (cs := #[.int .i64 0, .slice none 0 0]) (t := 24) ?hr ?_; (case hd => rfl); (case hg => rfl); (case hr => first | (go_simp; done) | (go_simp; rfl)); intro gb102 hg w34 hbox hb; have n0_ := bP BK101 hb; have n1_ := sQ hb; have n2_ := Aside0.mk (hbox); have n3_ := Aside0.mk ((by rw [hg]; exact (below_size (wB)) : w.heap.size ≤ gb102)); have n4_ := Aside0.mk ((by rw [hg]; exact (below_size (wB)) : w.heap.size ≤ gb102)); have n5_ := Aside0.mk ((by rw [hg]; exact Nat.ne_of_lt (blk_lt (g := gb101) (o := .cells #[.int .i64 a0_0, .slice A0_1 l0_1.length c0_1] 24 (0, 0)) (bQ BK101)) : gb101 ≠ gb102)); have n6_ := Aside0.mk ((by rw [hg]; exact Nat.ne_of_gt (blk_lt (g := gb101) (o := .cells #[.int .i64 a0_0, .slice A0_1 l0_1.length c0_1] 24 (0, 0)) (bQ BK101)) : gb102 ≠ gb101)); clear BK101; clear HB; have BK101 := n0_; have HB := n1_; have BK102 := n2_; have GW102 := n3_; have GE102 := n4_; have NB101_102 := n5_; have NB102_101 := n6_; clear n0_ n1_ n2_ n3_ n4_ n5_ n6_; clear hb hbox hg; have hnb35 := NB101_102.out; have hnc35 := NB102_101.out; obtain ⟨hcz36_0, hcz36_1, hfz36_0, hfz36_1⟩ := zZ BK101) | ((with_reducible refine gate_callee (f := 37) rfl ?_); refine gL 7 Tryz.func37 #[.agg #[.int .i64 a0_0, .slice A0_1 l0_1.length c0_1]] ?_; (with_reducible refine (spec_voGood.calls k a0_0 _ _ l0_1 true _ ?side1 ?side2 A2.out).mono ?_); (case side1 => have hx_ := (Kd.C_below HR0_1.out HB.out); exact cC); (case side2 => exact HC0_1.out); rintro e w37 ⟨rfl, hb⟩; refine ⟨_, rfl, ?_⟩; have n0_ := bP BK101 hb; have n1_ := bP BK102 hb; have n2_ := sQ hb; clear BK101; clear BK102; clear HB; have BK101 := n0_; have BK102 := n1_; have HB := n2_; clear n0_ n1_ n2_; (try clear hb); (try clear hb2); (try clear hk); (try clear hi); obtain ⟨hcz38_0, hcz38_1, hfz38_0, hfz38_1⟩ := zZ BK101) | ((with_reducible refine gate_callee (f := 54) rfl ?_); refine gL 12 Tryz.func54 #[.slice A0_1 l0_1.length c0_1] ?_; (with_reducible refine (spec_voSum.calls k _ _ l0_1 t104 _ ?side1 ?side2 A4.out).mono ?_); (case side1 => have hx_ := (Kd.C_below HR0_1.out HB.out); exact cC); (case side2 => exact HC0_1.out); rintro e w' ⟨rfl, ⟨nd, rfl⟩⟩; refine ⟨_, rfl, ?_⟩; (try (rw [drewN_self w37]; generalize hq_ : World.drewN w37 _ = w37; have n0_ : Aside0 (w37.heap[gb101]? = some (.cells #[.int .i64 a0_0, .slice A0_1 l0_1.length c0_1] 24 (0, 0))) := ⟨by rw [← hq_]; exact (bQ BK101)⟩; have n1_ : Aside0 (w37.heap[gb102]? = some (.cells #[.int .i64 0, .slice none 0 0] 24 (0, 0))) := ⟨by rw [← hq_]; exact (bQ BK102)⟩; have n2_ : Aside0 (Below w.heap.size w w37) := ⟨by rw [← hq_]; exact (wB)⟩; clear BK101 BK102 HB hq_; have BK101 := n0_; have BK102 := n1_; have HB := n2_; clear n0_ n1_ n2_))))
  have n0_ := bD BK101
  have n1_ := bD BK102
  have n2_ := Aside0.mk (below_drew1 HB.out)
  clear BK101
  clear BK102
  clear HB
  have BK101 := n0_
  have BK102 := n1_
  have HB := n2_
  clear n0_ n1_ n2_
  refine start_ (n := 13) (S := fun w' => w'.cell? ⟨gb101, 0, none⟩ = some (.int .i64 a0_0) ∧ w'.cell? ⟨gb101, 1, none⟩ = some (.slice A0_1 l0_1.length c0_1)) (ds := []) #[false, false, false, false, false, false, false, false, false, false, false, false, false] (by kernel_rfl) rfl rfl ⟨(blk_cell BK101.out 0).trans rfl, (blk_cell BK101.out 1).trans rfl⟩ (fun hHeld => ?_); refine with_tabW spec_AddVeto.tab4 spec_AddVeto.bits4 (fun HT_ HW_ => ?_)
  generalize w37.drew = w39 at BK101 BK102 HB hHeld ⊢
  refine pU 0 HT_ ?_
  refine pU 2 HT_ ?_
  refine pU 4 HT_ ?_
  refine pU 7 HT_ ?_
  refine tK 1 HT_ HW_ hHeld (hy := by rintro w' ⟨s0, s1⟩; go_simp; with_reducible rfl) ?_
  refine pU 3 HT_ ?_
  refine tK 5 HT_ HW_ hHeld (hy := by rintro w' ⟨s0, s1⟩; go_simp; with_reducible rfl) ?_
  refine join_ (σ := Value × Value × Value × Nat) 1 #[true, true, true, true, true, true, true, true, true, true, true, true, false] (fun s_ => [(19, s_.1), (21, s_.2.1), (22, s_.2.2.1), (5, .pointer (some ⟨s_.2.2.2, 0, none⟩)), (23, .agg #[.int .i64 (wrap64 (a0_0 + t104)), s_.2.2.1])]) (fun s_ w' => (w'.cell? ⟨gb101, 0, none⟩ = some (.int .i64 a0_0) ∧ w'.cell? ⟨gb101, 1, none⟩ = some (.slice A0_1 l0_1.length c0_1)) ∧ (Kd.R (Kd.int .i64) 3 w' w.heap.size (fun k_ => nb (s_.2.2.1) k_) s_.2.1 y108) ∧ (Kd.R (Kd.int .i64) 3 w' w.heap.size (fun k_ => nb (s_.2.1) k_) s_.2.2.1 y111) ∧ (w'.heap[gb101]? = some (.cells #[.int .i64 a0_0, .slice A0_1 l0_1.length c0_1] 24 (0, 0))) ∧ (w'.heap[gb102]? = some (.cells #[.int .i64 0, .slice none 0 0] 24 (0, 0))) ∧ (w'.heap[s_.2.2.2]? = some (.cells #[.int .i64 0, .slice none 0 0] 24 (0, 0))) ∧ (w.heap.size ≤ s_.2.2.2) ∧ (w.heap.size ≤ s_.2.2.2) ∧ (gb101 ≠ s_.2.2.2) ∧ (s_.2.2.2 ≠ gb101) ∧ (gb102 ≠ s_.2.2.2) ∧ (s_.2.2.2 ≠ gb102) ∧ (Below w.heap.size w w')) ?_ ?_
  rotate_left
  ·intro hJ6_8_9_11
   refine join_ (σ := Value × Value × Value) 2 #[true, true, true, true, true, true, true, true, true, true, true, false, false] (fun s_ => [(19, s_.1), (21, s_.2.1), (22, s_.2.2), (23, .agg #[.int .i64 (wrap64 (a0_0 + t104)), s_.2.2])]) (fun s_ w' => (w'.cell? ⟨gb101, 0, none⟩ = some (.int .i64 a0_0) ∧ w'.cell? ⟨gb101, 1, none⟩ = some (.slice A0_1 l0_1.length c0_1)) ∧ (Kd.R (Kd.int .i64) 3 w' w.heap.size (fun k_ => nb (s_.2.2) k_) s_.2.1 y108) ∧ (Kd.R (Kd.int .i64) 3 w' w.heap.size (fun k_ => nb (s_.2.1) k_) s_.2.2 y111) ∧ (w'.heap[gb101]? = some (.cells #[.int .i64 a0_0, .slice A0_1 l0_1.length c0_1] 24 (0, 0))) ∧ (w'.heap[gb102]? = some (.cells #[.int .i64 0, .slice none 0 0] 24 (0, 0))) ∧ (Below w.heap.size w w')) ?_ ?_
   rotate_left
   ·intro hJ6_8_9
    refine join_ (σ := Value × Value × Nat) 3 #[true, true, true, true, true, true, true, true, true, false, false, true, false] (fun s_ => [(19, s_.1), (21, s_.2.1), (5, .pointer (some ⟨s_.2.2, 0, none⟩))]) (fun s_ w' => (w'.cell? ⟨gb101, 0, none⟩ = some (.int .i64 a0_0) ∧ w'.cell? ⟨gb101, 1, none⟩ = some (.slice A0_1 l0_1.length c0_1)) ∧ (Kd.R (Kd.int .i64) 3 w' w.heap.size (fun k_ => nb (s_.2.1) k_) s_.1 t105) ∧ (Kd.R (Kd.int .i64) 3 w' w.heap.size (fun k_ => nb (s_.1) k_) s_.2.1 y108) ∧ (w'.heap[gb101]? = some (.cells #[.int .i64 a0_0, .slice A0_1 l0_1.length c0_1] 24 (0, 0))) ∧ (w'.heap[gb102]? = some (.cells #[.int .i64 0, .slice none 0 0] 24 (0, 0))) ∧ (w'.heap[s_.2.2]? = some (.cells #[.int .i64 0, .slice none 0 0] 24 (0, 0))) ∧ (w.heap.size ≤ s_.2.2) ∧ (w.heap.size ≤ s_.2.2) ∧ (gb101 ≠ s_.2.2) ∧ (s_.2.2 ≠ gb101) ∧ (gb102 ≠ s_.2.2) ∧ (s_.2.2 ≠ gb102) ∧ (Below w.heap.size w w')) ?_ ?_
    rotate_left
    ·intro hJ6_8_11
     refine join_ (σ := Value × Value) 4 #[true, true, true, true, true, true, true, true, true, false, false, false, false] (fun s_ => [(19, s_.1), (21, s_.2)]) (fun s_ w' => (w'.cell? ⟨gb101, 0, none⟩ = some (.int .i64 a0_0) ∧ w'.cell? ⟨gb101, 1, none⟩ = some (.slice A0_1 l0_1.length c0_1)) ∧ (Kd.R (Kd.int .i64) 3 w' w.heap.size (fun k_ => nb (s_.2) k_) s_.1 t105) ∧ (Kd.R (Kd.int .i64) 3 w' w.heap.size (fun k_ => nb (s_.1) k_) s_.2 y108) ∧ (w'.heap[gb101]? = some (.cells #[.int .i64 a0_0, .slice A0_1 l0_1.length c0_1] 24 (0, 0))) ∧ (w'.heap[gb102]? = some (.cells #[.int .i64 0, .slice none 0 0] 24 (0, 0))) ∧ (Below w.heap.size w w')) ?_ ?_
     rotate_left
     ·intro hJ6_8
      refine join_ (σ := Value × Nat) 4 #[true, true, true, true, true, true, true, true, false, false, false, true, false] (fun s_ => [(19, s_.1), (5, .pointer (some ⟨s_.2, 0, none⟩))]) (fun s_ w' => (w'.cell? ⟨gb101, 0, none⟩ = some (.int .i64 a0_0) ∧ w'.cell? ⟨gb101, 1, none⟩ = some (.slice A0_1 l0_1.length c0_1)) ∧ (Kd.R (Kd.int .i64) 3 w' w.heap.size (fun _ => True) s_.1 t105) ∧ (w'.heap[gb101]? = some (.cells #[.int .i64 a0_0, .slice A0_1 l0_1.length c0_1] 24 (0, 0))) ∧ (w'.heap[gb102]? = some (.cells #[.int .i64 0, .slice none 0 0] 24 (0, 0))) ∧ (w'.heap[s_.2]? = some (.cells #[.int .i64 0, .slice none 0 0] 24 (0, 0))) ∧ (w.heap.size ≤ s_.2) ∧ (w.heap.size ≤ s_.2) ∧ (gb101 ≠ s_.2) ∧ (s_.2 ≠ gb101) ∧ (gb102 ≠ s_.2) ∧ (s_.2 ≠ gb102) ∧ (Below w.heap.size w w')) ?_ ?_
      rotate_left
      ·intro hJ6_11
       refine join_ (σ := Value × Nat) 4 #[true, true, true, true, true, true, false, true, true, false, false, true, false] (fun s_ => [(21, s_.1), (5, .pointer (some ⟨s_.2, 0, none⟩))]) (fun s_ w' => (w'.cell? ⟨gb101, 0, none⟩ = some (.int .i64 a0_0) ∧ w'.cell? ⟨gb101, 1, none⟩ = some (.slice A0_1 l0_1.length c0_1)) ∧ (Kd.R (Kd.int .i64) 3 w' w.heap.size (fun _ => True) s_.1 y108) ∧ (w'.heap[gb101]? = some (.cells #[.int .i64 a0_0, .slice A0_1 l0_1.length c0_1] 24 (0, 0))) ∧ (w'.heap[gb102]? = some (.cells #[.int .i64 0, .slice none 0 0] 24 (0, 0))) ∧ (w'.heap[s_.2]? = some (.cells #[.int .i64 0, .slice none 0 0] 24 (0, 0))) ∧ (w.heap.size ≤ s_.2) ∧ (w.heap.size ≤ s_.2) ∧ (gb101 ≠ s_.2) ∧ (s_.2 ≠ gb101) ∧ (gb102 ≠ s_.2) ∧ (s_.2 ≠ gb102) ∧ (Below w.heap.size w w')) ?_ ?_
       rotate_left
       ·intro hJ8_11
        refine join_ (σ := Value) 5 #[true, true, true, true, true, true, true, true, false, false, false, false, false] (fun s_ => [(19, s_)]) (fun s_ w' => (w'.cell? ⟨gb101, 0, none⟩ = some (.int .i64 a0_0) ∧ w'.cell? ⟨gb101, 1, none⟩ = some (.slice A0_1 l0_1.length c0_1)) ∧ (Kd.R (Kd.int .i64) 3 w' w.heap.size (fun _ => True) s_ t105) ∧ (w'.heap[gb101]? = some (.cells #[.int .i64 a0_0, .slice A0_1 l0_1.length c0_1] 24 (0, 0))) ∧ (w'.heap[gb102]? = some (.cells #[.int .i64 0, .slice none 0 0] 24 (0, 0))) ∧ (Below w.heap.size w w')) ?_ ?_
        rotate_left
        ·intro hJ6
         refine join_ (σ := Value) 5 #[true, true, true, true, true, true, false, true, true, false, false, false, false] (fun s_ => [(21, s_)]) (fun s_ w' => (w'.cell? ⟨gb101, 0, none⟩ = some (.int .i64 a0_0) ∧ w'.cell? ⟨gb101, 1, none⟩ = some (.slice A0_1 l0_1.length c0_1)) ∧ (Kd.R (Kd.int .i64) 3 w' w.heap.size (fun _ => True) s_ y108) ∧ (w'.heap[gb101]? = some (.cells #[.int .i64 a0_0, .slice A0_1 l0_1.length c0_1] 24 (0, 0))) ∧ (w'.heap[gb102]? = some (.cells #[.int .i64 0, .slice none 0 0] 24 (0, 0))) ∧ (Below w.heap.size w w')) ?_ ?_
         rotate_left
         ·intro hJ8
          refine join_ (σ := Nat) 5 #[true, true, true, true, true, true, false, true, false, false, false, true, false] (fun s_ => [(5, .pointer (some ⟨s_, 0, none⟩))]) (fun s_ w' => (w'.cell? ⟨gb101, 0, none⟩ = some (.int .i64 a0_0) ∧ w'.cell? ⟨gb101, 1, none⟩ = some (.slice A0_1 l0_1.length c0_1)) ∧ (w'.heap[gb101]? = some (.cells #[.int .i64 a0_0, .slice A0_1 l0_1.length c0_1] 24 (0, 0))) ∧ (w'.heap[gb102]? = some (.cells #[.int .i64 0, .slice none 0 0] 24 (0, 0))) ∧ (w'.heap[s_]? = some (.cells #[.int .i64 0, .slice none 0 0] 24 (0, 0))) ∧ (w.heap.size ≤ s_) ∧ (w.heap.size ≤ s_) ∧ (gb101 ≠ s_) ∧ (s_ ≠ gb101) ∧ (gb102 ≠ s_) ∧ (s_ ≠ gb102) ∧ (Below w.heap.size w w')) ?_ ?_
          rotate_left
          ·intro hJ11
           refine three_ (i := 6) (j := 8) (k := 11) (Ni := some 19) (Nj := some 21) (Nk := some 5) #[true, true, true, true, true, true, true, true, false, false, false, false, false] #[true, true, true, true, true, true, false, true, true, false, false, false, false] #[true, true, true, true, true, true, false, true, false, false, false, true, false] rfl rfl rfl rfl rfl rfl (three_of HT_.out (by kernel_rfl)) (by decide) (by decide) (by decide) (fun K hK => ?_) (fun K hK => ?_) (fun K hK => ?_)
           ·skip
            refine gE Tryz.func49 #[.slice A0_1 l0_1.length c0_1] ?_
            with_reducible refine (spec_l1Own.calls _ _ l0_1 t105 _ ?side1 ?side2 A5.out).mono ?_
            (case side1 => have hx_ := (Kd.C_below HR0_1.out HB.out); exact cC)
            (case side2 => exact HC0_1.out)
            rintro e w40 ⟨v106, rfl, ho0, hb⟩
            refine ⟨_, rfl, ?_⟩
            have n0_ := Aside0.mk (Kd.R_lower ho0 (below_size (wB)))
            have n1_ := bP BK101 hb
            have n2_ := bP BK102 hb
            have n3_ := sQ hb
            clear BK101
            clear BK102
            clear HB
            have HO107 := n0_
            have BK101 := n1_
            have BK102 := n2_
            have HB := n3_
            clear n0_ n1_ n2_ n3_
            (try clear hb)
            (try clear hb2)
            (try clear hk)
            (try clear hi)
            (try clear ho0)
            refine hK.out _ _ ⟨(blk_cell BK101.out 0).trans rfl, (blk_cell BK101.out 1).trans rfl⟩ (fun hHeld => ?_)
            clear hK K
            refine nM ?_
            exact norm_ (by first | (simp only [putAll, Act.put, sA, sZ, sS]; done) | (simp only [putAll, Act.put, sA, sZ, sS]; rfl)) (hJ6 (v106) _ ⟨hHeld, (rQ HO107), (bQ BK101), (bQ BK102), (wB)⟩)
           ·skip
            refine Kd.R_lit_step (Kd.int .i64) _ 3 ?hg (N := 21) ?hd (xs := ([t104] : List Int)) (inner := [.int .i64 t104]) (ok := fun _ => True) (okp := fun _ => True) ?hr ?hp (fun _ hk => hk) trivial (Below.refl _ _) (Nat.le_refl _) (by simp) ?_; (case hd => rfl); (case hg => rfl); (case hr => first | (go_simp; done) | (go_simp; rfl)); (case hp => exact (Reps.one (show Kd.M (Kd.int .i64) _ _ _ t104 [.int .i64 t104] from rfl) (Reps.none _ _)))
            intro v109 w40 ho41 hb hg_ hnew_
            clear hg_ hnew_
            (first | rw [← Ny108.out] at ho41 | (simp only [Int.reduceToNat] at ho41; rw [← Ny108.out] at ho41))
            have n0_ := Aside0.mk (Kd.R_lower ho41 (below_size (wB)))
            have n1_ := bP BK101 hb
            have n2_ := bP BK102 hb
            have n3_ := sQ hb
            clear BK101
            clear BK102
            clear HB
            have HO110 := n0_
            have BK101 := n1_
            have BK102 := n2_
            have HB := n3_
            clear n0_ n1_ n2_ n3_
            clear hb ho41
            refine hK.out _ _ ⟨(blk_cell BK101.out 0).trans rfl, (blk_cell BK101.out 1).trans rfl⟩ (fun hHeld => ?_)
            clear hK K
            refine nM ?_
            exact norm_ (by first | (simp only [putAll, Act.put, sA, sZ, sS]; done) | (simp only [putAll, Act.put, sA, sZ, sS]; rfl)) (hJ8 (v109) _ ⟨hHeld, (rQ HO110), (bQ BK101), (bQ BK102), (wB)⟩)
           skip
           refine box_step ?hg (N := 5) ?hd (cs := #[.int .i64 0, .slice none 0 0]) (t := 24) ?hr ?_; (case hd => rfl); (case hg => rfl); (case hr => first | (go_simp; done) | (go_simp; rfl))
           intro gb114 hg w40 hbox hb
           have n0_ := bP BK101 hb
           have n1_ := bP BK102 hb
           have n2_ := sQ hb
           have n3_ := Aside0.mk (hbox)
           have n4_ := Aside0.mk ((by rw [hg]; exact (below_size (wB)) : w.heap.size ≤ gb114))
           have n5_ := Aside0.mk ((by rw [hg]; exact (below_size (wB)) : w.heap.size ≤ gb114))
           have n6_ := Aside0.mk ((by rw [hg]; exact Nat.ne_of_lt (blk_lt (g := gb101) (o := .cells #[.int .i64 a0_0, .slice A0_1 l0_1.length c0_1] 24 (0, 0)) (bQ BK101)) : gb101 ≠ gb114))
           have n7_ := Aside0.mk ((by rw [hg]; exact Nat.ne_of_gt (blk_lt (g := gb101) (o := .cells #[.int .i64 a0_0, .slice A0_1 l0_1.length c0_1] 24 (0, 0)) (bQ BK101)) : gb114 ≠ gb101))
           have n8_ := Aside0.mk ((by rw [hg]; exact Nat.ne_of_lt (blk_lt (g := gb102) (o := .cells #[.int .i64 0, .slice none 0 0] 24 (0, 0)) (bQ BK102)) : gb102 ≠ gb114))
           have n9_ := Aside0.mk ((by rw [hg]; exact Nat.ne_of_gt (blk_lt (g := gb102) (o := .cells #[.int .i64 0, .slice none 0 0] 24 (0, 0)) (bQ BK102)) : gb114 ≠ gb102))
           clear BK101
           clear BK102
           clear HB
           have BK101 := n0_
           have BK102 := n1_
           have HB := n2_
           have BK114 := n3_
           have GW114 := n4_
           have GE114 := n5_
           have NB101_114 := n6_
           have NB114_101 := n7_
           have NB102_114 := n8_
           have NB114_102 := n9_
           clear n0_ n1_ n2_ n3_ n4_ n5_ n6_ n7_ n8_ n9_
           clear hb hg
           refine hK.out _ _ ⟨(blk_cell BK101.out 0).trans rfl, (blk_cell BK101.out 1).trans rfl⟩ (fun hHeld => ?_)
           clear hK K
           refine nM ?_
           exact norm_ (by first | (simp only [putAll, Act.put, sA, sZ, sS]; done) | (simp only [putAll, Act.put, sA, sZ, sS]; rfl)) (hJ11 (gb114) _ ⟨hHeld, (bQ BK101), (bQ BK102), (bQ BK114), GW114.out, GE114.out, NB101_114.out, NB114_101.out, NB102_114.out, NB114_102.out, (wB)⟩)
          skip
          rintro gb114 w41 ⟨hS_, h0_, h1_, h2_, h3_, h4_, h5_, h6_, h7_, h8_, h9_⟩
          have n0_ : Aside0 (w41.heap[gb101]? = some (.cells #[.int .i64 a0_0, .slice A0_1 l0_1.length c0_1] 24 (0, 0))) := ⟨h0_⟩
          have n1_ : Aside0 (w41.heap[gb102]? = some (.cells #[.int .i64 0, .slice none 0 0] 24 (0, 0))) := ⟨h1_⟩
          have n2_ : Aside0 (w41.heap[gb114]? = some (.cells #[.int .i64 0, .slice none 0 0] 24 (0, 0))) := ⟨h2_⟩
          have n3_ : Aside0 (w.heap.size ≤ gb114) := ⟨h3_⟩
          have n4_ : Aside0 (w.heap.size ≤ gb114) := ⟨h4_⟩
          have n5_ : Aside0 (gb101 ≠ gb114) := ⟨h5_⟩
          have n6_ : Aside0 (gb114 ≠ gb101) := ⟨h6_⟩
          have n7_ : Aside0 (gb102 ≠ gb114) := ⟨h7_⟩
          have n8_ : Aside0 (gb114 ≠ gb102) := ⟨h8_⟩
          have n9_ : Aside0 (Below w.heap.size w w41) := ⟨h9_⟩
          clear BK101
          clear BK102
          clear HB
          clear h0_ h1_ h2_ h3_ h4_ h5_ h6_ h7_ h8_ h9_
          have BK101 := n0_
          have BK102 := n1_
          have BK114 := n2_
          have GW114 := n3_
          have GE114 := n4_
          have NB101_114 := n5_
          have NB114_101 := n6_
          have NB102_114 := n7_
          have NB114_102 := n8_
          have HB := n9_
          clear n0_ n1_ n2_ n3_ n4_ n5_ n6_ n7_ n8_ n9_
          have hHeld : w41.cell? ⟨gb101, 0, none⟩ = some (.int .i64 a0_0) ∧ w41.cell? ⟨gb101, 1, none⟩ = some (.slice A0_1 l0_1.length c0_1) := hS_
          refine norm_ (a' := ?_) ?_ ?_
          rotate_left
          ·simp only [putAll, Act.put, sA, sZ, sS]
           rfl
          refine two_ (i := 6) (j := 8) (Ni := some 19) (Nj := some 21) #[true, true, true, true, true, true, true, true, false, false, false, true, false] #[true, true, true, true, true, true, false, true, true, false, false, true, false] rfl rfl rfl rfl (two_of HT_.out (by kernel_rfl)) (by decide) (by decide) (fun K hK => ?_) (fun K hK => ?_)
          ·skip
           refine gE Tryz.func49 #[.slice A0_1 l0_1.length c0_1] ?_
           with_reducible refine (spec_l1Own.calls _ _ l0_1 t105 _ ?side1 ?side2 A5.out).mono ?_
           (case side1 => have hx_ := (Kd.C_below HR0_1.out HB.out); exact cC)
           (case side2 => exact HC0_1.out)
           rintro e w42 ⟨v106, rfl, ho0, hb⟩
           refine ⟨_, rfl, ?_⟩
           have n0_ := Aside0.mk (Kd.R_lower ho0 (below_size (wB)))
           have n1_ := bP BK101 hb
           have n2_ := bP BK102 hb
           have n3_ := bP BK114 hb
           have n4_ := sQ hb
           clear BK101
           clear BK102
           clear BK114
           clear HB
           have HO107 := n0_
           have BK101 := n1_
           have BK102 := n2_
           have BK114 := n3_
           have HB := n4_
           clear n0_ n1_ n2_ n3_ n4_
           (try clear hb)
           (try clear hb2)
           (try clear hk)
           (try clear hi)
           (try clear ho0)
           refine hK.out _ _ ⟨(blk_cell BK101.out 0).trans rfl, (blk_cell BK101.out 1).trans rfl⟩ (fun hHeld => ?_)
           clear hK K
           refine nM ?_
           exact norm_ (by first | (simp only [putAll, Act.put, sA, sZ, sS]; done) | (simp only [putAll, Act.put, sA, sZ, sS]; rfl)) (hJ6_11 (v106, gb114) _ ⟨hHeld, (rQ HO107), (bQ BK101), (bQ BK102), (bQ BK114), GW114.out, GE114.out, NB101_114.out, NB114_101.out, NB102_114.out, NB114_102.out, (wB)⟩)
          skip
          refine Kd.R_lit_step (Kd.int .i64) _ 3 ?hg (N := 21) ?hd (xs := ([t104] : List Int)) (inner := [.int .i64 t104]) (ok := fun _ => True) (okp := fun _ => True) ?hr ?hp (fun _ hk => hk) trivial (Below.refl _ _) (Nat.le_refl _) (by simp) ?_; (case hd => rfl); (case hg => rfl); (case hr => first | (go_simp; done) | (go_simp; rfl)); (case hp => exact (Reps.one (show Kd.M (Kd.int .i64) _ _ _ t104 [.int .i64 t104] from rfl) (Reps.none _ _)))
          intro v109 w42 ho43 hb hg_ hnew_
          clear hg_ hnew_
          (first | rw [← Ny108.out] at ho43 | (simp only [Int.reduceToNat] at ho43; rw [← Ny108.out] at ho43))
          have n0_ := Aside0.mk (Kd.R_lower ho43 (below_size (wB)))
          have n1_ := bP BK101 hb
          have n2_ := bP BK102 hb
          have n3_ := bP BK114 hb
          have n4_ := sQ hb
          clear BK101
          clear BK102
          clear BK114
          clear HB
          have HO110 := n0_
          have BK101 := n1_
          have BK102 := n2_
          have BK114 := n3_
          have HB := n4_
          clear n0_ n1_ n2_ n3_ n4_
          clear hb ho43
          refine hK.out _ _ ⟨(blk_cell BK101.out 0).trans rfl, (blk_cell BK101.out 1).trans rfl⟩ (fun hHeld => ?_)
          clear hK K
          refine nM ?_
          exact norm_ (by first | (simp only [putAll, Act.put, sA, sZ, sS]; done) | (simp only [putAll, Act.put, sA, sZ, sS]; rfl)) (hJ8_11 (v109, gb114) _ ⟨hHeld, (rQ HO110), (bQ BK101), (bQ BK102), (bQ BK114), GW114.out, GE114.out, NB101_114.out, NB114_101.out, NB102_114.out, NB114_102.out, (wB)⟩)
         skip
         rintro v109 w42 ⟨hS_, h0_, h1_, h2_, h3_⟩
         have n0_ : Aside0 (Kd.R (Kd.int .i64) 3 w42 w.heap.size (fun _ => True) v109 y108) := ⟨h0_⟩
         have n1_ : Aside0 (w42.heap[gb101]? = some (.cells #[.int .i64 a0_0, .slice A0_1 l0_1.length c0_1] 24 (0, 0))) := ⟨h1_⟩
         have n2_ : Aside0 (w42.heap[gb102]? = some (.cells #[.int .i64 0, .slice none 0 0] 24 (0, 0))) := ⟨h2_⟩
         have n3_ : Aside0 (Below w.heap.size w w42) := ⟨h3_⟩
         clear BK101
         clear BK102
         clear HB
         clear h0_ h1_ h2_ h3_
         have HO110 := n0_
         have BK101 := n1_
         have BK102 := n2_
         have HB := n3_
         clear n0_ n1_ n2_ n3_
         have hHeld : w42.cell? ⟨gb101, 0, none⟩ = some (.int .i64 a0_0) ∧ w42.cell? ⟨gb101, 1, none⟩ = some (.slice A0_1 l0_1.length c0_1) := hS_
         refine norm_ (a' := ?_) ?_ ?_
         rotate_left
         ·simp only [putAll, Act.put, sA, sZ, sS]
          rfl
         refine two_ (i := 6) (j := 11) (Ni := some 19) (Nj := some 5) #[true, true, true, true, true, true, true, true, true, false, false, false, false] #[true, true, true, true, true, true, false, true, true, false, false, true, false] rfl rfl rfl rfl (two_of HT_.out (by kernel_rfl)) (by decide) (by decide) (fun K hK => ?_) (fun K hK => ?_)
         ·skip
          refine gE Tryz.func49 #[.slice A0_1 l0_1.length c0_1] ?_
          with_reducible refine (spec_l1Own.calls _ _ l0_1 t105 _ ?side1 ?side2 A5.out).mono ?_
          (case side1 => have hx_ := (Kd.C_below HR0_1.out HB.out); exact cC)
          (case side2 => exact HC0_1.out)
          rintro e w43 ⟨v106, rfl, ho0, hb⟩
          refine ⟨_, rfl, ?_⟩
          have n0_ := rE HO110 (Kd.R_base ho0) hb
          have n1_ := Aside0.mk (Kd.R_lower (Kd.R_new' ho0 (Kd.R_lt (rQ HO110))) (below_size (wB)))
          have n2_ := bP BK101 hb
          have n3_ := bP BK102 hb
          have n4_ := sQ hb
          clear HO110
          clear BK101
          clear BK102
          clear HB
          have HO110 := n0_
          have HO107 := n1_
          have BK101 := n2_
          have BK102 := n3_
          have HB := n4_
          clear n0_ n1_ n2_ n3_ n4_
          (try clear hb)
          (try clear hb2)
          (try clear hk)
          (try clear hi)
          (try clear ho0)
          refine hK.out _ _ ⟨(blk_cell BK101.out 0).trans rfl, (blk_cell BK101.out 1).trans rfl⟩ (fun hHeld => ?_)
          clear hK K
          refine nM ?_
          exact norm_ (by first | (simp only [putAll, Act.put, sA, sZ, sS]; done) | (simp only [putAll, Act.put, sA, sZ, sS]; rfl)) (hJ6_8 (v106, v109) _ ⟨hHeld, (by (try refine rp ?_); exact Kd.R_mono HO107.out (fun _ hk => hk.2)), (by (try refine rp ?_); exact Kd.R_mono HO110.out (fun _ hk => hk.2)), (bQ BK101), (bQ BK102), (wB)⟩)
         skip
         refine box_step ?hg (N := 5) ?hd (cs := #[.int .i64 0, .slice none 0 0]) (t := 24) ?hr ?_; (case hd => rfl); (case hg => rfl); (case hr => first | (go_simp; done) | (go_simp; rfl))
         intro gb114 hg w43 hbox hb
         have n0_ := rP HO110 hb
         have n1_ := bP BK101 hb
         have n2_ := bP BK102 hb
         have n3_ := sQ hb
         have n4_ := Aside0.mk (hbox)
         have n5_ := Aside0.mk ((by rw [hg]; exact (below_size (wB)) : w.heap.size ≤ gb114))
         have n6_ := Aside0.mk ((by rw [hg]; exact (below_size (wB)) : w.heap.size ≤ gb114))
         have n7_ := Aside0.mk ((by rw [hg]; exact Nat.ne_of_lt (blk_lt (g := gb101) (o := .cells #[.int .i64 a0_0, .slice A0_1 l0_1.length c0_1] 24 (0, 0)) (bQ BK101)) : gb101 ≠ gb114))
         have n8_ := Aside0.mk ((by rw [hg]; exact Nat.ne_of_gt (blk_lt (g := gb101) (o := .cells #[.int .i64 a0_0, .slice A0_1 l0_1.length c0_1] 24 (0, 0)) (bQ BK101)) : gb114 ≠ gb101))
         have n9_ := Aside0.mk ((by rw [hg]; exact Nat.ne_of_lt (blk_lt (g := gb102) (o := .cells #[.int .i64 0, .slice none 0 0] 24 (0, 0)) (bQ BK102)) : gb102 ≠ gb114))
         have n10_ := Aside0.mk ((by rw [hg]; exact Nat.ne_of_gt (blk_lt (g := gb102) (o := .cells #[.int .i64 0, .slice none 0 0] 24 (0, 0)) (bQ BK102)) : gb114 ≠ gb102))
         clear HO110
         clear BK101
         clear BK102
         clear HB
         have HO110 := n0_
         have BK101 := n1_
         have BK102 := n2_
         have HB := n3_
         have BK114 := n4_
         have GW114 := n5_
         have GE114 := n6_
         have NB101_114 := n7_
         have NB114_101 := n8_
         have NB102_114 := n9_
         have NB114_102 := n10_
         clear n0_ n1_ n2_ n3_ n4_ n5_ n6_ n7_ n8_ n9_ n10_
         clear hb hg
         refine hK.out _ _ ⟨(blk_cell BK101.out 0).trans rfl, (blk_cell BK101.out 1).trans rfl⟩ (fun hHeld => ?_)
         clear hK K
         refine nM ?_
         exact norm_ (by first | (simp only [putAll, Act.put, sA, sZ, sS]; done) | (simp only [putAll, Act.put, sA, sZ, sS]; rfl)) (hJ8_11 (v109, gb114) _ ⟨hHeld, (rQ HO110), (bQ BK101), (bQ BK102), (bQ BK114), GW114.out, GE114.out, NB101_114.out, NB114_101.out, NB102_114.out, NB114_102.out, (wB)⟩)
        skip
        rintro v106 w41 ⟨hS_, h0_, h1_, h2_, h3_⟩
        have n0_ : Aside0 (Kd.R (Kd.int .i64) 3 w41 w.heap.size (fun _ => True) v106 t105) := ⟨h0_⟩
        have n1_ : Aside0 (w41.heap[gb101]? = some (.cells #[.int .i64 a0_0, .slice A0_1 l0_1.length c0_1] 24 (0, 0))) := ⟨h1_⟩
        have n2_ : Aside0 (w41.heap[gb102]? = some (.cells #[.int .i64 0, .slice none 0 0] 24 (0, 0))) := ⟨h2_⟩
        have n3_ : Aside0 (Below w.heap.size w w41) := ⟨h3_⟩
        clear BK101
        clear BK102
        clear HB
        clear h0_ h1_ h2_ h3_
        have HO107 := n0_
        have BK101 := n1_
        have BK102 := n2_
        have HB := n3_
        clear n0_ n1_ n2_ n3_
        have hHeld : w41.cell? ⟨gb101, 0, none⟩ = some (.int .i64 a0_0) ∧ w41.cell? ⟨gb101, 1, none⟩ = some (.slice A0_1 l0_1.length c0_1) := hS_
        refine norm_ (a' := ?_) ?_ ?_
        rotate_left
        ·simp only [putAll, Act.put, sA, sZ, sS]
         rfl
        refine two_ (i := 8) (j := 11) (Ni := some 21) (Nj := some 5) #[true, true, true, true, true, true, true, true, true, false, false, false, false] #[true, true, true, true, true, true, true, true, false, false, false, true, false] rfl rfl rfl rfl (two_of HT_.out (by kernel_rfl)) (by decide) (by decide) (fun K hK => ?_) (fun K hK => ?_)
        ·skip
         refine Kd.R_lit_step (Kd.int .i64) _ 3 ?hg (N := 21) ?hd (xs := ([t104] : List Int)) (inner := [.int .i64 t104]) (ok := fun _ => True) (okp := fun _ => True) ?hr ?hp (fun _ hk => hk) trivial (Below.refl _ _) (Nat.le_refl _) (by simp) ?_; (case hd => rfl); (case hg => rfl); (case hr => first | (go_simp; done) | (go_simp; rfl)); (case hp => exact (Reps.one (show Kd.M (Kd.int .i64) _ _ _ t104 [.int .i64 t104] from rfl) (Reps.none _ _)))
         intro v109 w42 ho43 hb hg_ hnew_
         clear hg_ hnew_
         (first | rw [← Ny108.out] at ho43 | (simp only [Int.reduceToNat] at ho43; rw [← Ny108.out] at ho43))
         have n0_ := rE HO107 (Kd.R_base ho43) hb
         have n1_ := Aside0.mk (Kd.R_lower (Kd.R_new' ho43 (Kd.R_lt (rQ HO107))) (below_size (wB)))
         have n2_ := bP BK101 hb
         have n3_ := bP BK102 hb
         have n4_ := sQ hb
         clear HO107
         clear BK101
         clear BK102
         clear HB
         have HO107 := n0_
         have HO110 := n1_
         have BK101 := n2_
         have BK102 := n3_
         have HB := n4_
         clear n0_ n1_ n2_ n3_ n4_
         clear hb ho43
         refine hK.out _ _ ⟨(blk_cell BK101.out 0).trans rfl, (blk_cell BK101.out 1).trans rfl⟩ (fun hHeld => ?_)
         clear hK K
         refine nM ?_
         exact norm_ (by first | (simp only [putAll, Act.put, sA, sZ, sS]; done) | (simp only [putAll, Act.put, sA, sZ, sS]; rfl)) (hJ6_8 (v106, v109) _ ⟨hHeld, (by (try refine rp ?_); exact Kd.R_mono HO107.out (fun _ hk => hk.2)), (by (try refine rp ?_); exact Kd.R_mono HO110.out (fun _ hk => hk.2)), (bQ BK101), (bQ BK102), (wB)⟩)
        skip
        refine box_step ?hg (N := 5) ?hd (cs := #[.int .i64 0, .slice none 0 0]) (t := 24) ?hr ?_; (case hd => rfl); (case hg => rfl); (case hr => first | (go_simp; done) | (go_simp; rfl))
        intro gb114 hg w42 hbox hb
        have n0_ := rP HO107 hb
        have n1_ := bP BK101 hb
        have n2_ := bP BK102 hb
        have n3_ := sQ hb
        have n4_ := Aside0.mk (hbox)
        have n5_ := Aside0.mk ((by rw [hg]; exact (below_size (wB)) : w.heap.size ≤ gb114))
        have n6_ := Aside0.mk ((by rw [hg]; exact (below_size (wB)) : w.heap.size ≤ gb114))
        have n7_ := Aside0.mk ((by rw [hg]; exact Nat.ne_of_lt (blk_lt (g := gb101) (o := .cells #[.int .i64 a0_0, .slice A0_1 l0_1.length c0_1] 24 (0, 0)) (bQ BK101)) : gb101 ≠ gb114))
        have n8_ := Aside0.mk ((by rw [hg]; exact Nat.ne_of_gt (blk_lt (g := gb101) (o := .cells #[.int .i64 a0_0, .slice A0_1 l0_1.length c0_1] 24 (0, 0)) (bQ BK101)) : gb114 ≠ gb101))
        have n9_ := Aside0.mk ((by rw [hg]; exact Nat.ne_of_lt (blk_lt (g := gb102) (o := .cells #[.int .i64 0, .slice none 0 0] 24 (0, 0)) (bQ BK102)) : gb102 ≠ gb114))
        have n10_ := Aside0.mk ((by rw [hg]; exact Nat.ne_of_gt (blk_lt (g := gb102) (o := .cells #[.int .i64 0, .slice none 0 0] 24 (0, 0)) (bQ BK102)) : gb114 ≠ gb102))
        clear HO107
        clear BK101
        clear BK102
        clear HB
        have HO107 := n0_
        have BK101 := n1_
        have BK102 := n2_
        have HB := n3_
        have BK114 := n4_
        have GW114 := n5_
        have GE114 := n6_
        have NB101_114 := n7_
        have NB114_101 := n8_
        have NB102_114 := n9_
        have NB114_102 := n10_
        clear n0_ n1_ n2_ n3_ n4_ n5_ n6_ n7_ n8_ n9_ n10_
        clear hb hg
        refine hK.out _ _ ⟨(blk_cell BK101.out 0).trans rfl, (blk_cell BK101.out 1).trans rfl⟩ (fun hHeld => ?_)
        clear hK K
        refine nM ?_
        exact norm_ (by first | (simp only [putAll, Act.put, sA, sZ, sS]; done) | (simp only [putAll, Act.put, sA, sZ, sS]; rfl)) (hJ6_11 (v106, gb114) _ ⟨hHeld, (rQ HO107), (bQ BK101), (bQ BK102), (bQ BK114), GW114.out, GE114.out, NB101_114.out, NB114_101.out, NB102_114.out, NB114_102.out, (wB)⟩)
       skip
       rintro ⟨v109, gb114⟩ w43 ⟨hS_, h0_, h1_, h2_, h3_, h4_, h5_, h6_, h7_, h8_, h9_, h10_⟩
       have n0_ : Aside0 (Kd.R (Kd.int .i64) 3 w43 w.heap.size (fun _ => True) v109 y108) := ⟨h0_⟩
       have n1_ : Aside0 (w43.heap[gb101]? = some (.cells #[.int .i64 a0_0, .slice A0_1 l0_1.length c0_1] 24 (0, 0))) := ⟨h1_⟩
       have n2_ : Aside0 (w43.heap[gb102]? = some (.cells #[.int .i64 0, .slice none 0 0] 24 (0, 0))) := ⟨h2_⟩
       have n3_ : Aside0 (w43.heap[gb114]? = some (.cells #[.int .i64 0, .slice none 0 0] 24 (0, 0))) := ⟨h3_⟩
       have n4_ : Aside0 (w.heap.size ≤ gb114) := ⟨h4_⟩
       have n5_ : Aside0 (w.heap.size ≤ gb114) := ⟨h5_⟩
       have n6_ : Aside0 (gb101 ≠ gb114) := ⟨h6_⟩
       have n7_ : Aside0 (gb114 ≠ gb101) := ⟨h7_⟩
       have n8_ : Aside0 (gb102 ≠ gb114) := ⟨h8_⟩
       have n9_ : Aside0 (gb114 ≠ gb102) := ⟨h9_⟩
       have n10_ : Aside0 (Below w.heap.size w w43) := ⟨h10_⟩
       clear BK101
       clear BK102
       clear HB
       clear h0_ h1_ h2_ h3_ h4_ h5_ h6_ h7_ h8_ h9_ h10_
       have HO110 := n0_
       have BK101 := n1_
       have BK102 := n2_
       have BK114 := n3_
       have GW114 := n4_
       have GE114 := n5_
       have NB101_114 := n6_
       have NB114_101 := n7_
       have NB102_114 := n8_
       have NB114_102 := n9_
       have HB := n10_
       clear n0_ n1_ n2_ n3_ n4_ n5_ n6_ n7_ n8_ n9_ n10_
       have hHeld : w43.cell? ⟨gb101, 0, none⟩ = some (.int .i64 a0_0) ∧ w43.cell? ⟨gb101, 1, none⟩ = some (.slice A0_1 l0_1.length c0_1) := hS_
       refine norm_ (a' := ?_) ?_ ?_
       rotate_left
       ·simp only [putAll, Act.put, sA, sZ, sS]
        rfl
       refine oN 6 HT_ (fun K hK => ?_)
       refine gE Tryz.func49 #[.slice A0_1 l0_1.length c0_1] ?_
       with_reducible refine (spec_l1Own.calls _ _ l0_1 t105 _ ?side1 ?side2 A5.out).mono ?_
       (case side1 => have hx_ := (Kd.C_below HR0_1.out HB.out); exact cC)
       (case side2 => exact HC0_1.out)
       rintro e w44 ⟨v106, rfl, ho0, hb⟩
       refine ⟨_, rfl, ?_⟩
       have n0_ := rE HO110 (Kd.R_base ho0) hb
       have n1_ := Aside0.mk (Kd.R_lower (Kd.R_new' ho0 (Kd.R_lt (rQ HO110))) (below_size (wB)))
       have n2_ := bP BK101 hb
       have n3_ := bP BK102 hb
       have n4_ := bP BK114 hb
       have n5_ := sQ hb
       clear HO110
       clear BK101
       clear BK102
       clear BK114
       clear HB
       have HO110 := n0_
       have HO107 := n1_
       have BK101 := n2_
       have BK102 := n3_
       have BK114 := n4_
       have HB := n5_
       clear n0_ n1_ n2_ n3_ n4_ n5_
       (try clear hb)
       (try clear hb2)
       (try clear hk)
       (try clear hi)
       (try clear ho0)
       refine hK.out _ _ ⟨(blk_cell BK101.out 0).trans rfl, (blk_cell BK101.out 1).trans rfl⟩ (fun hHeld => ?_)
       clear hK K
       refine nM ?_
       exact norm_ (by first | (simp only [putAll, Act.put, sA, sZ, sS]; done) | (simp only [putAll, Act.put, sA, sZ, sS]; rfl)) (hJ6_8_11 (v106, _, gb114) _ ⟨hHeld, (by (try refine rp ?_); exact Kd.R_mono HO107.out (fun _ hk => hk.2)), (by (try refine rp ?_); exact Kd.R_mono HO110.out (fun _ hk => hk.2)), (bQ BK101), (bQ BK102), (bQ BK114), GW114.out, GE114.out, NB101_114.out, NB114_101.out, NB102_114.out, NB114_102.out, (wB)⟩)
      skip
      rintro ⟨v106, gb114⟩ w42 ⟨hS_, h0_, h1_, h2_, h3_, h4_, h5_, h6_, h7_, h8_, h9_, h10_⟩
      have n0_ : Aside0 (Kd.R (Kd.int .i64) 3 w42 w.heap.size (fun _ => True) v106 t105) := ⟨h0_⟩
      have n1_ : Aside0 (w42.heap[gb101]? = some (.cells #[.int .i64 a0_0, .slice A0_1 l0_1.length c0_1] 24 (0, 0))) := ⟨h1_⟩
      have n2_ : Aside0 (w42.heap[gb102]? = some (.cells #[.int .i64 0, .slice none 0 0] 24 (0, 0))) := ⟨h2_⟩
      have n3_ : Aside0 (w42.heap[gb114]? = some (.cells #[.int .i64 0, .slice none 0 0] 24 (0, 0))) := ⟨h3_⟩
      have n4_ : Aside0 (w.heap.size ≤ gb114) := ⟨h4_⟩
      have n5_ : Aside0 (w.heap.size ≤ gb114) := ⟨h5_⟩
      have n6_ : Aside0 (gb101 ≠ gb114) := ⟨h6_⟩
      have n7_ : Aside0 (gb114 ≠ gb101) := ⟨h7_⟩
      have n8_ : Aside0 (gb102 ≠ gb114) := ⟨h8_⟩
      have n9_ : Aside0 (gb114 ≠ gb102) := ⟨h9_⟩
      have n10_ : Aside0 (Below w.heap.size w w42) := ⟨h10_⟩
      clear BK101
      clear BK102
      clear HB
      clear h0_ h1_ h2_ h3_ h4_ h5_ h6_ h7_ h8_ h9_ h10_
      have HO107 := n0_
      have BK101 := n1_
      have BK102 := n2_
      have BK114 := n3_
      have GW114 := n4_
      have GE114 := n5_
      have NB101_114 := n6_
      have NB114_101 := n7_
      have NB102_114 := n8_
      have NB114_102 := n9_
      have HB := n10_
      clear n0_ n1_ n2_ n3_ n4_ n5_ n6_ n7_ n8_ n9_ n10_
      have hHeld : w42.cell? ⟨gb101, 0, none⟩ = some (.int .i64 a0_0) ∧ w42.cell? ⟨gb101, 1, none⟩ = some (.slice A0_1 l0_1.length c0_1) := hS_
      refine norm_ (a' := ?_) ?_ ?_
      rotate_left
      ·simp only [putAll, Act.put, sA, sZ, sS]
       rfl
      refine oN 8 HT_ (fun K hK => ?_)
      refine Kd.R_lit_step (Kd.int .i64) _ 3 ?hg (N := 21) ?hd (xs := ([t104] : List Int)) (inner := [.int .i64 t104]) (ok := fun _ => True) (okp := fun _ => True) ?hr ?hp (fun _ hk => hk) trivial (Below.refl _ _) (Nat.le_refl _) (by simp) ?_; (case hd => rfl); (case hg => rfl); (case hr => first | (go_simp; done) | (go_simp; rfl)); (case hp => exact (Reps.one (show Kd.M (Kd.int .i64) _ _ _ t104 [.int .i64 t104] from rfl) (Reps.none _ _)))
      intro v109 w43 ho44 hb hg_ hnew_
      clear hg_ hnew_
      (first | rw [← Ny108.out] at ho44 | (simp only [Int.reduceToNat] at ho44; rw [← Ny108.out] at ho44))
      have n0_ := rE HO107 (Kd.R_base ho44) hb
      have n1_ := Aside0.mk (Kd.R_lower (Kd.R_new' ho44 (Kd.R_lt (rQ HO107))) (below_size (wB)))
      have n2_ := bP BK101 hb
      have n3_ := bP BK102 hb
      have n4_ := bP BK114 hb
      have n5_ := sQ hb
      clear HO107
      clear BK101
      clear BK102
      clear BK114
      clear HB
      have HO107 := n0_
      have HO110 := n1_
      have BK101 := n2_
      have BK102 := n3_
      have BK114 := n4_
      have HB := n5_
      clear n0_ n1_ n2_ n3_ n4_ n5_
      clear hb ho44
      refine hK.out _ _ ⟨(blk_cell BK101.out 0).trans rfl, (blk_cell BK101.out 1).trans rfl⟩ (fun hHeld => ?_)
      clear hK K
      refine nM ?_
      exact norm_ (by first | (simp only [putAll, Act.put, sA, sZ, sS]; done) | (simp only [putAll, Act.put, sA, sZ, sS]; rfl)) (hJ6_8_11 (v106, _, gb114) _ ⟨hHeld, (by (try refine rp ?_); exact Kd.R_mono HO107.out (fun _ hk => hk.2)), (by (try refine rp ?_); exact Kd.R_mono HO110.out (fun _ hk => hk.2)), (bQ BK101), (bQ BK102), (bQ BK114), GW114.out, GE114.out, NB101_114.out, NB114_101.out, NB102_114.out, NB114_102.out, (wB)⟩)
     skip
     rintro ⟨v106, v109⟩ w43 ⟨hS_, h0_, h1_, h2_, h3_, h4_⟩
     have n0_ : Aside0 (Kd.R (Kd.int .i64) 3 w43 w.heap.size (fun k_ => nb v109 k_) v106 t105) := ⟨h0_⟩
     have n1_ : Aside0 (Kd.R (Kd.int .i64) 3 w43 w.heap.size (fun k_ => nb v106 k_) v109 y108) := ⟨h1_⟩
     have n2_ : Aside0 (w43.heap[gb101]? = some (.cells #[.int .i64 a0_0, .slice A0_1 l0_1.length c0_1] 24 (0, 0))) := ⟨h2_⟩
     have n3_ : Aside0 (w43.heap[gb102]? = some (.cells #[.int .i64 0, .slice none 0 0] 24 (0, 0))) := ⟨h3_⟩
     have n4_ : Aside0 (Below w.heap.size w w43) := ⟨h4_⟩
     clear BK101
     clear BK102
     clear HB
     clear h0_ h1_ h2_ h3_ h4_
     have HO107 := n0_
     have HO110 := n1_
     have BK101 := n2_
     have BK102 := n3_
     have HB := n4_
     clear n0_ n1_ n2_ n3_ n4_
     have hHeld : w43.cell? ⟨gb101, 0, none⟩ = some (.int .i64 a0_0) ∧ w43.cell? ⟨gb101, 1, none⟩ = some (.slice A0_1 l0_1.length c0_1) := hS_
     obtain ⟨Ao45, co45, eo45⟩ := Kd.R_slice HO110.out
     (first | subst eo45 | (injection eo45 with f1_ f2_ f3_; have f4_ := f1_.symm; have f5_ := f3_.symm; clear f1_ f2_ f3_; subst f4_; subst f5_))
     refine norm_ (a' := ?_) ?_ ?_
     rotate_left
     ·simp only [putAll, Act.put, sA, sZ, sS]
      rfl
     refine two_ (i := 9) (j := 11) (Ni := some 22) (Nj := some 5) #[true, true, true, true, true, true, true, true, true, true, false, false, false] #[true, true, true, true, true, true, true, true, true, false, false, true, false] rfl rfl rfl rfl (two_of HT_.out (by kernel_rfl)) (by decide) (by decide) (fun K hK => ?_) (fun K hK => ?_)
     ·skip
      refine Kd.R_append_rows_step (Kd.int .i64) (w0 := w) w.heap.size (by rfl) (.tmp 19) (.tmp 21) 22 3 (.int .i64 0) 8 rfl Tryz.underlying22 info3 rfl (by decide) (by omega) v106 t105 y108 _ _ _ (fun k_ => nb (.slice Ao45 y108.length co45) k_) (fun _ => False) rfl rfl ?aO ?aR (fun _ _ h => h) (fun _ h => h.elim) ?aF ?aB ?aS ?aL ?_
      (case aR => repeat (first | exact (Kd.R_reads' HO110.out).2.2 | (with_reducible refine Kd.C_alloc ?_ _) | (with_reducible refine Kd.C_drewN ?_ _) | (with_reducible refine Kd.C_drew ?_)))
      (case aB => exact (wB))
      (case aF => exact (fun k_ hk => Kd.fresh' (Kd.R_lt (rQ HO110)) k_ hk))
      (case aO => exact (rQ HO107))
      (case aS => exact (below_size (wB)))
      (case aL => have := LMc6.out; omega)
      intro v112 w44 ho hb hg hat
      rw [← Ny111.out] at ho
      have n0_ := Aside0.mk (blk_grown (g := gb101) (o := .cells #[.int .i64 a0_0, .slice A0_1 l0_1.length c0_1] 24 (0, 0)) (bQ BK101) hg (Kd.R_ne HO107.out BK101.out (by decide)))
      have n1_ := Aside0.mk (blk_grown (g := gb102) (o := .cells #[.int .i64 0, .slice none 0 0] 24 (0, 0)) (bQ BK102) hg (Kd.R_ne HO107.out BK102.out (by decide)))
      have n2_ := Aside0.mk (Kd.R_after (ok := (fun _ => True)) (by (try refine rp ?_); exact Kd.R_mono HO110.out (fun _ hk => ⟨trivial, hk⟩)) hg hat)
      have n3_ := Aside0.mk (hb)
      have n4_ := Aside0.mk (ho)
      clear BK101
      clear BK102
      clear HO110
      clear HB
      clear HO107
      have BK101 := n0_
      have BK102 := n1_
      have HO110 := n2_
      have HB := n3_
      have HO113 := n4_
      clear n0_ n1_ n2_ n3_ n4_
      clear ho hb hg hat
      obtain ⟨Ao46, co46, eo46⟩ := Kd.R_slice HO113.out
      (first | subst eo46 | (injection eo46 with f1_ f2_ f3_; have f4_ := f1_.symm; have f5_ := f3_.symm; clear f1_ f2_ f3_; subst f4_; subst f5_))
      refine hK.out _ _ ⟨(blk_cell BK101.out 0).trans rfl, (blk_cell BK101.out 1).trans rfl⟩ (fun hHeld => ?_)
      clear hK K
      refine nM ?_
      refine pU 10 HT_ ?_
      exact norm_ (by first | (simp only [putAll, Act.put, sA, sZ, sS]; done) | (simp only [putAll, Act.put, sA, sZ, sS]; rfl)) (hJ6_8_9 (v106, .slice Ao45 y108.length co45, .slice Ao46 y111.length co46) _ ⟨hHeld, (by (try refine rp ?_); exact Kd.R_mono HO110.out (fun _ hk => hk.2)), (rQ HO113), (bQ BK101), (bQ BK102), (wB)⟩)
     skip
     refine box_step ?hg (N := 5) ?hd (cs := #[.int .i64 0, .slice none 0 0]) (t := 24) ?hr ?_; (case hd => rfl); (case hg => rfl); (case hr => first | (go_simp; done) | (go_simp; rfl))
     intro gb114 hg w44 hbox hb
     have n0_ := rP HO107 hb
     have n1_ := rP HO110 hb
     have n2_ := bP BK101 hb
     have n3_ := bP BK102 hb
     have n4_ := sQ hb
     have n5_ := Aside0.mk (hbox)
     have n6_ := Aside0.mk ((by rw [hg]; exact (below_size (wB)) : w.heap.size ≤ gb114))
     have n7_ := Aside0.mk ((by rw [hg]; exact (below_size (wB)) : w.heap.size ≤ gb114))
     have n8_ := Aside0.mk ((by rw [hg]; exact Nat.ne_of_lt (blk_lt (g := gb101) (o := .cells #[.int .i64 a0_0, .slice A0_1 l0_1.length c0_1] 24 (0, 0)) (bQ BK101)) : gb101 ≠ gb114))
     have n9_ := Aside0.mk ((by rw [hg]; exact Nat.ne_of_gt (blk_lt (g := gb101) (o := .cells #[.int .i64 a0_0, .slice A0_1 l0_1.length c0_1] 24 (0, 0)) (bQ BK101)) : gb114 ≠ gb101))
     have n10_ := Aside0.mk ((by rw [hg]; exact Nat.ne_of_lt (blk_lt (g := gb102) (o := .cells #[.int .i64 0, .slice none 0 0] 24 (0, 0)) (bQ BK102)) : gb102 ≠ gb114))
     have n11_ := Aside0.mk ((by rw [hg]; exact Nat.ne_of_gt (blk_lt (g := gb102) (o := .cells #[.int .i64 0, .slice none 0 0] 24 (0, 0)) (bQ BK102)) : gb114 ≠ gb102))
     clear HO107
     clear HO110
     clear BK101
     clear BK102
     clear HB
     have HO107 := n0_
     have HO110 := n1_
     have BK101 := n2_
     have BK102 := n3_
     have HB := n4_
     have BK114 := n5_
     have GW114 := n6_
     have GE114 := n7_
     have NB101_114 := n8_
     have NB114_101 := n9_
     have NB102_114 := n10_
     have NB114_102 := n11_
     clear n0_ n1_ n2_ n3_ n4_ n5_ n6_ n7_ n8_ n9_ n10_ n11_
     clear hb hg
     refine hK.out _ _ ⟨(blk_cell BK101.out 0).trans rfl, (blk_cell BK101.out 1).trans rfl⟩ (fun hHeld => ?_)
     clear hK K
     refine nM ?_
     exact norm_ (by first | (simp only [putAll, Act.put, sA, sZ, sS]; done) | (simp only [putAll, Act.put, sA, sZ, sS]; rfl)) (hJ6_8_11 (v106, _, gb114) _ ⟨hHeld, (rQ HO107), (rQ HO110), (bQ BK101), (bQ BK102), (bQ BK114), GW114.out, GE114.out, NB101_114.out, NB114_101.out, NB102_114.out, NB114_102.out, (wB)⟩)
    skip
    rintro ⟨v106, v109, gb114⟩ w44 ⟨hS_, h0_, h1_, h2_, h3_, h4_, h5_, h6_, h7_, h8_, h9_, h10_, h11_⟩
    have n0_ : Aside0 (Kd.R (Kd.int .i64) 3 w44 w.heap.size (fun k_ => nb v109 k_) v106 t105) := ⟨h0_⟩
    have n1_ : Aside0 (Kd.R (Kd.int .i64) 3 w44 w.heap.size (fun k_ => nb v106 k_) v109 y108) := ⟨h1_⟩
    have n2_ : Aside0 (w44.heap[gb101]? = some (.cells #[.int .i64 a0_0, .slice A0_1 l0_1.length c0_1] 24 (0, 0))) := ⟨h2_⟩
    have n3_ : Aside0 (w44.heap[gb102]? = some (.cells #[.int .i64 0, .slice none 0 0] 24 (0, 0))) := ⟨h3_⟩
    have n4_ : Aside0 (w44.heap[gb114]? = some (.cells #[.int .i64 0, .slice none 0 0] 24 (0, 0))) := ⟨h4_⟩
    have n5_ : Aside0 (w.heap.size ≤ gb114) := ⟨h5_⟩
    have n6_ : Aside0 (w.heap.size ≤ gb114) := ⟨h6_⟩
    have n7_ : Aside0 (gb101 ≠ gb114) := ⟨h7_⟩
    have n8_ : Aside0 (gb114 ≠ gb101) := ⟨h8_⟩
    have n9_ : Aside0 (gb102 ≠ gb114) := ⟨h9_⟩
    have n10_ : Aside0 (gb114 ≠ gb102) := ⟨h10_⟩
    have n11_ : Aside0 (Below w.heap.size w w44) := ⟨h11_⟩
    clear BK101
    clear BK102
    clear HB
    clear h0_ h1_ h2_ h3_ h4_ h5_ h6_ h7_ h8_ h9_ h10_ h11_
    have HO107 := n0_
    have HO110 := n1_
    have BK101 := n2_
    have BK102 := n3_
    have BK114 := n4_
    have GW114 := n5_
    have GE114 := n6_
    have NB101_114 := n7_
    have NB114_101 := n8_
    have NB102_114 := n9_
    have NB114_102 := n10_
    have HB := n11_
    clear n0_ n1_ n2_ n3_ n4_ n5_ n6_ n7_ n8_ n9_ n10_ n11_
    have hHeld : w44.cell? ⟨gb101, 0, none⟩ = some (.int .i64 a0_0) ∧ w44.cell? ⟨gb101, 1, none⟩ = some (.slice A0_1 l0_1.length c0_1) := hS_
    obtain ⟨Ao46, co46, eo46⟩ := Kd.R_slice HO110.out
    (first | subst eo46 | (injection eo46 with f1_ f2_ f3_; have f4_ := f1_.symm; have f5_ := f3_.symm; clear f1_ f2_ f3_; subst f4_; subst f5_))
    refine norm_ (a' := ?_) ?_ ?_
    rotate_left
    ·simp only [putAll, Act.put, sA, sZ, sS]
     rfl
    refine oN 9 HT_ (fun K hK => ?_)
    refine Kd.R_append_rows_step (Kd.int .i64) (w0 := w) w.heap.size (by rfl) (.tmp 19) (.tmp 21) 22 3 (.int .i64 0) 8 rfl Tryz.underlying22 info3 rfl (by decide) (by omega) v106 t105 y108 _ _ _ (fun k_ => nb (.slice Ao46 y108.length co46) k_) (fun _ => False) rfl rfl ?aO ?aR (fun _ _ h => h) (fun _ h => h.elim) ?aF ?aB ?aS ?aL ?_
    (case aR => repeat (first | exact (Kd.R_reads' HO110.out).2.2 | (with_reducible refine Kd.C_alloc ?_ _) | (with_reducible refine Kd.C_drewN ?_ _) | (with_reducible refine Kd.C_drew ?_)))
    (case aB => exact (wB))
    (case aF => exact (fun k_ hk => Kd.fresh' (Kd.R_lt (rQ HO110)) k_ hk))
    (case aO => exact (rQ HO107))
    (case aS => exact (below_size (wB)))
    (case aL => have := LMc6.out; omega)
    intro v112 w45 ho hb hg hat
    rw [← Ny111.out] at ho
    have n0_ := Aside0.mk (blk_grown (g := gb101) (o := .cells #[.int .i64 a0_0, .slice A0_1 l0_1.length c0_1] 24 (0, 0)) (bQ BK101) hg (Kd.R_ne HO107.out BK101.out (by decide)))
    have n1_ := Aside0.mk (blk_grown (g := gb102) (o := .cells #[.int .i64 0, .slice none 0 0] 24 (0, 0)) (bQ BK102) hg (Kd.R_ne HO107.out BK102.out (by decide)))
    have n2_ := Aside0.mk (Kd.R_after (ok := (fun _ => True)) (by (try refine rp ?_); exact Kd.R_mono HO110.out (fun _ hk => ⟨trivial, hk⟩)) hg hat)
    have n3_ := Aside0.mk (blk_grown (g := gb114) (o := .cells #[.int .i64 0, .slice none 0 0] 24 (0, 0)) (bQ BK114) hg (Kd.R_ne HO107.out BK114.out (by decide)))
    have n4_ := Aside0.mk (hb)
    have n5_ := Aside0.mk (ho)
    clear BK101
    clear BK102
    clear HO110
    clear BK114
    clear HB
    clear HO107
    have BK101 := n0_
    have BK102 := n1_
    have HO110 := n2_
    have BK114 := n3_
    have HB := n4_
    have HO113 := n5_
    clear n0_ n1_ n2_ n3_ n4_ n5_
    clear ho hb hg hat
    obtain ⟨Ao47, co47, eo47⟩ := Kd.R_slice HO113.out
    (first | subst eo47 | (injection eo47 with f1_ f2_ f3_; have f4_ := f1_.symm; have f5_ := f3_.symm; clear f1_ f2_ f3_; subst f4_; subst f5_))
    refine hK.out _ _ ⟨(blk_cell BK101.out 0).trans rfl, (blk_cell BK101.out 1).trans rfl⟩ (fun hHeld => ?_)
    clear hK K
    refine nM ?_
    refine pU 10 HT_ ?_
    exact norm_ (by first | (simp only [putAll, Act.put, sA, sZ, sS]; done) | (simp only [putAll, Act.put, sA, sZ, sS]; rfl)) (hJ6_8_9_11 (v106, .slice Ao46 y108.length co46, .slice Ao47 y111.length co47, gb114) _ ⟨hHeld, (by (try refine rp ?_); exact Kd.R_mono HO110.out (fun _ hk => hk.2)), (rQ HO113), (bQ BK101), (bQ BK102), (bQ BK114), GW114.out, GE114.out, NB101_114.out, NB114_101.out, NB102_114.out, NB114_102.out, (wB)⟩)
   skip
   rintro ⟨v106, v109, v112⟩ w46 ⟨hS_, h0_, h1_, h2_, h3_, h4_⟩
   have n0_ : Aside0 (Kd.R (Kd.int .i64) 3 w46 w.heap.size (fun k_ => nb v112 k_) v109 y108) := ⟨h0_⟩
   have n1_ : Aside0 (Kd.R (Kd.int .i64) 3 w46 w.heap.size (fun k_ => nb v109 k_) v112 y111) := ⟨h1_⟩
   have n2_ : Aside0 (w46.heap[gb101]? = some (.cells #[.int .i64 a0_0, .slice A0_1 l0_1.length c0_1] 24 (0, 0))) := ⟨h2_⟩
   have n3_ : Aside0 (w46.heap[gb102]? = some (.cells #[.int .i64 0, .slice none 0 0] 24 (0, 0))) := ⟨h3_⟩
   have n4_ : Aside0 (Below w.heap.size w w46) := ⟨h4_⟩
   clear BK101
   clear BK102
   clear HB
   clear h0_ h1_ h2_ h3_ h4_
   have HO110 := n0_
   have HO113 := n1_
   have BK101 := n2_
   have BK102 := n3_
   have HB := n4_
   clear n0_ n1_ n2_ n3_ n4_
   have hHeld : w46.cell? ⟨gb101, 0, none⟩ = some (.int .i64 a0_0) ∧ w46.cell? ⟨gb101, 1, none⟩ = some (.slice A0_1 l0_1.length c0_1) := hS_
   obtain ⟨Ao47, co47, eo47⟩ := Kd.R_slice HO113.out
   (first | subst eo47 | (injection eo47 with f1_ f2_ f3_; have f4_ := f1_.symm; have f5_ := f3_.symm; clear f1_ f2_ f3_; subst f4_; subst f5_))
   refine norm_ (a' := ?_) ?_ ?_
   rotate_left
   ·simp only [putAll, Act.put, sA, sZ, sS]
    rfl
   refine oN 11 HT_ (fun K hK => ?_)
   refine box_step ?hg (N := 5) ?hd (cs := #[.int .i64 0, .slice none 0 0]) (t := 24) ?hr ?_; (case hd => rfl); (case hg => rfl); (case hr => first | (go_simp; done) | (go_simp; rfl))
   intro gb114 hg w48 hbox hb
   have n0_ := rP HO110 hb
   have n1_ := rP HO113 hb
   have n2_ := bP BK101 hb
   have n3_ := bP BK102 hb
   have n4_ := sQ hb
   have n5_ := Aside0.mk (hbox)
   have n6_ := Aside0.mk ((by rw [hg]; exact (below_size (wB)) : w.heap.size ≤ gb114))
   have n7_ := Aside0.mk ((by rw [hg]; exact (below_size (wB)) : w.heap.size ≤ gb114))
   have n8_ := Aside0.mk ((by rw [hg]; exact Nat.ne_of_lt (blk_lt (g := gb101) (o := .cells #[.int .i64 a0_0, .slice A0_1 l0_1.length c0_1] 24 (0, 0)) (bQ BK101)) : gb101 ≠ gb114))
   have n9_ := Aside0.mk ((by rw [hg]; exact Nat.ne_of_gt (blk_lt (g := gb101) (o := .cells #[.int .i64 a0_0, .slice A0_1 l0_1.length c0_1] 24 (0, 0)) (bQ BK101)) : gb114 ≠ gb101))
   have n10_ := Aside0.mk ((by rw [hg]; exact Nat.ne_of_lt (blk_lt (g := gb102) (o := .cells #[.int .i64 0, .slice none 0 0] 24 (0, 0)) (bQ BK102)) : gb102 ≠ gb114))
   have n11_ := Aside0.mk ((by rw [hg]; exact Nat.ne_of_gt (blk_lt (g := gb102) (o := .cells #[.int .i64 0, .slice none 0 0] 24 (0, 0)) (bQ BK102)) : gb114 ≠ gb102))
   clear HO110
   clear HO113
   clear BK101
   clear BK102
   clear HB
   have HO110 := n0_
   have HO113 := n1_
   have BK101 := n2_
   have BK102 := n3_
   have HB := n4_
   have BK114 := n5_
   have GW114 := n6_
   have GE114 := n7_
   have NB101_114 := n8_
   have NB114_101 := n9_
   have NB102_114 := n10_
   have NB114_102 := n11_
   clear n0_ n1_ n2_ n3_ n4_ n5_ n6_ n7_ n8_ n9_ n10_ n11_
   clear hb hg
   refine hK.out _ _ ⟨(blk_cell BK101.out 0).trans rfl, (blk_cell BK101.out 1).trans rfl⟩ (fun hHeld => ?_)
   clear hK K
   refine nM ?_
   exact norm_ (by first | (simp only [putAll, Act.put, sA, sZ, sS]; done) | (simp only [putAll, Act.put, sA, sZ, sS]; rfl)) (hJ6_8_9_11 (v106, v109, .slice Ao47 y111.length co47, gb114) _ ⟨hHeld, (rQ HO110), (rQ HO113), (bQ BK101), (bQ BK102), (bQ BK114), GW114.out, GE114.out, NB101_114.out, NB114_101.out, NB102_114.out, NB114_102.out, (wB)⟩)
  rintro ⟨v106, v109, v112, gb114⟩ w47 ⟨hS_, h0_, h1_, h2_, h3_, h4_, h5_, h6_, h7_, h8_, h9_, h10_, h11_⟩
  have n0_ : Aside0 (Kd.R (Kd.int .i64) 3 w47 w.heap.size (fun k_ => nb v112 k_) v109 y108) := ⟨h0_⟩
  have n1_ : Aside0 (Kd.R (Kd.int .i64) 3 w47 w.heap.size (fun k_ => nb v109 k_) v112 y111) := ⟨h1_⟩
  have n2_ : Aside0 (w47.heap[gb101]? = some (.cells #[.int .i64 a0_0, .slice A0_1 l0_1.length c0_1] 24 (0, 0))) := ⟨h2_⟩
  have n3_ : Aside0 (w47.heap[gb102]? = some (.cells #[.int .i64 0, .slice none 0 0] 24 (0, 0))) := ⟨h3_⟩
  have n4_ : Aside0 (w47.heap[gb114]? = some (.cells #[.int .i64 0, .slice none 0 0] 24 (0, 0))) := ⟨h4_⟩
  have n5_ : Aside0 (w.heap.size ≤ gb114) := ⟨h5_⟩
  have n6_ : Aside0 (w.heap.size ≤ gb114) := ⟨h6_⟩
  have n7_ : Aside0 (gb101 ≠ gb114) := ⟨h7_⟩
  have n8_ : Aside0 (gb114 ≠ gb101) := ⟨h8_⟩
  have n9_ : Aside0 (gb102 ≠ gb114) := ⟨h9_⟩
  have n10_ : Aside0 (gb114 ≠ gb102) := ⟨h10_⟩
  have n11_ : Aside0 (Below w.heap.size w w47) := ⟨h11_⟩
  clear BK101
  clear BK102
  clear HB
  clear h0_ h1_ h2_ h3_ h4_ h5_ h6_ h7_ h8_ h9_ h10_ h11_
  have HO110 := n0_
  have HO113 := n1_
  have BK101 := n2_
  have BK102 := n3_
  have BK114 := n4_
  have GW114 := n5_
  have GE114 := n6_
  have NB101_114 := n7_
  have NB114_101 := n8_
  have NB102_114 := n9_
  have NB114_102 := n10_
  have HB := n11_
  clear n0_ n1_ n2_ n3_ n4_ n5_ n6_ n7_ n8_ n9_ n10_ n11_
  have hHeld : w47.cell? ⟨gb101, 0, none⟩ = some (.int .i64 a0_0) ∧ w47.cell? ⟨gb101, 1, none⟩ = some (.slice A0_1 l0_1.length c0_1) := hS_
  obtain ⟨Ao48, co48, eo48⟩ := Kd.R_slice HO113.out
  (first | subst eo48 | (injection eo48 with f1_ f2_ f3_; have f4_ := f1_.symm; have f5_ := f3_.symm; clear f1_ f2_ f3_; subst f4_; subst f5_))
  refine norm_ (a' := ?_) ?_ ?_
  rotate_left
  ·simp only [putAll, Act.put, sA, sZ, sS]
   rfl
  refine oN 12 HT_ (fun K hK => ?_)
  have hs49 : w47.cell? ⟨gb114, 0, none⟩ = some (.int .i64 0) := (blk_cell BK114.out 0).trans rfl
  have hfs49 := blk_frozen BK114.out 0
  have hns49_0 := NB101_114.out
  have hns49_1 := NB102_114.out
  have hms49_0 := NB114_101.out
  have hms49_1 := NB114_102.out
  have hs50 : w47.cell? ⟨gb114, 1, none⟩ = some (.slice none 0 0) := (blk_cell BK114.out 1).trans rfl
  have hfs50 := blk_frozen BK114.out 1
  have hns50_0 := NB101_114.out
  have hns50_1 := NB102_114.out
  have hms50_0 := NB114_101.out
  have hms50_1 := NB114_102.out
  refine skip_ (w1 := ?_) (by rfl) rfl ?_ ?_
  rotate_left
  ·go_simp
   rfl
  refine hK.out _ _ ⟨((cell_far (p := ⟨gb114, _, none⟩) NB101_114.out _).trans (((cell_far (p := ⟨gb114, _, none⟩) NB101_114.out _).trans (hHeld.1)))), ((cell_far (p := ⟨gb114, _, none⟩) NB101_114.out _).trans (((cell_far (p := ⟨gb114, _, none⟩) NB101_114.out _).trans (hHeld.2))))⟩ (fun hHeld => ?_)
  clear hK K
  refine done_ (done_of HT_.out (by kernel_rfl)) ?_
  have hnb51 := NB114_101.out
  have hnc51 := NB101_114.out
  have hnb52 := NB114_102.out
  have hnc52 := NB102_114.out
  obtain ⟨hcz53_0, hcz53_1, hfz53_0, hfz53_1⟩ := zZ BK114
  try go_wp2_with (first | ((with_reducible refine gate_callee (f := 37) rfl ?_); refine gL 25 Tryz.func37 #[.agg #[.int .i64 (wrap64 (a0_0 + t104)), .slice Ao48 y111.length co48]] ?_; (with_reducible refine (spec_voGood.calls k (wrap64 (a0_0 + t104)) _ _ y111 false _ ?side1 ?side2 A7.out).mono ?_); (case side1 => refine (Kd.R_reads' (e := 3) (base := w.heap.size) (ok := fun k_ => nb v109 k_) (n := y111.length) (c := co48) ?_).2.2; exact (by (try refine rp ?_); exact (Kd.R_mono (Kd.R_far (p := ⟨gb114, 1, none⟩) (Kd.R_far (p := ⟨gb114, 0, none⟩) (Kd.R_types HO113.out BK114.out (by decide)) (fun _ hk => hk.2) (.int .i64 (wrap64 (a0_0 + t104)))) (fun _ hk => hk.2) (.slice Ao48 y111.length co48)) (fun _ h_ => h_.1)))); (case side2 => exact (Kd.R_reads' HO113.out).2.1); rintro e w54 ⟨rfl, hb⟩; refine ⟨_, rfl, ?_⟩; have n0_ := Aside0.mk (Kd.R_below (by (try refine rp ?_); exact (Kd.R_mono (Kd.R_far (p := ⟨gb114, 1, none⟩) (Kd.R_far (p := ⟨gb114, 0, none⟩) (Kd.R_types HO110.out BK114.out (by decide)) (fun _ hk => hk.2) (.int .i64 (wrap64 (a0_0 + t104)))) (fun _ hk => hk.2) (.slice Ao48 y111.length co48)) (fun _ h_ => h_.1))) hb); have n1_ := Aside0.mk (Kd.R_below (by (try refine rp ?_); exact (Kd.R_mono (Kd.R_far (p := ⟨gb114, 1, none⟩) (Kd.R_far (p := ⟨gb114, 0, none⟩) (Kd.R_types HO113.out BK114.out (by decide)) (fun _ hk => hk.2) (.int .i64 (wrap64 (a0_0 + t104)))) (fun _ hk => hk.2) (.slice Ao48 y111.length co48)) (fun _ h_ => h_.1))) hb); have n2_ := Aside0.mk (blk_below (g := gb101) (o := .cells #[.int .i64 a0_0, .slice A0_1 l0_1.length c0_1] 24 (0, 0)) (by (try refine bp ?_); refine blk_far ?_ NB101_114.out _; (try refine bp ?_); refine blk_far ?_ NB101_114.out _; (first | exact bp BK101.out | exact BK101.out)) hb); have n3_ := Aside0.mk (blk_below (g := gb102) (o := .cells #[.int .i64 0, .slice none 0 0] 24 (0, 0)) (by (try refine bp ?_); refine blk_far ?_ NB102_114.out _; (try refine bp ?_); refine blk_far ?_ NB102_114.out _; (first | exact bp BK102.out | exact BK102.out)) hb); have n4_ := Aside0.mk (blk_below (g := gb114) (o := .cells #[.int .i64 (wrap64 (a0_0 + t104)), .slice Ao48 y111.length co48] 24 (0, 0)) (by (try refine bp ?_); refine blk_put (cs := #[.int .i64 (wrap64 (a0_0 + t104)), .slice none 0 0]) ?_ 1 _ rfl; (try refine bp ?_); refine blk_put (cs := #[.int .i64 0, .slice none 0 0]) ?_ 0 _ rfl; (first | exact bp BK114.out | exact BK114.out)) hb); have n5_ := sQ hb; clear HO110; clear HO113; clear BK101; clear BK102; clear BK114; clear HB; have HO110 := n0_; have HO113 := n1_; have BK101 := n2_; have BK102 := n3_; have BK114 := n4_; have HB := n5_; clear n0_ n1_ n2_ n3_ n4_ n5_; (try clear hb); (try clear hb2); (try clear hk); (try clear hi); obtain ⟨hcz55_0, hcz55_1, hfz55_0, hfz55_1⟩ := zZ BK102))
  refine bodyPost_ret (results_ct rfl _ _ gb102 24 #[.int .i64 0, .slice none 0 0] (0, 0) _ rfl (by (try refine bp ?_); refine blk_put (cs := #[.int .i64 0, .slice none 0 0]) ?_ 1 _ rfl; (try refine bp ?_); refine blk_put (cs := #[.int .i64 0, .slice none 0 0]) ?_ 0 _ rfl; (first | exact bp BK102.out | exact BK102.out)) Tryz.underlying24 rfl (by kernel_rfl)) rfl ?_
  exact ⟨_, fR, by first | exact Kd.R_nil _ _ _ _ _ | exact Kd.N_nil _ _ _ _ _ | exact Kd.V_nil _ _ _ _ _ | exact Kd.Q_nil _ _ _ _ _ | exact Kd.S_nil _ _ _ _ _, wB⟩
 subst c8
 replace H := iT H
 simp only [Option.some.injEq, Prod.mk.injEq] at H
 obtain ⟨rfl, rfl, rfl⟩ := H
 go_enter Tryz.func23, Tryz.ntmps23
 try go_wp2_with (first | ((with_reducible refine gate_dst (N := 1) rfl ?_); refine box_event ?hg (N := 1) ?hd (cs := #[.int .i64 a0_0, .slice A0_1 l0_1.length c0_1]) (t := 24) ?hr ?_; (case hd => rfl); (case hg => rfl); (case hr => first | (go_simp; done) | (go_simp; rfl)); intro gb101 hg w9 hbox hb; have n0_ := sQ hb; have n1_ := Aside0.mk (hbox); have n2_ := Aside0.mk ((by rw [hg]; exact (below_size (wB)) : w.heap.size ≤ gb101)); have n3_ := Aside0.mk ((by rw [hg]; exact (below_size (wB)) : w.heap.size ≤ gb101)); clear HB; have HB := n0_; have BK101 := n1_; have GW101 := n2_; have GE101 := n3_; clear n0_ n1_ n2_ n3_; clear hb hbox hg) | ((with_reducible refine gate_dst (N := 2) rfl ?_); refine box_event ?hg (N := 2) ?hd (cs := #[.int .i64 0, .slice none 0 0]) (t := 24) ?hr ?_; (case hd => rfl); (case hg => rfl); (case hr => first | (go_simp; done) | (go_simp; rfl)); intro gb102 hg w10 hbox hb; have n0_ := bP BK101 hb; have n1_ := sQ hb; have n2_ := Aside0.mk (hbox); have n3_ := Aside0.mk ((by rw [hg]; exact (below_size (wB)) : w.heap.size ≤ gb102)); have n4_ := Aside0.mk ((by rw [hg]; exact (below_size (wB)) : w.heap.size ≤ gb102)); have n5_ := Aside0.mk ((by rw [hg]; exact Nat.ne_of_lt (blk_lt (g := gb101) (o := .cells #[.int .i64 a0_0, .slice A0_1 l0_1.length c0_1] 24 (0, 0)) (bQ BK101)) : gb101 ≠ gb102)); have n6_ := Aside0.mk ((by rw [hg]; exact Nat.ne_of_gt (blk_lt (g := gb101) (o := .cells #[.int .i64 a0_0, .slice A0_1 l0_1.length c0_1] 24 (0, 0)) (bQ BK101)) : gb102 ≠ gb101)); clear BK101; clear HB; have BK101 := n0_; have HB := n1_; have BK102 := n2_; have GW102 := n3_; have GE102 := n4_; have NB101_102 := n5_; have NB102_101 := n6_; clear n0_ n1_ n2_ n3_ n4_ n5_ n6_; clear hb hbox hg; have hnb11 := NB101_102.out; have hnc11 := NB102_101.out; obtain ⟨hcz12_0, hcz12_1, hfz12_0, hfz12_1⟩ := zZ BK101) | ((with_reducible refine gate_callee (f := 37) rfl ?_); refine gL 7 Tryz.func37 #[.agg #[.int .i64 a0_0, .slice A0_1 l0_1.length c0_1]] ?_; (with_reducible refine (spec_voGood.calls k a0_0 _ _ l0_1 true _ ?side1 ?side2 A2.out).mono ?_); (case side1 => have hx_ := (Kd.C_below HR0_1.out HB.out); exact cC); (case side2 => exact HC0_1.out); rintro e w13 ⟨rfl, hb⟩; refine ⟨_, rfl, ?_⟩; have n0_ := bP BK101 hb; have n1_ := bP BK102 hb; have n2_ := sQ hb; clear BK101; clear BK102; clear HB; have BK101 := n0_; have BK102 := n1_; have HB := n2_; clear n0_ n1_ n2_; (try clear hb); (try clear hb2); (try clear hk); (try clear hi); obtain ⟨hcz14_0, hcz14_1, hfz14_0, hfz14_1⟩ := zZ BK101) | ((with_reducible refine gate_callee (f := 54) rfl ?_); refine gL 12 Tryz.func54 #[.slice A0_1 l0_1.length c0_1] ?_; (with_reducible refine (spec_voSum.calls k _ _ l0_1 t104 _ ?side1 ?side2 A4.out).mono ?_); (case side1 => have hx_ := (Kd.C_below HR0_1.out HB.out); exact cC); (case side2 => exact HC0_1.out); rintro e w' ⟨rfl, ⟨nd, rfl⟩⟩; refine ⟨_, rfl, ?_⟩; (try (rw [drewN_self w13]; generalize hq_ : World.drewN w13 _ = w13; have n0_ : Aside0 (w13.heap[gb101]? = some (.cells #[.int .i64 a0_0, .slice A0_1 l0_1.length c0_1] 24 (0, 0))) := ⟨by rw [← hq_]; exact (bQ BK101)⟩; have n1_ : Aside0 (w13.heap[gb102]? = some (.cells #[.int .i64 0, .slice none 0 0] 24 (0, 0))) := ⟨by rw [← hq_]; exact (bQ BK102)⟩; have n2_ : Aside0 (Below w.heap.size w w13) := ⟨by rw [← hq_]; exact (wB)⟩; clear BK101 BK102 HB hq_; have BK101 := n0_; have BK102 := n1_; have HB := n2_; clear n0_ n1_ n2_))))
 have n0_ := bD BK101
 have n1_ := bD BK102
 have n2_ := Aside0.mk (below_drew1 HB.out)
 clear BK101
 clear BK102
 clear HB
 have BK101 := n0_
 have BK102 := n1_
 have HB := n2_
 clear n0_ n1_ n2_
 refine start_ (n := 13) (S := fun w' => w'.cell? ⟨gb101, 0, none⟩ = some (.int .i64 a0_0) ∧ w'.cell? ⟨gb101, 1, none⟩ = some (.slice A0_1 l0_1.length c0_1)) (ds := []) #[false, false, false, false, false, false, false, false, false, false, false, false, false] (by kernel_rfl) rfl rfl ⟨(blk_cell BK101.out 0).trans rfl, (blk_cell BK101.out 1).trans rfl⟩ (fun hHeld => ?_); refine with_tabW spec_AddVeto.tab4 spec_AddVeto.bits4 (fun HT_ HW_ => ?_)
 generalize w13.drew = w15 at BK101 BK102 HB hHeld ⊢
 refine pU 0 HT_ ?_
 refine pU 2 HT_ ?_
 refine pU 4 HT_ ?_
 refine pU 7 HT_ ?_
 refine tK 1 HT_ HW_ hHeld (hy := by rintro w' ⟨s0, s1⟩; go_simp; with_reducible rfl) ?_
 refine pU 3 HT_ ?_
 refine tK 5 HT_ HW_ hHeld (hy := by rintro w' ⟨s0, s1⟩; go_simp; with_reducible rfl) ?_
 refine join_ (σ := Value × Value × Value × Nat) 1 #[true, true, true, true, true, true, true, true, true, true, true, true, false] (fun s_ => [(19, s_.1), (21, s_.2.1), (22, s_.2.2.1), (5, .pointer (some ⟨s_.2.2.2, 0, none⟩)), (23, .agg #[.int .i64 (wrap64 (a0_0 + t104)), s_.2.2.1])]) (fun s_ w' => (w'.cell? ⟨gb101, 0, none⟩ = some (.int .i64 a0_0) ∧ w'.cell? ⟨gb101, 1, none⟩ = some (.slice A0_1 l0_1.length c0_1)) ∧ (Kd.R (Kd.int .i64) 3 w' w.heap.size (fun k_ => nb (s_.2.2.1) k_) s_.2.1 y108) ∧ (Kd.R (Kd.int .i64) 3 w' w.heap.size (fun k_ => nb (s_.2.1) k_) s_.2.2.1 y111) ∧ (w'.heap[gb101]? = some (.cells #[.int .i64 a0_0, .slice A0_1 l0_1.length c0_1] 24 (0, 0))) ∧ (w'.heap[gb102]? = some (.cells #[.int .i64 0, .slice none 0 0] 24 (0, 0))) ∧ (w'.heap[s_.2.2.2]? = some (.cells #[.int .i64 0, .slice none 0 0] 24 (0, 0))) ∧ (w.heap.size ≤ s_.2.2.2) ∧ (w.heap.size ≤ s_.2.2.2) ∧ (gb101 ≠ s_.2.2.2) ∧ (s_.2.2.2 ≠ gb101) ∧ (gb102 ≠ s_.2.2.2) ∧ (s_.2.2.2 ≠ gb102) ∧ (Below w.heap.size w w')) ?_ ?_
 rotate_left
 ·intro hJ6_8_9_11
  refine join_ (σ := Value × Value × Value) 2 #[true, true, true, true, true, true, true, true, true, true, true, false, false] (fun s_ => [(19, s_.1), (21, s_.2.1), (22, s_.2.2), (23, .agg #[.int .i64 (wrap64 (a0_0 + t104)), s_.2.2])]) (fun s_ w' => (w'.cell? ⟨gb101, 0, none⟩ = some (.int .i64 a0_0) ∧ w'.cell? ⟨gb101, 1, none⟩ = some (.slice A0_1 l0_1.length c0_1)) ∧ (Kd.R (Kd.int .i64) 3 w' w.heap.size (fun k_ => nb (s_.2.2) k_) s_.2.1 y108) ∧ (Kd.R (Kd.int .i64) 3 w' w.heap.size (fun k_ => nb (s_.2.1) k_) s_.2.2 y111) ∧ (w'.heap[gb101]? = some (.cells #[.int .i64 a0_0, .slice A0_1 l0_1.length c0_1] 24 (0, 0))) ∧ (w'.heap[gb102]? = some (.cells #[.int .i64 0, .slice none 0 0] 24 (0, 0))) ∧ (Below w.heap.size w w')) ?_ ?_
  rotate_left
  ·intro hJ6_8_9
   refine join_ (σ := Value × Value × Nat) 3 #[true, true, true, true, true, true, true, true, true, false, false, true, false] (fun s_ => [(19, s_.1), (21, s_.2.1), (5, .pointer (some ⟨s_.2.2, 0, none⟩))]) (fun s_ w' => (w'.cell? ⟨gb101, 0, none⟩ = some (.int .i64 a0_0) ∧ w'.cell? ⟨gb101, 1, none⟩ = some (.slice A0_1 l0_1.length c0_1)) ∧ (Kd.R (Kd.int .i64) 3 w' w.heap.size (fun k_ => nb (s_.2.1) k_) s_.1 t105) ∧ (Kd.R (Kd.int .i64) 3 w' w.heap.size (fun k_ => nb (s_.1) k_) s_.2.1 y108) ∧ (w'.heap[gb101]? = some (.cells #[.int .i64 a0_0, .slice A0_1 l0_1.length c0_1] 24 (0, 0))) ∧ (w'.heap[gb102]? = some (.cells #[.int .i64 0, .slice none 0 0] 24 (0, 0))) ∧ (w'.heap[s_.2.2]? = some (.cells #[.int .i64 0, .slice none 0 0] 24 (0, 0))) ∧ (w.heap.size ≤ s_.2.2) ∧ (w.heap.size ≤ s_.2.2) ∧ (gb101 ≠ s_.2.2) ∧ (s_.2.2 ≠ gb101) ∧ (gb102 ≠ s_.2.2) ∧ (s_.2.2 ≠ gb102) ∧ (Below w.heap.size w w')) ?_ ?_
   rotate_left
   ·intro hJ6_8_11
    refine join_ (σ := Value × Value) 4 #[true, true, true, true, true, true, true, true, true, false, false, false, false] (fun s_ => [(19, s_.1), (21, s_.2)]) (fun s_ w' => (w'.cell? ⟨gb101, 0, none⟩ = some (.int .i64 a0_0) ∧ w'.cell? ⟨gb101, 1, none⟩ = some (.slice A0_1 l0_1.length c0_1)) ∧ (Kd.R (Kd.int .i64) 3 w' w.heap.size (fun k_ => nb (s_.2) k_) s_.1 t105) ∧ (Kd.R (Kd.int .i64) 3 w' w.heap.size (fun k_ => nb (s_.1) k_) s_.2 y108) ∧ (w'.heap[gb101]? = some (.cells #[.int .i64 a0_0, .slice A0_1 l0_1.length c0_1] 24 (0, 0))) ∧ (w'.heap[gb102]? = some (.cells #[.int .i64 0, .slice none 0 0] 24 (0, 0))) ∧ (Below w.heap.size w w')) ?_ ?_
    rotate_left
    ·intro hJ6_8
     refine join_ (σ := Value × Nat) 4 #[true, true, true, true, true, true, true, true, false, false, false, true, false] (fun s_ => [(19, s_.1), (5, .pointer (some ⟨s_.2, 0, none⟩))]) (fun s_ w' => (w'.cell? ⟨gb101, 0, none⟩ = some (.int .i64 a0_0) ∧ w'.cell? ⟨gb101, 1, none⟩ = some (.slice A0_1 l0_1.length c0_1)) ∧ (Kd.R (Kd.int .i64) 3 w' w.heap.size (fun _ => True) s_.1 t105) ∧ (w'.heap[gb101]? = some (.cells #[.int .i64 a0_0, .slice A0_1 l0_1.length c0_1] 24 (0, 0))) ∧ (w'.heap[gb102]? = some (.cells #[.int .i64 0, .slice none 0 0] 24 (0, 0))) ∧ (w'.heap[s_.2]? = some (.cells #[.int .i64 0, .slice none 0 0] 24 (0, 0))) ∧ (w.heap.size ≤ s_.2) ∧ (w.heap.size ≤ s_.2) ∧ (gb101 ≠ s_.2) ∧ (s_.2 ≠ gb101) ∧ (gb102 ≠ s_.2) ∧ (s_.2 ≠ gb102) ∧ (Below w.heap.size w w')) ?_ ?_
     rotate_left
     ·intro hJ6_11
      refine join_ (σ := Value × Nat) 4 #[true, true, true, true, true, true, false, true, true, false, false, true, false] (fun s_ => [(21, s_.1), (5, .pointer (some ⟨s_.2, 0, none⟩))]) (fun s_ w' => (w'.cell? ⟨gb101, 0, none⟩ = some (.int .i64 a0_0) ∧ w'.cell? ⟨gb101, 1, none⟩ = some (.slice A0_1 l0_1.length c0_1)) ∧ (Kd.R (Kd.int .i64) 3 w' w.heap.size (fun _ => True) s_.1 y108) ∧ (w'.heap[gb101]? = some (.cells #[.int .i64 a0_0, .slice A0_1 l0_1.length c0_1] 24 (0, 0))) ∧ (w'.heap[gb102]? = some (.cells #[.int .i64 0, .slice none 0 0] 24 (0, 0))) ∧ (w'.heap[s_.2]? = some (.cells #[.int .i64 0, .slice none 0 0] 24 (0, 0))) ∧ (w.heap.size ≤ s_.2) ∧ (w.heap.size ≤ s_.2) ∧ (gb101 ≠ s_.2) ∧ (s_.2 ≠ gb101) ∧ (gb102 ≠ s_.2) ∧ (s_.2 ≠ gb102) ∧ (Below w.heap.size w w')) ?_ ?_
      rotate_left
      ·intro hJ8_11
       refine join_ (σ := Value) 5 #[true, true, true, true, true, true, true, true, false, false, false, false, false] (fun s_ => [(19, s_)]) (fun s_ w' => (w'.cell? ⟨gb101, 0, none⟩ = some (.int .i64 a0_0) ∧ w'.cell? ⟨gb101, 1, none⟩ = some (.slice A0_1 l0_1.length c0_1)) ∧ (Kd.R (Kd.int .i64) 3 w' w.heap.size (fun _ => True) s_ t105) ∧ (w'.heap[gb101]? = some (.cells #[.int .i64 a0_0, .slice A0_1 l0_1.length c0_1] 24 (0, 0))) ∧ (w'.heap[gb102]? = some (.cells #[.int .i64 0, .slice none 0 0] 24 (0, 0))) ∧ (Below w.heap.size w w')) ?_ ?_
       rotate_left
       ·intro hJ6
        refine join_ (σ := Value) 5 #[true, true, true, true, true, true, false, true, true, false, false, false, false] (fun s_ => [(21, s_)]) (fun s_ w' => (w'.cell? ⟨gb101, 0, none⟩ = some (.int .i64 a0_0) ∧ w'.cell? ⟨gb101, 1, none⟩ = some (.slice A0_1 l0_1.length c0_1)) ∧ (Kd.R (Kd.int .i64) 3 w' w.heap.size (fun _ => True) s_ y108) ∧ (w'.heap[gb101]? = some (.cells #[.int .i64 a0_0, .slice A0_1 l0_1.length c0_1] 24 (0, 0))) ∧ (w'.heap[gb102]? = some (.cells #[.int .i64 0, .slice none 0 0] 24 (0, 0))) ∧ (Below w.heap.size w w')) ?_ ?_
        rotate_left
        ·intro hJ8
         refine join_ (σ := Nat) 5 #[true, true, true, true, true, true, false, true, false, false, false, true, false] (fun s_ => [(5, .pointer (some ⟨s_, 0, none⟩))]) (fun s_ w' => (w'.cell? ⟨gb101, 0, none⟩ = some (.int .i64 a0_0) ∧ w'.cell? ⟨gb101, 1, none⟩ = some (.slice A0_1 l0_1.length c0_1)) ∧ (w'.heap[gb101]? = some (.cells #[.int .i64 a0_0, .slice A0_1 l0_1.length c0_1] 24 (0, 0))) ∧ (w'.heap[gb102]? = some (.cells #[.int .i64 0, .slice none 0 0] 24 (0, 0))) ∧ (w'.heap[s_]? = some (.cells #[.int .i64 0, .slice none 0 0] 24 (0, 0))) ∧ (w.heap.size ≤ s_) ∧ (w.heap.size ≤ s_) ∧ (gb101 ≠ s_) ∧ (s_ ≠ gb101) ∧ (gb102 ≠ s_) ∧ (s_ ≠ gb102) ∧ (Below w.heap.size w w')) ?_ ?_
         rotate_left
         ·intro hJ11
          refine three_ (i := 6) (j := 8) (k := 11) (Ni := some 19) (Nj := some 21) (Nk := some 5) #[true, true, true, true, true, true, true, true, false, false, false, false, false] #[true, true, true, true, true, true, false, true, true, false, false, false, false] #[true, true, true, true, true, true, false, true, false, false, false, true, false] rfl rfl rfl rfl rfl rfl (three_of HT_.out (by kernel_rfl)) (by decide) (by decide) (by decide) (fun K hK => ?_) (fun K hK => ?_) (fun K hK => ?_)
          ·skip
           refine gE Tryz.func49 #[.slice A0_1 l0_1.length c0_1] ?_
           with_reducible refine (spec_l1Own.calls _ _ l0_1 t105 _ ?side1 ?side2 A5.out).mono ?_
           (case side1 => have hx_ := (Kd.C_below HR0_1.out HB.out); exact cC)
           (case side2 => exact HC0_1.out)
           rintro e w16 ⟨v106, rfl, ho0, hb⟩
           refine ⟨_, rfl, ?_⟩
           have n0_ := Aside0.mk (Kd.R_lower ho0 (below_size (wB)))
           have n1_ := bP BK101 hb
           have n2_ := bP BK102 hb
           have n3_ := sQ hb
           clear BK101
           clear BK102
           clear HB
           have HO107 := n0_
           have BK101 := n1_
           have BK102 := n2_
           have HB := n3_
           clear n0_ n1_ n2_ n3_
           (try clear hb)
           (try clear hb2)
           (try clear hk)
           (try clear hi)
           (try clear ho0)
           refine hK.out _ _ ⟨(blk_cell BK101.out 0).trans rfl, (blk_cell BK101.out 1).trans rfl⟩ (fun hHeld => ?_)
           clear hK K
           refine nM ?_
           exact norm_ (by first | (simp only [putAll, Act.put, sA, sZ, sS]; done) | (simp only [putAll, Act.put, sA, sZ, sS]; rfl)) (hJ6 (v106) _ ⟨hHeld, (rQ HO107), (bQ BK101), (bQ BK102), (wB)⟩)
          ·skip
           refine Kd.R_lit_step (Kd.int .i64) _ 3 ?hg (N := 21) ?hd (xs := ([t104] : List Int)) (inner := [.int .i64 t104]) (ok := fun _ => True) (okp := fun _ => True) ?hr ?hp (fun _ hk => hk) trivial (Below.refl _ _) (Nat.le_refl _) (by simp) ?_; (case hd => rfl); (case hg => rfl); (case hr => first | (go_simp; done) | (go_simp; rfl)); (case hp => exact (Reps.one (show Kd.M (Kd.int .i64) _ _ _ t104 [.int .i64 t104] from rfl) (Reps.none _ _)))
           intro v109 w16 ho17 hb hg_ hnew_
           clear hg_ hnew_
           (first | rw [← Ny108.out] at ho17 | (simp only [Int.reduceToNat] at ho17; rw [← Ny108.out] at ho17))
           have n0_ := Aside0.mk (Kd.R_lower ho17 (below_size (wB)))
           have n1_ := bP BK101 hb
           have n2_ := bP BK102 hb
           have n3_ := sQ hb
           clear BK101
           clear BK102
           clear HB
           have HO110 := n0_
           have BK101 := n1_
           have BK102 := n2_
           have HB := n3_
           clear n0_ n1_ n2_ n3_
           clear hb ho17
           refine hK.out _ _ ⟨(blk_cell BK101.out 0).trans rfl, (blk_cell BK101.out 1).trans rfl⟩ (fun hHeld => ?_)
           clear hK K
           refine nM ?_
           exact norm_ (by first | (simp only [putAll, Act.put, sA, sZ, sS]; done) | (simp only [putAll, Act.put, sA, sZ, sS]; rfl)) (hJ8 (v109) _ ⟨hHeld, (rQ HO110), (bQ BK101), (bQ BK102), (wB)⟩)
          skip
          refine box_step ?hg (N := 5) ?hd (cs := #[.int .i64 0, .slice none 0 0]) (t := 24) ?hr ?_; (case hd => rfl); (case hg => rfl); (case hr => first | (go_simp; done) | (go_simp; rfl))
          intro gb114 hg w16 hbox hb
          have n0_ := bP BK101 hb
          have n1_ := bP BK102 hb
          have n2_ := sQ hb
          have n3_ := Aside0.mk (hbox)
          have n4_ := Aside0.mk ((by rw [hg]; exact (below_size (wB)) : w.heap.size ≤ gb114))
          have n5_ := Aside0.mk ((by rw [hg]; exact (below_size (wB)) : w.heap.size ≤ gb114))
          have n6_ := Aside0.mk ((by rw [hg]; exact Nat.ne_of_lt (blk_lt (g := gb101) (o := .cells #[.int .i64 a0_0, .slice A0_1 l0_1.length c0_1] 24 (0, 0)) (bQ BK101)) : gb101 ≠ gb114))
          have n7_ := Aside0.mk ((by rw [hg]; exact Nat.ne_of_gt (blk_lt (g := gb101) (o := .cells #[.int .i64 a0_0, .slice A0_1 l0_1.length c0_1] 24 (0, 0)) (bQ BK101)) : gb114 ≠ gb101))
          have n8_ := Aside0.mk ((by rw [hg]; exact Nat.ne_of_lt (blk_lt (g := gb102) (o := .cells #[.int .i64 0, .slice none 0 0] 24 (0, 0)) (bQ BK102)) : gb102 ≠ gb114))
          have n9_ := Aside0.mk ((by rw [hg]; exact Nat.ne_of_gt (blk_lt (g := gb102) (o := .cells #[.int .i64 0, .slice none 0 0] 24 (0, 0)) (bQ BK102)) : gb114 ≠ gb102))
          clear BK101
          clear BK102
          clear HB
          have BK101 := n0_
          have BK102 := n1_
          have HB := n2_
          have BK114 := n3_
          have GW114 := n4_
          have GE114 := n5_
          have NB101_114 := n6_
          have NB114_101 := n7_
          have NB102_114 := n8_
          have NB114_102 := n9_
          clear n0_ n1_ n2_ n3_ n4_ n5_ n6_ n7_ n8_ n9_
          clear hb hg
          refine hK.out _ _ ⟨(blk_cell BK101.out 0).trans rfl, (blk_cell BK101.out 1).trans rfl⟩ (fun hHeld => ?_)
          clear hK K
          refine nM ?_
          exact norm_ (by first | (simp only [putAll, Act.put, sA, sZ, sS]; done) | (simp only [putAll, Act.put, sA, sZ, sS]; rfl)) (hJ11 (gb114) _ ⟨hHeld, (bQ BK101), (bQ BK102), (bQ BK114), GW114.out, GE114.out, NB101_114.out, NB114_101.out, NB102_114.out, NB114_102.out, (wB)⟩)
         skip
         rintro gb114 w17 ⟨hS_, h0_, h1_, h2_, h3_, h4_, h5_, h6_, h7_, h8_, h9_⟩
         have n0_ : Aside0 (w17.heap[gb101]? = some (.cells #[.int .i64 a0_0, .slice A0_1 l0_1.length c0_1] 24 (0, 0))) := ⟨h0_⟩
         have n1_ : Aside0 (w17.heap[gb102]? = some (.cells #[.int .i64 0, .slice none 0 0] 24 (0, 0))) := ⟨h1_⟩
         have n2_ : Aside0 (w17.heap[gb114]? = some (.cells #[.int .i64 0, .slice none 0 0] 24 (0, 0))) := ⟨h2_⟩
         have n3_ : Aside0 (w.heap.size ≤ gb114) := ⟨h3_⟩
         have n4_ : Aside0 (w.heap.size ≤ gb114) := ⟨h4_⟩
         have n5_ : Aside0 (gb101 ≠ gb114) := ⟨h5_⟩
         have n6_ : Aside0 (gb114 ≠ gb101) := ⟨h6_⟩
         have n7_ : Aside0 (gb102 ≠ gb114) := ⟨h7_⟩
         have n8_ : Aside0 (gb114 ≠ gb102) := ⟨h8_⟩
         have n9_ : Aside0 (Below w.heap.size w w17) := ⟨h9_⟩
         clear BK101
         clear BK102
         clear HB
         clear h0_ h1_ h2_ h3_ h4_ h5_ h6_ h7_ h8_ h9_
         have BK101 := n0_
         have BK102 := n1_
         have BK114 := n2_
         have GW114 := n3_
         have GE114 := n4_
         have NB101_114 := n5_
         have NB114_101 := n6_
         have NB102_114 := n7_
         have NB114_102 := n8_
         have HB := n9_
         clear n0_ n1_ n2_ n3_ n4_ n5_ n6_ n7_ n8_ n9_
         have hHeld : w17.cell? ⟨gb101, 0, none⟩ = some (.int .i64 a0_0) ∧ w17.cell? ⟨gb101, 1, none⟩ = some (.slice A0_1 l0_1.length c0_1) := hS_
         refine norm_ (a' := ?_) ?_ ?_
         rotate_left
         ·simp only [putAll, Act.put, sA, sZ, sS]
          rfl
         refine two_ (i := 6) (j := 8) (Ni := some 19) (Nj := some 21) #[true, true, true, true, true, true, true, true, false, false, false, true, false] #[true, true, true, true, true, true, false, true, true, false, false, true, false] rfl rfl rfl rfl (two_of HT_.out (by kernel_rfl)) (by decide) (by decide) (fun K hK => ?_) (fun K hK => ?_)
         ·skip
          refine gE Tryz.func49 #[.slice A0_1 l0_1.length c0_1] ?_
          with_reducible refine (spec_l1Own.calls _ _ l0_1 t105 _ ?side1 ?side2 A5.out).mono ?_
          (case side1 => have hx_ := (Kd.C_below HR0_1.out HB.out); exact cC)
          (case side2 => exact HC0_1.out)
          rintro e w18 ⟨v106, rfl, ho0, hb⟩
          refine ⟨_, rfl, ?_⟩
          have n0_ := Aside0.mk (Kd.R_lower ho0 (below_size (wB)))
          have n1_ := bP BK101 hb
          have n2_ := bP BK102 hb
          have n3_ := bP BK114 hb
          have n4_ := sQ hb
          clear BK101
          clear BK102
          clear BK114
          clear HB
          have HO107 := n0_
          have BK101 := n1_
          have BK102 := n2_
          have BK114 := n3_
          have HB := n4_
          clear n0_ n1_ n2_ n3_ n4_
          (try clear hb)
          (try clear hb2)
          (try clear hk)
          (try clear hi)
          (try clear ho0)
          refine hK.out _ _ ⟨(blk_cell BK101.out 0).trans rfl, (blk_cell BK101.out 1).trans rfl⟩ (fun hHeld => ?_)
          clear hK K
          refine nM ?_
          exact norm_ (by first | (simp only [putAll, Act.put, sA, sZ, sS]; done) | (simp only [putAll, Act.put, sA, sZ, sS]; rfl)) (hJ6_11 (v106, gb114) _ ⟨hHeld, (rQ HO107), (bQ BK101), (bQ BK102), (bQ BK114), GW114.out, GE114.out, NB101_114.out, NB114_101.out, NB102_114.out, NB114_102.out, (wB)⟩)
         skip
         refine Kd.R_lit_step (Kd.int .i64) _ 3 ?hg (N := 21) ?hd (xs := ([t104] : List Int)) (inner := [.int .i64 t104]) (ok := fun _ => True) (okp := fun _ => True) ?hr ?hp (fun _ hk => hk) trivial (Below.refl _ _) (Nat.le_refl _) (by simp) ?_; (case hd => rfl); (case hg => rfl); (case hr => first | (go_simp; done) | (go_simp; rfl)); (case hp => exact (Reps.one (show Kd.M (Kd.int .i64) _ _ _ t104 [.int .i64 t104] from rfl) (Reps.none _ _)))
         intro v109 w18 ho19 hb hg_ hnew_
         clear hg_ hnew_
         (first | rw [← Ny108.out] at ho19 | (simp only [Int.reduceToNat] at ho19; rw [← Ny108.out] at ho19))
         have n0_ := Aside0.mk (Kd.R_lower ho19 (below_size (wB)))
         have n1_ := bP BK101 hb
         have n2_ := bP BK102 hb
         have n3_ := bP BK114 hb
         have n4_ := sQ hb
         clear BK101
         clear BK102
         clear BK114
         clear HB
         have HO110 := n0_
         have BK101 := n1_
         have BK102 := n2_
         have BK114 := n3_
         have HB := n4_
         clear n0_ n1_ n2_ n3_ n4_
         clear hb ho19
         refine hK.out _ _ ⟨(blk_cell BK101.out 0).trans rfl, (blk_cell BK101.out 1).trans rfl⟩ (fun hHeld => ?_)
         clear hK K
         refine nM ?_
         exact norm_ (by first | (simp only [putAll, Act.put, sA, sZ, sS]; done) | (simp only [putAll, Act.put, sA, sZ, sS]; rfl)) (hJ8_11 (v109, gb114) _ ⟨hHeld, (rQ HO110), (bQ BK101), (bQ BK102), (bQ BK114), GW114.out, GE114.out, NB101_114.out, NB114_101.out, NB102_114.out, NB114_102.out, (wB)⟩)
        skip
        rintro v109 w18 ⟨hS_, h0_, h1_, h2_, h3_⟩
        have n0_ : Aside0 (Kd.R (Kd.int .i64) 3 w18 w.heap.size (fun _ => True) v109 y108) := ⟨h0_⟩
        have n1_ : Aside0 (w18.heap[gb101]? = some (.cells #[.int .i64 a0_0, .slice A0_1 l0_1.length c0_1] 24 (0, 0))) := ⟨h1_⟩
        have n2_ : Aside0 (w18.heap[gb102]? = some (.cells #[.int .i64 0, .slice none 0 0] 24 (0, 0))) := ⟨h2_⟩
        have n3_ : Aside0 (Below w.heap.size w w18) := ⟨h3_⟩
        clear BK101
        clear BK102
        clear HB
        clear h0_ h1_ h2_ h3_
        have HO110 := n0_
        have BK101 := n1_
        have BK102 := n2_
        have HB := n3_
        clear n0_ n1_ n2_ n3_
        have hHeld : w18.cell? ⟨gb101, 0, none⟩ = some (.int .i64 a0_0) ∧ w18.cell? ⟨gb101, 1, none⟩ = some (.slice A0_1 l0_1.length c0_1) := hS_
        refine norm_ (a' := ?_) ?_ ?_
        rotate_left
        ·simp only [putAll, Act.put, sA, sZ, sS]
         rfl
        refine two_ (i := 6) (j := 11) (Ni := some 19) (Nj := some 5) #[true, true, true, true, true, true, true, true, true, false, false, false, false] #[true, true, true, true, true, true, false, true, true, false, false, true, false] rfl rfl rfl rfl (two_of HT_.out (by kernel_rfl)) (by decide) (by decide) (fun K hK => ?_) (fun K hK => ?_)
        ·skip
         refine gE Tryz.func49 #[.slice A0_1 l0_1.length c0_1] ?_
         with_reducible refine (spec_l1Own.calls _ _ l0_1 t105 _ ?side1 ?side2 A5.out).mono ?_
         (case side1 => have hx_ := (Kd.C_below HR0_1.out HB.out); exact cC)
         (case side2 => exact HC0_1.out)
         rintro e w19 ⟨v106, rfl, ho0, hb⟩
         refine ⟨_, rfl, ?_⟩
         have n0_ := rE HO110 (Kd.R_base ho0) hb
         have n1_ := Aside0.mk (Kd.R_lower (Kd.R_new' ho0 (Kd.R_lt (rQ HO110))) (below_size (wB)))
         have n2_ := bP BK101 hb
         have n3_ := bP BK102 hb
         have n4_ := sQ hb
         clear HO110
         clear BK101
         clear BK102
         clear HB
         have HO110 := n0_
         have HO107 := n1_
         have BK101 := n2_
         have BK102 := n3_
         have HB := n4_
         clear n0_ n1_ n2_ n3_ n4_
         (try clear hb)
         (try clear hb2)
         (try clear hk)
         (try clear hi)
         (try clear ho0)
         refine hK.out _ _ ⟨(blk_cell BK101.out 0).trans rfl, (blk_cell BK101.out 1).trans rfl⟩ (fun hHeld => ?_)
         clear hK K
         refine nM ?_
         exact norm_ (by first | (simp only [putAll, Act.put, sA, sZ, sS]; done) | (simp only [putAll, Act.put, sA, sZ, sS]; rfl)) (hJ6_8 (v106, v109) _ ⟨hHeld, (by (try refine rp ?_); exact Kd.R_mono HO107.out (fun _ hk => hk.2)), (by (try refine rp ?_); exact Kd.R_mono HO110.out (fun _ hk => hk.2)), (bQ BK101), (bQ BK102), (wB)⟩)
        skip
        refine box_step ?hg (N := 5) ?hd (cs := #[.int .i64 0, .slice none 0 0]) (t := 24) ?hr ?_; (case hd => rfl); (case hg => rfl); (case hr => first | (go_simp; done) | (go_simp; rfl))
        intro gb114 hg w19 hbox hb
        have n0_ := rP HO110 hb
        have n1_ := bP BK101 hb
        have n2_ := bP BK102 hb
        have n3_ := sQ hb
        have n4_ := Aside0.mk (hbox)
        have n5_ := Aside0.mk ((by rw [hg]; exact (below_size (wB)) : w.heap.size ≤ gb114))
        have n6_ := Aside0.mk ((by rw [hg]; exact (below_size (wB)) : w.heap.size ≤ gb114))
        have n7_ := Aside0.mk ((by rw [hg]; exact Nat.ne_of_lt (blk_lt (g := gb101) (o := .cells #[.int .i64 a0_0, .slice A0_1 l0_1.length c0_1] 24 (0, 0)) (bQ BK101)) : gb101 ≠ gb114))
        have n8_ := Aside0.mk ((by rw [hg]; exact Nat.ne_of_gt (blk_lt (g := gb101) (o := .cells #[.int .i64 a0_0, .slice A0_1 l0_1.length c0_1] 24 (0, 0)) (bQ BK101)) : gb114 ≠ gb101))
        have n9_ := Aside0.mk ((by rw [hg]; exact Nat.ne_of_lt (blk_lt (g := gb102) (o := .cells #[.int .i64 0, .slice none 0 0] 24 (0, 0)) (bQ BK102)) : gb102 ≠ gb114))
        have n10_ := Aside0.mk ((by rw [hg]; exact Nat.ne_of_gt (blk_lt (g := gb102) (o := .cells #[.int .i64 0, .slice none 0 0] 24 (0, 0)) (bQ BK102)) : gb114 ≠ gb102))
        clear HO110
        clear BK101
        clear BK102
        clear HB
        have HO110 := n0_
        have BK101 := n1_
        have BK102 := n2_
        have HB := n3_
        have BK114 := n4_
        have GW114 := n5_
        have GE114 := n6_
        have NB101_114 := n7_
        have NB114_101 := n8_
        have NB102_114 := n9_
        have NB114_102 := n10_
        clear n0_ n1_ n2_ n3_ n4_ n5_ n6_ n7_ n8_ n9_ n10_
        clear hb hg
        refine hK.out _ _ ⟨(blk_cell BK101.out 0).trans rfl, (blk_cell BK101.out 1).trans rfl⟩ (fun hHeld => ?_)
        clear hK K
        refine nM ?_
        exact norm_ (by first | (simp only [putAll, Act.put, sA, sZ, sS]; done) | (simp only [putAll, Act.put, sA, sZ, sS]; rfl)) (hJ8_11 (v109, gb114) _ ⟨hHeld, (rQ HO110), (bQ BK101), (bQ BK102), (bQ BK114), GW114.out, GE114.out, NB101_114.out, NB114_101.out, NB102_114.out, NB114_102.out, (wB)⟩)
       skip
       rintro v106 w17 ⟨hS_, h0_, h1_, h2_, h3_⟩
       have n0_ : Aside0 (Kd.R (Kd.int .i64) 3 w17 w.heap.size (fun _ => True) v106 t105) := ⟨h0_⟩
       have n1_ : Aside0 (w17.heap[gb101]? = some (.cells #[.int .i64 a0_0, .slice A0_1 l0_1.length c0_1] 24 (0, 0))) := ⟨h1_⟩
       have n2_ : Aside0 (w17.heap[gb102]? = some (.cells #[.int .i64 0, .slice none 0 0] 24 (0, 0))) := ⟨h2_⟩
       have n3_ : Aside0 (Below w.heap.size w w17) := ⟨h3_⟩
       clear BK101
       clear BK102
       clear HB
       clear h0_ h1_ h2_ h3_
       have HO107 := n0_
       have BK101 := n1_
       have BK102 := n2_
       have HB := n3_
       clear n0_ n1_ n2_ n3_
       have hHeld : w17.cell? ⟨gb101, 0, none⟩ = some (.int .i64 a0_0) ∧ w17.cell? ⟨gb101, 1, none⟩ = some (.slice A0_1 l0_1.length c0_1) := hS_
       refine norm_ (a' := ?_) ?_ ?_
       rotate_left
       ·simp only [putAll, Act.put, sA, sZ, sS]
        rfl
       refine two_ (i := 8) (j := 11) (Ni := some 21) (Nj := some 5) #[true, true, true, true, true, true, true, true, true, false, false, false, false] #[true, true, true, true, true, true, true, true, false, false, false, true, false] rfl rfl rfl rfl (two_of HT_.out (by kernel_rfl)) (by decide) (by decide) (fun K hK => ?_) (fun K hK => ?_)
       ·skip
        refine Kd.R_lit_step (Kd.int .i64) _ 3 ?hg (N := 21) ?hd (xs := ([t104] : List Int)) (inner := [.int .i64 t104]) (ok := fun _ => True) (okp := fun _ => True) ?hr ?hp (fun _ hk => hk) trivial (Below.refl _ _) (Nat.le_refl _) (by simp) ?_; (case hd => rfl); (case hg => rfl); (case hr => first | (go_simp; done) | (go_simp; rfl)); (case hp => exact (Reps.one (show Kd.M (Kd.int .i64) _ _ _ t104 [.int .i64 t104] from rfl) (Reps.none _ _)))
        intro v109 w18 ho19 hb hg_ hnew_
        clear hg_ hnew_
        (first | rw [← Ny108.out] at ho19 | (simp only [Int.reduceToNat] at ho19; rw [← Ny108.out] at ho19))
        have n0_ := rE HO107 (Kd.R_base ho19) hb
        have n1_ := Aside0.mk (Kd.R_lower (Kd.R_new' ho19 (Kd.R_lt (rQ HO107))) (below_size (wB)))
        have n2_ := bP BK101 hb
        have n3_ := bP BK102 hb
        have n4_ := sQ hb
        clear HO107
        clear BK101
        clear BK102
        clear HB
        have HO107 := n0_
        have HO110 := n1_
        have BK101 := n2_
        have BK102 := n3_
        have HB := n4_
        clear n0_ n1_ n2_ n3_ n4_
        clear hb ho19
        refine hK.out _ _ ⟨(blk_cell BK101.out 0).trans rfl, (blk_cell BK101.out 1).trans rfl⟩ (fun hHeld => ?_)
        clear hK K
        refine nM ?_
        exact norm_ (by first | (simp only [putAll, Act.put, sA, sZ, sS]; done) | (simp only [putAll, Act.put, sA, sZ, sS]; rfl)) (hJ6_8 (v106, v109) _ ⟨hHeld, (by (try refine rp ?_); exact Kd.R_mono HO107.out (fun _ hk => hk.2)), (by (try refine rp ?_); exact Kd.R_mono HO110.out (fun _ hk => hk.2)), (bQ BK101), (bQ BK102), (wB)⟩)
       skip
       refine box_step ?hg (N := 5) ?hd (cs := #[.int .i64 0, .slice none 0 0]) (t := 24) ?hr ?_; (case hd => rfl); (case hg => rfl); (case hr => first | (go_simp; done) | (go_simp; rfl))
       intro gb114 hg w18 hbox hb
       have n0_ := rP HO107 hb
       have n1_ := bP BK101 hb
       have n2_ := bP BK102 hb
       have n3_ := sQ hb
       have n4_ := Aside0.mk (hbox)
       have n5_ := Aside0.mk ((by rw [hg]; exact (below_size (wB)) : w.heap.size ≤ gb114))
       have n6_ := Aside0.mk ((by rw [hg]; exact (below_size (wB)) : w.heap.size ≤ gb114))
       have n7_ := Aside0.mk ((by rw [hg]; exact Nat.ne_of_lt (blk_lt (g := gb101) (o := .cells #[.int .i64 a0_0, .slice A0_1 l0_1.length c0_1] 24 (0, 0)) (bQ BK101)) : gb101 ≠ gb114))
       have n8_ := Aside0.mk ((by rw [hg]; exact Nat.ne_of_gt (blk_lt (g := gb101) (o := .cells #[.int .i64 a0_0, .slice A0_1 l0_1.length c0_1] 24 (0, 0)) (bQ BK101)) : gb114 ≠ gb101))
       have n9_ := Aside0.mk ((by rw [hg]; exact Nat.ne_of_lt (blk_lt (g := gb102) (o := .cells #[.int .i64 0, .slice none 0 0] 24 (0, 0)) (bQ BK102)) : gb102 ≠ gb114))
       have n10_ := Aside0.mk ((by rw [hg]; exact Nat.ne_of_gt (blk_lt (g := gb102) (o := .cells #[.int .i64 0, .slice none 0 0] 24 (0, 0)) (bQ BK102)) : gb114 ≠ gb102))
       clear HO107
       clear BK101
       clear BK102
       clear HB
       have HO107 := n0_
       have BK101 := n1_
       have BK102 := n2_
       have HB := n3_
       have BK114 := n4_
       have GW114 := n5_
       have GE114 := n6_
       have NB101_114 := n7_
       have NB114_101 := n8_
       have NB102_114 := n9_
       have NB114_102 := n10_
       clear n0_ n1_ n2_ n3_ n4_ n5_ n6_ n7_ n8_ n9_ n10_
       clear hb hg
       refine hK.out _ _ ⟨(blk_cell BK101.out 0).trans rfl, (blk_cell BK101.out 1).trans rfl⟩ (fun hHeld => ?_)
       clear hK K
       refine nM ?_
       exact norm_ (by first | (simp only [putAll, Act.put, sA, sZ, sS]; done) | (simp only [putAll, Act.put, sA, sZ, sS]; rfl)) (hJ6_11 (v106, gb114) _ ⟨hHeld, (rQ HO107), (bQ BK101), (bQ BK102), (bQ BK114), GW114.out, GE114.out, NB101_114.out, NB114_101.out, NB102_114.out, NB114_102.out, (wB)⟩)
      skip
      rintro ⟨v109, gb114⟩ w19 ⟨hS_, h0_, h1_, h2_, h3_, h4_, h5_, h6_, h7_, h8_, h9_, h10_⟩
      have n0_ : Aside0 (Kd.R (Kd.int .i64) 3 w19 w.heap.size (fun _ => True) v109 y108) := ⟨h0_⟩
      have n1_ : Aside0 (w19.heap[gb101]? = some (.cells #[.int .i64 a0_0, .slice A0_1 l0_1.length c0_1] 24 (0, 0))) := ⟨h1_⟩
      have n2_ : Aside0 (w19.heap[gb102]? = some (.cells #[.int .i64 0, .slice none 0 0] 24 (0, 0))) := ⟨h2_⟩
      have n3_ : Aside0 (w19.heap[gb114]? = some (.cells #[.int .i64 0, .slice none 0 0] 24 (0, 0))) := ⟨h3_⟩
      have n4_ : Aside0 (w.heap.size ≤ gb114) := ⟨h4_⟩
      have n5_ : Aside0 (w.heap.size ≤ gb114) := ⟨h5_⟩
      have n6_ : Aside0 (gb101 ≠ gb114) := ⟨h6_⟩
      have n7_ : Aside0 (gb114 ≠ gb101) := ⟨h7_⟩
      have n8_ : Aside0 (gb102 ≠ gb114) := ⟨h8_⟩
      have n9_ : Aside0 (gb114 ≠ gb102) := ⟨h9_⟩
      have n10_ : Aside0 (Below w.heap.size w w19) := ⟨h10_⟩
      clear BK101
      clear BK102
      clear HB
      clear h0_ h1_ h2_ h3_ h4_ h5_ h6_ h7_ h8_ h9_ h10_
      have HO110 := n0_
      have BK101 := n1_
      have BK102 := n2_
      have BK114 := n3_
      have GW114 := n4_
      have GE114 := n5_
      have NB101_114 := n6_
      have NB114_101 := n7_
      have NB102_114 := n8_
      have NB114_102 := n9_
      have HB := n10_
      clear n0_ n1_ n2_ n3_ n4_ n5_ n6_ n7_ n8_ n9_ n10_
      have hHeld : w19.cell? ⟨gb101, 0, none⟩ = some (.int .i64 a0_0) ∧ w19.cell? ⟨gb101, 1, none⟩ = some (.slice A0_1 l0_1.length c0_1) := hS_
      refine norm_ (a' := ?_) ?_ ?_
      rotate_left
      ·simp only [putAll, Act.put, sA, sZ, sS]
       rfl
      refine oN 6 HT_ (fun K hK => ?_)
      refine gE Tryz.func49 #[.slice A0_1 l0_1.length c0_1] ?_
      with_reducible refine (spec_l1Own.calls _ _ l0_1 t105 _ ?side1 ?side2 A5.out).mono ?_
      (case side1 => have hx_ := (Kd.C_below HR0_1.out HB.out); exact cC)
      (case side2 => exact HC0_1.out)
      rintro e w20 ⟨v106, rfl, ho0, hb⟩
      refine ⟨_, rfl, ?_⟩
      have n0_ := rE HO110 (Kd.R_base ho0) hb
      have n1_ := Aside0.mk (Kd.R_lower (Kd.R_new' ho0 (Kd.R_lt (rQ HO110))) (below_size (wB)))
      have n2_ := bP BK101 hb
      have n3_ := bP BK102 hb
      have n4_ := bP BK114 hb
      have n5_ := sQ hb
      clear HO110
      clear BK101
      clear BK102
      clear BK114
      clear HB
      have HO110 := n0_
      have HO107 := n1_
      have BK101 := n2_
      have BK102 := n3_
      have BK114 := n4_
      have HB := n5_
      clear n0_ n1_ n2_ n3_ n4_ n5_
      (try clear hb)
      (try clear hb2)
      (try clear hk)
      (try clear hi)
      (try clear ho0)
      refine hK.out _ _ ⟨(blk_cell BK101.out 0).trans rfl, (blk_cell BK101.out 1).trans rfl⟩ (fun hHeld => ?_)
      clear hK K
      refine nM ?_
      exact norm_ (by first | (simp only [putAll, Act.put, sA, sZ, sS]; done) | (simp only [putAll, Act.put, sA, sZ, sS]; rfl)) (hJ6_8_11 (v106, _, gb114) _ ⟨hHeld, (by (try refine rp ?_); exact Kd.R_mono HO107.out (fun _ hk => hk.2)), (by (try refine rp ?_); exact Kd.R_mono HO110.out (fun _ hk => hk.2)), (bQ BK101), (bQ BK102), (bQ BK114), GW114.out, GE114.out, NB101_114.out, NB114_101.out, NB102_114.out, NB114_102.out, (wB)⟩)
     skip
     rintro ⟨v106, gb114⟩ w18 ⟨hS_, h0_, h1_, h2_, h3_, h4_, h5_, h6_, h7_, h8_, h9_, h10_⟩
     have n0_ : Aside0 (Kd.R (Kd.int .i64) 3 w18 w.heap.size (fun _ => True) v106 t105) := ⟨h0_⟩
     have n1_ : Aside0 (w18.heap[gb101]? = some (.cells #[.int .i64 a0_0, .slice A0_1 l0_1.length c0_1] 24 (0, 0))) := ⟨h1_⟩
     have n2_ : Aside0 (w18.heap[gb102]? = some (.cells #[.int .i64 0, .slice none 0 0] 24 (0, 0))) := ⟨h2_⟩
     have n3_ : Aside0 (w18.heap[gb114]? = some (.cells #[.int .i64 0, .slice none 0 0] 24 (0, 0))) := ⟨h3_⟩
     have n4_ : Aside0 (w.heap.size ≤ gb114) := ⟨h4_⟩
     have n5_ : Aside0 (w.heap.size ≤ gb114) := ⟨h5_⟩
     have n6_ : Aside0 (gb101 ≠ gb114) := ⟨h6_⟩
     have n7_ : Aside0 (gb114 ≠ gb101) := ⟨h7_⟩
     have n8_ : Aside0 (gb102 ≠ gb114) := ⟨h8_⟩
     have n9_ : Aside0 (gb114 ≠ gb102) := ⟨h9_⟩
     have n10_ : Aside0 (Below w.heap.size w w18) := ⟨h10_⟩
     clear BK101
     clear BK102
     clear HB
     clear h0_ h1_ h2_ h3_ h4_ h5_ h6_ h7_ h8_ h9_ h10_
     have HO107 := n0_
     have BK101 := n1_
     have BK102 := n2_
     have BK114 := n3_
     have GW114 := n4_
     have GE114 := n5_
     have NB101_114 := n6_
     have NB114_101 := n7_
     have NB102_114 := n8_
     have NB114_102 := n9_
     have HB := n10_
     clear n0_ n1_ n2_ n3_ n4_ n5_ n6_ n7_ n8_ n9_ n10_
     have hHeld : w18.cell? ⟨gb101, 0, none⟩ = some (.int .i64 a0_0) ∧ w18.cell? ⟨gb101, 1, none⟩ = some (.slice A0_1 l0_1.length c0_1) := hS_
     refine norm_ (a' := ?_) ?_ ?_
     rotate_left
     ·simp only [putAll, Act.put, sA, sZ, sS]
      rfl
     refine oN 8 HT_ (fun K hK => ?_)
     refine Kd.R_lit_step (Kd.int .i64) _ 3 ?hg (N := 21) ?hd (xs := ([t104] : List Int)) (inner := [.int .i64 t104]) (ok := fun _ => True) (okp := fun _ => True) ?hr ?hp (fun _ hk => hk) trivial (Below.refl _ _) (Nat.le_refl _) (by simp) ?_; (case hd => rfl); (case hg => rfl); (case hr => first | (go_simp; done) | (go_simp; rfl)); (case hp => exact (Reps.one (show Kd.M (Kd.int .i64) _ _ _ t104 [.int .i64 t104] from rfl) (Reps.none _ _)))
     intro v109 w19 ho20 hb hg_ hnew_
     clear hg_ hnew_
     (first | rw [← Ny108.out] at ho20 | (simp only [Int.reduceToNat] at ho20; rw [← Ny108.out] at ho20))
     have n0_ := rE HO107 (Kd.R_base ho20) hb
     have n1_ := Aside0.mk (Kd.R_lower (Kd.R_new' ho20 (Kd.R_lt (rQ HO107))) (below_size (wB)))
     have n2_ := bP BK101 hb
     have n3_ := bP BK102 hb
     have n4_ := bP BK114 hb
     have n5_ := sQ hb
     clear HO107
     clear BK101
     clear BK102
     clear BK114
     clear HB
     have HO107 := n0_
     have HO110 := n1_
     have BK101 := n2_
     have BK102 := n3_
     have BK114 := n4_
     have HB := n5_
     clear n0_ n1_ n2_ n3_ n4_ n5_
     clear hb ho20
     refine hK.out _ _ ⟨(blk_cell BK101.out 0).trans rfl, (blk_cell BK101.out 1).trans rfl⟩ (fun hHeld => ?_)
     clear hK K
     refine nM ?_
     exact norm_ (by first | (simp only [putAll, Act.put, sA, sZ, sS]; done) | (simp only [putAll, Act.put, sA, sZ, sS]; rfl)) (hJ6_8_11 (v106, _, gb114) _ ⟨hHeld, (by (try refine rp ?_); exact Kd.R_mono HO107.out (fun _ hk => hk.2)), (by (try refine rp ?_); exact Kd.R_mono HO110.out (fun _ hk => hk.2)), (bQ BK101), (bQ BK102), (bQ BK114), GW114.out, GE114.out, NB101_114.out, NB114_101.out, NB102_114.out, NB114_102.out, (wB)⟩)
    skip
    rintro ⟨v106, v109⟩ w19 ⟨hS_, h0_, h1_, h2_, h3_, h4_⟩
    have n0_ : Aside0 (Kd.R (Kd.int .i64) 3 w19 w.heap.size (fun k_ => nb v109 k_) v106 t105) := ⟨h0_⟩
    have n1_ : Aside0 (Kd.R (Kd.int .i64) 3 w19 w.heap.size (fun k_ => nb v106 k_) v109 y108) := ⟨h1_⟩
    have n2_ : Aside0 (w19.heap[gb101]? = some (.cells #[.int .i64 a0_0, .slice A0_1 l0_1.length c0_1] 24 (0, 0))) := ⟨h2_⟩
    have n3_ : Aside0 (w19.heap[gb102]? = some (.cells #[.int .i64 0, .slice none 0 0] 24 (0, 0))) := ⟨h3_⟩
    have n4_ : Aside0 (Below w.heap.size w w19) := ⟨h4_⟩
    clear BK101
    clear BK102
    clear HB
    clear h0_ h1_ h2_ h3_ h4_
    have HO107 := n0_
    have HO110 := n1_
    have BK101 := n2_
    have BK102 := n3_
    have HB := n4_
    clear n0_ n1_ n2_ n3_ n4_
    have hHeld : w19.cell? ⟨gb101, 0, none⟩ = some (.int .i64 a0_0) ∧ w19.cell? ⟨gb101, 1, none⟩ = some (.slice A0_1 l0_1.length c0_1) := hS_
    obtain ⟨Ao21, co21, eo21⟩ := Kd.R_slice HO110.out
    (first | subst eo21 | (injection eo21 with f1_ f2_ f3_; have f4_ := f1_.symm; have f5_ := f3_.symm; clear f1_ f2_ f3_; subst f4_; subst f5_))
    refine norm_ (a' := ?_) ?_ ?_
    rotate_left
    ·simp only [putAll, Act.put, sA, sZ, sS]
     rfl
    refine two_ (i := 9) (j := 11) (Ni := some 22) (Nj := some 5) #[true, true, true, true, true, true, true, true, true, true, false, false, false] #[true, true, true, true, true, true, true, true, true, false, false, true, false] rfl rfl rfl rfl (two_of HT_.out (by kernel_rfl)) (by decide) (by decide) (fun K hK => ?_) (fun K hK => ?_)
    ·skip
     refine Kd.R_append_rows_step (Kd.int .i64) (w0 := w) w.heap.size (by rfl) (.tmp 19) (.tmp 21) 22 3 (.int .i64 0) 8 rfl Tryz.underlying22 info3 rfl (by decide) (by omega) v106 t105 y108 _ _ _ (fun k_ => nb (.slice Ao21 y108.length co21) k_) (fun _ => False) rfl rfl ?aO ?aR (fun _ _ h => h) (fun _ h => h.elim) ?aF ?aB ?aS ?aL ?_
     (case aR => repeat (first | exact (Kd.R_reads' HO110.out).2.2 | (with_reducible refine Kd.C_alloc ?_ _) | (with_reducible refine Kd.C_drewN ?_ _) | (with_reducible refine Kd.C_drew ?_)))
     (case aB => exact (wB))
     (case aF => exact (fun k_ hk => Kd.fresh' (Kd.R_lt (rQ HO110)) k_ hk))
     (case aO => exact (rQ HO107))
     (case aS => exact (below_size (wB)))
     (case aL => have := LMc6.out; omega)
     intro v112 w20 ho hb hg hat
     rw [← Ny111.out] at ho
     have n0_ := Aside0.mk (blk_grown (g := gb101) (o := .cells #[.int .i64 a0_0, .slice A0_1 l0_1.length c0_1] 24 (0, 0)) (bQ BK101) hg (Kd.R_ne HO107.out BK101.out (by decide)))
     have n1_ := Aside0.mk (blk_grown (g := gb102) (o := .cells #[.int .i64 0, .slice none 0 0] 24 (0, 0)) (bQ BK102) hg (Kd.R_ne HO107.out BK102.out (by decide)))
     have n2_ := Aside0.mk (Kd.R_after (ok := (fun _ => True)) (by (try refine rp ?_); exact Kd.R_mono HO110.out (fun _ hk => ⟨trivial, hk⟩)) hg hat)
     have n3_ := Aside0.mk (hb)
     have n4_ := Aside0.mk (ho)
     clear BK101
     clear BK102
     clear HO110
     clear HB
     clear HO107
     have BK101 := n0_
     have BK102 := n1_
     have HO110 := n2_
     have HB := n3_
     have HO113 := n4_
     clear n0_ n1_ n2_ n3_ n4_
     clear ho hb hg hat
     obtain ⟨Ao22, co22, eo22⟩ := Kd.R_slice HO113.out
     (first | subst eo22 | (injection eo22 with f1_ f2_ f3_; have f4_ := f1_.symm; have f5_ := f3_.symm; clear f1_ f2_ f3_; subst f4_; subst f5_))
     refine hK.out _ _ ⟨(blk_cell BK101.out 0).trans rfl, (blk_cell BK101.out 1).trans rfl⟩ (fun hHeld => ?_)
     clear hK K
     refine nM ?_
     refine pU 10 HT_ ?_
     exact norm_ (by first | (simp only [putAll, Act.put, sA, sZ, sS]; done) | (simp only [putAll, Act.put, sA, sZ, sS]; rfl)) (hJ6_8_9 (v106, .slice Ao21 y108.length co21, .slice Ao22 y111.length co22) _ ⟨hHeld, (by (try refine rp ?_); exact Kd.R_mono HO110.out (fun _ hk => hk.2)), (rQ HO113), (bQ BK101), (bQ BK102), (wB)⟩)
    skip
    refine box_step ?hg (N := 5) ?hd (cs := #[.int .i64 0, .slice none 0 0]) (t := 24) ?hr ?_; (case hd => rfl); (case hg => rfl); (case hr => first | (go_simp; done) | (go_simp; rfl))
    intro gb114 hg w20 hbox hb
    have n0_ := rP HO107 hb
    have n1_ := rP HO110 hb
    have n2_ := bP BK101 hb
    have n3_ := bP BK102 hb
    have n4_ := sQ hb
    have n5_ := Aside0.mk (hbox)
    have n6_ := Aside0.mk ((by rw [hg]; exact (below_size (wB)) : w.heap.size ≤ gb114))
    have n7_ := Aside0.mk ((by rw [hg]; exact (below_size (wB)) : w.heap.size ≤ gb114))
    have n8_ := Aside0.mk ((by rw [hg]; exact Nat.ne_of_lt (blk_lt (g := gb101) (o := .cells #[.int .i64 a0_0, .slice A0_1 l0_1.length c0_1] 24 (0, 0)) (bQ BK101)) : gb101 ≠ gb114))
    have n9_ := Aside0.mk ((by rw [hg]; exact Nat.ne_of_gt (blk_lt (g := gb101) (o := .cells #[.int .i64 a0_0, .slice A0_1 l0_1.length c0_1] 24 (0, 0)) (bQ BK101)) : gb114 ≠ gb101))
    have n10_ := Aside0.mk ((by rw [hg]; exact Nat.ne_of_lt (blk_lt (g := gb102) (o := .cells #[.int .i64 0, .slice none 0 0] 24 (0, 0)) (bQ BK102)) : gb102 ≠ gb114))
    have n11_ := Aside0.mk ((by rw [hg]; exact Nat.ne_of_gt (blk_lt (g := gb102) (o := .cells #[.int .i64 0, .slice none 0 0] 24 (0, 0)) (bQ BK102)) : gb114 ≠ gb102))
    clear HO107
    clear HO110
    clear BK101
    clear BK102
    clear HB
    have HO107 := n0_
    have HO110 := n1_
    have BK101 := n2_
    have BK102 := n3_
    have HB := n4_
    have BK114 := n5_
    have GW114 := n6_
    have GE114 := n7_
    have NB101_114 := n8_
    have NB114_101 := n9_
    have NB102_114 := n10_
    have NB114_102 := n11_
    clear n0_ n1_ n2_ n3_ n4_ n5_ n6_ n7_ n8_ n9_ n10_ n11_
    clear hb hg
    refine hK.out _ _ ⟨(blk_cell BK101.out 0).trans rfl, (blk_cell BK101.out 1).trans rfl⟩ (fun hHeld => ?_)
    clear hK K
    refine nM ?_
    exact norm_ (by first | (simp only [putAll, Act.put, sA, sZ, sS]; done) | (simp only [putAll, Act.put, sA, sZ, sS]; rfl)) (hJ6_8_11 (v106, _, gb114) _ ⟨hHeld, (rQ HO107), (rQ HO110), (bQ BK101), (bQ BK102), (bQ BK114), GW114.out, GE114.out, NB101_114.out, NB114_101.out, NB102_114.out, NB114_102.out, (wB)⟩)
   skip
   rintro ⟨v106, v109, gb114⟩ w20 ⟨hS_, h0_, h1_, h2_, h3_, h4_, h5_, h6_, h7_, h8_, h9_, h10_, h11_⟩
   have n0_ : Aside0 (Kd.R (Kd.int .i64) 3 w20 w.heap.size (fun k_ => nb v109 k_) v106 t105) := ⟨h0_⟩
   have n1_ : Aside0 (Kd.R (Kd.int .i64) 3 w20 w.heap.size (fun k_ => nb v106 k_) v109 y108) := ⟨h1_⟩
   have n2_ : Aside0 (w20.heap[gb101]? = some (.cells #[.int .i64 a0_0, .slice A0_1 l0_1.length c0_1] 24 (0, 0))) := ⟨h2_⟩
   have n3_ : Aside0 (w20.heap[gb102]? = some (.cells #[.int .i64 0, .slice none 0 0] 24 (0, 0))) := ⟨h3_⟩
   have n4_ : Aside0 (w20.heap[gb114]? = some (.cells #[.int .i64 0, .slice none 0 0] 24 (0, 0))) := ⟨h4_⟩
   have n5_ : Aside0 (w.heap.size ≤ gb114) := ⟨h5_⟩
   have n6_ : Aside0 (w.heap.size ≤ gb114) := ⟨h6_⟩
   have n7_ : Aside0 (gb101 ≠ gb114) := ⟨h7_⟩
   have n8_ : Aside0 (gb114 ≠ gb101) := ⟨h8_⟩
   have n9_ : Aside0 (gb102 ≠ gb114) := ⟨h9_⟩
   have n10_ : Aside0 (gb114 ≠ gb102) := ⟨h10_⟩
   have n11_ : Aside0 (Below w.heap.size w w20) := ⟨h11_⟩
   clear BK101
   clear BK102
   clear HB
   clear h0_ h1_ h2_ h3_ h4_ h5_ h6_ h7_ h8_ h9_ h10_ h11_
   have HO107 := n0_
   have HO110 := n1_
   have BK101 := n2_
   have BK102 := n3_
   have BK114 := n4_
   have GW114 := n5_
   have GE114 := n6_
   have NB101_114 := n7_
   have NB114_101 := n8_
   have NB102_114 := n9_
   have NB114_102 := n10_
   have HB := n11_
   clear n0_ n1_ n2_ n3_ n4_ n5_ n6_ n7_ n8_ n9_ n10_ n11_
   have hHeld : w20.cell? ⟨gb101, 0, none⟩ = some (.int .i64 a0_0) ∧ w20.cell? ⟨gb101, 1, none⟩ = some (.slice A0_1 l0_1.length c0_1) := hS_
   obtain ⟨Ao22, co22, eo22⟩ := Kd.R_slice HO110.out
   (first | subst eo22 | (injection eo22 with f1_ f2_ f3_; have f4_ := f1_.symm; have f5_ := f3_.symm; clear f1_ f2_ f3_; subst f4_; subst f5_))
   refine norm_ (a' := ?_) ?_ ?_
   rotate_left
   ·simp only [putAll, Act.put, sA, sZ, sS]
    rfl
   refine oN 9 HT_ (fun K hK => ?_)
   refine Kd.R_append_rows_step (Kd.int .i64) (w0 := w) w.heap.size (by rfl) (.tmp 19) (.tmp 21) 22 3 (.int .i64 0) 8 rfl Tryz.underlying22 info3 rfl (by decide) (by omega) v106 t105 y108 _ _ _ (fun k_ => nb (.slice Ao22 y108.length co22) k_) (fun _ => False) rfl rfl ?aO ?aR (fun _ _ h => h) (fun _ h => h.elim) ?aF ?aB ?aS ?aL ?_
   (case aR => repeat (first | exact (Kd.R_reads' HO110.out).2.2 | (with_reducible refine Kd.C_alloc ?_ _) | (with_reducible refine Kd.C_drewN ?_ _) | (with_reducible refine Kd.C_drew ?_)))
   (case aB => exact (wB))
   (case aF => exact (fun k_ hk => Kd.fresh' (Kd.R_lt (rQ HO110)) k_ hk))
   (case aO => exact (rQ HO107))
   (case aS => exact (below_size (wB)))
   (case aL => have := LMc6.out; omega)
   intro v112 w21 ho hb hg hat
   rw [← Ny111.out] at ho
   have n0_ := Aside0.mk (blk_grown (g := gb101) (o := .cells #[.int .i64 a0_0, .slice A0_1 l0_1.length c0_1] 24 (0, 0)) (bQ BK101) hg (Kd.R_ne HO107.out BK101.out (by decide)))
   have n1_ := Aside0.mk (blk_grown (g := gb102) (o := .cells #[.int .i64 0, .slice none 0 0] 24 (0, 0)) (bQ BK102) hg (Kd.R_ne HO107.out BK102.out (by decide)))
   have n2_ := Aside0.mk (Kd.R_after (ok := (fun _ => True)) (by (try refine rp ?_); exact Kd.R_mono HO110.out (fun _ hk => ⟨trivial, hk⟩)) hg hat)
   have n3_ := Aside0.mk (blk_grown (g := gb114) (o := .cells #[.int .i64 0, .slice none 0 0] 24 (0, 0)) (bQ BK114) hg (Kd.R_ne HO107.out BK114.out (by decide)))
   have n4_ := Aside0.mk (hb)
   have n5_ := Aside0.mk (ho)
   clear BK101
   clear BK102
   clear HO110
   clear BK114
   clear HB
   clear HO107
   have BK101 := n0_
   have BK102 := n1_
   have HO110 := n2_
   have BK114 := n3_
   have HB := n4_
   have HO113 := n5_
   clear n0_ n1_ n2_ n3_ n4_ n5_
   clear ho hb hg hat
   obtain ⟨Ao23, co23, eo23⟩ := Kd.R_slice HO113.out
   (first | subst eo23 | (injection eo23 with f1_ f2_ f3_; have f4_ := f1_.symm; have f5_ := f3_.symm; clear f1_ f2_ f3_; subst f4_; subst f5_))
   refine hK.out _ _ ⟨(blk_cell BK101.out 0).trans rfl, (blk_cell BK101.out 1).trans rfl⟩ (fun hHeld => ?_)
   clear hK K
   refine nM ?_
   refine pU 10 HT_ ?_
   exact norm_ (by first | (simp only [putAll, Act.put, sA, sZ, sS]; done) | (simp only [putAll, Act.put, sA, sZ, sS]; rfl)) (hJ6_8_9_11 (v106, .slice Ao22 y108.length co22, .slice Ao23 y111.length co23, gb114) _ ⟨hHeld, (by (try refine rp ?_); exact Kd.R_mono HO110.out (fun _ hk => hk.2)), (rQ HO113), (bQ BK101), (bQ BK102), (bQ BK114), GW114.out, GE114.out, NB101_114.out, NB114_101.out, NB102_114.out, NB114_102.out, (wB)⟩)
  skip
  rintro ⟨v106, v109, v112⟩ w22 ⟨hS_, h0_, h1_, h2_, h3_, h4_⟩
  have n0_ : Aside0 (Kd.R (Kd.int .i64) 3 w22 w.heap.size (fun k_ => nb v112 k_) v109 y108) := ⟨h0_⟩
  have n1_ : Aside0 (Kd.R (Kd.int .i64) 3 w22 w.heap.size (fun k_ => nb v109 k_) v112 y111) := ⟨h1_⟩
  have n2_ : Aside0 (w22.heap[gb101]? = some (.cells #[.int .i64 a0_0, .slice A0_1 l0_1.length c0_1] 24 (0, 0))) := ⟨h2_⟩
  have n3_ : Aside0 (w22.heap[gb102]? = some (.cells #[.int .i64 0, .slice none 0 0] 24 (0, 0))) := ⟨h3_⟩
  have n4_ : Aside0 (Below w.heap.size w w22) := ⟨h4_⟩
  clear BK101
  clear BK102
  clear HB
  clear h0_ h1_ h2_ h3_ h4_
  have HO110 := n0_
  have HO113 := n1_
  have BK101 := n2_
  have BK102 := n3_
  have HB := n4_
  clear n0_ n1_ n2_ n3_ n4_
  have hHeld : w22.cell? ⟨gb101, 0, none⟩ = some (.int .i64 a0_0) ∧ w22.cell? ⟨gb101, 1, none⟩ = some (.slice A0_1 l0_1.length c0_1) := hS_
  obtain ⟨Ao23, co23, eo23⟩ := Kd.R_slice HO113.out
  (first | subst eo23 | (injection eo23 with f1_ f2_ f3_; have f4_ := f1_.symm; have f5_ := f3_.symm; clear f1_ f2_ f3_; subst f4_; subst f5_))
  refine norm_ (a' := ?_) ?_ ?_
  rotate_left
  ·simp only [putAll, Act.put, sA, sZ, sS]
   rfl
  refine oN 11 HT_ (fun K hK => ?_)
  refine box_step ?hg (N := 5) ?hd (cs := #[.int .i64 0, .slice none 0 0]) (t := 24) ?hr ?_; (case hd => rfl); (case hg => rfl); (case hr => first | (go_simp; done) | (go_simp; rfl))
  intro gb114 hg w24 hbox hb
  have n0_ := rP HO110 hb
  have n1_ := rP HO113 hb
  have n2_ := bP BK101 hb
  have n3_ := bP BK102 hb
  have n4_ := sQ hb
  have n5_ := Aside0.mk (hbox)
  have n6_ := Aside0.mk ((by rw [hg]; exact (below_size (wB)) : w.heap.size ≤ gb114))
  have n7_ := Aside0.mk ((by rw [hg]; exact (below_size (wB)) : w.heap.size ≤ gb114))
  have n8_ := Aside0.mk ((by rw [hg]; exact Nat.ne_of_lt (blk_lt (g := gb101) (o := .cells #[.int .i64 a0_0, .slice A0_1 l0_1.length c0_1] 24 (0, 0)) (bQ BK101)) : gb101 ≠ gb114))
  have n9_ := Aside0.mk ((by rw [hg]; exact Nat.ne_of_gt (blk_lt (g := gb101) (o := .cells #[.int .i64 a0_0, .slice A0_1 l0_1.length c0_1] 24 (0, 0)) (bQ BK101)) : gb114 ≠ gb101))
  have n10_ := Aside0.mk ((by rw [hg]; exact Nat.ne_of_lt (blk_lt (g := gb102) (o := .cells #[.int .i64 0, .slice none 0 0] 24 (0, 0)) (bQ BK102)) : gb102 ≠ gb114))
  have n11_ := Aside0.mk ((by rw [hg]; exact Nat.ne_of_gt (blk_lt (g := gb102) (o := .cells #[.int .i64 0, .slice none 0 0] 24 (0, 0)) (bQ BK102)) : gb114 ≠ gb102))
  clear HO110
  clear HO113
  clear BK101
  clear BK102
  clear HB
  have HO110 := n0_
  have HO113 := n1_
  have BK101 := n2_
  have BK102 := n3_
  have HB := n4_
  have BK114 := n5_
  have GW114 := n6_
  have GE114 := n7_
  have NB101_114 := n8_
  have NB114_101 := n9_
  have NB102_114 := n10_
  have NB114_102 := n11_
  clear n0_ n1_ n2_ n3_ n4_ n5_ n6_ n7_ n8_ n9_ n10_ n11_
  clear hb hg
  refine hK.out _ _ ⟨(blk_cell BK101.out 0).trans rfl, (blk_cell BK101.out 1).trans rfl⟩ (fun hHeld => ?_)
  clear hK K
  refine nM ?_
  exact norm_ (by first | (simp only [putAll, Act.put, sA, sZ, sS]; done) | (simp only [putAll, Act.put, sA, sZ, sS]; rfl)) (hJ6_8_9_11 (v106, v109, .slice Ao23 y111.length co23, gb114) _ ⟨hHeld, (rQ HO110), (rQ HO113), (bQ BK101), (bQ BK102), (bQ BK114), GW114.out, GE114.out, NB101_114.out, NB114_101.out, NB102_114.out, NB114_102.out, (wB)⟩)
 rintro ⟨v106, v109, v112, gb114⟩ w23 ⟨hS_, h0_, h1_, h2_, h3_, h4_, h5_, h6_, h7_, h8_, h9_, h10_, h11_⟩
 have n0_ : Aside0 (Kd.R (Kd.int .i64) 3 w23 w.heap.size (fun k_ => nb v112 k_) v109 y108) := ⟨h0_⟩
 have n1_ : Aside0 (Kd.R (Kd.int .i64) 3 w23 w.heap.size (fun k_ => nb v109 k_) v112 y111) := ⟨h1_⟩
 have n2_ : Aside0 (w23.heap[gb101]? = some (.cells #[.int .i64 a0_0, .slice A0_1 l0_1.length c0_1] 24 (0, 0))) := ⟨h2_⟩
 have n3_ : Aside0 (w23.heap[gb102]? = some (.cells #[.int .i64 0, .slice none 0 0] 24 (0, 0))) := ⟨h3_⟩
 have n4_ : Aside0 (w23.heap[gb114]? = some (.cells #[.int .i64 0, .slice none 0 0] 24 (0, 0))) := ⟨h4_⟩
 have n5_ : Aside0 (w.heap.size ≤ gb114) := ⟨h5_⟩
 have n6_ : Aside0 (w.heap.size ≤ gb114) := ⟨h6_⟩
 have n7_ : Aside0 (gb101 ≠ gb114) := ⟨h7_⟩
 have n8_ : Aside0 (gb114 ≠ gb101) := ⟨h8_⟩
 have n9_ : Aside0 (gb102 ≠ gb114) := ⟨h9_⟩
 have n10_ : Aside0 (gb114 ≠ gb102) := ⟨h10_⟩
 have n11_ : Aside0 (Below w.heap.size w w23) := ⟨h11_⟩
 clear BK101
 clear BK102
 clear HB
 clear h0_ h1_ h2_ h3_ h4_ h5_ h6_ h7_ h8_ h9_ h10_ h11_
 have HO110 := n0_
 have HO113 := n1_
 have BK101 := n2_
 have BK102 := n3_
 have BK114 := n4_
 have GW114 := n5_
 have GE114 := n6_
 have NB101_114 := n7_
 have NB114_101 := n8_
 have NB102_114 := n9_
 have NB114_102 := n10_
 have HB := n11_
 clear n0_ n1_ n2_ n3_ n4_ n5_ n6_ n7_ n8_ n9_ n10_ n11_
 have hHeld : w23.cell? ⟨gb101, 0, none⟩ = some (.int .i64 a0_0) ∧ w23.cell? ⟨gb101, 1, none⟩ = some (.slice A0_1 l0_1.length c0_1) := hS_
 obtain ⟨Ao24, co24, eo24⟩ := Kd.R_slice HO113.out
 (first | subst eo24 | (injection eo24 with f1_ f2_ f3_; have f4_ := f1_.symm; have f5_ := f3_.symm; clear f1_ f2_ f3_; subst f4_; subst f5_))
 refine norm_ (a' := ?_) ?_ ?_
 rotate_left
 ·simp only [putAll, Act.put, sA, sZ, sS]
  rfl
 refine oN 12 HT_ (fun K hK => ?_)
 have hs25 : w23.cell? ⟨gb114, 0, none⟩ = some (.int .i64 0) := (blk_cell BK114.out 0).trans rfl
 have hfs25 := blk_frozen BK114.out 0
 have hns25_0 := NB101_114.out
 have hns25_1 := NB102_114.out
 have hms25_0 := NB114_101.out
 have hms25_1 := NB114_102.out
 have hs26 : w23.cell? ⟨gb114, 1, none⟩ = some (.slice none 0 0) := (blk_cell BK114.out 1).trans rfl
 have hfs26 := blk_frozen BK114.out 1
 have hns26_0 := NB101_114.out
 have hns26_1 := NB102_114.out
 have hms26_0 := NB114_101.out
 have hms26_1 := NB114_102.out
 refine skip_ (w1 := ?_) (by rfl) rfl ?_ ?_
 rotate_left
 ·go_simp
  rfl
 refine hK.out _ _ ⟨((cell_far (p := ⟨gb114, _, none⟩) NB101_114.out _).trans (((cell_far (p := ⟨gb114, _, none⟩) NB101_114.out _).trans (hHeld.1)))), ((cell_far (p := ⟨gb114, _, none⟩) NB101_114.out _).trans (((cell_far (p := ⟨gb114, _, none⟩) NB101_114.out _).trans (hHeld.2))))⟩ (fun hHeld => ?_)
 clear hK K
 refine done_ (done_of HT_.out (by kernel_rfl)) ?_
 have hnb27 := NB114_101.out
 have hnc27 := NB101_114.out
 have hnb28 := NB114_102.out
 have hnc28 := NB102_114.out
 obtain ⟨hcz29_0, hcz29_1, hfz29_0, hfz29_1⟩ := zZ BK114
 try go_wp2_with (first | ((with_reducible refine gate_callee (f := 37) rfl ?_); refine gL 25 Tryz.func37 #[.agg #[.int .i64 (wrap64 (a0_0 + t104)), .slice Ao24 y111.length co24]] ?_; (with_reducible refine (spec_voGood.calls k (wrap64 (a0_0 + t104)) _ _ y111 true _ ?side1 ?side2 A7.out).mono ?_); (case side1 => refine (Kd.R_reads' (e := 3) (base := w.heap.size) (ok := fun k_ => nb v109 k_) (n := y111.length) (c := co24) ?_).2.2; exact (by (try refine rp ?_); exact (Kd.R_mono (Kd.R_far (p := ⟨gb114, 1, none⟩) (Kd.R_far (p := ⟨gb114, 0, none⟩) (Kd.R_types HO113.out BK114.out (by decide)) (fun _ hk => hk.2) (.int .i64 (wrap64 (a0_0 + t104)))) (fun _ hk => hk.2) (.slice Ao24 y111.length co24)) (fun _ h_ => h_.1)))); (case side2 => exact (Kd.R_reads' HO113.out).2.1); rintro e w30 ⟨rfl, hb⟩; refine ⟨_, rfl, ?_⟩; have n0_ := Aside0.mk (Kd.R_below (by (try refine rp ?_); exact (Kd.R_mono (Kd.R_far (p := ⟨gb114, 1, none⟩) (Kd.R_far (p := ⟨gb114, 0, none⟩) (Kd.R_types HO110.out BK114.out (by decide)) (fun _ hk => hk.2) (.int .i64 (wrap64 (a0_0 + t104)))) (fun _ hk => hk.2) (.slice Ao24 y111.length co24)) (fun _ h_ => h_.1))) hb); have n1_ := Aside0.mk (Kd.R_below (by (try refine rp ?_); exact (Kd.R_mono (Kd.R_far (p := ⟨gb114, 1, none⟩) (Kd.R_far (p := ⟨gb114, 0, none⟩) (Kd.R_types HO113.out BK114.out (by decide)) (fun _ hk => hk.2) (.int .i64 (wrap64 (a0_0 + t104)))) (fun _ hk => hk.2) (.slice Ao24 y111.length co24)) (fun _ h_ => h_.1))) hb); have n2_ := Aside0.mk (blk_below (g := gb101) (o := .cells #[.int .i64 a0_0, .slice A0_1 l0_1.length c0_1] 24 (0, 0)) (by (try refine bp ?_); refine blk_far ?_ NB101_114.out _; (try refine bp ?_); refine blk_far ?_ NB101_114.out _; (first | exact bp BK101.out | exact BK101.out)) hb); have n3_ := Aside0.mk (blk_below (g := gb102) (o := .cells #[.int .i64 0, .slice none 0 0] 24 (0, 0)) (by (try refine bp ?_); refine blk_far ?_ NB102_114.out _; (try refine bp ?_); refine blk_far ?_ NB102_114.out _; (first | exact bp BK102.out | exact BK102.out)) hb); have n4_ := Aside0.mk (blk_below (g := gb114) (o := .cells #[.int .i64 (wrap64 (a0_0 + t104)), .slice Ao24 y111.length co24] 24 (0, 0)) (by (try refine bp ?_); refine blk_put (cs := #[.int .i64 (wrap64 (a0_0 + t104)), .slice none 0 0]) ?_ 1 _ rfl; (try refine bp ?_); refine blk_put (cs := #[.int .i64 0, .slice none 0 0]) ?_ 0 _ rfl; (first | exact bp BK114.out | exact BK114.out)) hb); have n5_ := sQ hb; clear HO110; clear HO113; clear BK101; clear BK102; clear BK114; clear HB; have HO110 := n0_; have HO113 := n1_; have BK101 := n2_; have BK102 := n3_; have BK114 := n4_; have HB := n5_; clear n0_ n1_ n2_ n3_ n4_ n5_; (try clear hb); (try clear hb2); (try clear hk); (try clear hi); obtain ⟨hcz31_0, hcz31_1, hfz31_0, hfz31_1⟩ := zZ BK114; obtain ⟨hcz32_0, hcz32_1, hfz32_0, hfz32_1⟩ := zZ BK102))
 refine bodyPost_ret (results_ct rfl _ _ gb102 24 #[.int .i64 (wrap64 (a0_0 + t104)), .slice Ao24 y111.length co24] (0, 0) _ rfl (by (try refine bp ?_); refine blk_put (cs := #[.int .i64 (wrap64 (a0_0 + t104)), .slice none 0 0]) ?_ 1 _ rfl; (try refine bp ?_); refine blk_put (cs := #[.int .i64 0, .slice none 0 0]) ?_ 0 _ rfl; (first | exact bp BK102.out | exact BK102.out)) Tryz.underlying24 rfl (by kernel_rfl)) rfl ?_
 exact ⟨_, fR, by (try refine rp ?_); exact Kd.R_mono (Kd.R_far (p := ⟨gb102, 1, none⟩) (Kd.R_far (p := ⟨gb102, 0, none⟩) (Kd.R_types HO113.out BK102.out (by decide)) (fun _ hk => hk.2) (.int .i64 (wrap64 (a0_0 + t104)))) (fun _ hk => hk.2) (.slice Ao24 y111.length co24)) (fun _ hk => trivial), wB⟩
end Go.Proofs.YtaambkdiokbdgabGreat.Q
namespace Go.Proofs.YtaambkdiokbdgabGreat.Q
open Go.RowKit Go.Proofs.YtaambkdiokbdgabGreatX Go.Proofs.YtaambkdiokbdgabGreatY Go.Proofs.YtaambkdiokbdgabGreatX Go.Proofs.YtaambkdiokbdgabGreatW.PrintWords Go.Proofs.YtaambkdiokbdgabGreatW.PrintLast Go.Proofs.YtaambkdiokbdgabGreatW.PrintMore
attribute [local go_sem] max2_int min2_int max_two min_two max_three min_three max_four min_four   -- for this text's walks alone
set_option linter.unusedVariables false
set_option linter.unusedSimpArgs false
def impl_AddDummy.f (k : Nat) (a0_0 : Int) (l0_1 : List Int) : Option (Int × List Int × Bool) := (impl_withMember.f k a0_0 l0_1 0 0).bind fun bt103 => (some (bt103.1, bt103.2.1, bt103.2.2))
theorem impl_AddDummy.calls (k : Nat) (a0_0 : Int) (A0_1 : Option Addr) (c0_1 : Nat) (l0_1 : List Int) (r1 : Int) (r2 : List Int) (r3 : Bool) (w : World) (hr0_1 : Kd.C (Kd.int .i64) w A0_1 l0_1.length l0_1) (hc0_1 : l0_1.length ≤ c0_1) (h : impl_AddDummy.f k a0_0 l0_1 = some (r1, r2, r3)) :
  Calls Tryz.prog 24 #[.agg #[.int .i64 a0_0, .slice A0_1 l0_1.length c0_1]] w fun e w' => ∃ v1_ : Value, e = .returned (.tuple #[.agg #[.int .i64 r1, v1_], .bool r3]) ∧ Kd.R (Kd.int .i64) 3 w' w.heap.size (fun _ => True) v1_ r2 ∧ Below w.heap.size w w' := by
 have hu24 := Tryz.underlying24
 have HR0_1 := Aside0.mk hr0_1
 have HC0_1 := Aside0.mk hc0_1
 clear hr0_1 hc0_1
 have HB := Aside0.mk (Below.refl w.heap.size w)
 have H := h
 unfold impl_AddDummy.f at H
 clear h
 replace H := oB H
 obtain ⟨⟨t103, t104, t107⟩, A20, H⟩ := H
 (try dsimp only at H)
 have A2 := Aside0.mk A20
 clear A20
 simp only [Option.some.injEq, Prod.mk.injEq] at H
 obtain ⟨rfl, rfl, rfl⟩ := H
 go_enter Tryz.func24, Tryz.ntmps24
 go_wp2_with (first | ((with_reducible refine gate_dst (N := 1) rfl ?_); refine xE (N := 1) (cs := #[.int .i64 a0_0, .slice A0_1 l0_1.length c0_1]) (t := 24) ?_; intro gb101 hg w3 BK101 hb; have GW101 := gS hg HB; have GE101 := gS hg HB; replace HB := sB HB hb; clear hb hg) | ((with_reducible refine gate_dst (N := 2) rfl ?_); refine xE (N := 2) (cs := #[.int .i64 0, .slice none 0 0]) (t := 24) ?_; intro gb102 hg w4 BK102 hb; have GW102 := gS hg HB; have GE102 := gS hg HB; have NB101_102 := nL hg (blk_lt BK101.out); have NB102_101 := nG hg (blk_lt BK101.out); replace BK101 := bB BK101 hb; replace HB := sB HB hb; clear hb hg; have hnb5 := NB101_102.out; have hnc5 := NB102_101.out; obtain ⟨hcz6_0, hcz6_1, hfz6_0, hfz6_1⟩ := zZ BK101) | ((with_reducible refine gate_callee (f := 64) rfl ?_); refine gL 5 Tryz.func64 #[.agg #[.int .i64 a0_0, .slice A0_1 l0_1.length c0_1], .int .i64 0, .int .i64 0] ?_; (with_reducible refine (impl_withMember.calls k a0_0 _ _ l0_1 0 0 t103 t104 t107 _ (Kd.C_below HR0_1.out HB.out) HC0_1.out A2.out).mono ?_); rintro e w7 ⟨v105, rfl, ho0, hb⟩; refine ⟨_, rfl, ?_⟩; have HO106 := Aside0.mk (Kd.R_lower ho0 (below_size HB.out)); replace BK101 := bB BK101 hb; replace BK102 := bB BK102 hb; replace HB := sB HB hb; (try clear hb); (try clear ho0); (try clear hcz6_0 hcz6_1 hfz6_0 hfz6_1); obtain ⟨hcz8_0, hcz8_1, hfz8_0, hfz8_1⟩ := zZ BK102; obtain ⟨Ao9, co9, eo9⟩ := Kd.R_slice HO106.out; subst eo9))
 refine bodyPost_ret (results_ct rfl _ _ gb102 24 #[.int .i64 t103, .slice Ao9 t104.length co9] (0, 0) _ rfl (by refine blk_put (cs := #[.int .i64 t103, .slice none 0 0]) ?_ 1 _ rfl; refine blk_put (cs := #[.int .i64 0, .slice none 0 0]) ?_ 0 _ rfl; exact BK102.out) Tryz.underlying24 rfl (by kernel_rfl)) rfl ?_
 exact ⟨_, fR, by exact Kd.R_mono (Kd.R_far (p := ⟨gb102, 1, none⟩) (Kd.R_far (p := ⟨gb102, 0, none⟩) (Kd.R_types HO106.out BK102.out (by decide)) (fun _ hk => hk.2) (.int .i64 t103)) (fun _ hk => hk.2) (.slice Ao9 t104.length co9)) (fun _ hk => trivial), wB⟩
def spec_AddDummy.f (k : Nat) (a0_0 : Int) (l0_1 : List Int) : Option (Int × List Int × Bool) := (spec_voGood.f k a0_0 l0_1).bind fun t103 => (if t103 = true then (if (l0_1.length : Int) = 9 then (some (0, ([] : List Int), false)) else ((spec_l1Own.f l0_1).bind fun t104 => ((some (([0] : List Int) : List Int)).bind fun y107 => (if t104.length + y107.length < 17592186044416 then (some (a0_0, (t104 ++ y107), true)) else (none))))) else (some (0, ([] : List Int), false)))
def spec_AddDummy.T3 : Bool × List (List Nat × List Nat) := (true, [([], []), ([0], [0]), ([], []), ([2], [2]), ([3], [3]), ([], []), ([4, 5, 4], [4, 5]), ([1, 6], [1, 6]), ([7, 6, 0, 1, 2, 3, 4, 5, 6, 7], [7]), ([8, 0, 1, 2, 3, 4, 5, 6, 7, 8], [])])
def spec_AddDummy.B3 : List Nat := [0, 1, 0, 4, 12, 0, 60, 127, 255, 511]
theorem spec_AddDummy.tab3 : rtab .any (opsOf Tryz.f25 3) = spec_AddDummy.T3 := by kernel_rfl
theorem spec_AddDummy.bits3 : waitsOk spec_AddDummy.T3.2 spec_AddDummy.B3 = true := by kernel_rfl
theorem spec_AddDummy.calls (k : Nat) (a0_0 : Int) (A0_1 : Option Addr) (c0_1 : Nat) (l0_1 : List Int) (r1 : Int) (r2 : List Int) (r3 : Bool) (w : World) (hr0_1 : Kd.C (Kd.int .i64) w A0_1 l0_1.length l0_1) (hc0_1 : l0_1.length ≤ c0_1) (h : spec_AddDummy.f k a0_0 l0_1 = some (r1, r2, r3)) :
  Calls Tryz.prog 25 #[.agg #[.int .i64 a0_0, .slice A0_1 l0_1.length c0_1]] w fun e w' => ∃ v1_ : Value, e = .returned (.tuple #[.agg #[.int .i64 r1, v1_], .bool r3]) ∧ Kd.R (Kd.int .i64) 3 w' w.heap.size (fun _ => True) v1_ r2 ∧ Below w.heap.size w w' := by
 have hu24 := Tryz.underlying24
 have HR0_1 := Aside0.mk hr0_1
 have HC0_1 := Aside0.mk hc0_1
 clear hr0_1 hc0_1
 have HB := Aside0.mk (Below.refl w.heap.size w)
 have H := h
 unfold spec_AddDummy.f at H
 clear h
 replace H := oA H
 obtain ⟨t103, A2, H⟩ := H
 (try dsimp only at H)
 by_cases c3 : t103 = true
 rotate_left
 ·replace c3 := Bool.eq_false_iff.mpr c3
  subst c3
  replace H := iF H
  simp only [Option.some.injEq, Prod.mk.injEq] at H
  obtain ⟨rfl, rfl, rfl⟩ := H
  go_enter Tryz.func25, Tryz.ntmps25
  go_wp2_with (first | ((with_reducible refine gate_dst (N := 1) rfl ?_); (try (refine gate_guard (by rfl) ?_; dsimp only)); refine xE (N := 1) (cs := #[.int .i64 a0_0, .slice A0_1 l0_1.length c0_1]) (t := 24) ?_; intro gb101 hg w30 BK101 hb; have GW101 := gS hg HB; have GE101 := gS hg HB; replace HB := sB HB hb; clear hb hg) | ((with_reducible refine gate_dst (N := 2) rfl ?_); (try (refine gate_guard (by rfl) ?_; dsimp only)); refine xE (N := 2) (cs := #[.int .i64 0, .slice none 0 0]) (t := 24) ?_; intro gb102 hg w31 BK102 hb; have GW102 := gS hg HB; have GE102 := gS hg HB; have NB101_102 := nL hg (blk_lt BK101.out); have NB102_101 := nG hg (blk_lt BK101.out); replace BK101 := bB BK101 hb; replace HB := sB HB hb; clear hb hg; have hnb32 := NB101_102.out; have hnc32 := NB102_101.out; obtain ⟨hcz33_0, hcz33_1, hfz33_0, hfz33_1⟩ := zZ BK101) | ((with_reducible refine gate_callee (f := 37) rfl ?_); refine gL 5 Tryz.func37 #[.agg #[.int .i64 a0_0, .slice A0_1 l0_1.length c0_1]] ?_; (with_reducible refine (spec_voGood.calls k a0_0 _ _ l0_1 false _ (Kd.C_below HR0_1.out HB.out) HC0_1.out A2.out).mono ?_); rintro e w34 ⟨rfl, hb⟩; refine ⟨_, rfl, ?_⟩; replace BK101 := bB BK101 hb; replace BK102 := bB BK102 hb; replace HB := sB HB hb; (try clear hb); (try clear hcz33_0 hcz33_1 hfz33_0 hfz33_1); obtain ⟨hcz35_0, hcz35_1, hfz35_0, hfz35_1⟩ := zZ BK102))
  refine bodyPost_ret (results_ct rfl _ _ gb102 24 #[.int .i64 0, .slice none 0 0] (0, 0) _ rfl (by refine blk_put (cs := #[.int .i64 0, .slice none 0 0]) ?_ 1 _ rfl; refine blk_put (cs := #[.int .i64 0, .slice none 0 0]) ?_ 0 _ rfl; exact BK102.out) Tryz.underlying24 rfl (by kernel_rfl)) rfl ?_
  exact ⟨_, fR, by first | exact Kd.R_nil _ _ _ _ _ | exact Kd.N_nil _ _ _ _ _ | exact Kd.V_nil _ _ _ _ _ | exact Kd.Q_nil _ _ _ _ _ | exact Kd.S_nil _ _ _ _ _, wB⟩
 subst c3
 replace H := iT H
 by_cases c4 : (l0_1.length : Int) = 9
 ·rw [if_pos c4] at H
  have c4b0 : ((l0_1.length : Int) == 9) = true := beq_iff_eq.mpr c4
  have c4b1 : ((l0_1.length : Int) != 9) = false := bne_eq_false_iff_eq.mpr c4
  clear c4
  simp only [Option.some.injEq, Prod.mk.injEq] at H
  obtain ⟨rfl, rfl, rfl⟩ := H
  go_enter Tryz.func25, Tryz.ntmps25
  go_wp2_with (first | ((with_reducible refine gate_dst (N := 1) rfl ?_); (try (refine gate_guard (by rfl) ?_; dsimp only)); refine xE (N := 1) (cs := #[.int .i64 a0_0, .slice A0_1 l0_1.length c0_1]) (t := 24) ?_; intro gb101 hg w5 BK101 hb; have GW101 := gS hg HB; have GE101 := gS hg HB; replace HB := sB HB hb; clear hb hg) | ((with_reducible refine gate_dst (N := 2) rfl ?_); (try (refine gate_guard (by rfl) ?_; dsimp only)); refine xE (N := 2) (cs := #[.int .i64 0, .slice none 0 0]) (t := 24) ?_; intro gb102 hg w6 BK102 hb; have GW102 := gS hg HB; have GE102 := gS hg HB; have NB101_102 := nL hg (blk_lt BK101.out); have NB102_101 := nG hg (blk_lt BK101.out); replace BK101 := bB BK101 hb; replace HB := sB HB hb; clear hb hg; have hnb7 := NB101_102.out; have hnc7 := NB102_101.out; obtain ⟨hcz8_0, hcz8_1, hfz8_0, hfz8_1⟩ := zZ BK101) | ((with_reducible refine gate_callee (f := 37) rfl ?_); refine gL 5 Tryz.func37 #[.agg #[.int .i64 a0_0, .slice A0_1 l0_1.length c0_1]] ?_; (with_reducible refine (spec_voGood.calls k a0_0 _ _ l0_1 true _ (Kd.C_below HR0_1.out HB.out) HC0_1.out A2.out).mono ?_); rintro e w9 ⟨rfl, hb⟩; refine ⟨_, rfl, ?_⟩; replace BK101 := bB BK101 hb; replace BK102 := bB BK102 hb; replace HB := sB HB hb; (try clear hb); (try clear hcz8_0 hcz8_1 hfz8_0 hfz8_1); obtain ⟨hcz10_0, hcz10_1, hfz10_0, hfz10_1⟩ := zZ BK101; obtain ⟨hcz11_0, hcz11_1, hfz11_0, hfz11_1⟩ := zZ BK102))
  refine bodyPost_ret (results_ct rfl _ _ gb102 24 #[.int .i64 0, .slice none 0 0] (0, 0) _ rfl (by refine blk_put (cs := #[.int .i64 0, .slice none 0 0]) ?_ 1 _ rfl; refine blk_put (cs := #[.int .i64 0, .slice none 0 0]) ?_ 0 _ rfl; exact BK102.out) Tryz.underlying24 rfl (by kernel_rfl)) rfl ?_
  exact ⟨_, fR, by first | exact Kd.R_nil _ _ _ _ _ | exact Kd.N_nil _ _ _ _ _ | exact Kd.V_nil _ _ _ _ _ | exact Kd.Q_nil _ _ _ _ _ | exact Kd.S_nil _ _ _ _ _, wB⟩
 rw [if_neg c4] at H
 have c4b0 : ((l0_1.length : Int) == 9) = false := beq_eq_false_iff_ne.mpr c4
 have c4b1 : ((l0_1.length : Int) != 9) = true := bne_iff_ne.mpr c4
 replace H := oA H
 obtain ⟨t104, A12, H⟩ := H
 (try dsimp only at H)
 obtain ⟨y107, hy107⟩ : ∃ y_ : List Int, y_ = (([0] : List Int)) := ⟨_, rfl⟩
 replace H : (if t104.length + y107.length < 17592186044416 then (some (a0_0, (t104 ++ y107), true)) else (none)) = some (r1, r2, r3) := by first | (rw [hy107]; with_reducible exact H) | (have H2_ := (Option.bind_some _ _).symm.trans H; rw [hy107]; with_reducible exact H2_) | (have H2_ := (Option.bind_some _ _).symm.trans H; with_reducible exact H2_) | with_reducible exact H | (rw [hy107]; exact H) | exact H
 have Ny107 := Aside0.mk hy107
 clear hy107
 by_cases c13 : t104.length + y107.length < 17592186044416
 rotate_left
 ·rw [if_neg c13] at H
  exact absurd H (by simp)
 rw [if_pos c13] at H
 have LMc13 := Aside0.mk c13
 clear c13
 obtain ⟨y110, hy110⟩ : ∃ y_ : List Int, y_ = (t104 ++ y107) := ⟨_, rfl⟩
 replace H : (some (a0_0, y110, true)) = some (r1, r2, r3) := by first | (rw [hy110]; with_reducible exact H) | (have H2_ := (Option.bind_some _ _).symm.trans H; rw [hy110]; with_reducible exact H2_) | (have H2_ := (Option.bind_some _ _).symm.trans H; with_reducible exact H2_) | with_reducible exact H | (rw [hy110]; exact H) | exact H
 have Ny110 := Aside0.mk hy110
 clear hy110
 simp only [Option.some.injEq, Prod.mk.injEq] at H
 obtain ⟨rfl, rfl, rfl⟩ := H
 go_enter Tryz.func25, Tryz.ntmps25
 try go_wp2_with (first | ((with_reducible refine gate_dst (N := 1) rfl ?_); (try (refine gate_guard (by rfl) ?_; dsimp only)); refine xE (N := 1) (cs := #[.int .i64 a0_0, .slice A0_1 l0_1.length c0_1]) (t := 24) ?_; intro gb101 hg w14 BK101 hb; have GW101 := gS hg HB; have GE101 := gS hg HB; replace HB := sB HB hb; clear hb hg) | ((with_reducible refine gate_dst (N := 2) rfl ?_); (try (refine gate_guard (by rfl) ?_; dsimp only)); refine xE (N := 2) (cs := #[.int .i64 0, .slice none 0 0]) (t := 24) ?_; intro gb102 hg w15 BK102 hb; have GW102 := gS hg HB; have GE102 := gS hg HB; have NB101_102 := nL hg (blk_lt BK101.out); have NB102_101 := nG hg (blk_lt BK101.out); replace BK101 := bB BK101 hb; replace HB := sB HB hb; clear hb hg; have hnb16 := NB101_102.out; have hnc16 := NB102_101.out; (try clear hcz10_0 hcz10_1 hfz10_0 hfz10_1 hcz11_0 hcz11_1 hfz11_0 hfz11_1); obtain ⟨hcz17_0, hcz17_1, hfz17_0, hfz17_1⟩ := zZ BK101) | ((with_reducible refine gate_callee (f := 37) rfl ?_); refine gL 5 Tryz.func37 #[.agg #[.int .i64 a0_0, .slice A0_1 l0_1.length c0_1]] ?_; (with_reducible refine (spec_voGood.calls k a0_0 _ _ l0_1 true _ (Kd.C_below HR0_1.out HB.out) HC0_1.out A2.out).mono ?_); rintro e w18 ⟨rfl, hb⟩; refine ⟨_, rfl, ?_⟩; replace BK101 := bB BK101 hb; replace BK102 := bB BK102 hb; replace HB := sB HB hb; (try clear hb); (try clear hcz17_0 hcz17_1 hfz17_0 hfz17_1); obtain ⟨hcz19_0, hcz19_1, hfz19_0, hfz19_1⟩ := zZ BK101))
 replace BK101 := bD BK101
 replace BK102 := bD BK102
 replace HB := Aside0.mk (below_drew1 HB.out)
 refine start_ (n := 10) (S := fun w' => w'.cell? ⟨gb101, 0, none⟩ = some (.int .i64 a0_0) ∧ w'.cell? ⟨gb101, 1, none⟩ = some (.slice A0_1 l0_1.length c0_1)) (ds := []) #[F,F,F,F,F,F,F,F,F,F] (by kernel_rfl) rfl rfl ⟨(blk_cell BK101.out 0).trans rfl, (blk_cell BK101.out 1).trans rfl⟩ (fun hHeld => ?_); refine with_tabW spec_AddDummy.tab3 spec_AddDummy.bits3 (fun HT_ HW_ => ?_)
 (try clear hcz19_0 hcz19_1 hfz19_0 hfz19_1)
 generalize w18.drew = w20 at BK101 BK102 HB hHeld ⊢
 refine pU 0 HT_ ?_
 refine pU 2 HT_ ?_
 refine tK 1 HT_ HW_ hHeld (hy := by rintro w' ⟨s0, s1⟩; go_simp; with_reducible rfl) ?_
 refine tK 3 HT_ HW_ hHeld (hy := by rintro w' ⟨s0, s1⟩; go_simp; with_reducible rfl) ?_
 refine join_ (σ := Value × Value) 4 #[T,T,T,T,T,T,F,F,F,F] (fun s_ => [(18, s_.1), (19, s_.2)]) (fun s_ w' => (w'.cell? ⟨gb101, 0, none⟩ = some (.int .i64 a0_0) ∧ w'.cell? ⟨gb101, 1, none⟩ = some (.slice A0_1 l0_1.length c0_1)) ∧ (Kd.R (Kd.int .i64) 3 w' w.heap.size (fun k_ => nb (s_.2) k_) s_.1 t104) ∧ (Kd.R (Kd.int .i64) 3 w' w.heap.size (fun k_ => nb (s_.1) k_) s_.2 y107) ∧ (w'.heap[gb101]? = some (.cells #[.int .i64 a0_0, .slice A0_1 l0_1.length c0_1] 24 (0, 0))) ∧ (w'.heap[gb102]? = some (.cells #[.int .i64 0, .slice none 0 0] 24 (0, 0))) ∧ (Below w.heap.size w w')) ?_ ?_
 rotate_left
 ·intro hCont
  refine two_ (i := 4) (j := 5) (Ni := some 18) (Nj := some 19) #[T,T,T,T,T,F,F,F,F,F] #[T,T,T,T,F,T,F,F,F,F] rfl rfl rfl rfl (two_of HT_.out (by kernel_rfl)) (by decide) (by decide) (fun K hK => ?_) (fun K hK => ?_)
  ·skip
   refine gE Tryz.func49 #[.slice A0_1 l0_1.length c0_1] ?_
   with_reducible refine (spec_l1Own.calls _ _ l0_1 t104 _ (Kd.C_below HR0_1.out HB.out) HC0_1.out A12.out).mono ?_
   rintro e w21 ⟨v105, rfl, ho0, hb⟩
   refine ⟨_, rfl, ?_⟩
   have HO106 := Aside0.mk (Kd.R_lower ho0 (below_size HB.out))
   replace BK101 := bB BK101 hb
   replace BK102 := bB BK102 hb
   replace HB := sB HB hb
   (try clear hb)
   (try clear hb2)
   (try clear hk)
   (try clear hi)
   (try clear ho0)
   refine hK.out _ _ ⟨(blk_cell BK101.out 0).trans rfl, (blk_cell BK101.out 1).trans rfl⟩ (fun hHeld => ?_)
   clear hK K
   refine nM ?_
   refine oN 5 HT_ (fun K hK => ?_)
   refine Kd.R_lit_step (Kd.int .i64) _ 3 ?hg (N := 19) ?hd (xs := ([0] : List Int)) (inner := [.int .i64 0]) (ok := fun _ => True) (okp := fun _ => True) ?hr ?hp (fun _ hk => hk) trivial (Below.refl _ _) (Nat.le_refl _) (by simp) ?_; (case hd => rfl); (case hg => rfl); (case hr => first | (go_simp; done) | (go_simp; rfl)); (case hp => exact (Reps.one (show Kd.M (Kd.int .i64) _ _ _ 0 [.int .i64 0] from rfl) (Reps.none _ _)))
   intro v108 w22 ho23 hb hg_ hnew_
   clear hg_ hnew_
   (first | rw [← Ny107.out] at ho23 | (simp only [Int.reduceToNat] at ho23; rw [← Ny107.out] at ho23))
   have HO109 := Aside0.mk (Kd.R_lower (Kd.R_new' ho23 (Kd.R_lt HO106.out)) (below_size HB.out))
   replace HO106 := rE HO106 (Kd.R_base ho23) hb
   replace BK101 := bB BK101 hb
   replace BK102 := bB BK102 hb
   replace HB := sB HB hb
   clear hb ho23
   refine hK.out _ _ ⟨(blk_cell BK101.out 0).trans rfl, (blk_cell BK101.out 1).trans rfl⟩ (fun hHeld => ?_)
   clear hK K
   refine nM ?_
   exact norm_ (by simp only [putAll, Act.put, sA, sZ, sS]) (hCont (v105, v108) _ ⟨hHeld, (by exact Kd.R_mono HO106.out (fun _ hk => hk.2)), (by exact Kd.R_mono HO109.out (fun _ hk => hk.2)), BK101.out, BK102.out, HB.out⟩)
  skip
  refine Kd.R_lit_step (Kd.int .i64) _ 3 ?hg (N := 19) ?hd (xs := ([0] : List Int)) (inner := [.int .i64 0]) (ok := fun _ => True) (okp := fun _ => True) ?hr ?hp (fun _ hk => hk) trivial (Below.refl _ _) (Nat.le_refl _) (by simp) ?_; (case hd => rfl); (case hg => rfl); (case hr => first | (go_simp; done) | (go_simp; rfl)); (case hp => exact (Reps.one (show Kd.M (Kd.int .i64) _ _ _ 0 [.int .i64 0] from rfl) (Reps.none _ _)))
  intro v108 w21 ho22 hb hg_ hnew_
  clear hg_ hnew_
  (first | rw [← Ny107.out] at ho22 | (simp only [Int.reduceToNat] at ho22; rw [← Ny107.out] at ho22))
  have HO109 := Aside0.mk (Kd.R_lower ho22 (below_size HB.out))
  replace BK101 := bB BK101 hb
  replace BK102 := bB BK102 hb
  replace HB := sB HB hb
  clear hb ho22
  refine hK.out _ _ ⟨(blk_cell BK101.out 0).trans rfl, (blk_cell BK101.out 1).trans rfl⟩ (fun hHeld => ?_)
  clear hK K
  refine nM ?_
  refine oN 4 HT_ (fun K hK => ?_)
  refine gE Tryz.func49 #[.slice A0_1 l0_1.length c0_1] ?_
  with_reducible refine (spec_l1Own.calls _ _ l0_1 t104 _ (Kd.C_below HR0_1.out HB.out) HC0_1.out A12.out).mono ?_
  rintro e w23 ⟨v105, rfl, ho0, hb⟩
  refine ⟨_, rfl, ?_⟩
  have HO106 := Aside0.mk (Kd.R_lower (Kd.R_new' ho0 (Kd.R_lt HO109.out)) (below_size HB.out))
  replace HO109 := rE HO109 (Kd.R_base ho0) hb
  replace BK101 := bB BK101 hb
  replace BK102 := bB BK102 hb
  replace HB := sB HB hb
  (try clear hb)
  (try clear hb2)
  (try clear hk)
  (try clear hi)
  (try clear ho0)
  refine hK.out _ _ ⟨(blk_cell BK101.out 0).trans rfl, (blk_cell BK101.out 1).trans rfl⟩ (fun hHeld => ?_)
  clear hK K
  refine nM ?_
  exact norm_ (by simp only [putAll, Act.put, sA, sZ, sS]) (hCont (v105, v108) _ ⟨hHeld, (by exact Kd.R_mono HO106.out (fun _ hk => hk.2)), (by exact Kd.R_mono HO109.out (fun _ hk => hk.2)), BK101.out, BK102.out, HB.out⟩)
 rintro ⟨v105, v108⟩ w24 ⟨hS_, h0_, h1_, h2_, h3_, h4_⟩
 have n0_ : Aside0 (Kd.R (Kd.int .i64) 3 w24 w.heap.size (fun k_ => nb v108 k_) v105 t104) := ⟨h0_⟩
 have n1_ : Aside0 (Kd.R (Kd.int .i64) 3 w24 w.heap.size (fun k_ => nb v105 k_) v108 y107) := ⟨h1_⟩
 have n2_ : Aside0 (w24.heap[gb101]? = some (.cells #[.int .i64 a0_0, .slice A0_1 l0_1.length c0_1] 24 (0, 0))) := ⟨h2_⟩
 have n3_ : Aside0 (w24.heap[gb102]? = some (.cells #[.int .i64 0, .slice none 0 0] 24 (0, 0))) := ⟨h3_⟩
 have n4_ : Aside0 (Below w.heap.size w w24) := ⟨h4_⟩
 clear BK101
 clear BK102
 clear HB
 clear h0_ h1_ h2_ h3_ h4_
 have HO106 := n0_
 have HO109 := n1_
 have BK101 := n2_
 have BK102 := n3_
 have HB := n4_
 clear n0_ n1_ n2_ n3_ n4_
 have hHeld : w24.cell? ⟨gb101, 0, none⟩ = some (.int .i64 a0_0) ∧ w24.cell? ⟨gb101, 1, none⟩ = some (.slice A0_1 l0_1.length c0_1) := hS_
 obtain ⟨Ao26, co26, eo26⟩ := Kd.R_slice HO109.out
 (first | subst eo26 | (injection eo26 with f1_ f2_ f3_; have f4_ := f1_.symm; have f5_ := f3_.symm; clear f1_ f2_ f3_; subst f4_; subst f5_))
 refine norm_ (a' := ?_) ?_ ?_
 rotate_left
 ·simp only [putAll, Act.put, sA, sZ, sS]
  rfl
 refine oN 6 HT_ (fun K hK => ?_)
 refine Kd.R_append_rows_step (Kd.int .i64) (w0 := w) w.heap.size (by rfl) (.tmp 18) (.tmp 19) 22 3 (.int .i64 0) 8 rfl Tryz.underlying22 info3 rfl (by decide) (by omega) v105 t104 y107 _ _ _ (fun k_ => nb (.slice Ao26 y107.length co26) k_) (fun _ => False) rfl rfl ?aO ?aR (fun _ _ h => h) (fun _ h => h.elim) ?aF ?aB ?aS ?aL ?_
 (case aR => repeat (first | exact (Kd.R_reads' HO109.out).2.2 | (with_reducible refine Kd.C_alloc ?_ _) | (with_reducible refine Kd.C_drewN ?_ _) | (with_reducible refine Kd.C_drew ?_)))
 (case aB => exact HB.out)
 (case aF => exact (fun k_ hk => Kd.fresh' (Kd.R_lt HO109.out) k_ hk))
 (case aO => exact HO106.out)
 (case aS => exact (below_size HB.out))
 (case aL => have := LMc13.out; omega)
 intro v111 w25 ho hb hg hat
 rw [← Ny110.out] at ho
 have HO112 := Aside0.mk (ho)
 replace BK101 := Aside0.mk (blk_grown (g := gb101) (o := .cells #[.int .i64 a0_0, .slice A0_1 l0_1.length c0_1] 24 (0, 0)) BK101.out hg (Kd.R_ne HO106.out BK101.out (by decide)))
 replace BK102 := Aside0.mk (blk_grown (g := gb102) (o := .cells #[.int .i64 0, .slice none 0 0] 24 (0, 0)) BK102.out hg (Kd.R_ne HO106.out BK102.out (by decide)))
 replace HO109 := Aside0.mk (Kd.R_after (ok := (fun _ => True)) (by exact Kd.R_mono HO109.out (fun _ hk => ⟨trivial, hk⟩)) hg hat)
 replace HB := Aside0.mk (hb)
 clear ho hb hg hat
 obtain ⟨Ao27, co27, eo27⟩ := Kd.R_slice HO112.out
 (first | subst eo27 | (injection eo27 with f1_ f2_ f3_; have f4_ := f1_.symm; have f5_ := f3_.symm; clear f1_ f2_ f3_; subst f4_; subst f5_))
 refine hK.out _ _ ⟨(blk_cell BK101.out 0).trans rfl, (blk_cell BK101.out 1).trans rfl⟩ (fun hHeld => ?_)
 clear hK K
 refine nM ?_
 refine pU 7 HT_ ?_
 refine oN 8 HT_ (fun K hK => ?_)
 have hs28 : w25.cell? ⟨gb102, 0, none⟩ = some (.int .i64 0) := (blk_cell BK102.out 0).trans rfl
 have hfs28 := blk_frozen BK102.out 0
 have hns28_0 := NB101_102.out
 have hms28_0 := NB102_101.out
 have hs29 : w25.cell? ⟨gb102, 1, none⟩ = some (.slice none 0 0) := (blk_cell BK102.out 1).trans rfl
 have hfs29 := blk_frozen BK102.out 1
 have hns29_0 := NB101_102.out
 have hms29_0 := NB102_101.out
 refine skip_ (w1 := ?_) (by rfl) rfl ?_ ?_
 rotate_left
 ·go_simp
  rfl
 refine hK.out _ _ ⟨((cell_far (p := ⟨gb102, _, none⟩) NB101_102.out _).trans (((cell_far (p := ⟨gb102, _, none⟩) NB101_102.out _).trans (hHeld.1)))), ((cell_far (p := ⟨gb102, _, none⟩) NB101_102.out _).trans (((cell_far (p := ⟨gb102, _, none⟩) NB101_102.out _).trans (hHeld.2))))⟩ (fun hHeld => ?_)
 clear hK K
 refine pU 9 HT_ ?_
 refine done_ (done_of HT_.out (by kernel_rfl)) ?_
 try go_wp2
 refine bodyPost_ret (results_ct rfl _ _ gb102 24 #[.int .i64 a0_0, .slice Ao27 y110.length co27] (0, 0) _ rfl (by refine blk_put (cs := #[.int .i64 a0_0, .slice none 0 0]) ?_ 1 _ rfl; refine blk_put (cs := #[.int .i64 0, .slice none 0 0]) ?_ 0 _ rfl; exact BK102.out) Tryz.underlying24 rfl (by kernel_rfl)) rfl ?_
 exact ⟨_, fR, by exact Kd.R_mono (Kd.R_far (p := ⟨gb102, 1, none⟩) (Kd.R_far (p := ⟨gb102, 0, none⟩) (Kd.R_types HO112.out BK102.out (by decide)) (fun _ hk => hk.2) (.int .i64 a0_0)) (fun _ hk => hk.2) (.slice Ao27 y110.length co27)) (fun _ hk => trivial), wB⟩
def bits_OnesCount64.f (a0 : Int) : Option (Int) := some (Go.bits .and .i64 (wrap64 (IntKind.u64.wrap ((IntKind.u64.wrap ((IntKind.u64.wrap ((Go.bits .and .u64 (IntKind.u64.wrap (((IntKind.u64.wrap ((Go.bits .and .u64 ((IntKind.u64.wrap ((Go.bits .and .u64 (a0 / 2) 6148914691236517205) + (Go.bits .and .u64 a0 6148914691236517205))) / 4) 3689348814741910323) + (Go.bits .and .u64 (IntKind.u64.wrap ((Go.bits .and .u64 (a0 / 2) 6148914691236517205) + (Go.bits .and .u64 a0 6148914691236517205))) 3689348814741910323))) / 16) + (IntKind.u64.wrap ((Go.bits .and .u64 ((IntKind.u64.wrap ((Go.bits .and .u64 (a0 / 2) 6148914691236517205) + (Go.bits .and .u64 a0 6148914691236517205))) / 4) 3689348814741910323) + (Go.bits .and .u64 (IntKind.u64.wrap ((Go.bits .and .u64 (a0 / 2) 6148914691236517205) + (Go.bits .and .u64 a0 6148914691236517205))) 3689348814741910323))))) 1085102592571150095) + ((Go.bits .and .u64 (IntKind.u64.wrap (((IntKind.u64.wrap ((Go.bits .and .u64 ((IntKind.u64.wrap ((Go.bits .and .u64 (a0 / 2) 6148914691236517205) + (Go.bits .and .u64 a0 6148914691236517205))) / 4) 3689348814741910323) + (Go.bits .and .u64 (IntKind.u64.wrap ((Go.bits .and .u64 (a0 / 2) 6148914691236517205) + (Go.bits .and .u64 a0 6148914691236517205))) 3689348814741910323))) / 16) + (IntKind.u64.wrap ((Go.bits .and .u64 ((IntKind.u64.wrap ((Go.bits .and .u64 (a0 / 2) 6148914691236517205) + (Go.bits .and .u64 a0 6148914691236517205))) / 4) 3689348814741910323) + (Go.bits .and .u64 (IntKind.u64.wrap ((Go.bits .and .u64 (a0 / 2) 6148914691236517205) + (Go.bits .and .u64 a0 6148914691236517205))) 3689348814741910323))))) 1085102592571150095) / 256))) + ((IntKind.u64.wrap ((Go.bits .and .u64 (IntKind.u64.wrap (((IntKind.u64.wrap ((Go.bits .and .u64 ((IntKind.u64.wrap ((Go.bits .and .u64 (a0 / 2) 6148914691236517205) + (Go.bits .and .u64 a0 6148914691236517205))) / 4) 3689348814741910323) + (Go.bits .and .u64 (IntKind.u64.wrap ((Go.bits .and .u64 (a0 / 2) 6148914691236517205) + (Go.bits .and .u64 a0 6148914691236517205))) 3689348814741910323))) / 16) + (IntKind.u64.wrap ((Go.bits .and .u64 ((IntKind.u64.wrap ((Go.bits .and .u64 (a0 / 2) 6148914691236517205) + (Go.bits .and .u64 a0 6148914691236517205))) / 4) 3689348814741910323) + (Go.bits .and .u64 (IntKind.u64.wrap ((Go.bits .and .u64 (a0 / 2) 6148914691236517205) + (Go.bits .and .u64 a0 6148914691236517205))) 3689348814741910323))))) 1085102592571150095) + ((Go.bits .and .u64 (IntKind.u64.wrap (((IntKind.u64.wrap ((Go.bits .and .u64 ((IntKind.u64.wrap ((Go.bits .and .u64 (a0 / 2) 6148914691236517205) + (Go.bits .and .u64 a0 6148914691236517205))) / 4) 3689348814741910323) + (Go.bits .and .u64 (IntKind.u64.wrap ((Go.bits .and .u64 (a0 / 2) 6148914691236517205) + (Go.bits .and .u64 a0 6148914691236517205))) 3689348814741910323))) / 16) + (IntKind.u64.wrap ((Go.bits .and .u64 ((IntKind.u64.wrap ((Go.bits .and .u64 (a0 / 2) 6148914691236517205) + (Go.bits .and .u64 a0 6148914691236517205))) / 4) 3689348814741910323) + (Go.bits .and .u64 (IntKind.u64.wrap ((Go.bits .and .u64 (a0 / 2) 6148914691236517205) + (Go.bits .and .u64 a0 6148914691236517205))) 3689348814741910323))))) 1085102592571150095) / 256))) / 65536))) + ((IntKind.u64.wrap ((IntKind.u64.wrap ((Go.bits .and .u64 (IntKind.u64.wrap (((IntKind.u64.wrap ((Go.bits .and .u64 ((IntKind.u64.wrap ((Go.bits .and .u64 (a0 / 2) 6148914691236517205) + (Go.bits .and .u64 a0 6148914691236517205))) / 4) 3689348814741910323) + (Go.bits .and .u64 (IntKind.u64.wrap ((Go.bits .and .u64 (a0 / 2) 6148914691236517205) + (Go.bits .and .u64 a0 6148914691236517205))) 3689348814741910323))) / 16) + (IntKind.u64.wrap ((Go.bits .and .u64 ((IntKind.u64.wrap ((Go.bits .and .u64 (a0 / 2) 6148914691236517205) + (Go.bits .and .u64 a0 6148914691236517205))) / 4) 3689348814741910323) + (Go.bits .and .u64 (IntKind.u64.wrap ((Go.bits .and .u64 (a0 / 2) 6148914691236517205) + (Go.bits .and .u64 a0 6148914691236517205))) 3689348814741910323))))) 1085102592571150095) + ((Go.bits .and .u64 (IntKind.u64.wrap (((IntKind.u64.wrap ((Go.bits .and .u64 ((IntKind.u64.wrap ((Go.bits .and .u64 (a0 / 2) 6148914691236517205) + (Go.bits .and .u64 a0 6148914691236517205))) / 4) 3689348814741910323) + (Go.bits .and .u64 (IntKind.u64.wrap ((Go.bits .and .u64 (a0 / 2) 6148914691236517205) + (Go.bits .and .u64 a0 6148914691236517205))) 3689348814741910323))) / 16) + (IntKind.u64.wrap ((Go.bits .and .u64 ((IntKind.u64.wrap ((Go.bits .and .u64 (a0 / 2) 6148914691236517205) + (Go.bits .and .u64 a0 6148914691236517205))) / 4) 3689348814741910323) + (Go.bits .and .u64 (IntKind.u64.wrap ((Go.bits .and .u64 (a0 / 2) 6148914691236517205) + (Go.bits .and .u64 a0 6148914691236517205))) 3689348814741910323))))) 1085102592571150095) / 256))) + ((IntKind.u64.wrap ((Go.bits .and .u64 (IntKind.u64.wrap (((IntKind.u64.wrap ((Go.bits .and .u64 ((IntKind.u64.wrap ((Go.bits .and .u64 (a0 / 2) 6148914691236517205) + (Go.bits .and .u64 a0 6148914691236517205))) / 4) 3689348814741910323) + (Go.bits .and .u64 (IntKind.u64.wrap ((Go.bits .and .u64 (a0 / 2) 6148914691236517205) + (Go.bits .and .u64 a0 6148914691236517205))) 3689348814741910323))) / 16) + (IntKind.u64.wrap ((Go.bits .and .u64 ((IntKind.u64.wrap ((Go.bits .and .u64 (a0 / 2) 6148914691236517205) + (Go.bits .and .u64 a0 6148914691236517205))) / 4) 3689348814741910323) + (Go.bits .and .u64 (IntKind.u64.wrap ((Go.bits .and .u64 (a0 / 2) 6148914691236517205) + (Go.bits .and .u64 a0 6148914691236517205))) 3689348814741910323))))) 1085102592571150095) + ((Go.bits .and .u64 (IntKind.u64.wrap (((IntKind.u64.wrap ((Go.bits .and .u64 ((IntKind.u64.wrap ((Go.bits .and .u64 (a0 / 2) 6148914691236517205) + (Go.bits .and .u64 a0 6148914691236517205))) / 4) 3689348814741910323) + (Go.bits .and .u64 (IntKind.u64.wrap ((Go.bits .and .u64 (a0 / 2) 6148914691236517205) + (Go.bits .and .u64 a0 6148914691236517205))) 3689348814741910323))) / 16) + (IntKind.u64.wrap ((Go.bits .and .u64 ((IntKind.u64.wrap ((Go.bits .and .u64 (a0 / 2) 6148914691236517205) + (Go.bits .and .u64 a0 6148914691236517205))) / 4) 3689348814741910323) + (Go.bits .and .u64 (IntKind.u64.wrap ((Go.bits .and .u64 (a0 / 2) 6148914691236517205) + (Go.bits .and .u64 a0 6148914691236517205))) 3689348814741910323))))) 1085102592571150095) / 256))) / 65536))) / 4294967296)))) 127)
theorem bits_OnesCount64.calls (a0 : Int) (r : Int) (w : World) (h : bits_OnesCount64.f a0 = some r) :
  Calls Tryz.prog 109 #[.int .u64 a0] w fun e w' => e = .returned (.int .i64 r) ∧ Drawn0 w w' := by
 have H := h
 unfold bits_OnesCount64.f at H
 clear h
 obtain rfl := Option.some.inj H
 go_enter Tryz.func109, Tryz.ntmps109
 go_wp2
 go_ret
 exact ⟨by first | rfl | (simp; done) | (simp [*]; done), dS⟩
def bits_OnesCount.f (a0 : Int) : Option (Int) := (bits_OnesCount64.f a0).bind fun t101 => (some t101)
theorem bits_OnesCount.calls (a0 : Int) (r : Int) (w : World) (h : bits_OnesCount.f a0 = some r) :
  Calls Tryz.prog 88 #[.int .u64 a0] w fun e w' => e = .returned (.int .i64 r) ∧ Drawn0 w w' := by
 have H := h
 unfold bits_OnesCount.f at H
 clear h
 replace H := oA H
 obtain ⟨t101, A2, H⟩ := H
 (try dsimp only at H)
 obtain rfl := Option.some.inj H
 go_enter Tryz.func88, Tryz.ntmps88
 go_wp2_with (first | ((with_reducible refine gate_callee (f := 109) rfl ?_); refine gL 7 Tryz.func109 #[.int .u64 a0] ?_; (with_reducible refine (bits_OnesCount64.calls a0 t101 _ A2.out).mono ?_); rintro e w' ⟨rfl, ⟨nd, rfl⟩⟩; refine ⟨_, rfl, ?_⟩))
 go_ret
 exact ⟨by first | rfl | (simp; done) | (simp [*]; done), dS⟩
def impl_count.f (a0 : Int) : Option (Int) := (bits_OnesCount.f (IntKind.u64.wrap (a0))).bind fun t101 => (some t101)
theorem impl_count.calls (a0 : Int) (r : Int) (w : World) (h : impl_count.f a0 = some r) :
  Calls Tryz.prog 65 #[.int .i64 a0] w fun e w' => e = .returned (.int .i64 r) ∧ Drawn0 w w' := by
 have H := h
 unfold impl_count.f at H
 clear h
 replace H := oA H
 obtain ⟨t101, A2, H⟩ := H
 (try dsimp only at H)
 obtain rfl := Option.some.inj H
 go_enter Tryz.func65, Tryz.ntmps65
 go_wp2_with (first | ((with_reducible refine gate_callee (f := 88) rfl ?_); refine gL 5 Tryz.func88 #[.int .u64 (IntKind.u64.wrap (a0))] ?_; (with_reducible refine (bits_OnesCount.calls (IntKind.u64.wrap (a0)) t101 _ A2.out).mono ?_); rintro e w' ⟨rfl, ⟨nd, rfl⟩⟩; refine ⟨_, rfl, ?_⟩))
 go_ret
 exact ⟨by first | rfl | (simp; done) | (simp [*]; done), dS⟩
mutual
def impl_CountWinningOf.j0 : Nat → Int → Bool → Int → List Int → Option (Int × Bool)
 | 0, _, _, _, _ => none
 | k + 1, x1, x19, x102000, x102001 => if x19 = true then (some (0, false)) else ((impl_Committee_votes.f k x102000 x102001).bind fun bt104 => (impl_CountWinningOf.l0 k x1 0 bt104.2 (bt104.2.length : Int) 0))
def impl_CountWinningOf.l0 : Nat → Int → Int → List Bool → Int → Int → Option (Int × Bool)
 | 0, _, _, _, _, _ => none
 | k + 1, x1, x6, x22, x23, x24 => if x24 < x23 then (if 0 ≤ x24 then (if x24 < (x22.length : Int) then (if rdOf false x22 x24 = true then ((impl_count.f x24).bind fun t109 => (if t109 = x1 then (impl_CountWinningOf.l0 k x1 (wrap64 (x6 + 1)) x22 x23 (wrap64 (x24 + 1))) else (impl_CountWinningOf.l0 k x1 x6 x22 x23 (wrap64 (x24 + 1))))) else (impl_CountWinningOf.l0 k x1 x6 x22 x23 (wrap64 (x24 + 1)))) else (none)) else (none)) else (some (x6, true))
end
def impl_CountWinningOf.f (k : Nat) (a0_0 : Int) (l0_1 : List Int) (a1 : Int) : Option (Int × Bool) := (impl_IsCommittee.f k a0_0 l0_1).bind fun t102 => (if t102 = true then ((impl_within.f a1 0 (l0_1.length : Int)).bind fun t103 => (impl_CountWinningOf.j0 k a1 (!t103) a0_0 l0_1)) else (impl_CountWinningOf.j0 k a1 true a0_0 l0_1))
theorem impl_CountWinningOf.calls (k : Nat) (a0_0 : Int) (A0_1 : Option Addr) (c0_1 : Nat) (l0_1 : List Int) (a1 : Int) (r1 : Int) (r2 : Bool) (w : World) (hr0_1 : Kd.C (Kd.int .i64) w A0_1 l0_1.length l0_1) (hc0_1 : l0_1.length ≤ c0_1) (h : impl_CountWinningOf.f k a0_0 l0_1 a1 = some (r1, r2)) :
  Calls Tryz.prog 26 #[.agg #[.int .i64 a0_0, .slice A0_1 l0_1.length c0_1], .int .i64 a1] w fun e w' => e = .returned (.tuple #[.int .i64 r1, .bool r2]) ∧ Below w.heap.size w w' := by
 have hu24 := Tryz.underlying24
 have hu53 := Tryz.underlying53
 have hfd0 : ∀ (v0_ v1_ : Value) (W_ : World), (Instr.field 53 (.agg #[v0_, v1_]) 1).run Tryz.prog W_ = .ok v1_ W_ := fun v0_ v1_ W_ => by kernel_rfl
 have HR0_1 := Aside0.mk hr0_1
 have HC0_1 := Aside0.mk hc0_1
 clear hr0_1 hc0_1
 have HB := Aside0.mk (Below.refl w.heap.size w)
 have H := h
 unfold impl_CountWinningOf.f at H
 clear h
 have HC3 := Aside0.mk H
 clear H
 go_enter Tryz.func26, Tryz.ntmps26
 go_upto_region 1 with (first | ((with_reducible refine gate_dst (N := 2) rfl ?_); (try (refine gate_guard (by rfl) ?_; dsimp only)); refine xE (N := 2) (cs := #[.int .i64 a0_0, .slice A0_1 l0_1.length c0_1]) (t := 24) ?_; intro gb101 hg w4 BK101 hb; have GW101 := gS hg HB; have GE101 := gS hg HB; replace HB := sB HB hb; clear hb hg))
 (try simp only [Act.put, sA, sZ, sS])
 go_cut [19] (fun v19 wc => ∃ (kq : Nat) (x19_2 : Bool), v19 = .bool x19_2 ∧ Aside0 (impl_CountWinningOf.j0 kq a1 x19_2 a0_0 l0_1 = some (r1, r2)) ∧ Aside0 (kq ≤ k) ∧ Aside0 (wc.heap[gb101]? = some (.cells #[.int .i64 a0_0, (.slice A0_1 l0_1.length c0_1)] 24 (0, 0))) ∧ Aside0 (Below w.heap.size w wc))
 case first =>
  have H := HC3.out
  clear HC3
  replace H := oA H
  obtain ⟨t102, A5, H⟩ := H
  (try dsimp only at H)
  by_cases c6 : t102 = true
  rotate_left
  ·replace c6 := Bool.eq_false_iff.mpr c6
   subst c6
   replace H := iF H
   have H' := Aside0.mk H
   clear H
   (try clear hcz10_0 hcz10_1 hfz10_0 hfz10_1)
   obtain ⟨hcz11_0, hcz11_1, hfz11_0, hfz11_1⟩ := zZ BK101
   go_wp2_with (first | ((with_reducible refine gate_callee (f := 16) rfl ?_); refine gL 10 Tryz.func16 #[.agg #[.int .i64 a0_0, .slice A0_1 l0_1.length c0_1]] ?_; (with_reducible refine (impl_IsCommittee.calls k a0_0 _ _ l0_1 false _ ?side1 ?side2 A5.out).mono ?_); (case side1 => have hx_ := (Kd.C_below HR0_1.out HB.out); exact cC); (case side2 => exact HC0_1.out); rintro e w12 ⟨rfl, hb⟩; refine ⟨_, rfl, ?_⟩; replace BK101 := bP BK101 hb; replace HB := sQ hb; (try clear hb)))
   go_meet
   case rel => exact ⟨_, (true), gR, H', ⟨by first | omega | exact Nat.le_refl _⟩, ⟨bQ BK101⟩, ⟨wB⟩⟩
  subst c6
  replace H := iT H
  replace H := oA H
  obtain ⟨t103, A7, H⟩ := H
  (try dsimp only at H)
  have H' := Aside0.mk H
  clear H
  obtain ⟨hcz8_0, hcz8_1, hfz8_0, hfz8_1⟩ := zZ BK101
  go_wp2_with (first | ((with_reducible refine gate_callee (f := 16) rfl ?_); refine gL 10 Tryz.func16 #[.agg #[.int .i64 a0_0, .slice A0_1 l0_1.length c0_1]] ?_; (with_reducible refine (impl_IsCommittee.calls k a0_0 _ _ l0_1 true _ (Kd.C_below HR0_1.out HB.out) HC0_1.out A5.out).mono ?_); rintro e w9 ⟨rfl, hb⟩; refine ⟨_, rfl, ?_⟩; replace BK101 := bB BK101 hb; replace HB := sB HB hb; (try clear hb); (try clear hcz8_0 hcz8_1 hfz8_0 hfz8_1); obtain ⟨hcz10_0, hcz10_1, hfz10_0, hfz10_1⟩ := zZ BK101) | (go_at_call 35; (with_reducible refine (impl_within.calls a1 0 (l0_1.length : Int) t103 _ A7.out).mono ?_); rintro e w' ⟨rfl, ⟨nd, rfl⟩⟩))
  go_meet
  case rel => exact ⟨_, (!t103), gR, H', ⟨by first | omega | exact Nat.le_refl _⟩, ⟨bQ BK101⟩, ⟨wB⟩⟩
 case rest =>
  clear HC3
  (try clear c1); (try clear c2); (try clear p2); (try clear c6); (try clear hcz11_0); (try clear hcz11_1); (try clear hfz11_0); (try clear hfz11_1)
  obtain ⟨kq, x19_2, rfl, HA, HJ2, BK101, HB⟩ := hcut
  cases kq with
  | zero => exact absurd HA.out (by simp [impl_CountWinningOf.j0])
  | succ kj2 =>
   have H := HA.out
   clear HA
   simp only [impl_CountWinningOf.j0] at H
   by_cases c13 : x19_2 = true
   ·subst c13
    replace H := iT H
    simp only [Option.some.injEq, Prod.mk.injEq] at H
    obtain ⟨rfl, rfl⟩ := H
    go_wp2
    go_ret2
    exact ⟨fR, wB⟩
   replace c13 := Bool.eq_false_iff.mpr c13
   subst c13
   replace H := iF H
   replace H := oB H
   obtain ⟨⟨t104, t105⟩, A140, H⟩ := H
   (try dsimp only at H)
   have A14 := Aside0.mk A140
   clear A140
   have H' := Aside0.mk H
   clear H
   obtain ⟨hcz15_0, hcz15_1, hfz15_0, hfz15_1⟩ := zZ BK101
   go_wp2_with (first | ((with_reducible refine gate_callee (f := 40) rfl ?_); refine gL 21 Tryz.func40 #[.agg #[.int .i64 a0_0, .slice A0_1 l0_1.length c0_1]] ?_; (with_reducible refine (impl_Committee_votes.calls kj2 a0_0 _ _ l0_1 t104 t105 _ (Kd.C_below HR0_1.out HB.out) HC0_1.out A14.out).mono ?_); rintro e w16 ⟨v106, rfl, ho0, hb⟩; refine ⟨_, rfl, ?_⟩; have HO107 := Aside0.mk (Kd.R_lower ho0 (below_size HB.out)); replace BK101 := bB BK101 hb; replace HB := sB HB hb; (try clear hb); (try clear ho0); obtain ⟨Ao17, co17, eo17⟩ := Kd.R_slice HO107.out; subst eo17))
   go_loopg [6, 24] kj2 (fun kq v6 v24 w' => ∃ (x6_2 : Int) (x24_2 : Int), v6 = .int .i64 x6_2 ∧ v24 = .int .i64 x24_2 ∧ Aside0 (impl_CountWinningOf.l0 kq a1 x6_2 t105 (t105.length : Int) x24_2 = some (r1, r2)) ∧ Aside0 (kq ≤ kj2) ∧ Aside0 (Kd.R Kd.bool 4 w' w.heap.size (fun _ => True) (.slice Ao17 t105.length co17) t105) ∧ Aside0 (w'.heap[gb101]? = some (.cells #[.int .i64 a0_0, (.slice A0_1 l0_1.length c0_1)] 24 (0, 0))) ∧ Aside0 (Below w.heap.size w w'))
   case atStart => exact ⟨(0), (0), gR, gR, H', ⟨Nat.le_refl _⟩, ⟨by exact HO107.out⟩, ⟨by exact BK101.out⟩, ⟨wB⟩⟩
   case round =>
    clear H'
    (try clear c1); (try clear c2); (try clear p2); (try clear c4); (try clear c6); (try clear c13); (try clear c16); (try clear hcz11_0); (try clear hcz11_1); (try clear hcz15_0); (try clear hcz15_1); (try clear hfz11_0); (try clear hfz11_1); (try clear hfz15_0); (try clear hfz15_1); (try clear p2)
    obtain ⟨x6_2, x24_2, rfl, rfl, HA, HK2, HO_22, BK101, HB⟩ := hrel
    cases gk with
    | zero => exact absurd HA.out (by simp [impl_CountWinningOf.l0])
    | succ k2 =>
     have H := HA.out
     clear HA
     simp only [impl_CountWinningOf.l0] at H
     by_cases c18 : x24_2 < (t105.length : Int)
     rotate_left
     ·rw [if_neg c18] at H
      have c18b0 : decide (x24_2 < (t105.length : Int)) = false := decide_eq_false c18
      clear c18
      simp only [Option.some.injEq, Prod.mk.injEq] at H
      obtain ⟨rfl, rfl⟩ := H
      go_wp2
      go_ret2
      exact ⟨fR, wB⟩
     rw [if_pos c18] at H
     have c18b0 := decide_eq_true c18
     clear c18
     by_cases c19 : 0 ≤ x24_2
     rotate_left
     ·rw [if_neg c19] at H
      exact absurd H (by simp)
     rw [if_pos c19] at H
     have c19b0 := decide_eq_true c19
     clear c19
     by_cases c20 : x24_2 < (t105.length : Int)
     rotate_left
     ·rw [if_neg c20] at H
      exact absurd H (by simp)
     rw [if_pos c20] at H
     have c20b0 := decide_eq_true c20
     clear c20
     obtain ⟨bq21, hbq21⟩ : ∃ b_ : Bool, b_ = (rdOf false t105 x24_2) := ⟨_, rfl⟩
     replace H : (if bq21 = true then ((impl_count.f x24_2).bind fun t109 => (if t109 = a1 then (impl_CountWinningOf.l0 k2 a1 (wrap64 (x6_2 + 1)) t105 (t105.length : Int) (wrap64 (x24_2 + 1))) else (impl_CountWinningOf.l0 k2 a1 x6_2 t105 (t105.length : Int) (wrap64 (x24_2 + 1))))) else (impl_CountWinningOf.l0 k2 a1 x6_2 t105 (t105.length : Int) (wrap64 (x24_2 + 1)))) = some (r1, r2) := by rw [← hbq21] at H; exact H
     have Nbq21 := Aside0.mk hbq21
     clear hbq21
     by_cases c22 : bq21 = true
     rotate_left
     ·replace c22 := Bool.eq_false_iff.mpr c22
      subst c22
      replace H := iF H
      have H' := Aside0.mk H
      clear H
      have p108 : 0 ≤ (x24_2 : Int) := oD
      have q108 : x24_2 < (t105.length : Int) := oD
      obtain ⟨ad108, e108, hx108_0⟩ := Kd.at_bool (Kd.R_reads' HO_22.out).2.2 x24_2 p108 q108
      (try rw [← Nbq21.out] at hx108_0)
      cases e108
      replace p108 := eq_true p108
      replace q108 := eq_true q108
      go_wp2
      go_roundg k2
      case measure => have := HJ2.out; have := HK2.out; omega
      case rel => exact ⟨(x6_2), (wrap64 (x24_2 + 1)), gR, gR, H', ⟨by have := HJ2.out; have := HK2.out; omega⟩, ⟨rQ HO_22⟩, ⟨bQ BK101⟩, ⟨wB⟩⟩
     subst c22
     replace H := iT H
     replace H := oA H
     obtain ⟨t109, A23, H⟩ := H
     (try dsimp only at H)
     by_cases c24 : t109 = a1
     rotate_left
     ·rw [if_neg c24] at H
      have c24b0 : (t109 == a1) = false := beq_eq_false_iff_ne.mpr c24
      have c24b1 : (t109 != a1) = true := bne_iff_ne.mpr c24
      have H' := Aside0.mk H
      clear H
      have p108 : 0 ≤ (x24_2 : Int) := oD
      have q108 : x24_2 < (t105.length : Int) := oD
      obtain ⟨ad108, e108, hx108_0⟩ := Kd.at_bool (Kd.R_reads' HO_22.out).2.2 x24_2 p108 q108
      (try rw [← Nbq21.out] at hx108_0)
      cases e108
      replace p108 := eq_true p108
      replace q108 := eq_true q108
      go_wp2_with (first | (go_at_call 65; (with_reducible refine (impl_count.calls x24_2 t109 _ A23.out).mono ?_); rintro e w' ⟨rfl, ⟨nd, rfl⟩⟩))
      go_roundg k2
      case measure => have := HJ2.out; have := HK2.out; omega
      case rel => exact ⟨(x6_2), (wrap64 (x24_2 + 1)), gR, gR, H', ⟨by have := HJ2.out; have := HK2.out; omega⟩, ⟨rQ HO_22⟩, ⟨bQ BK101⟩, ⟨wB⟩⟩
     rw [if_pos c24] at H
     have c24b0 : (t109 == a1) = true := beq_iff_eq.mpr c24
     have c24b1 : (t109 != a1) = false := bne_eq_false_iff_eq.mpr c24
     clear c24
     have H' := Aside0.mk H
     clear H
     have p108 : 0 ≤ (x24_2 : Int) := oD
     have q108 : x24_2 < (t105.length : Int) := oD
     obtain ⟨ad108, e108, hx108_0⟩ := Kd.at_bool (Kd.R_reads' HO_22.out).2.2 x24_2 p108 q108
     (try rw [← Nbq21.out] at hx108_0)
     cases e108
     replace p108 := eq_true p108
     replace q108 := eq_true q108
     go_wp2_with (first | (go_at_call 65; (with_reducible refine (impl_count.calls x24_2 t109 _ A23.out).mono ?_); rintro e w' ⟨rfl, ⟨nd, rfl⟩⟩))
     go_roundg k2
     case measure => have := HJ2.out; have := HK2.out; omega
     case rel => exact ⟨(wrap64 (x6_2 + 1)), (wrap64 (x24_2 + 1)), gR, gR, H', ⟨by have := HJ2.out; have := HK2.out; omega⟩, ⟨rQ HO_22⟩, ⟨bQ BK101⟩, ⟨wB⟩⟩
def impl_votes_all.f (a0_0 : Int) (l0_1 : List Bool) : Option (Int) := if 0 ≤ a0_0 then (some (wrap64 ((shl .i64 1 a0_0) - 1))) else (none)
theorem impl_votes_all.calls (a0_0 : Int) (A0_1 : Option Addr) (c0_1 : Nat) (l0_1 : List Bool) (r : Int) (w : World) (hr0_1 : Kd.C Kd.bool w A0_1 l0_1.length l0_1) (hc0_1 : l0_1.length ≤ c0_1) (h : impl_votes_all.f a0_0 l0_1 = some r) :
  Calls Tryz.prog 68 #[.agg #[.int .i64 a0_0, .slice A0_1 l0_1.length c0_1]] w fun e w' => e = .returned (.int .i64 r) ∧ Below w.heap.size w w' := by
 have hu53 := Tryz.underlying53
 have HR0_1 := Aside0.mk hr0_1
 have HC0_1 := Aside0.mk hc0_1
 clear hr0_1 hc0_1
 have HB := Aside0.mk (Below.refl w.heap.size w)
 have H := h
 unfold impl_votes_all.f at H
 clear h
 by_cases c2 : 0 ≤ a0_0
 rotate_left
 ·rw [if_neg c2] at H
  exact absurd H (by simp)
 rw [if_pos c2] at H
 have c2b0 := eq_true c2
 have c2b1 := decide_eq_true c2
 clear c2
 obtain ⟨ji3, hji3⟩ : ∃ j_ : Int, (shl .i64 1 a0_0) = j_ := ⟨_, rfl⟩
 replace H : (some (wrap64 ((ji3) - 1))) = some r := by first | (rw [hji3] at H; exact H) | (simp only [hji3] at H ⊢; exact H)
 have hji3_ : (IntKind.i64.wrap (1 * 2 ^ min a0_0.toNat 64)) = ji3 := hji3
 have hji3z : a0_0 ≤ 64 → (IntKind.i64.wrap (1 * 2 ^ a0_0.toNat)) = ji3 := shl_small hji3
 have hji3u : (IntKind.i64.wrap (2 ^ min a0_0.toNat 64)) = ji3 := by have h_ := hji3_; rw [Int.one_mul] at h_; exact h_
 have hji3v : a0_0 ≤ 64 → (IntKind.i64.wrap (2 ^ a0_0.toNat)) = ji3 := fun hle_ => by have h_ := hji3z hle_; rw [Int.one_mul] at h_; exact h_
 have hji3y : (wrap64 (1 * 2 ^ min a0_0.toNat 64)) = ji3 := (i64_w _).symm.trans hji3_
 have hji3x : a0_0 ≤ 64 → (wrap64 (1 * 2 ^ a0_0.toNat)) = ji3 := fun h_ => (i64_w _).symm.trans (hji3z h_)
 obtain rfl := Option.some.inj H
 go_enter Tryz.func68, Tryz.ntmps68
 go_wp2_with (first | ((with_reducible refine gate_dst (N := 1) rfl ?_); refine xE (N := 1) (cs := #[.int .i64 a0_0, .slice A0_1 l0_1.length c0_1]) (t := 53) ?_; intro gb101 hg w4 BK101 hb; have GW101 := gS hg HB; have GE101 := gS hg HB; replace HB := sB HB hb; clear hb hg; obtain ⟨hcz5_0, hcz5_1, hfz5_0, hfz5_1⟩ := zZ BK101))
 go_ret
 exact ⟨by first | rfl | (simp <;> rfl) | (simp only [← hji3]; first | rfl | (simp <;> rfl)) | (simp [*] <;> rfl), wB⟩
def impl_members.l0 : Nat → (Int → Option Bool) → Int → List Int → Int → Option (List Int)
 | 0, _, _, _, _ => none
 | k + 1, p, n, out, x => if x < n then ((p x).bind fun b => if b = true then (if out.length < 17592186044416 then impl_members.l0 k p n (out ++ [x]) (wrap64 (x + 1)) else none) else impl_members.l0 k p n out (wrap64 (x + 1))) else some out
def impl_members.g (k : Nat) (n : Int) (p : Int → Option Bool) : Option (List Int) := impl_members.l0 k p n [] 0
theorem impl_members.hof (k : Nat) (n : Int) (p : Int → Option Bool) (g : Nat) (fb lb : Array Value) (r : List Int) (w : World) (hn : n ≤ 9223372036854775807) (eg : ∀ args w, (callFunc g args).run Tryz.prog w = .ok (.enter g args) w)
  (hp : ∀ (W : World) (x : Int) (b : Bool), Below w.heap.size w W → 0 ≤ x → x < n → p x = some b → Calls Tryz.prog g (fb ++ #[.int .i64 x] ++ lb) W fun e W' => e = .returned (.bool b) ∧ Below W.heap.size W W') (h : impl_members.g k n p = some r) :
  Calls Tryz.prog 66 #[.int .i64 n, .func (.func g) fb lb] w fun e w' => ∃ v0_ : Value, e = .returned (v0_) ∧ Kd.R (Kd.int .i64) 3 w' w.heap.size (fun _ => True) v0_ r ∧ Below w.heap.size w w' := by
 have HN := Aside0.mk hn
 have HP := Aside0.mk hp
 have H' : Aside0 (impl_members.l0 k p n ([] : List Int) 0 = some r) := ⟨h⟩
 have HB := Aside0.mk (Below.refl w.heap.size w)
 clear h hp hn
 go_enter Tryz.func66, Tryz.ntmps66
 go_wp2_with (first | ((with_reducible refine gate_dst (N := 7) rfl ?_); refine Kd.R_lit (Kd.int .i64) _ 3 ?hg (N := 7) ?hd (xs := ([] : List Int)) (inner := []) (ok := fun _ => True) (okp := fun _ => True) ?hr ?hp (fun _ hk => hk) trivial (Below.refl _ _) (Nat.le_refl _) (by simp) ?_; (case hd => rfl); (case hg => rfl); (case hr => first | (go_simp; done) | (go_simp; rfl)); (case hp => exact (Reps.none _ _)); intro v102 w8 ho hb hg_ hnew_; clear hg_ hnew_; have n0_ := Aside0.mk (Kd.R_lower ho (below_size HB.out)); have n2_ := sB HB hb; clear HB; have HO := n0_; have HB := n2_; clear n0_ n2_; clear hb ho))
 go_loopg [5, 9] k (fun kq v5 v9 w' => ∃ (out : List Int) (x : Int), v9 = .int .i64 x ∧ Aside0 (impl_members.l0 kq p n out x = some r) ∧ Aside0 (kq ≤ k) ∧ Aside0 (0 ≤ x) ∧ Aside0 (Kd.R (Kd.int .i64) 3 w' w.heap.size (fun _ => True) v5 out) ∧ Aside0 (Below w.heap.size w w'))
 case atStart => exact ⟨[], 0, gR, H', ⟨Nat.le_refl _⟩, ⟨Int.le_refl _⟩, ⟨by exact HO.out⟩, ⟨HB.out⟩⟩
 case round =>
  clear H' HB HO
  obtain ⟨out, x, rfl, HA, HK1, HX0, HO, HB⟩ := hrel
  cases gk with
  | zero => exact absurd HA.out (by simp [impl_members.l0])
  | succ k1 =>
   have H := HA.out
   clear HA
   simp only [impl_members.l0] at H
   by_cases c1 : x < n
   rotate_left
   ·rw [if_neg c1] at H
    obtain rfl := Option.some.inj H
    have c1b0 : decide (x < n) = false := decide_eq_false c1
    clear c1 H
    go_wp2
    go_ret
    exact ⟨_, rfl, by exact HO.out, HB.out⟩
   rw [if_pos c1] at H
   obtain ⟨b, A5, H⟩ := oB H
   have hcall := HP.out wr x b HB.out HX0.out c1 A5
   have HXW : Aside0 (0 ≤ wrap64 (x + 1)) := ⟨by have h1_ := HX0.out; have h2_ := HN.out; unfold wrap64; omega⟩
   have c1b0 := decide_eq_true c1
   clear c1
   cases b with
   | true =>
    rw [if_pos rfl] at H
    by_cases c3 : out.length < 17592186044416
    rotate_left
    ·rw [if_neg c3] at H
     exact absurd H (by simp)
    rw [if_pos c3] at H
    obtain ⟨y, hy⟩ : ∃ y_ : List Int, y_ = (out ++ [x]) := ⟨_, rfl⟩
    rw [← hy] at H
    have NY := Aside0.mk hy
    have LM := Aside0.mk c3
    have H' := Aside0.mk H
    clear hy c3 H
    go_wp2_with fail
    refine hcall.mono ?_
    rintro e w' ⟨rfl, hb⟩
    have n0_ := rB HO hb
    have n2_ := Aside0.mk (HB.out.trans (hb.mono HB.out.size))
    clear HO HB hb hcall
    have HO := n0_
    have HB := n2_
    clear n0_ n2_
    go_wp2_with (((with_reducible refine gate_builtin (b := .append) (xs := #[.tmp 15, .tmp 17]) rfl ?_); at_builtin; refine Kd.R_append (Kd.int .i64) (w0 := w) w.heap.size rfl (.tmp 15) (.tmp 17) 22 3 (.int .i64 0) 8 rfl Tryz.underlying22 info3 rfl (by decide) (by omega) u5 out x [.int .i64 x] (fun _ => True) (fun _ => False) rfl rfl ?aP (fun _ hk => hk.elim) ?aF ?aO ?aB ?aS ?aL ?_; (case aP => exact rfl); (case aB => exact HB.out); (case aF => exact (fun _ _ => trivial)); (case aO => exact HO.out); (case aS => exact (below_size HB.out)); (case aL => have := LM.out; omega); intro v18 w18 ho hb hg hat; rw [← NY.out] at ho; have n0_ := Aside0.mk hb; have n1_ := Aside0.mk ho; clear HB HO; have HB := n0_; have HO := n1_; clear n0_ n1_ ho hb hg hat))
    go_roundg k1
    case measure => have := HK1.out; omega
    case rel => exact ⟨y, (wrap64 (x + 1)), gR, H', ⟨by have := HK1.out; omega⟩, HXW, ⟨by exact HO.out⟩, ⟨HB.out⟩⟩
   | false =>
    rw [if_neg (by decide)] at H
    have H' := Aside0.mk H
    clear H
    go_wp2_with fail
    refine hcall.mono ?_
    rintro e w' ⟨rfl, hb⟩
    have n0_ := rB HO hb
    have n2_ := Aside0.mk (HB.out.trans (hb.mono HB.out.size))
    clear HO HB hb hcall
    have HO := n0_
    have HB := n2_
    clear n0_ n2_
    go_wp2
    go_roundg k1
    case measure => have := HK1.out; omega
    case rel => exact ⟨out, (wrap64 (x + 1)), gR, H', ⟨by have := HK1.out; omega⟩, HXW, ⟨by exact HO.out⟩, ⟨HB.out⟩⟩
def impl_VetoMembers_1.f (n : Int) (ws : List Bool) (x : Int) : Option Bool := (impl_votes_all.f n ws).bind fun t => if 0 ≤ Go.bits .andNot .i64 t (shl .i64 1 x) then (if Go.bits .andNot .i64 t (shl .i64 1 x) < (ws.length : Int) then some (!(rdOf false ws (Go.bits .andNot .i64 t (shl .i64 1 x)))) else none) else none
def impl_VetoMembers.f (k : Nat) (a0_0 : Int) (l0_1 : List Int) : Option (List Int × Bool) := (impl_IsCommittee.f k a0_0 l0_1).bind fun t => if t = true then ((impl_Committee_votes.f k a0_0 l0_1).bind fun v => if v.1 ≤ 9223372036854775807 then ((impl_members.g k v.1 (impl_VetoMembers_1.f v.1 v.2)).bind fun r => some (r, true)) else none) else some (([] : List Int), false)
theorem impl_VetoMembers_1.clo (n : Int) (ws : List Bool) (x : Int) (b : Bool) (A : Option Addr) (c : Nat) (B : Nat) (W : World) (hx0 : 0 ≤ x) (h0 : W.cell? ⟨B, 0, none⟩ = some (.int .i64 n)) (h1 : W.cell? ⟨B, 1, none⟩ = some (.slice A ws.length c)) (hr : Kd.C Kd.bool W A ws.length ws) (hc : ws.length ≤ c) (h : impl_VetoMembers_1.f n ws x = some b) :
  Calls Tryz.prog 67 #[.int .i64 x, .pointer (some ⟨B, 0, none⟩)] W fun e W' => e = .returned (.bool b) ∧ Below W.heap.size W W' := by
 have huV := Tryz.underlying53
 obtain ⟨t, ht, hg⟩ := oB h
 obtain ⟨j6, hj6⟩ : ∃ j_ : Int, (shl .i64 1 x) = j_ := ⟨_, rfl⟩
 rw [hj6] at hg
 have hj6_ : (IntKind.i64.wrap (1 * 2 ^ min x.toNat 64)) = j6 := hj6
 have hj6z : x ≤ 64 → (IntKind.i64.wrap (1 * 2 ^ x.toNat)) = j6 := shl_small hj6
 have hj6u : (IntKind.i64.wrap (2 ^ min x.toNat 64)) = j6 := by have h_ := hj6_; rw [Int.one_mul] at h_; exact h_
 have hj6v : x ≤ 64 → (IntKind.i64.wrap (2 ^ x.toNat)) = j6 := fun hle_ => by have h_ := hj6z hle_; rw [Int.one_mul] at h_; exact h_
 clear hj6
 by_cases c1 : 0 ≤ (Go.bits .andNot .i64 t j6)
 case neg => rw [if_neg c1] at hg; cases hg
 rw [if_pos c1] at hg
 by_cases c2 : (Go.bits .andNot .i64 t j6) < (ws.length : Int)
 case neg => rw [if_neg c2] at hg; cases hg
 rw [if_pos c2] at hg
 obtain rfl := Option.some.inj hg
 obtain ⟨ad, e1, hx⟩ := Kd.at_bool hr (Go.bits .andNot .i64 t j6) c1 c2
 obtain ⟨v, hv⟩ : ∃ v : Bool, v = rdOf false ws (Go.bits .andNot .i64 t j6) := ⟨_, rfl⟩
 rw [← hv] at hx ⊢
 cases e1
 have hl0 : B < W.heap.size := World.block_lt_of_cell? W _ h0
 have hl2 : (ad.add (Go.bits .andNot .i64 t j6).toNat).block < W.heap.size := World.block_lt_of_cell? W _ hx
 have HL0 := Aside0.mk (show B < W.drew.heap.size from hl0)
 have HL2 := Aside0.mk (show (ad.add (Go.bits .andNot .i64 t j6).toNat).block < W.drew.heap.size from hl2)
 have HD0 := Aside0.mk (show W.drew.cell? ⟨B, 0, none⟩ = some (.int .i64 n) from h0)
 have HD1 := Aside0.mk (show W.drew.cell? ⟨B, 1, none⟩ = some (.slice (some ad) ws.length c) from h1)
 have HD2 := Aside0.mk (show W.drew.cell? (ad.add (Go.bits .andNot .i64 t j6).toNat) = some (.bool v) from hx)
 have HR := Aside0.mk (Kd.C_drew hr)
 have HC := Aside0.mk hc
 have HT := Aside0.mk ht
 have HBD := Aside0.mk (show Below W.heap.size W W.drew from below_drew1 (Below.refl _ _))
 have c1' := eq_true c1
 have c2' := eq_true c2
 have c3' := eq_true hx0
 clear hr hc ht h hg hv hl0 hl2 c1 c2 hx hx0
 go_enter Tryz.func67, Tryz.ntmps67
 go_wp2
 go_region_held3 (fun w' => w'.cell? ⟨B, 0, none⟩ = some (.int .i64 n) ∧ w'.cell? ⟨B, 1, none⟩ = some (.slice (some ad) ws.length c) ∧ w'.cell? (ad.add (Go.bits .andNot .i64 t j6).toNat) = some (.bool v)) (first | exact ⟨HD0.out, HD1.out, HD2.out⟩ | exact ⟨k0, k1, k2⟩ | go_keep)
  (first | (go_at_call 68; refine (impl_votes_all.calls n (some ad) c ws t _ HR.out HC.out HT.out).mono ?_; rintro e w' ⟨rfl, hb⟩; have k0 := (hb.cell (p := ⟨B, 0, none⟩) HL0.out).trans HD0.out; have k1 := (hb.cell (p := ⟨B, 1, none⟩) HL0.out).trans HD1.out; have k2 := (hb.cell HL2.out).trans HD2.out; have HBN := Aside0.mk (HBD.out.trans (hb.mono HBD.out.size)); clear hb))
 go_wp2
 go_ret
 exact ⟨rfl, HBN.out⟩
theorem impl_VetoMembers.calls (k : Nat) (a0_0 : Int) (A0_1 : Option Addr) (c0_1 : Nat) (l0_1 : List Int) (r1 : List Int) (r2 : Bool) (w : World) (hr0_1 : Kd.C (Kd.int .i64) w A0_1 l0_1.length l0_1) (hc0_1 : l0_1.length ≤ c0_1) (h : impl_VetoMembers.f k a0_0 l0_1 = some (r1, r2)) :
  Calls Tryz.prog 27 #[.agg #[.int .i64 a0_0, .slice A0_1 l0_1.length c0_1]] w fun e w' => ∃ v0_ : Value, e = .returned (.tuple #[v0_, .bool r2]) ∧ Kd.R (Kd.int .i64) 3 w' w.heap.size (fun _ => True) v0_ r1 ∧ Below w.heap.size w w' := by
 have eg : ∀ args w, (callFunc 67 args).run Tryz.prog w = .ok (.enter 67 args) w := enters_of Tryz.func67 (by kernel_rfl) rfl
 have hmf : ∀ (fn : Fn) (first cap : Array Value) (w : World), (Instr.makeFunc fn first cap).run Tryz.prog w = .ok (.func fn first cap) w := fun _ _ _ _ => rfl
 have huC := Tryz.underlying24
 have huV := Tryz.underlying53
 simp only [impl_VetoMembers.f] at h
 obtain ⟨t, ht, h⟩ := oB h
 have HR := Aside0.mk hr0_1
 have HC := Aside0.mk hc0_1
 have HT := Aside0.mk ht
 have HB1 := Aside0.mk (show Below w.heap.size w (w.alloc (.cells #[.int .i64 a0_0, .slice A0_1 l0_1.length c0_1] 24)) from (Below.refl _ _).alloc (Nat.le_refl _) _)
 have hw1 := blk_new w (.cells #[.int .i64 a0_0, .slice A0_1 l0_1.length c0_1] 24)
 clear hr0_1 hc0_1 ht
 cases t with
 | false =>
  rw [if_neg (by decide)] at h
  simp only [Option.some.injEq, Prod.mk.injEq] at h
  obtain ⟨rfl, rfl⟩ := h
  go_enter Tryz.func27, Tryz.ntmps27
  go_wp2_with fail
  refine (impl_IsCommittee.calls k a0_0 A0_1 c0_1 l0_1 false _ (Kd.C_below HR.out HB1.out) HC.out HT.out).mono ?_
  rintro e w1 ⟨rfl, hb⟩
  have HB2 := Aside0.mk (HB1.out.trans (hb.mono HB1.out.size))
  clear hb
  go_wp2
  go_ret2
  exact ⟨_, rfl, Kd.R_nil _ _ _ _ _, HB2.out⟩
 | true =>
  rw [if_pos rfl] at h
  obtain ⟨⟨n, ws⟩, hv, h⟩ := oB h
  by_cases hn : n ≤ 9223372036854775807
  case neg => rw [if_neg hn] at h; cases h
  rw [if_pos hn] at h
  obtain ⟨r, hm, h⟩ := oB h
  simp only [Option.some.injEq, Prod.mk.injEq] at h
  obtain ⟨rfl, rfl⟩ := h
  have HV := Aside0.mk hv
  have HM := Aside0.mk hm
  have HN := Aside0.mk hn
  clear hv hm hn
  go_enter Tryz.func27, Tryz.ntmps27
  go_wp2_with fail
  refine (impl_IsCommittee.calls k a0_0 A0_1 c0_1 l0_1 true _ (Kd.C_below HR.out HB1.out) HC.out HT.out).mono ?_
  rintro e w1 ⟨rfl, hb⟩
  have BK := Aside0.mk (blk_below hw1 hb)
  have HB2 := Aside0.mk (HB1.out.trans (hb.mono HB1.out.size))
  have hc0 := (blk_cell BK.out 0).trans rfl
  have hc1 := (blk_cell BK.out 1).trans rfl
  clear hb
  go_wp2_with fail
  refine (impl_Committee_votes.calls k a0_0 A0_1 c0_1 l0_1 n ws _ (Kd.C_below HR.out HB2.out) HC.out HV.out).mono ?_
  rintro e w2 ⟨v1, rfl, hO, hb⟩
  obtain ⟨A1, c1, rfl⟩ := Kd.R_slice hO
  have HR1 := Aside0.mk (Kd.R_reads' hO)
  have HB3 := Aside0.mk (HB2.out.trans (hb.mono HB2.out.size))
  clear hO hb hc0 hc1
  have hc0' : (w2.alloc (.cells #[.int .i64 n, .slice A1 ws.length c1] 53)).cell? ⟨w2.heap.size, 0, none⟩ = some (.int .i64 n) := by simp [go_sem]
  have HB4 := Aside0.mk (HB3.out.trans ((below_alloc (Below.refl w2.heap.size w2) (.cells #[.int .i64 n, .slice A1 ws.length c1] 53)).mono HB3.out.size))
  have HX := Aside0.mk (impl_members.hof k n (impl_VetoMembers_1.f n ws) 67 #[] #[.pointer (some ⟨w2.heap.size, 0, none⟩)] r (w2.alloc (.cells #[.int .i64 n, .slice A1 ws.length c1] 53)) HN.out eg (fun W x b hb hx0 _ hx => by
   refine impl_VetoMembers_1.clo n ws x b A1 c1 w2.heap.size W hx0 ?_ ?_ (Kd.C_below (Kd.C_alloc HR1.out.2.2 _) hb) HR1.out.2.1 hx
   ·rw [hb.cell (p := ⟨w2.heap.size, 0, none⟩) (by simp)]
    simp [go_sem]
   rw [hb.cell (p := ⟨w2.heap.size, 1, none⟩) (by simp)]
   simp [go_sem]) HM.out)
  clear hc0'
  go_wp2_with fail
  refine (HX.out).mono ?_
  rintro e w' ⟨v2, rfl, hO, hb⟩
  have HO := Aside0.mk (Kd.R_lower hO HB4.out.size)
  have HB5 := Aside0.mk (HB4.out.trans (hb.mono HB4.out.size))
  clear hO hb
  go_wp2
  go_ret2
  exact ⟨_, rfl, HO.out, HB5.out⟩
def laws_mHas.l0 : Nat → Int → List Int → Int → Int → Option (Bool)
 | 0, _, _, _, _ => none
 | k + 1, x1, x7, x8, x9 => if x9 < x8 then (if 0 ≤ x9 then (if x9 < (x7.length : Int) then (if (rd x7 x9) = x1 then (some true) else (laws_mHas.l0 k x1 x7 x8 (wrap64 (x9 + 1)))) else (none)) else (none)) else (some false)
def laws_mHas.f (k : Nat) (l0 : List Int) (a1 : Int) : Option (Bool) := laws_mHas.l0 k a1 l0 (l0.length : Int) 0
theorem laws_mHas.calls (k : Nat) (A0 : Option Addr) (c0 : Nat) (l0 : List Int) (a1 : Int) (r : Bool) (w : World) (hr0 : Kd.C (Kd.int .i64) w A0 l0.length l0) (hc0 : l0.length ≤ c0) (h : laws_mHas.f k l0 a1 = some r) :
  Calls Tryz.prog 28 #[.slice A0 l0.length c0, .int .i64 a1] w fun e w' => e = .returned (.bool r) ∧ Drawn0 w w' := by
 have HR0 := Aside0.mk hr0
 have HC0 := Aside0.mk hc0
 clear hr0 hc0
 have H := h
 unfold laws_mHas.f at H
 clear h
 have H' := Aside0.mk H
 clear H
 go_enter Tryz.func28, Tryz.ntmps28
 go_wp2
 go_loopg [9] k (fun kq v9 w' => ∃ (x9_1 : Int), v9 = .int .i64 x9_1 ∧ Aside0 (laws_mHas.l0 kq a1 l0 (l0.length : Int) x9_1 = some r) ∧ Aside0 (kq ≤ k) ∧ Drawn0 w w')
 case atStart => exact ⟨(0), gR, H', ⟨Nat.le_refl _⟩, dS⟩
 case round =>
  clear H'
  (try clear c2); (try clear p2)
  obtain ⟨x9_1, rfl, HA, HK1, ⟨m1, rfl⟩⟩ := hrel
  cases gk with
  | zero => exact absurd HA.out (by simp [laws_mHas.l0])
  | succ k1 =>
   have H := HA.out
   clear HA
   simp only [laws_mHas.l0] at H
   by_cases c3 : x9_1 < (l0.length : Int)
   rotate_left
   ·rw [if_neg c3] at H
    have c3b0 : decide (x9_1 < (l0.length : Int)) = false := decide_eq_false c3
    clear c3
    obtain rfl := Option.some.inj H
    go_wp2
    go_ret
    exact ⟨by first | rfl | (simp; done) | (simp [*]; done), dS⟩
   rw [if_pos c3] at H
   have c3b0 := decide_eq_true c3
   clear c3
   by_cases c4 : 0 ≤ x9_1
   rotate_left
   ·rw [if_neg c4] at H
    exact absurd H (by simp)
   rw [if_pos c4] at H
   have c4b0 := decide_eq_true c4
   clear c4
   by_cases c5 : x9_1 < (l0.length : Int)
   rotate_left
   ·rw [if_neg c5] at H
    exact absurd H (by simp)
   rw [if_pos c5] at H
   have c5b0 := decide_eq_true c5
   clear c5
   by_cases c6 : (rd l0 x9_1) = a1
   ·rw [if_pos c6] at H
    have c6b0 : ((rd l0 x9_1) == a1) = true := beq_iff_eq.mpr c6
    have c6b1 : ((rd l0 x9_1) != a1) = false := bne_eq_false_iff_eq.mpr c6
    clear c6
    obtain rfl := Option.some.inj H
    have p101 : 0 ≤ (x9_1 : Int) := oD
    have q101 : x9_1 < (l0.length : Int) := oD
    obtain ⟨ad101, e101, hx101_0⟩ := Kd.at_int HR0.out x9_1 p101 q101
    cases e101
    replace p101 := eq_true p101
    replace q101 := eq_true q101
    go_wp2
    go_ret
    exact ⟨by first | rfl | (simp; done) | (simp [*]; done), dS⟩
   rw [if_neg c6] at H
   have c6b0 : ((rd l0 x9_1) == a1) = false := beq_eq_false_iff_ne.mpr c6
   have c6b1 : ((rd l0 x9_1) != a1) = true := bne_iff_ne.mpr c6
   have H' := Aside0.mk H
   clear H
   have p101 : 0 ≤ (x9_1 : Int) := oD
   have q101 : x9_1 < (l0.length : Int) := oD
   obtain ⟨ad101, e101, hx101_0⟩ := Kd.at_int HR0.out x9_1 p101 q101
   cases e101
   replace p101 := eq_true p101
   replace q101 := eq_true q101
   go_wp2
   go_roundg k1
   case measure => have := HK1.out; omega
   case rel => exact ⟨(wrap64 (x9_1 + 1)), gR, H', ⟨by have := HK1.out; omega⟩, dS⟩
def slices_Index_int_int.l0 : Nat → List Int → Int → Int → Int → Option (Int)
 | 0, _, _, _, _ => none
 | k + 1, x0, x1, x7, x8 => if x8 < x7 then (if 0 ≤ x8 then (if x8 < (x0.length : Int) then (if x1 = (rd x0 x8) then (some x8) else (slices_Index_int_int.l0 k x0 x1 x7 (wrap64 (x8 + 1)))) else (none)) else (none)) else (some (-1))
def slices_Index_int_int.f (k : Nat) (l0 : List Int) (a1 : Int) : Option (Int) := slices_Index_int_int.l0 k l0 a1 (l0.length : Int) 0
theorem slices_Index_int_int.calls (k : Nat) (A0 : Option Addr) (c0 : Nat) (l0 : List Int) (a1 : Int) (r : Int) (w : World) (hr0 : Kd.C (Kd.int .i64) w A0 l0.length l0) (hc0 : l0.length ≤ c0) (h : slices_Index_int_int.f k l0 a1 = some r) :
  Calls Tryz.prog 132 #[.slice A0 l0.length c0, .int .i64 a1] w fun e w' => e = .returned (.int .i64 r) ∧ Drawn0 w w' := by
 have HR0 := Aside0.mk hr0
 have HC0 := Aside0.mk hc0
 clear hr0 hc0
 have H := h
 unfold slices_Index_int_int.f at H
 clear h
 have H' := Aside0.mk H
 clear H
 go_enter Tryz.func132, Tryz.ntmps132
 go_wp2
 go_loopg [8] k (fun kq v8 w' => ∃ (x8_1 : Int), v8 = .int .i64 x8_1 ∧ Aside0 (slices_Index_int_int.l0 kq l0 a1 (l0.length : Int) x8_1 = some r) ∧ Aside0 (kq ≤ k) ∧ Drawn0 w w')
 case atStart => exact ⟨(0), gR, H', ⟨Nat.le_refl _⟩, dS⟩
 case round =>
  clear H'
  (try clear c1); (try clear p2)
  obtain ⟨x8_1, rfl, HA, HK1, ⟨m1, rfl⟩⟩ := hrel
  cases gk with
  | zero => exact absurd HA.out (by simp [slices_Index_int_int.l0])
  | succ k1 =>
   have H := HA.out
   clear HA
   simp only [slices_Index_int_int.l0] at H
   by_cases c3 : x8_1 < (l0.length : Int)
   rotate_left
   ·rw [if_neg c3] at H
    have c3b0 : decide (x8_1 < (l0.length : Int)) = false := decide_eq_false c3
    clear c3
    obtain rfl := Option.some.inj H
    go_wp2
    go_ret
    exact ⟨by first | rfl | (simp; done) | (simp [*]; done), dS⟩
   rw [if_pos c3] at H
   have c3b0 := decide_eq_true c3
   clear c3
   by_cases c4 : 0 ≤ x8_1
   rotate_left
   ·rw [if_neg c4] at H
    exact absurd H (by simp)
   rw [if_pos c4] at H
   have c4b0 := decide_eq_true c4
   clear c4
   by_cases c5 : x8_1 < (l0.length : Int)
   rotate_left
   ·rw [if_neg c5] at H
    exact absurd H (by simp)
   rw [if_pos c5] at H
   have c5b0 := decide_eq_true c5
   clear c5
   by_cases c6 : a1 = (rd l0 x8_1)
   ·rw [if_pos c6] at H
    have c6b0 : (a1 == (rd l0 x8_1)) = true := beq_iff_eq.mpr c6
    have c6b1 : (a1 != (rd l0 x8_1)) = false := bne_eq_false_iff_eq.mpr c6
    clear c6
    obtain rfl := Option.some.inj H
    have p101 : 0 ≤ (x8_1 : Int) := oD
    have q101 : x8_1 < (l0.length : Int) := oD
    obtain ⟨ad101, e101, hx101_0⟩ := Kd.at_int HR0.out x8_1 p101 q101
    cases e101
    replace p101 := eq_true p101
    replace q101 := eq_true q101
    go_wp2
    go_ret
    exact ⟨by first | rfl | (simp; done) | (simp [*]; done), dS⟩
   rw [if_neg c6] at H
   have c6b0 : (a1 == (rd l0 x8_1)) = false := beq_eq_false_iff_ne.mpr c6
   have c6b1 : (a1 != (rd l0 x8_1)) = true := bne_iff_ne.mpr c6
   have H' := Aside0.mk H
   clear H
   have p101 : 0 ≤ (x8_1 : Int) := oD
   have q101 : x8_1 < (l0.length : Int) := oD
   obtain ⟨ad101, e101, hx101_0⟩ := Kd.at_int HR0.out x8_1 p101 q101
   cases e101
   replace p101 := eq_true p101
   replace q101 := eq_true q101
   go_wp2
   go_roundg k1
   case measure => have := HK1.out; omega
   case rel => exact ⟨(wrap64 (x8_1 + 1)), gR, H', ⟨by have := HK1.out; omega⟩, dS⟩
def slices_Contains_int_int.f (k : Nat) (l0 : List Int) (a1 : Int) : Option (Bool) := (slices_Index_int_int.f k l0 a1).bind fun t101 => (some (decide (t101 ≥ 0)))
theorem slices_Contains_int_int.calls (k : Nat) (A0 : Option Addr) (c0 : Nat) (l0 : List Int) (a1 : Int) (r : Bool) (w : World) (hr0 : Kd.C (Kd.int .i64) w A0 l0.length l0) (hc0 : l0.length ≤ c0) (h : slices_Contains_int_int.f k l0 a1 = some r) :
  Calls Tryz.prog 114 #[.slice A0 l0.length c0, .int .i64 a1] w fun e w' => e = .returned (.bool r) ∧ Drawn0 w w' := by
 have HR0 := Aside0.mk hr0
 have HC0 := Aside0.mk hc0
 clear hr0 hc0
 have H := h
 unfold slices_Contains_int_int.f at H
 clear h
 replace H := oA H
 obtain ⟨t101, A3, H⟩ := H
 (try dsimp only at H)
 obtain rfl := Option.some.inj H
 go_enter Tryz.func114, Tryz.ntmps114
 go_wp2_with (first | ((with_reducible refine gate_callee (f := 132) rfl ?_); refine gL 7 Tryz.func132 #[.slice A0 l0.length c0, .int .i64 a1] ?_; (with_reducible refine (slices_Index_int_int.calls k _ _ l0 a1 t101 _ HR0.out HC0.out A3.out).mono ?_); rintro e w' ⟨rfl, ⟨nd, rfl⟩⟩; refine ⟨_, rfl, ?_⟩))
 go_ret
 exact ⟨by first | rfl | (simp; done) | (simp [*]; done), dS⟩
def idxOfS (p : List Int → Bool) (l : List (List Int)) : Int := match l.findIdx? p with
 | some i => (i : Int)
 | none => -1
theorem idxOfS_hit (p : List Int → Bool) (l : List (List Int)) (x : Int) (h0 : 0 ≤ x) (h1 : x < (l.length : Int)) (hp : p (rdOf [] l x) = true) (hb : ∀ j : Nat, (j : Int) < x → p (l.getD j []) = false) : idxOfS p l = x := by
 obtain ⟨k, rfl⟩ := Int.eq_ofNat_of_zero_le h0
 have hk : k < l.length := by omega
 have : l.findIdx? p = some k := by
  rw [List.findIdx?_eq_some_iff_getElem]
  refine ⟨hk, ?_, fun j hj => ?_⟩
  ·simpa [rdOf, List.getD_eq_getElem?_getD, List.getElem?_eq_getElem hk] using hp
  have := hb j (by omega)
  have hjl : j < l.length := by omega
  simpa [List.getD_eq_getElem?_getD, List.getElem?_eq_getElem hjl] using this
 simp [idxOfS, this]
theorem idxOfS_miss (p : List Int → Bool) (l : List (List Int)) (hb : ∀ j : Nat, (j : Int) < (l.length : Int) → p (l.getD j []) = false) : idxOfS p l = -1 := by
 have : l.findIdx? p = none := by
  rw [List.findIdx?_eq_none_iff]
  intro x hx
  obtain ⟨j, hj, rfl⟩ := List.mem_iff_getElem.1 hx
  have := hb j (by omega)
  simpa [List.getD_eq_getElem?_getD, List.getElem?_eq_getElem hj] using this
 simp [idxOfS, this]
theorem idxOfS_any (p : List Int → Bool) (l : List (List Int)) : decide (0 ≤ idxOfS p l) = l.any p := by
 unfold idxOfS
 cases h : l.findIdx? p with
 | none =>
  rw [List.findIdx?_eq_none_iff] at h
  have : l.any p = false := by simpa using h
  simp [this]
 | some i =>
  rw [List.findIdx?_eq_some_iff_getElem] at h
  obtain ⟨hi, hp, _⟩ := h
  have : l.any p = true := by simpa using ⟨_, List.getElem_mem hi, hp⟩
  simp [this]
theorem wrap64_succS {x : Int} {n : Nat} (h0 : 0 ≤ x) (h1 : x < (n : Int)) (hn : n ≤ 9223372036854775807) : wrap64 (x + 1) = x + 1 := by
 unfold wrap64
 omega
theorem slices_IndexFunc_intS.hof (A0 : Option Addr) (c0 : Nat) (l0 : List (List Int)) (g : Nat) (lb : Array Value) (p : List Int → Bool) (w : World) (hr0 : Kd.C (Kd.slice 3 (Kd.int .i64)) w A0 l0.length l0)
  (eg : ∀ args w, (callFunc g args).run Tryz.prog w = .ok (.enter g args) w)
  (hp : ∀ (W : World) (A : Option Addr) (c : Nat) (x : List Int), x ∈ l0 → Below w.heap.size w W → Kd.C (Kd.int .i64) W A x.length x → x.length ≤ c → Calls Tryz.prog g (#[.slice A x.length c] ++ lb) W fun e W' => e = .returned (.bool (p x)) ∧ Below W.heap.size W W') :
  Calls Tryz.prog 112 #[.slice A0 l0.length c0, .func (.func g) #[] lb] w fun e w' => e = .returned (.int .i64 (idxOfS p l0)) ∧ Below w.heap.size w w' := by
 have hn := hr0.2.1
 have HP := Aside0.mk hp
 have HR := Aside0.mk hr0
 clear hp hr0
 go_enter Tryz.func112, Tryz.ntmps112
 go_wp2
 go_loopg [5, 8] l0.length (fun gg _ s8 wr => ∃ x : Int, s8 = .int .i64 x ∧ Aside0 (0 ≤ x ∧ x ≤ (l0.length : Int) ∧ (l0.length : Int) - x ≤ (gg : Int)) ∧ Aside0 (Below w.heap.size w wr) ∧ Aside0 (∀ j : Nat, (j : Int) < x → p (l0.getD j []) = false))
 case atStart => exact ⟨0, rfl, ⟨by omega⟩, ⟨Below.refl _ _⟩, ⟨fun j hj => by omega⟩⟩
 case round =>
  obtain ⟨x, rfl, HX, HB, HA⟩ := hrel
  have h0 : 0 ≤ x := HX.out.1
  by_cases hlt : x < (l0.length : Int)
  ·obtain ⟨ad, cs, ea, _, hK, hcs⟩ := ReadsRow.get_ (Kd.C_below HR.out HB.out) ([] : List Int) x h0 hlt
   obtain ⟨Ax, cx, rfl, hcx, hCx⟩ := hK
   cases ea
   have hcell : wr.cell? (ad.add x.toNat) = some (.slice Ax (rdOf [] l0 x).length cx) := by
    have := hcs 0 _ rfl
    simpa [rdOf, Kd.slice] using this
   have HCX := Aside0.mk hCx
   have HCL := Aside0.mk hcx
   clear hCx hcx hcs
   have hw1 := wrap64_succS h0 hlt hn
   have HW1 := Aside0.mk hw1
   clear hw1
   have c4b0 : decide (x < (l0.length : Int)) = true := decide_eq_true hlt
   have HLT := Aside0.mk hlt
   have H0 := Aside0.mk h0
   have hmem : rdOf [] l0 x ∈ l0 := by
    have hk : x.toNat < l0.length := by omega
    simp only [rdOf, List.getD_eq_getElem?_getD, List.getElem?_eq_getElem hk, Option.getD_some]
    exact List.getElem_mem hk
   have hcall := HP.out wr Ax cx (rdOf [] l0 x) hmem HB.out HCX.out HCL.out
   have HC := Aside0.mk hcall
   clear hcall hmem
   have p5 := eq_true h0
   have q5 := eq_true hlt
   clear h0 hlt hn
   cases hq : p (rdOf [] l0 x) with
   | true =>
    have HQ := Aside0.mk hq
    have HCT := Aside0.mk (show Calls Tryz.prog g (#[.slice Ax (rdOf [] l0 x).length cx] ++ lb) wr fun e W' => e = .returned (.bool true) ∧ Below wr.heap.size wr W' from by have := HC.out; rwa [hq] at this)
    clear hq HC
    go_wp2_with fail
    refine (HCT.out).mono ?_
    rintro e w' ⟨rfl, hb⟩
    have HBN := Aside0.mk (HB.out.trans (hb.mono HB.out.size))
    clear hb
    go_wp2
    go_ret
    exact ⟨by rw [idxOfS_hit p l0 x H0.out HLT.out HQ.out HA.out]; first | rfl | (simp; done), HBN.out⟩
   | false =>
    have HQ := Aside0.mk hq
    have HCT := Aside0.mk (show Calls Tryz.prog g (#[.slice Ax (rdOf [] l0 x).length cx] ++ lb) wr fun e W' => e = .returned (.bool false) ∧ Below wr.heap.size wr W' from by have := HC.out; rwa [hq] at this)
    clear hq HC
    go_wp2_with fail
    refine (HCT.out).mono ?_
    rintro e w' ⟨rfl, hb⟩
    have HBN := Aside0.mk (HB.out.trans (hb.mono HB.out.size))
    clear hb
    go_wp2
    go_roundg (gk - 1)
    case measure => have := HX.out; have := HLT.out; omega
    case rel =>
     refine ⟨x + 1, by rw [HW1.out], ⟨by have := HX.out; have := HLT.out; omega⟩, ⟨HBN.out⟩, ⟨fun j hj => ?_⟩⟩
     by_cases e : (j : Int) = x
     ·subst e
      exact HQ.out
     exact HA.out j (by omega)
  have c4b0 : decide (x < (l0.length : Int)) = false := decide_eq_false hlt
  have HLT := Aside0.mk hlt
  clear hlt hn
  go_wp2
  go_ret
  exact ⟨by rw [idxOfS_miss p l0 (fun j hj => HA.out j (by have := HX.out; have := HLT.out; omega))]; first | rfl | (simp; done), HB.out⟩
end Go.Proofs.YtaambkdiokbdgabGreat.Q
