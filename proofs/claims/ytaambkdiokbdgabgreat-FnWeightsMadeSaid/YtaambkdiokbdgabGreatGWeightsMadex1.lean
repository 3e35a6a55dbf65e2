/- Printed functions, their contracts and plain facts on them: X; Y; L; M; S; R; O; Q0; QImplWithin; QSlicesIndexFuncIntInt60; QSlicesContainsFuncIntInt82; QImplAreIn; QImplSumOf; QImplIsCommittee; QImplIfCommittee; QImplTi. Conditions: as each theorem states. -/
import Derived.Test.YtaambkdiokbdgabGreatProg
import Derived.Deep.Cut
import Derived.Deep.LoopGhost
import Derived.KernelRfl
import Derived.Tactics
import Derived.WalkKit
import Derived.RowKit3
import Derived.Shelf.SlSortCmp.NoneTotal
import Derived.Shelf.SortG.Plain
import Derived.Shelf.SlicesG.In.CompactI
import Derived.Laws.BitsLemmas
import Derived.Deep.Slices
import Derived.Lib.SmallJoins
import Derived.OpenShut
import Derived.ShutString
import Derived.ChangeArms
import Derived.ChangeOld
import Derived.Below
import Derived.Deep.Draws
import Derived.Deep.AppendLies
import Derived.Maps.AppendAt
import Derived.OwnWalk
import Derived.Laws.BytesArg
import Derived.Laws.MakeOwn
import Derived.Laws.OwnMore
import Derived.Deep.OwnRows
import Derived.Lib.ConvBytes
import Derived.Laws.Slices
import Derived.Deep.QuietTactic
import Derived.BigQuiet
import Derived.WideLaws
import Derived.Deep.DeepCutAuto
import Derived.Deep.CutBlock
import Derived.Deep.RegionHeld3
import Derived.Laws.Rows
import Derived.Lib.AppendStr
import Derived.ArgAppend
import Derived.Laws.IdiomCopy
import Derived.OrdersHeld
import Derived.RowKit
import Derived.Deep.DeepMust
import Derived.Deep.RegionLaw
import Derived.Laws.CopyOwn
import Derived.Outline
import Derived.Shelf.Abstract
import Derived.Sort.EveryDepth
import Derived.WalkSpells
import Derived.Test.YtaambkdiokbdgabGreatGWeightsMadex0
set_option maxHeartbeats 40000000
set_option maxRecDepth 100000
open Array renaming getElem?_toList → Zs, getElem?_eq_getElem → ZH, getElem?_eq_some_iff → ZX
open Bool renaming not_eq_true' → Z2
open Go renaming World → Zu, bodyPost_ret → Zz, Value → ZA, Calls → ZD, TypeId → Z7, callFunc → Z8, maxLen → Yb, bits → Yg
open Go.Act renaming put → Ye
open Go.Proofs.YtaambkdiokbdgabGreatW.PrintWords renaming Aside0 → Zc, blk_cell → Zf, blk_put → Zj, gate_callee → Zn, gate_dst → Zo, blk_far → Zw, blk_lt → ZG, below_size → ZM, results_ct → ZQ, blk_grown → ZR
open Go.Proofs.YtaambkdiokbdgabGreatW.PrintWords.Aside0 renaming mk → Za
open Go.Proofs.YtaambkdiokbdgabGreatW.PrintWords.Kd renaming C_below → Zm, int → Zp, R_far → ZC, R_slice → ZF, at_int → ZI, R_types → ZJ, R_mono → ZK, R_ne → ZO, R_reads' → ZP
open Go.RowKit renaming wrap64 → Zb, Below → Zr
open Go.RowKit.Below renaming refl → Zq
open Go.Sort renaming putCells → Zv
open Go.Value renaming int → ZN
open Go.World renaming block_lt_of_cell? → Zh
open Int renaming tmod → ZT, one_mul → Z1, toNat_natCast → Yc, tdiv → Yf
open List renaming getElem?_eq_getElem → Zg, length_map → Zi, getD_eq_getElem?_getD → Zx, getElem?_eq_some_iff → Zy, length_zipIdx → ZE, getElem?_take → ZL, drop_eq_getElem_cons → ZS, findIdx?_eq_some_iff_getElem → ZU, getElem_mem → ZV, replicate → ZY, pairwise_iff_getElem → ZZ, findIdx?_eq_none_iff → Z0, sum_cons → Z3, length_cons → Z4, mem_iff_getElem → Z9, mergeSort_perm → Ya
open Nat renaming le_refl → Ze, mul_one → ZB, pow_le_pow_right → ZW, pow_succ → Z5, mul_comm → Z6, zero_add → Yd
open Option renaming bind_some → Zk
open Option.some renaming inj → Zd, injEq → Zl
open Prod.mk renaming injEq → Zt
namespace Go.Proofs.YtaambkdiokbdgabGreatX
open Go.RowKit Go.Proofs.YtaambkdiokbdgabGreatW.PrintWords Go.Proofs.YtaambkdiokbdgabGreatW.PrintLast
section
variable {P : Program} {ops : Array Oper} {Q : Exit → Act → World → Prop}
theorem goesF_ {oi : Oper} {N : Option Tmp} {a : Act} {w : World} {K : Act → World → Prop} {o : Operand} {g : FuncId} {lb : Array Value} {xs_ : Array Operand} {ts : Array TypeId} (eg : ∀ args w, (callFunc g args).run P w = .ok (.enter g args) w) (args : Array Value)
    (hw : Region.wanted oi (yielded ops a.tmps) = true) (hN : oi.dst = N) (hop : oi.op = .call { callee := .value o, args := xs_, argTypes := ts }) (ho : a.eval o = .func (.func g) #[] lb) (hargs : xs_.map a.eval = args)
    (h : Calls P g (args ++ lb) w fun e w' => ∃ v, e = .returned v ∧ K (a.put N v) w') : if Region.wanted oi (yielded ops a.tmps) = true then Oper.wp P oi a w K Q else K (a.put N undef) w := by
  refine call_ g (args ++ lb) hw hN ?_ h
  unfold execOp
  simp [hop, resolve, Deferred.ofValue, invoke, ho, hargs, eg]
end
theorem reps_map {α : Type} (enc : α → Value) (xs : List α) : Reps (fun x cs => cs = [enc x]) 1 xs (xs.map enc) := by
  induction xs with
  | nil => exact Reps.none _ _
  | cons x xs ih => exact Reps.one rfl ih
theorem R_scalar_of_block {α : Type} {enc : α → Value} {h1 : ∀ x, (enc x).oneCell' = true} {e : Nat} {w : World} {base g : Nat} {ok : Nat → Prop} (xs : List α) (hb : w.heap[g]? = some (.cells (xs.map enc).toArray e (0, 0))) (hle : base ≤ g) (hm : xs.length ≤ maxLen) (hok : ok g) :
    (Kd.scalar enc h1).R e w base ok (.slice (some ⟨g, 0, none⟩) xs.length xs.length) xs := by
  refine ⟨fun k hk => ?_, xs.map enc, ⟨by show (xs.map enc).length = xs.length * 1; simp, .inr ⟨g, xs.length, (xs.map enc).toArray, rfl, hle, hb, Nat.le_refl _, hm, by show (xs.map enc).toArray.size = xs.length * 1; simp, by show (xs.map enc).take (xs.length * 1) = _; rw [Nat.mul_one]; exact List.take_of_length_le (by simp)⟩⟩, reps_map enc xs⟩
  obtain rfl : g = k := by simpa [Value.ownBlock] using hk
  exact hok
theorem ba {w W : World} (h : Below w.heap.size w W) (o : Obj) : Below w.heap.size w (W.alloc o) := below_alloc h o
theorem bd {B : Nat} {w W : World} (h : Below B w W) (n : Nat) : Below B w (W.drewN n) := pw_below_drewN h n
theorem be {base : Nat} {w W : World} (h : Below base w W) : Below base w W.drew := below_drew1 h
theorem bs {w W : World} {g j : Nat} {v : Value} (h : Below w.heap.size w W) (hg : w.heap.size ≤ g) : Below w.heap.size w (W.setCell ⟨g, j, none⟩ v) := below_set h hg
/-- w' stands some plain steps (draws, new blocks) behind w. -/
class Peel (w' : World) (w : outParam World) : Prop where
  same : ∀ k, k < w.heap.size → w'.heap[k]? = w.heap[k]?
  le : w.heap.size ≤ w'.heap.size
instance (priority := 100) peel_refl (w : World) : Peel w w := ⟨fun _ _ => rfl, Nat.le_refl _⟩
instance peel_drewN (w' w : World) (n : Nat) [h : Peel w' w] : Peel (w'.drewN n) w := ⟨h.same, h.le⟩
instance peel_drew (w' w : World) [h : Peel w' w] : Peel w'.drew w := ⟨h.same, h.le⟩
instance peel_alloc (w' w : World) (o : Obj) [h : Peel w' w] : Peel (w'.alloc o) w :=
  ⟨fun k hk => (Below.heap_alloc w' o k (Nat.lt_of_lt_of_le hk h.le)).trans (h.same k hk), Nat.le_trans h.le (by simp)⟩
theorem bp {w' w : World} {g : Nat} {o : Obj} [p : Peel w' w] (h : w.heap[g]? = some o) : w'.heap[g]? = some o := (p.same g (blk_lt h)).trans h
theorem rp {α : Type} {d : Kd α} {e : Nat} {w' w : World} {base : Nat} {ok : Nat → Prop} {v : Value} {xs : List α} [p : Peel w' w] (h : d.R e w base ok v xs) : d.R e w' base ok v xs := Kd.R_step h (fun k _ hk => p.same k hk)
theorem kA {w : World} {g : Nat} {o : Obj} (h : w.heap[g]? = some o) (o' : Obj) : (w.alloc o').heap[g]? = some o := blk_alloc h o'
theorem kD {w : World} {g : Nat} {o : Obj} (h : w.heap[g]? = some o) : w.drew.heap[g]? = some o := h
theorem kN {w : World} {g : Nat} {o : Obj} (h : w.heap[g]? = some o) (n : Nat) : (w.drewN n).heap[g]? = some o := h
section
variable {α : Type} {d : Kd α} {e : Nat} {w : World} {base : Nat} {ok : Nat → Prop} {v : Value} {xs : List α}
theorem qA (h : d.R e w base ok v xs) (o : Obj) : d.R e (w.alloc o) base ok v xs := Kd.R_alloc h o
theorem qD (h : d.R e w base ok v xs) : d.R e w.drew base ok v xs := Kd.R_drew h
theorem qN (h : d.R e w base ok v xs) (m : Nat) : d.R e (w.drewN m) base ok v xs := Kd.R_drewN h m
end
theorem sA {α : Type} (l : List α) (i : Nat) (a : α) : l.toArray.setIfInBounds i a = (l.set i a).toArray := List.setIfInBounds_toArray ..
theorem sZ {α : Type} (x : α) (xs : List α) (a : α) : (x :: xs).set 0 a = a :: xs := rfl
theorem sS {α : Type} (x : α) (xs : List α) (n : Nat) (a : α) : (x :: xs).set (n + 1) a = x :: xs.set n a := rfl
theorem oB {α β : Type} {x : Option α} {f : α → Option β} {b : β} (h : x.bind f = some b) : ∃ a, x = some a ∧ f a = some b := Option.bind_eq_some_iff.mp h
theorem mA {α β : Type} {f : α → β} {l : List α} : l.toArray.map f = (l.map f).toArray := List.map_toArray ..
theorem mC {α β : Type} {f : α → β} {a : α} {l : List α} : (a :: l).map f = f a :: l.map f := rfl
theorem mN {α β : Type} {f : α → β} : ([] : List α).map f = [] := rfl
abbrev T : Bool := true
abbrev F : Bool := false
def putM (T : Nat → Value) : Nat → List Bool → List Value → List Value
  | _, [], t => t
  | _, _ :: _, [] => []
  | i, true :: m, _ :: t => T i :: putM T (i + 1) m t
  | i, false :: m, v :: t => v :: putM T (i + 1) m t
def putT (m : List Bool) (T : Nat → Value) (tm : Array Value) : Array Value := (putM T 0 m tm.toList).toArray
theorem cutT_ {P : Program} {s : Code} {K : Act → World → Prop} {Q' : Exit → Act → World → Prop} {tm : Array Value} {df : List Deferred} {w : World} (m : List Bool) (rel : (Nat → Value) → World → Prop)
    (rest : ∀ T wc, rel T wc → K ⟨putT m T tm, df⟩ wc)
    (first : ∀ J K' : Act → World → Prop, (∀ T a' w', a' = ⟨putT m T tm, df⟩ → rel T w' → J a' w') → (∀ a' w', Met J a' w' → K' a' w') → s.wp P (Exit.then K' Q') ⟨tm, df⟩ w) : s.wp P (Exit.then K Q') ⟨tm, df⟩ w :=
  wp_cut (fun a' w' => ∃ T, a' = ⟨putT m T tm, df⟩ ∧ rel T w') (fun _ w' h => by obtain ⟨T, e, h⟩ := h; subst e; exact rest T w' h) fun J K' hJ hM => first J K' (fun T a' w' e h => hJ a' w' ⟨T, e, h⟩) hM
theorem meetT_ {J : Act → World → Prop} {m : List Bool} {tm : Array Value} {df : List Deferred} {rel : (Nat → Value) → World → Prop} {a' : Act} {w' : World} (hJ : ∀ T a' w', a' = ⟨putT m T tm, df⟩ → rel T w' → J a' w')
    (e : a' = ⟨putT m (fun n => a'.tmps.getD n undef) tm, df⟩) (h : rel (fun n => a'.tmps.getD n undef) w') : Met J a' w' := hJ _ _ _ e h
theorem loopT_ {P : Program} {Q : Exit → Act → World → Prop} {tm : Array Value} {df : List Deferred} {w : World} {c : Code} (m : List Bool) (k0 : Nat) (rel : Nat → (Nat → Value) → World → Prop)
    (e0 : (⟨tm, df⟩ : Act) = ⟨putT m (fun n => tm.getD n undef) tm, df⟩) (atStart : rel k0 (fun n => tm.getD n undef) w)
    (round : ∀ gk T wr, rel gk T wr → ∀ (J : Nat → Act → World → Prop) (K : Act → World → Prop), (∀ k T a' w', a' = ⟨putT m T tm, df⟩ → rel k T w' → J k a' w') → (∀ a' w', Handed J gk a' w' → K a' w') → c.wp P (Exit.then K Q) ⟨putT m T tm, df⟩ wr) : (Code.loop c).wp P Q ⟨tm, df⟩ w :=
  wp_loop_ghost_k (fun k a' w' => ∃ T, a' = ⟨putT m T tm, df⟩ ∧ rel k T w') k0 ⟨_, e0, atStart⟩ fun n a w h J K hJ hM => by
    obtain ⟨T, e, h⟩ := h
    subst e
    exact round n T w h J K (fun k T a' w' e h => hJ k a' w' ⟨T, e, h⟩) hM
theorem roundT_ {J : Nat → Act → World → Prop} {m : List Bool} {tm : Array Value} {df : List Deferred} {rel : Nat → (Nat → Value) → World → Prop} {gk : Nat} {a' : Act} {w' : World} (k : Nat) (h1 : k < gk) (hJ : ∀ k T a' w', a' = ⟨putT m T tm, df⟩ → rel k T w' → J k a' w')
    (e : a' = ⟨putT m (fun n => a'.tmps.getD n undef) tm, df⟩) (h : rel k (fun n => a'.tmps.getD n undef) w') : Handed J gk a' w' := Handed.intro k h1 (hJ k _ _ _ e h)
theorem ite_yes {α : Type} {c : Prop} [Decidable c] {x : Option α} {r : α} (h : (if c then x else none) = some r) : c ∧ x = some r := by
  by_cases hc : c
  · rw [if_pos hc] at h; exact ⟨hc, h⟩
  · rw [if_neg hc] at h; cases h
theorem ite_no {α : Type} {c : Prop} [Decidable c] {x : Option α} {r : α} (h : (if c then none else x) = some r) : ¬ c ∧ x = some r := by
  by_cases hc : c
  · rw [if_pos hc] at h; cases h
  · rw [if_neg hc] at h; exact ⟨hc, h⟩
theorem of_nbne {a b : Bool} (h : ¬ (a != b) = true) : a = b := by cases a <;> cases b <;> first | rfl | exact absurd rfl h
section
variable {α : Type} {d : Kd α} {e base g a t : Nat} {w W w1 : World} {ok : Nat → Prop} {v u0 u1 : Value} {xs : List α} {cells : Array Value} {o : Obj}
theorem rT (h : d.R e w base ok v xs) : d.R e w base (fun _ => True) v xs := Kd.R_mono h (fun _ _ => trivial)
theorem atR2 (h : d.R e w base ok v xs) (hb : w.heap[g]? = some (.cells cells t (0, 0))) (u0 u1 : Value) (ht : ∀ q, q ∈ e :: d.E → q ≠ t := by decide) : d.R e ((w.setCell ⟨g, 0, none⟩ u0).setCell ⟨g, 1, none⟩ u1) base ok v xs := Kd.R_set (Kd.R_set h hb ht 0 u0) (blk_set hb 0 u0) ht 1 u1
theorem rF2 (h : Aside0 (d.R e w base ok v xs)) (bk : Aside0 (w.heap[g]? = some (.cells cells t (0, 0)))) (hb : Below ((w.setCell ⟨g, 0, none⟩ u0).setCell ⟨g, 1, none⟩ u1).heap.size ((w.setCell ⟨g, 0, none⟩ u0).setCell ⟨g, 1, none⟩ u1) w1) (ht : ∀ q, q ∈ e :: d.E → q ≠ t := by decide) : Aside0 (d.R e w1 base ok v xs) := ⟨Kd.R_below (atR2 h.out bk.out u0 u1 ht) hb⟩
theorem rG2 (h : Aside0 (d.R e w base ok v xs)) (bk : Aside0 (w.heap[g]? = some (.cells cells t (0, 0)))) (hb : Below W.heap.size W w1) (hp : d.R e ((w.setCell ⟨g, 0, none⟩ u0).setCell ⟨g, 1, none⟩ u1) base ok v xs → d.R e W base ok v xs := by intro hz_; (with_reducible repeat (first | apply Kd.R_alloc | apply Kd.R_drewN | apply Kd.R_drew)); exact hz_) (ht : ∀ q, q ∈ e :: d.E → q ≠ t := by decide) : Aside0 (d.R e w1 base ok v xs) := ⟨Kd.R_below (hp (atR2 h.out bk.out u0 u1 ht)) hb⟩
theorem rQ (h : Aside0 (d.R e w base ok v xs)) (hb : Below W.heap.size W w1) (hp : d.R e w base ok v xs → d.R e W base ok v xs := by intro hz_; (with_reducible repeat (first | apply Kd.R_alloc | apply Kd.R_drewN | apply Kd.R_drew)); exact hz_) : Aside0 (d.R e w1 base ok v xs) := ⟨Kd.R_below (hp h.out) hb⟩
theorem bF2 (nb : Aside0 (a ≠ g)) (bk : Aside0 (w.heap[a]? = some (.cells cells t (0, 0)))) (hb : Below ((w.setCell ⟨g, 0, none⟩ u0).setCell ⟨g, 1, none⟩ u1).heap.size ((w.setCell ⟨g, 0, none⟩ u0).setCell ⟨g, 1, none⟩ u1) w1) : Aside0 (w1.heap[a]? = some (.cells cells t (0, 0))) := ⟨blk_below (blk_far (p := ⟨g, 1, none⟩) (blk_far (p := ⟨g, 0, none⟩) bk.out nb.out u0) nb.out u1) hb⟩
theorem bG2 (nb : Aside0 (a ≠ g)) (bk : Aside0 (w.heap[a]? = some (.cells cells t (0, 0)))) (hb : Below W.heap.size W w1) (hp : a ≠ g → w.heap[a]? = some (.cells cells t (0, 0)) → W.heap[a]? = some (.cells cells t (0, 0)) := by intro hn_ hz_; (with_reducible repeat (first | refine blk_drewN ?_ _ | refine blk_drew ?_ | refine blk_alloc ?_ _)); refine blk_far ?_ hn_ _; (with_reducible repeat (first | refine blk_drewN ?_ _ | refine blk_drew ?_ | refine blk_alloc ?_ _)); refine blk_far ?_ hn_ _; (with_reducible repeat (first | refine blk_drewN ?_ _ | refine blk_drew ?_ | refine blk_alloc ?_ _)); exact hz_) : Aside0 (w1.heap[a]? = some (.cells cells t (0, 0))) := ⟨blk_below (hp nb.out bk.out) hb⟩
theorem bQ (bk : Aside0 (w.heap[a]? = some o)) (hb : Below W.heap.size W w1) (hp : w.heap[a]? = some o → W.heap[a]? = some o := by intro hz_; (with_reducible repeat (first | refine blk_drewN ?_ _ | refine blk_drew ?_ | refine blk_alloc ?_ _)); exact hz_) : Aside0 (w1.heap[a]? = some o) := ⟨blk_below (hp bk.out) hb⟩
theorem nL2 (hg : g = W.heap.size) (bk : Aside0 (w.heap[a]? = some o)) (hp : w.heap[a]? = some o → W.heap[a]? = some o := by intro hz_; (with_reducible repeat (first | refine blk_drewN ?_ _ | refine blk_drew ?_ | refine blk_alloc ?_ _)); exact hz_) : Aside0 (a ≠ g) := ⟨by rw [hg]; exact Nat.ne_of_lt (blk_lt (hp bk.out))⟩
theorem nG2 (hg : g = W.heap.size) (bk : Aside0 (w.heap[a]? = some o)) (hp : w.heap[a]? = some o → W.heap[a]? = some o := by intro hz_; (with_reducible repeat (first | refine blk_drewN ?_ _ | refine blk_drew ?_ | refine blk_alloc ?_ _)); exact hz_) : Aside0 (g ≠ a) := ⟨by rw [hg]; exact Nat.ne_of_gt (blk_lt (hp bk.out))⟩
end
end Go.Proofs.YtaambkdiokbdgabGreatX
namespace Go.Proofs.YtaambkdiokbdgabGreatY
open Go.RowKit Go.Proofs.YtaambkdiokbdgabGreatW.PrintWords Go.Proofs.YtaambkdiokbdgabGreatW.PrintLast Go.Proofs.YtaambkdiokbdgabGreatX
section
variable {P : Program} {ops : Array Oper} {Q : Exit → Act → World → Prop} {md : Region.Mode} {S : World → Prop} {ds : List Nat} {T : Bool × List (List Nat × List Nat)}
theorem pU (i : Nat) {N : Tmp} {oi : Oper} {v : Value} {fuel : Nat} {l l' : Array Bool} {a a' : Act} {w : World} (hT : Aside0 (rtab md ops = T)) (h : wpAnyLast P md ops Q S ds fuel l' a' w)
    (hi : ops[i]? = some oi := by rfl) (hN : oi.dst = some N := by rfl) (hl : l.setIfInBounds i true = l' := by simp only [sA, sZ, sS]; rfl) (hc : anyT T l.toList l'.toList i = true := by kernel_rfl)
    (hw : Region.wanted oi (yielded ops a.tmps) = true := by rfl) (hy : ∀ w', (execOp a.eval oi).run P w' = .ok (.value v) w' := by (intro w'; go_simp; with_reducible rfl))
    (ha : a.put (some N) v = a' := by simp only [Act.put, sA, sZ, sS, i64_w, i32_w]; rfl) (hQ : ∀ c a w, Q (.panic c) (a.put (some N) v) w → Q (.panic c) a w := by exact fun _ _ _ h => h) : wpAnyLast P md ops Q S ds (fuel + 1) l a w := by
  subst hl
  exact pure_ _ hi hN (any_of hT.out hc) (fun c a w => by rw [hN]; exact hQ c a w) (Or.inl ⟨hw, hy⟩) ha h
theorem pV (i : Nat) {N : Tmp} {oi : Oper} {fuel : Nat} {l l' : Array Bool} {a a' : Act} {w : World} (hT : Aside0 (rtab md ops = T)) (h : wpAnyLast P md ops Q S ds fuel l' a' w)
    (hi : ops[i]? = some oi := by rfl) (hN : oi.dst = some N := by rfl) (hl : l.setIfInBounds i true = l' := by simp only [sA, sZ, sS]; rfl) (hc : anyT T l.toList l'.toList i = true := by kernel_rfl)
    (hw : Region.wanted oi (yielded ops a.tmps) = false := by rfl)
    (ha : a.put (some N) undef = a' := by simp only [Act.put, sA, sZ, sS, i64_w, i32_w]; rfl) (hQ : ∀ c a w, Q (.panic c) (a.put (some N) undef) w → Q (.panic c) a w := by exact fun _ _ _ h => h) : wpAnyLast P md ops Q S ds (fuel + 1) l a w := by
  subst hl
  exact pure_ _ hi hN (any_of hT.out hc) (fun c a w => by rw [hN]; exact hQ c a w) (Or.inr ⟨hw, rfl⟩) ha h
theorem tK (i : Nat) {N : Tmp} {oi : Oper} {v : Value} {fuel : Nat} {l l' : Array Bool} {a a' : Act} {w : World} {B : List Nat} (hT : Aside0 (rtab md ops = T)) (hB : Aside0 (waitsOk T.2 B = true)) (hS : S w) (h : wpAnyLast P md ops Q S ds fuel l' a' w)
    (hi : ops[i]? = some oi := by rfl) (hN : oi.dst = some N := by rfl) (hl : l.setIfInBounds i true = l' := by simp only [sA, sZ, sS]; rfl) (hc : takeW T B ds l.toList l'.toList i = true := by kernel_rfl)
    (hw : Region.wanted oi (yielded ops a.tmps) = true := by rfl) (hy : ∀ w', S w' → (execOp a.eval oi).run P w' = .ok (.value v) w')
    (ha : a.put (some N) v = a' := by simp only [Act.put, sA, sZ, sS, i64_w, i32_w]; rfl) (hQ : ∀ c a w, Q (.panic c) (a.put (some N) v) w → Q (.panic c) a w := by exact fun _ _ _ h => h) : wpAnyLast P md ops Q S ds (fuel + 1) l a w := by
  subst hl
  exact take_ _ hi hN (take_ofW hT.out hB.out hc) (fun c a w => by rw [hN]; exact hQ c a w) (Or.inl ⟨hw, hy⟩) hS ha h
theorem oN (i : Nat) {N : Option Tmp} {oi : Oper} {fuel : Nat} {l l' : Array Bool} {a : Act} {w : World} (hT : Aside0 (rtab md ops = T))
    (h : ∀ K : Act → World → Prop, Shut (∀ a' w', S w' → (S w' → wpAnyLast P md ops Q S ds fuel l' a' w') → K a' w') → if Region.wanted oi (yielded ops a.tmps) = true then Oper.wp P oi a w K Q else K (a.put N undef) w)
    (hi : ops[i]? = some oi := by rfl) (hN : oi.dst = N := by rfl) (hl : l.setIfInBounds i true = l' := by simp only [sA, sZ, sS]; rfl) (hc : (readyT T.2 l.toList == [i] && l.toList.set i true == l'.toList) = true := by kernel_rfl) (hd : i ∉ ds := by decide) : wpAnyLast P md ops Q S ds (fuel + 1) l a w := by
  subst hl
  exact one_ _ hi hN (one_of hT.out hc) hd h
theorem nM {fuel : Nat} {l : Array Bool} {a a' : Act} {N : Tmp} {v : Value} {w : World} (h : wpAnyLast P md ops Q S ds fuel l a' w) (ha : Act.put a (some N) v = a' := by simp only [Act.put, sA, sZ, sS, i64_w, i32_w]; rfl) : wpAnyLast P md ops Q S ds fuel l (a.put (some N) v) w := norm_ ha h
theorem gE {oi : Oper} {N : Option Tmp} {a : Act} {w : World} {K : Act → World → Prop} {f : FuncId} {fn : Func} {as_ : Array Operand} {ts : Array TypeId} (hf : P.funcs[f]? = some fn) (args : Array Value)
    (h : Calls P f args w fun e w' => ∃ v, e = .returned v ∧ K (a.put N v) w') (hname : (fn.name == "runtime.NumGoroutine") = false := by kernel_rfl) (hb : fn.body.isSome = true := by rfl)
    (hw : Region.wanted oi (yielded ops a.tmps) = true := by rfl) (hN : oi.dst = N := by rfl) (hop : oi.op = .call { callee := .value (.func f), args := as_, argTypes := ts } := by rfl)
    (hargs : as_.map a.eval = args := by (try simp only [mA, mC, mN]); first | done | rfl | (simp only [List.length_drop, List.length_take]; rfl)) : if Region.wanted oi (yielded ops a.tmps) = true then Oper.wp P oi a w K Q else K (a.put N undef) w := goes_ hf hname hb args hw hN hop hargs h
theorem gL {rest : List Oper} {oi : Oper} {a : Act} {w : World} (N : Tmp) {f : FuncId} {fn : Func} {as_ : Array Operand} {ts : Array TypeId} (hf : P.funcs[f]? = some fn) (args : Array Value)
    (h : Calls P f args w fun e w' => ∃ v, e = .returned v ∧ wpList P ops Q rest (a.put (some N) v) w') (hd : oi.dst = some N := by rfl) (hg : oi.guard = none := by rfl) (hname : (fn.name == "runtime.NumGoroutine") = false := by kernel_rfl) (hb : fn.body.isSome = true := by rfl)
    (hop : oi.op = .call { callee := .value (.func f), args := as_, argTypes := ts } := by rfl)
    (hargs : as_.map a.eval = args := by (try simp only [mA, mC, mN]); first | done | rfl | (simp only [List.length_drop, List.length_take]; rfl)) : wpList P ops Q (oi :: rest) a w := goesL_ (some N) hd hg hf hname hb args hop hargs h
theorem xE {o : Oper} {a : Act} {rest : List Oper} {W : World} {N : Tmp} {cs : Array Value} {t : TypeId}
    (h : ∀ g, g = W.heap.size → ∀ w1, Aside0 (w1.heap[g]? = some (.cells cs t (0, 0))) → Below W.heap.size W w1 → wpList P ops Q rest (a.put (some N) (.pointer (some ⟨g, 0, none⟩))) w1)
    (hd : o.dst = some N := by rfl) (hgd : o.guard = none := by rfl) (hrun : (execOp a.eval o).run P W = .ok (.value (.pointer (some ⟨W.heap.size, 0, none⟩))) (W.alloc (.cells cs t (0, 0))) := by first | (go_simp; done) | (go_simp; rfl)) : wpList P ops Q (o :: rest) a W :=
  box_event hgd hd hrun (fun g hg w1 hb hB => by rw [hd]; exact h g hg w1 ⟨hb⟩ hB)
end
theorem oD {p : Prop} [Decidable p] (h : decide p = true := by first | (with_reducible assumption) | assumption) : p := of_decide_eq_true h
theorem oA {α β : Type} {o : Option α} {f : α → Option β} {r : β} (h : o.bind f = some r) : ∃ t, Aside0 (o = some t) ∧ f t = some r := by
  obtain ⟨t, h1, h2⟩ := Option.bind_eq_some_iff.mp h
  exact ⟨t, ⟨h1⟩, h2⟩
theorem iT {α : Type} {a b r : α} {d : Decidable (true = true)} (h : @ite α (true = true) d a b = r) : a = r := by rwa [if_pos rfl] at h
theorem iF {α : Type} {a b r : α} {d : Decidable (false = true)} (h : @ite α (false = true) d a b = r) : b = r := by rwa [if_neg (fun h => nomatch h)] at h
theorem bB {w w1 : World} {g : Nat} {o : Obj} (h : Aside0 (w.heap[g]? = some o)) (hb : Below w.heap.size w w1) : Aside0 (w1.heap[g]? = some o) := ⟨blk_below h.out hb⟩
theorem sB {w W w2 : World} (h : Aside0 (Below w.heap.size w W)) (k : Below W.heap.size W w2) : Aside0 (Below w.heap.size w w2) := ⟨below_step h.out k⟩
theorem gS {w W : World} {g : Nat} (hg : g = W.heap.size) (h : Aside0 (Below w.heap.size w W)) : Aside0 (w.heap.size ≤ g) := ⟨by rw [hg]; exact below_size h.out⟩
theorem cZ {w : World} {g : Nat} {t : TypeId} {cs : Array Value} (h : Aside0 (w.heap[g]? = some (.cells cs t (0, 0)))) (i : Nat) {v : Value} (e : cs[i]? = some v := by rfl) : w.cell? ⟨g, i, none⟩ = some v := (blk_cell h.out i).trans e
theorem fZ {w : World} {g : Nat} {t : TypeId} {cs : Array Value} (h : Aside0 (w.heap[g]? = some (.cells cs t (0, 0)))) (i : Nat) : w.frozen? ⟨g, i, none⟩ = false := blk_frozen h.out i
theorem nL {a b c : Nat} (hg : b = c) (h : a < c) : Aside0 (a ≠ b) := ⟨by omega⟩
theorem nG {a b c : Nat} (hg : b = c) (h : a < c) : Aside0 (b ≠ a) := ⟨by omega⟩
theorem aS {p : Prop} (h : p) : Aside0 p := ⟨h⟩
theorem rB {α : Type} {d : Kd α} {e : Nat} {w w1 : World} {base : Nat} {ok : Nat → Prop} {v : Value} {xs : List α} (h : Aside0 (d.R e w base ok v xs)) (hb : Below w.heap.size w w1) : Aside0 (d.R e w1 base ok v xs) := ⟨Kd.R_below h.out hb⟩
theorem tB {α : Type} {d : Kd α} {e : Nat} {w w1 : World} {base : Nat} {ok : Nat → Prop} {v : Value} {xs : List α} (h : Aside0 (Kd.S d e w base ok v xs)) (hb : Below w.heap.size w w1) : Aside0 (Kd.S d e w1 base ok v xs) := ⟨Kd.S_below h.out hb⟩
theorem bP {w W w1 : World} {g : Nat} {o : Obj} (h : Aside0 (w.heap[g]? = some o)) (hb : Below W.heap.size W w1) (hp : w.heap[g]? = some o → W.heap[g]? = some o := by intro hz_; (with_reducible repeat (first | refine kN ?_ _ | refine kD ?_ | refine kA ?_ _)); exact hz_) : Aside0 (w1.heap[g]? = some o) := ⟨blk_below (hp h.out) hb⟩
theorem rP {α : Type} {d : Kd α} {e : Nat} {w W w1 : World} {base : Nat} {ok : Nat → Prop} {v : Value} {xs : List α} (h : Aside0 (d.R e w base ok v xs)) (hb : Below W.heap.size W w1) (hp : d.R e w base ok v xs → d.R e W base ok v xs := by intro hz_; (with_reducible repeat (first | apply qA | apply qN | apply qD)); exact hz_) : Aside0 (d.R e w1 base ok v xs) := ⟨Kd.R_below (hp h.out) hb⟩
theorem sQ {w W w2 : World} (k : Below W.heap.size W w2) (hp : Below w.heap.size w W := by repeat (first | exact HB.out | apply ba | apply bd | apply be | refine bs ?_ (Aside0.out (by assumption)))) : Aside0 (Below w.heap.size w w2) := ⟨below_step hp k⟩
theorem wB {p : Prop} (h : p := by repeat (first | (with_reducible first | exact HB.out | apply ba | apply bd | apply be | refine bs ?_ (Aside0.out (by assumption))) | exact HB.out)) : p := h
theorem fR {p : Prop} (h : p := by first | rfl | (simp <;> rfl) | (simp [*] <;> rfl)) : p := h
theorem gR {p : Prop} (h : p := by first | rfl | (simp; done) | (simp [*]; done)) : p := h
theorem dR {p : Prop} (h : p := by first | exact ⟨rfl, _, World.drewN_drewN _ _ _⟩ | exact ⟨rfl, _, Eq.trans (World.drewN_drewN _ _ _) (congrArg (World.drewN _) (Nat.add_assoc _ _ _))⟩) : p := h
theorem dS {p : Prop} (h : p := by repeat (first | exact Drawn0.refl _ | apply Drawn0.step)) : p := h
theorem cC {p : Prop} (h : p := by repeat (first | exact hx_ | (with_reducible refine Kd.C_alloc ?_ _) | (with_reducible refine Kd.C_drewN ?_ _) | (with_reducible refine Kd.C_drew ?_))) : p := h
theorem oN' {p : Prop} (h : p := by have := HK1.out; first | omega | exact Nat.le_refl _) : p := h
theorem sE {P : Program} {ops : Array Oper} {Q : Exit → Act → World → Prop} {rest : List Oper} {o : Oper} {a : Act} {W w1 : World} {t : TypeId} {p : Tmp} {v : Operand} (h : ∀ w', w' = w1 → wpList P ops Q rest a w')
    (hgd : o.guard = none := by rfl) (ho : o.op = .store t (.tmp p) v := by rfl) (hN : o.dst = none := by rfl) (hrun : (execOp a.eval o).run P W = .ok .skip w1 := by first | (go_simp; done) | (go_simp; rfl)) : wpList P ops Q (o :: rest) a W := store_event hgd ho hN hrun h
abbrev nb (v : Value) (k : Nat) : Prop := some k ≠ v.ownBlock
theorem rQ {α : Type} {d : Kd α} {e : Nat} {w : World} {base : Nat} {ok : Nat → Prop} {v : Value} {xs : List α} {p : Prop} (h : Aside0 (d.R e w base ok v xs)) (hp : d.R e w base ok v xs → p := by intro hz_; (with_reducible repeat (first | apply qA | apply qN | apply qD)); exact hz_) : p := hp h.out
theorem bQ {w : World} {g : Nat} {o : Obj} {p : Prop} (h : Aside0 (w.heap[g]? = some o)) (hp : w.heap[g]? = some o → p := by intro hz_; (with_reducible repeat (first | refine kN ?_ _ | refine kD ?_ | refine kA ?_ _)); exact hz_) : p := hp h.out
theorem rE {α : Type} {d : Kd α} {e : Nat} {w W w1 : World} {base : Nat} {ok : Nat → Prop} {u v : Value} {xs : List α} (h : Aside0 (d.R e w base ok u xs)) (hbase : ∀ k, v.ownBlock = some k → W.heap.size ≤ k) (hb : Below W.heap.size W w1) (hp : d.R e w base ok u xs → d.R e W base ok u xs := by intro hz_; (with_reducible repeat (first | apply qA | apply qN | apply qD)); exact hz_) : Aside0 (d.R e w1 base (fun k => ok k ∧ some k ≠ v.ownBlock) u xs) := ⟨Kd.R_elder' (hp h.out) hbase hb⟩
theorem rD {α : Type} {d : Kd α} {e : Nat} {w : World} {base : Nat} {ok : Nat → Prop} {v : Value} {xs : List α} (h : Aside0 (d.R e w base ok v xs)) : Aside0 (d.R e w.drew base ok v xs) := ⟨Kd.R_drew h.out⟩
theorem bD {w : World} {g : Nat} {o : Obj} (h : Aside0 (w.heap[g]? = some o)) : Aside0 (w.drew.heap[g]? = some o) := ⟨blk_drew h.out⟩
theorem aP {p q : Nat → Prop} (h : ∀ k, p k → q k := by intro _ hk; simp [hk]) : ∀ k, p k → q k := h
theorem r1_ {α : Type} {d : Kd α} {e : Nat} {w : World} {base : Nat} {ok : Nat → Prop} {A : Option Addr} {n c : Nat} {xs : List α} (h : Aside0 (d.R e w base ok (.slice A n c) xs)) : n ≤ c := (Kd.R_reads' h.out).2.1
theorem r2_ {α : Type} {d : Kd α} {e : Nat} {w : World} {base : Nat} {ok : Nat → Prop} {A : Option Addr} {n c : Nat} {xs : List α} (h : Aside0 (d.R e w base ok (.slice A n c) xs)) : d.C w A xs.length xs := (Kd.R_reads' h.out).2.2
theorem gT {w W : World} {g : Nat} (hg : g = W.heap.size) (h : Below w.heap.size w W := by repeat (first | exact HB.out | apply ba | apply bd | apply be)) : Aside0 (w.heap.size ≤ g) := ⟨by rw [hg]; exact below_size h⟩
theorem zZ {w : World} {g : Nat} {t : TypeId} {a b : Value} (h : Aside0 (w.heap[g]? = some (.cells #[a, b] t (0, 0)))) : w.cell? ⟨g, 0, none⟩ = some a ∧ w.cell? ⟨g, 1, none⟩ = some b ∧ w.frozen? ⟨g, 0, none⟩ = false ∧ w.frozen? ⟨g, 1, none⟩ = false := ⟨cZ h 0, cZ h 1, fZ h 0, fZ h 1⟩
theorem p2S {w : World} {g : Nat} {t : TypeId} {a b u v : Value} (h : w.heap[g]? = some (.cells #[a, b] t (0, 0))) : ((w.setCell ⟨g, 0, none⟩ u).setCell ⟨g, 1, none⟩ v).heap[g]? = some (.cells #[u, v] t (0, 0)) := blk_put (cs := #[u, b]) (blk_put (cs := #[a, b]) h 0 u rfl) 1 v rfl
theorem bR2 {w W w1 : World} {g : Nat} {t : TypeId} {a b : Value} (u v : Value) (bk : Aside0 (w.heap[g]? = some (.cells #[a, b] t (0, 0)))) (hb : Below W.heap.size W w1) (hp : w.heap[g]? = some (.cells #[a, b] t (0, 0)) → W.heap[g]? = some (.cells #[u, v] t (0, 0)) := by intro hz_; first | (with_reducible exact p2S hz_) | ((with_reducible repeat (first | refine blk_drewN ?_ _ | refine blk_drew ?_ | refine blk_alloc ?_ _)); with_reducible exact p2S hz_) | skip; (with_reducible repeat (first | refine blk_drewN ?_ _ | refine blk_drew ?_ | refine blk_alloc ?_ _)); refine blk_put (cs := #[_, _]) ?_ 1 _ rfl; (with_reducible repeat (first | refine blk_drewN ?_ _ | refine blk_drew ?_ | refine blk_alloc ?_ _)); refine blk_put (cs := #[_, _]) ?_ 0 _ rfl; (with_reducible repeat (first | refine blk_drewN ?_ _ | refine blk_drew ?_ | refine blk_alloc ?_ _)); exact hz_) : Aside0 (w1.heap[g]? = some (.cells #[u, v] t (0, 0))) := ⟨blk_below (hp bk.out) hb⟩
theorem d2 {α : Type} {d : Kd α} {e base g t c n : Nat} {w W : World} {ok : Nat → Prop} {A : Option Addr} {xs : List α} {cells : Array Value} (h : Aside0 (d.R e w base ok (.slice A n c) xs)) (bk : Aside0 (w.heap[g]? = some (.cells cells t (0, 0)))) (u0 u1 : Value) (hp : d.R e ((w.setCell ⟨g, 0, none⟩ u0).setCell ⟨g, 1, none⟩ u1) base ok (.slice A n c) xs → d.R e W base ok (.slice A n c) xs := by intro hz_; (with_reducible repeat (first | apply Kd.R_alloc | apply Kd.R_drewN | apply Kd.R_drew)); exact hz_) (ht : ∀ q, q ∈ e :: d.E → q ≠ t := by decide) : d.C W A xs.length xs := (Kd.R_reads' (hp (atR2 h.out bk.out u0 u1 ht))).2.2
end Go.Proofs.YtaambkdiokbdgabGreatY
namespace Go.Proofs.YtaambkdiokbdgabGreatL
open Go.Shelf
def sortLL_ren : Go.Shelf.Ren := ⟨fun | 6 => 130 | 15 => 79 | 14 => 137 | 28 => 103 | 29 => 104 | 20 => 139 | 21 => 140 | 22 => 141 | 23 => 142 | 24 => 143 | 25 => 144 | 26 => 145 | 27 => 146 | 46 => 147 | 47 => 116 | 48 => 117 | 49 => 148 | 50 => 149 | 57 => 150 | n => n, fun | 22 => 88 | 24 => 22 | 25 => 122 | 3 => 3 | 39 => 82 | 0 => 0 | 53 => 101 | 55 => 75 | 4 => 4 | 46 => 95 | 45 => 94 | 50 => 34 | 5 => 5 | 9 => 9 | 66 => 110 | 70 => 114 | 76 => 124 | 77 => 47 | n => n, fun | n => n⟩
theorem sortLL : Go.Proofs.SlLaysF.n6 Tryz.prog sortLL_ren := {
  mixed := by kernel_rfl
  f6 := ⟨Tryz.f130.name, by decide, Tryz.func130.trans (congrArg some (by kernel_rfl))⟩
  f14 := ⟨Tryz.f137.name, by decide, Tryz.func137.trans (congrArg some (by kernel_rfl))⟩
  f15 := Tryz.func79.trans (congrArg some (by kernel_rfl))
  f20 := ⟨Tryz.f139.name, by decide, Tryz.func139.trans (congrArg some (by kernel_rfl))⟩
  f21 := ⟨Tryz.f140.name, by decide, Tryz.func140.trans (congrArg some (by kernel_rfl))⟩
  f22 := ⟨Tryz.f141.name, by decide, Tryz.func141.trans (congrArg some (by kernel_rfl))⟩
  f23 := ⟨Tryz.f142.name, by decide, Tryz.func142.trans (congrArg some (by kernel_rfl))⟩
  f24 := ⟨Tryz.f143.name, by decide, Tryz.func143.trans (congrArg some (by kernel_rfl))⟩
  f25 := ⟨Tryz.f144.name, by decide, Tryz.func144.trans (congrArg some (by kernel_rfl))⟩
  f26 := ⟨Tryz.f145.name, by decide, Tryz.func145.trans (congrArg some (by kernel_rfl))⟩
  f27 := ⟨Tryz.f146.name, by decide, Tryz.func146.trans (congrArg some (by kernel_rfl))⟩
  f28 := Tryz.func103.trans (congrArg some (by kernel_rfl))
  f29 := Tryz.func104.trans (congrArg some (by kernel_rfl))
  f46 := ⟨Tryz.f147.name, by decide, Tryz.func147.trans (congrArg some (by kernel_rfl))⟩
  f47 := Tryz.func116.trans (congrArg some (by kernel_rfl))
  f48 := Tryz.func117.trans (congrArg some (by kernel_rfl))
  f49 := ⟨Tryz.f148.name, by decide, Tryz.func148.trans (congrArg some (by kernel_rfl))⟩
  f50 := ⟨Tryz.f149.name, by decide, Tryz.func149.trans (congrArg some (by kernel_rfl))⟩
  f57 := ⟨Tryz.f150.name, by decide, Tryz.func150.trans (congrArg some (by kernel_rfl))⟩
  t0 := Tryz.underlying0
  a0 := Tryz.isAgg0
  z0 := Tryz.sizeOf0
  v0 := Tryz.zeroValue0
  t3 := Tryz.underlying3
  a3 := Tryz.isAgg3
  z3 := Tryz.sizeOf3
  v3 := Tryz.zeroValue3
  t4 := Tryz.underlying4
  a4 := Tryz.isAgg4
  z4 := Tryz.sizeOf4
  v4 := Tryz.zeroValue4
  t5 := Tryz.underlying5
  a5 := Tryz.isAgg5
  z5 := Tryz.sizeOf5
  v5 := Tryz.zeroValue5
  t9 := Tryz.underlying9
  a9 := Tryz.isAgg9
  z9 := Tryz.sizeOf9
  v9 := Tryz.zeroValue9
  t22 := Tryz.underlying88
  a22 := Tryz.isAgg88
  z22 := Tryz.sizeOf88
  v22 := Tryz.zeroValue88
  a24 := Tryz.isAgg22
  z24 := Tryz.sizeOf22
  t25 := Tryz.underlying122
  a25 := Tryz.isAgg122
  z25 := Tryz.sizeOf122
  v25 := Tryz.zeroValue122
  t39 := Tryz.underlying82
  a39 := Tryz.isAgg82
  z39 := Tryz.sizeOf82
  v39 := Tryz.zeroValue82
  t45 := Tryz.underlying94
  a45 := Tryz.isAgg94
  z45 := Tryz.sizeOf94
  v45 := Tryz.zeroValue94
  t46 := Tryz.underlying95
  a46 := Tryz.isAgg95
  z46 := Tryz.sizeOf95
  v46 := Tryz.zeroValue95
  t50 := Tryz.underlying34
  a50 := Tryz.isAgg34
  z50 := Tryz.sizeOf34
  v50 := Tryz.zeroValue34
  t53 := Tryz.underlying101
  a53 := Tryz.isAgg101
  z53 := Tryz.sizeOf101
  v53 := Tryz.zeroValue101
  t55 := Tryz.underlying75
  a55 := Tryz.isAgg75
  z55 := Tryz.sizeOf75
  v55 := Tryz.zeroValue75
  t66 := Tryz.underlying110
  a66 := Tryz.isAgg110
  z66 := Tryz.sizeOf110
  v66 := Tryz.zeroValue110
  t70 := Tryz.underlying114
  a70 := Tryz.isAgg114
  z70 := Tryz.sizeOf114
  v70 := Tryz.zeroValue114
  t76 := Tryz.underlying124
  a76 := Tryz.isAgg124
  z76 := Tryz.sizeOf124
  v76 := Tryz.zeroValue124
  t77 := Tryz.underlying47
  a77 := Tryz.isAgg47
  z77 := Tryz.sizeOf47
  v77 := Tryz.zeroValue47 }
def sortLI_ren : Go.Shelf.Ren := ⟨fun | 6 => 46 | 15 => 79 | 14 => 78 | 28 => 103 | 29 => 104 | 20 => 95 | 21 => 96 | 22 => 97 | 23 => 98 | 24 => 99 | 25 => 100 | 26 => 101 | 27 => 102 | 46 => 115 | 47 => 116 | 48 => 117 | 49 => 118 | 50 => 119 | 57 => 133 | n => n, fun | 22 => 22 | 24 => 3 | 25 => 50 | 3 => 3 | 39 => 82 | 0 => 0 | 53 => 101 | 55 => 75 | 4 => 4 | 46 => 95 | 45 => 94 | 50 => 34 | 5 => 5 | 9 => 9 | 66 => 110 | 70 => 114 | 76 => 124 | 77 => 47 | n => n, fun | n => n⟩
theorem sortLI : Go.Proofs.SlLaysF.n6 Tryz.prog sortLI_ren := {
  mixed := by kernel_rfl
  f6 := ⟨Tryz.f46.name, by decide, Tryz.func46.trans (congrArg some (by kernel_rfl))⟩
  f14 := ⟨Tryz.f78.name, by decide, Tryz.func78.trans (congrArg some (by kernel_rfl))⟩
  f15 := Tryz.func79.trans (congrArg some (by kernel_rfl))
  f20 := ⟨Tryz.f95.name, by decide, Tryz.func95.trans (congrArg some (by kernel_rfl))⟩
  f21 := ⟨Tryz.f96.name, by decide, Tryz.func96.trans (congrArg some (by kernel_rfl))⟩
  f22 := ⟨Tryz.f97.name, by decide, Tryz.func97.trans (congrArg some (by kernel_rfl))⟩
  f23 := ⟨Tryz.f98.name, by decide, Tryz.func98.trans (congrArg some (by kernel_rfl))⟩
  f24 := ⟨Tryz.f99.name, by decide, Tryz.func99.trans (congrArg some (by kernel_rfl))⟩
  f25 := ⟨Tryz.f100.name, by decide, Tryz.func100.trans (congrArg some (by kernel_rfl))⟩
  f26 := ⟨Tryz.f101.name, by decide, Tryz.func101.trans (congrArg some (by kernel_rfl))⟩
  f27 := ⟨Tryz.f102.name, by decide, Tryz.func102.trans (congrArg some (by kernel_rfl))⟩
  f28 := Tryz.func103.trans (congrArg some (by kernel_rfl))
  f29 := Tryz.func104.trans (congrArg some (by kernel_rfl))
  f46 := ⟨Tryz.f115.name, by decide, Tryz.func115.trans (congrArg some (by kernel_rfl))⟩
  f47 := Tryz.func116.trans (congrArg some (by kernel_rfl))
  f48 := Tryz.func117.trans (congrArg some (by kernel_rfl))
  f49 := ⟨Tryz.f118.name, by decide, Tryz.func118.trans (congrArg some (by kernel_rfl))⟩
  f50 := ⟨Tryz.f119.name, by decide, Tryz.func119.trans (congrArg some (by kernel_rfl))⟩
  f57 := ⟨Tryz.f133.name, by decide, Tryz.func133.trans (congrArg some (by kernel_rfl))⟩
  t0 := Tryz.underlying0
  a0 := Tryz.isAgg0
  z0 := Tryz.sizeOf0
  v0 := Tryz.zeroValue0
  t3 := Tryz.underlying3
  a3 := Tryz.isAgg3
  z3 := Tryz.sizeOf3
  v3 := Tryz.zeroValue3
  t4 := Tryz.underlying4
  a4 := Tryz.isAgg4
  z4 := Tryz.sizeOf4
  v4 := Tryz.zeroValue4
  t5 := Tryz.underlying5
  a5 := Tryz.isAgg5
  z5 := Tryz.sizeOf5
  v5 := Tryz.zeroValue5
  t9 := Tryz.underlying9
  a9 := Tryz.isAgg9
  z9 := Tryz.sizeOf9
  v9 := Tryz.zeroValue9
  t22 := Tryz.underlying22
  a22 := Tryz.isAgg22
  z22 := Tryz.sizeOf22
  v22 := Tryz.zeroValue22
  a24 := Tryz.isAgg3
  z24 := Tryz.sizeOf3
  t25 := Tryz.underlying50
  a25 := Tryz.isAgg50
  z25 := Tryz.sizeOf50
  v25 := Tryz.zeroValue50
  t39 := Tryz.underlying82
  a39 := Tryz.isAgg82
  z39 := Tryz.sizeOf82
  v39 := Tryz.zeroValue82
  t45 := Tryz.underlying94
  a45 := Tryz.isAgg94
  z45 := Tryz.sizeOf94
  v45 := Tryz.zeroValue94
  t46 := Tryz.underlying95
  a46 := Tryz.isAgg95
  z46 := Tryz.sizeOf95
  v46 := Tryz.zeroValue95
  t50 := Tryz.underlying34
  a50 := Tryz.isAgg34
  z50 := Tryz.sizeOf34
  v50 := Tryz.zeroValue34
  t53 := Tryz.underlying101
  a53 := Tryz.isAgg101
  z53 := Tryz.sizeOf101
  v53 := Tryz.zeroValue101
  t55 := Tryz.underlying75
  a55 := Tryz.isAgg75
  z55 := Tryz.sizeOf75
  v55 := Tryz.zeroValue75
  t66 := Tryz.underlying110
  a66 := Tryz.isAgg110
  z66 := Tryz.sizeOf110
  v66 := Tryz.zeroValue110
  t70 := Tryz.underlying114
  a70 := Tryz.isAgg114
  z70 := Tryz.sizeOf114
  v70 := Tryz.zeroValue114
  t76 := Tryz.underlying124
  a76 := Tryz.isAgg124
  z76 := Tryz.sizeOf124
  v76 := Tryz.zeroValue124
  t77 := Tryz.underlying47
  a77 := Tryz.isAgg47
  z77 := Tryz.sizeOf47
  v77 := Tryz.zeroValue47 }
def sortOI_ren : Go.Shelf.Ren := ⟨fun | 53 => 85 | 64 => 79 | 63 => 105 | 78 => 103 | 79 => 104 | 70 => 120 | 71 => 121 | 72 => 122 | 73 => 123 | 74 => 124 | 75 => 125 | 59 => 126 | 76 => 127 | 77 => 128 | 88 => 134 | 89 => 116 | 90 => 117 | 91 => 135 | 92 => 136 | 68 => 80 | 96 => 138 | n => n, fun | 22 => 22 | 23 => 3 | 3 => 3 | 51 => 82 | 0 => 0 | 67 => 101 | 69 => 75 | 4 => 4 | 61 => 95 | 60 => 94 | 44 => 34 | 5 => 5 | 9 => 9 | 75 => 110 | 79 => 114 | 83 => 124 | 84 => 47 | n => n, fun | n => n⟩
theorem sortOI : Go.Proofs.SlLaysN.n53 Tryz.prog sortOI_ren := {
  mixed := by kernel_rfl
  f53 := ⟨Tryz.f85.name, by decide, Tryz.func85.trans (congrArg some (by kernel_rfl))⟩
  f59 := ⟨Tryz.f126.name, by decide, Tryz.func126.trans (congrArg some (by kernel_rfl))⟩
  f63 := ⟨Tryz.f105.name, by decide, Tryz.func105.trans (congrArg some (by kernel_rfl))⟩
  f64 := Tryz.func79.trans (congrArg some (by kernel_rfl))
  f68 := ⟨Tryz.f80.name, by decide, Tryz.func80.trans (congrArg some (by kernel_rfl))⟩
  f70 := ⟨Tryz.f120.name, by decide, Tryz.func120.trans (congrArg some (by kernel_rfl))⟩
  f71 := ⟨Tryz.f121.name, by decide, Tryz.func121.trans (congrArg some (by kernel_rfl))⟩
  f72 := ⟨Tryz.f122.name, by decide, Tryz.func122.trans (congrArg some (by kernel_rfl))⟩
  f73 := ⟨Tryz.f123.name, by decide, Tryz.func123.trans (congrArg some (by kernel_rfl))⟩
  f74 := ⟨Tryz.f124.name, by decide, Tryz.func124.trans (congrArg some (by kernel_rfl))⟩
  f75 := ⟨Tryz.f125.name, by decide, Tryz.func125.trans (congrArg some (by kernel_rfl))⟩
  f76 := ⟨Tryz.f127.name, by decide, Tryz.func127.trans (congrArg some (by kernel_rfl))⟩
  f77 := ⟨Tryz.f128.name, by decide, Tryz.func128.trans (congrArg some (by kernel_rfl))⟩
  f78 := Tryz.func103.trans (congrArg some (by kernel_rfl))
  f79 := Tryz.func104.trans (congrArg some (by kernel_rfl))
  f88 := ⟨Tryz.f134.name, by decide, Tryz.func134.trans (congrArg some (by kernel_rfl))⟩
  f89 := Tryz.func116.trans (congrArg some (by kernel_rfl))
  f90 := Tryz.func117.trans (congrArg some (by kernel_rfl))
  f91 := ⟨Tryz.f135.name, by decide, Tryz.func135.trans (congrArg some (by kernel_rfl))⟩
  f92 := ⟨Tryz.f136.name, by decide, Tryz.func136.trans (congrArg some (by kernel_rfl))⟩
  f96 := ⟨Tryz.f138.name, by decide, Tryz.func138.trans (congrArg some (by kernel_rfl))⟩
  t0 := Tryz.underlying0
  a0 := Tryz.isAgg0
  z0 := Tryz.sizeOf0
  v0 := Tryz.zeroValue0
  t3 := Tryz.underlying3
  a3 := Tryz.isAgg3
  z3 := Tryz.sizeOf3
  v3 := Tryz.zeroValue3
  t4 := Tryz.underlying4
  a4 := Tryz.isAgg4
  z4 := Tryz.sizeOf4
  v4 := Tryz.zeroValue4
  t5 := Tryz.underlying5
  a5 := Tryz.isAgg5
  z5 := Tryz.sizeOf5
  v5 := Tryz.zeroValue5
  t9 := Tryz.underlying9
  a9 := Tryz.isAgg9
  z9 := Tryz.sizeOf9
  v9 := Tryz.zeroValue9
  t22 := Tryz.underlying22
  a22 := Tryz.isAgg22
  z22 := Tryz.sizeOf22
  v22 := Tryz.zeroValue22
  t23 := Tryz.underlying3
  a23 := Tryz.isAgg3
  z23 := Tryz.sizeOf3
  v23 := Tryz.zeroValue3
  t44 := Tryz.underlying34
  a44 := Tryz.isAgg34
  z44 := Tryz.sizeOf34
  v44 := Tryz.zeroValue34
  t51 := Tryz.underlying82
  a51 := Tryz.isAgg82
  z51 := Tryz.sizeOf82
  v51 := Tryz.zeroValue82
  t60 := Tryz.underlying94
  a60 := Tryz.isAgg94
  z60 := Tryz.sizeOf94
  v60 := Tryz.zeroValue94
  t61 := Tryz.underlying95
  a61 := Tryz.isAgg95
  z61 := Tryz.sizeOf95
  v61 := Tryz.zeroValue95
  t67 := Tryz.underlying101
  a67 := Tryz.isAgg101
  z67 := Tryz.sizeOf101
  v67 := Tryz.zeroValue101
  t69 := Tryz.underlying75
  a69 := Tryz.isAgg75
  z69 := Tryz.sizeOf75
  v69 := Tryz.zeroValue75
  t75 := Tryz.underlying110
  a75 := Tryz.isAgg110
  z75 := Tryz.sizeOf110
  v75 := Tryz.zeroValue110
  t79 := Tryz.underlying114
  a79 := Tryz.isAgg114
  z79 := Tryz.sizeOf114
  v79 := Tryz.zeroValue114
  t83 := Tryz.underlying124
  a83 := Tryz.isAgg124
  z83 := Tryz.sizeOf124
  v83 := Tryz.zeroValue124
  t84 := Tryz.underlying47
  a84 := Tryz.isAgg47
  z84 := Tryz.sizeOf47
  v84 := Tryz.zeroValue47 }
def compI_ren : Go.Shelf.Ren := ⟨fun | 43 => 86 | n => n, fun | 22 => 22 | 23 => 3 | 3 => 3 | 4 => 4 | 0 => 0 | n => n, fun | n => n⟩
theorem compI : Go.Proofs.SlLaysN.n43 Tryz.prog compI_ren := {
  mixed := by kernel_rfl
  f43 := ⟨Tryz.f86.name, by decide, Tryz.func86.trans (congrArg some (by kernel_rfl))⟩
  t0 := Tryz.underlying0
  a0 := Tryz.isAgg0
  z0 := Tryz.sizeOf0
  v0 := Tryz.zeroValue0
  t3 := Tryz.underlying3
  a3 := Tryz.isAgg3
  z3 := Tryz.sizeOf3
  v3 := Tryz.zeroValue3
  t4 := Tryz.underlying4
  a4 := Tryz.isAgg4
  z4 := Tryz.sizeOf4
  v4 := Tryz.zeroValue4
  t22 := Tryz.underlying22
  a22 := Tryz.isAgg22
  z22 := Tryz.sizeOf22
  v22 := Tryz.zeroValue22
  t23 := Tryz.underlying3
  a23 := Tryz.isAgg3
  z23 := Tryz.sizeOf3
  v23 := Tryz.zeroValue3
  i23 := by kernel_rfl }
end Go.Proofs.YtaambkdiokbdgabGreatL
namespace Go.Proofs.YtaambkdiokbdgabGreatM
open Go.RowKit Go.Proofs.YtaambkdiokbdgabGreatW.PrintWords Go.Proofs.YtaambkdiokbdgabGreatW.PrintMore
theorem ev_pos {α : Type} {c : Prop} [Decidable c] {g f : Nat → Option α} {r : α} (h : c) : Ev (fun k => if c then g k else f k) r ↔ Ev g r := by simp only [if_pos h]
theorem ev_neg {α : Type} {c : Prop} [Decidable c] {g f : Nat → Option α} {r : α} (h : ¬ c) : Ev (fun k => if c then g k else f k) r ↔ Ev f r := by simp only [if_neg h]
theorem ev_bind {α β : Type} {g : Nat → Option α} {f : Nat → α → Option β} {a : α} {r : β} (h : Ev g a) : Ev (fun n => (g n).bind (f n)) r ↔ Ev (fun n => f n a) r := by
  refine ⟨fun hb => ?_, fun k => Ev.bind h k⟩
  obtain ⟨K, h⟩ := h
  obtain ⟨K', hb⟩ := hb
  refine ⟨max K K', fun n hn => ?_⟩
  have h1 := h n (by omega)
  have h2 := hb n (by omega)
  simpa only [h1, Zk] using h2
theorem ev_now {α : Type} {a r : α} : Ev (fun _ => some a) r ↔ a = r := by
  refine ⟨fun ⟨K, h⟩ => Zd (h K (Ze _)), fun h => h ▸ Ev.now a⟩
theorem ev_of {α : Type} {a : Option α} {r : α} (h : a = some r) : Ev (fun _ => a) r := ⟨0, fun _ _ => h⟩
theorem ev_step {α : Type} {g : Nat → Option α} {r : α} (k : Ev (fun n => g (n + 1)) r) : Ev g r := Ev.step (fun _ => rfl) k
theorem ev_all {α : Type} (N : Nat) (g : Nat → Nat → Option α) (p : Nat → α) (h : ∀ m, m < N → Ev (fun k => g k m) (p m)) : ∃ K, ∀ k, K ≤ k → ∀ m, m < N → g k m = some (p m) := by
  induction N with
  | zero => exact ⟨0, fun _ _ m hm => absurd hm (Nat.not_lt_zero m)⟩
  | succ N ih =>
    obtain ⟨K, hK⟩ := ih (fun m hm => h m (by omega))
    obtain ⟨K', hK'⟩ := h N (by omega)
    refine ⟨max K K', fun k hk m hm => ?_⟩
    by_cases e : m = N
    · subst e
      exact hK' k (by omega)
    · exact hK k (by omega) m (by omega)
theorem w64 {x : Int} (h0 : -9223372036854775808 ≤ x) (h1 : x ≤ 9223372036854775807) : Zb x = x := by unfold Zb; omega
theorem w64i {i : Int} {n : Nat} (h0 : 0 ≤ i) (h : i < (n : Int)) (hn : n ≤ 9223372036854775807) : Zb (i + 1) = i + 1 := by unfold Zb; omega
theorem mx_eq (a b : Int) : mx a b = max a b := by unfold mx; omega
theorem rd_nat (l : List Int) (i : Nat) : rd l (i : Int) = l.getD i 0 := by simp [rd]
theorem rd_lt (l : List Int) (i : Nat) (h : i < l.length) : rd l (i : Int) = l[i] := by simp [rd, h]
theorem rdOf_nat {α : Type} (d : α) (l : List α) (i : Nat) : rdOf d l (i : Int) = l.getD i d := by simp [rdOf]
theorem rdOf_lt {α : Type} (d : α) (l : List α) (i : Nat) (h : i < l.length) : rdOf d l (i : Int) = l[i] := by simp [rdOf, h]
def wfold (l : List Int) (s : Int) : Int := l.foldl (fun s x => Zb (s + x)) s
theorem wfold_sum (l : List Int) : ∀ s : Int, (∀ x ∈ l, 0 ≤ x ∧ x ≤ 1000000) → 0 ≤ s → s + 1000000 * (l.length : Int) ≤ 9000000000000000000 → wfold l s = s + l.sum := by
  induction l with
  | nil => intro s _ _ _; simp [wfold]
  | cons a l ih =>
    intro s h h0 h1
    have ha := h a (by simp)
    simp only [Z4] at h1
    have e : Zb (s + a) = s + a := w64 (by omega) (by omega)
    show wfold l (Zb (s + a)) = _
    rw [e, ih (s + a) (fun x hx => h x (by simp [hx])) (by omega) (by omega), Z3, Int.add_assoc]
theorem wfold_take (l : List Int) (i : Nat) (h : i < l.length) (s : Int) : wfold (l.drop i) s = wfold (l.drop (i + 1)) (Zb (s + l[i])) := by
  rw [ZS h]
  rfl
def goodB (q : Int) (l : List Int) : Bool := decide (1 ≤ l.length) && decide (l.length ≤ 9) && (l.all fun x => decide (0 ≤ x) && decide (x ≤ 1000)) && (decide (1 ≤ q) && decide (q ≤ l.sum))
theorem wfold_w (l : List Int) (h : l.length ≤ 9) (hb : (l.all fun x => decide (0 ≤ x) && decide (x ≤ 1000)) = true) : wfold l 0 = l.sum := by
  rw [wfold_sum l 0 (fun x hx => ?_) (by omega) (by omega), Int.zero_add]
  have := List.all_eq_true.1 hb x hx
  simp at this
  omega
structure GoodC (q : Int) (l : List Int) : Prop where
  l1 : 1 ≤ l.length
  l9 : l.length ≤ 9
  w : ∀ x ∈ l, 0 ≤ x ∧ x ≤ 1000
  q1 : 1 ≤ q
  qs : q ≤ l.sum
theorem good_iff (q : Int) (l : List Int) : goodB q l = true ↔ GoodC q l := by
  unfold goodB
  simp only [Bool.and_eq_true, decide_eq_true_eq, List.all_eq_true]
  exact ⟨fun ⟨⟨⟨a, b⟩, c⟩, d, e⟩ => ⟨a, b, c, d, e⟩, fun h => ⟨⟨⟨h.l1, h.l9⟩, h.w⟩, h.q1, h.qs⟩⟩
theorem sum_bounds (l : List Int) (c : Int) (h : ∀ x ∈ l, 0 ≤ x ∧ x ≤ c) : 0 ≤ l.sum ∧ l.sum ≤ c * l.length := by
  induction l with
  | nil => simp
  | cons a l ih =>
    have h1 := h a (by simp)
    have h2 := ih (fun x hx => h x (by simp [hx]))
    rw [Z3, Z4]
    have : c * ((l.length + 1 : Nat) : Int) = c * l.length + c := by rw [Int.natCast_add, Int.mul_add]; simp
    omega
theorem GoodC.sum {q : Int} {l : List Int} (h : GoodC q l) : 1 ≤ l.sum ∧ l.sum ≤ 9000 := by
  have h1 := sum_bounds l 1000 h.w
  have h2 := h.q1
  have h3 := h.qs
  have h4 := h.l9
  omega
def OkI (n : Int) : Prop := (Lit.int .i64 n).wf = true
def OkB (n : Int) : Prop := (Lit.int .u8 n).wf = true
def OkL (l : List Int) : Prop := l.length ≤ Yb ∧ ∀ x ∈ l, OkI x
def OkBL (l : List Int) : Prop := l.length ≤ Yb ∧ ∀ x ∈ l, OkB x
def OkLL (l : List (List Int)) : Prop := l.length ≤ Yb ∧ ∀ x ∈ l, OkL x
theorem OkI.range {n : Int} (h : OkI n) : -9223372036854775808 ≤ n ∧ n ≤ 9223372036854775807 := by
  simp [OkI, Lit.wf, IntKind.min, IntKind.max, IntKind.bits, IntKind.signed] at h
  omega
theorem OkL.len {l : List Int} (h : OkL l) : l.length ≤ 9223372036854775807 := h.1
theorem OkLL.len {l : List (List Int)} (h : OkLL l) : l.length ≤ 9223372036854775807 := h.1
def wsum : List Int → Nat → Int
  | [], _ => 0
  | w :: ws, m => (if m % 2 = 1 then w else 0) + wsum ws (m / 2)
theorem wsum_bounds (ws : List Int) (h : ∀ x ∈ ws, 0 ≤ x) : ∀ m, 0 ≤ wsum ws m ∧ wsum ws m ≤ ws.sum := by
  induction ws with
  | nil => intro m; simp [wsum]
  | cons a l ih =>
    intro m
    have h1 := ih (fun x hx => h x (by simp [hx])) (m / 2)
    have h2 := h a (by simp)
    rw [Z3]
    simp only [wsum]
    split <;> omega
theorem div_pow_succ (m i : Nat) : m / 2 / 2 ^ i = m / 2 ^ (i + 1) := by rw [Nat.div_div_eq_div_mul, Z5, Z6]
theorem wsum_drop (ws : List Int) (i m : Nat) (h : i < ws.length) : wsum (ws.drop i) m = (if m % 2 = 1 then ws[i] else 0) + wsum (ws.drop (i + 1)) (m / 2) := by
  rw [ZS h]
  rfl
theorem wsum_set (ws : List Int) (v : Int) : ∀ (i m : Nat) (h : i < ws.length), wsum (ws.set i v) m = wsum ws m + (if m / 2 ^ i % 2 = 1 then v - ws[i] else 0) := by
  induction ws with
  | nil => intro i m h; simp at h
  | cons a l ih =>
    intro i m h
    cases i with
    | zero =>
      simp only [List.set_cons_zero, wsum, Nat.pow_zero, Nat.div_one, List.getElem_cons_zero]
      split <;> omega
    | succ i =>
      have hl : i < l.length := by simpa using h
      simp only [List.set_cons_succ, wsum, List.getElem_cons_succ]
      rw [ih i (m / 2) hl, div_pow_succ]
      omega
theorem wsum_add (ws : List Int) : ∀ (i m : Nat) (h : i < ws.length), m / 2 ^ i % 2 = 0 → wsum ws (m + 2 ^ i) = wsum ws m + ws[i] := by
  induction ws with
  | nil => intro i m h; simp at h
  | cons a l ih =>
    intro i m h hb
    cases i with
    | zero =>
      simp only [Nat.pow_zero, Nat.div_one] at hb
      simp only [wsum, Nat.pow_zero, List.getElem_cons_zero]
      rw [if_pos (by omega), if_neg (by omega), show (m + 1) / 2 = m / 2 by omega]
      omega
    | succ i =>
      have hl : i < l.length := by simpa using h
      have hp : 2 ^ (i + 1) = 2 * 2 ^ i := by rw [Z5, Z6]
      have hb' : m / 2 / 2 ^ i % 2 = 0 := by rw [div_pow_succ]; exact hb
      simp only [wsum, List.getElem_cons_succ]
      rw [show (m + 2 ^ (i + 1)) % 2 = m % 2 by rw [hp]; omega, show (m + 2 ^ (i + 1)) / 2 = m / 2 + 2 ^ i by rw [hp]; omega, ih i (m / 2) hl hb']
      omega
theorem wsum_full (ws : List Int) : wsum ws (2 ^ ws.length - 1) = ws.sum := by
  induction ws with
  | nil => simp [wsum]
  | cons a l ih =>
    have hp : 2 ^ (l.length + 1) = 2 * 2 ^ l.length := by rw [Z5, Z6]
    have h0 : 0 < 2 ^ l.length := Nat.two_pow_pos _
    simp only [wsum, Z4, Z3]
    rw [if_pos (by omega), show (2 ^ (l.length + 1) - 1) / 2 = 2 ^ l.length - 1 by omega, ih]
theorem wsum_zero (ws : List Int) : wsum ws 0 = 0 := by
  induction ws with
  | nil => rfl
  | cons a l ih => simp [wsum, ih]
theorem shr_nat (m i : Nat) (hi : i ≤ 64) : shr .i64 (m : Int) (i : Int) = ((m / 2 ^ i : Nat) : Int) := by
  unfold shr
  rw [Yc, show IntKind.i64.bits = 64 from rfl, Nat.min_eq_left hi]
  simp
theorem i64_wrap {x : Int} (h0 : -9223372036854775808 ≤ x) (h1 : x ≤ 9223372036854775807) : IntKind.i64.wrap x = x := by rw [IntKind.wrap_i64]; omega
theorem shl_one (i : Nat) (hi : i ≤ 62) : shl .i64 1 (i : Int) = ((2 ^ i : Nat) : Int) := by
  unfold shl
  rw [Yc, show IntKind.i64.bits = 64 from rfl, Nat.min_eq_left (by omega), Z1]
  have h : 2 ^ i ≤ 2 ^ 62 := ZW (by omega) hi
  have h' : (2 : Int) ^ i = ((2 ^ i : Nat) : Int) := by simp
  have h0 : 0 < 2 ^ i := Nat.two_pow_pos i
  rw [h', i64_wrap (by omega) (by omega)]
theorem wraps_i64 (n : Int) (h0 : 0 ≤ n) (h1 : n < 2 ^ 62) : IntKind.i64.wrap n = n := i64_wrap (by omega) (by omega)
theorem and_one (a : Nat) (h : a < 2 ^ 62) : Yg .and .i64 (a : Int) 1 = ((a % 2 : Nat) : Int) := by
  have := Go.bits_mask .i64 62 (by decide) wraps_i64 1 (by decide) (a : Int) (by omega) (by omega)
  simpa using this
theorem or_nat (a b : Nat) (ha : a < 2 ^ 62) (hb : b < 2 ^ 62) : Yg .or .i64 (a : Int) (b : Int) = ((a ||| b : Nat) : Int) := (Go.bits_nat .i64 62 (by decide) wraps_i64 a b ha hb).2
theorem or_pow : ∀ (i m : Nat), m / 2 ^ i % 2 = 0 → m ||| 2 ^ i = m + 2 ^ i := by
  intro i
  induction i with
  | zero =>
    intro m h
    have h1 := Nat.or_div_two (a := m) (b := 1)
    have h2 := Nat.or_mod_two_eq_one (a := m) (b := 1)
    simp only [Nat.pow_zero, Nat.div_one] at h ⊢
    have h3 : (m ||| 1) % 2 = 1 := h2.2 (.inr rfl)
    have h4 : (m ||| 1) / 2 = m / 2 := by rw [h1]; simp
    omega
  | succ i ih =>
    intro m h
    have hp : 2 ^ (i + 1) = 2 * 2 ^ i := by rw [Z5, Z6]
    have h1 := Nat.or_div_two (a := m) (b := 2 ^ (i + 1))
    have h2 := Nat.or_mod_two_eq_one (a := m) (b := 2 ^ (i + 1))
    have h3 : 2 ^ (i + 1) / 2 = 2 ^ i := by omega
    rw [h3, ih (m / 2) (by rw [div_pow_succ]; exact h)] at h1
    have h5 : 2 ^ (i + 1) % 2 = 0 := by omega
    have h6 : (m ||| 2 ^ (i + 1)) % 2 = m % 2 := by
      by_cases e : m % 2 = 1
      · rw [h2.2 (.inl e), e]
      · have : ¬ (m ||| 2 ^ (i + 1)) % 2 = 1 := fun hh => by
          rcases h2.1 hh with h | h
          · exact e h
          · omega
        omega
    omega
def winsL (q : Int) (ws : List Int) : List Bool := (List.range (2 ^ ws.length)).map fun m => decide (q ≤ wsum ws m)
theorem winsL_length (q : Int) (ws : List Int) : (winsL q ws).length = 2 ^ ws.length := by simp [winsL]
theorem winsL_get (q : Int) (ws : List Int) (m : Nat) (h : m < (winsL q ws).length) : (winsL q ws)[m] = decide (q ≤ wsum ws m) := by simp [winsL]
theorem winsL_getD (q : Int) (ws : List Int) (m : Nat) (h : m < 2 ^ ws.length) : (winsL q ws).getD m false = decide (q ≤ wsum ws m) := by
  rw [Zx, Zg (by rw [winsL_length]; exact h), winsL_get]
  rfl
theorem GoodC.w0 {q : Int} {ws : List Int} (h : GoodC q ws) : ∀ x ∈ ws, 0 ≤ x := fun x hx => (h.w x hx).1
theorem GoodC.wb {q : Int} {ws : List Int} (h : GoodC q ws) : ∀ x ∈ ws, 0 ≤ x ∧ x ≤ 1000000000 := fun x hx => by have := h.w x hx; omega
theorem GoodC.pow {q : Int} {ws : List Int} (h : GoodC q ws) : 2 ≤ 2 ^ ws.length ∧ 2 ^ ws.length ≤ 512 := by
  have h1 : 2 ^ 1 ≤ 2 ^ ws.length := ZW (by omega) h.l1
  have h2 : 2 ^ ws.length ≤ 2 ^ 9 := ZW (by omega) h.l9
  omega
def cmpL : List Int → List Int → Int
  | [], [] => 0
  | [], _ :: _ => -1
  | _ :: _, [] => 1
  | a :: ar, b :: bs => if a < b then -1 else if b < a then 1 else cmpL ar bs
theorem cmpL_self : ∀ a : List Int, cmpL a a = 0
  | [] => rfl
  | a :: ar => by
    rw [cmpL, if_neg (Int.lt_irrefl a), if_neg (Int.lt_irrefl a)]
    exact cmpL_self ar
theorem cmpL_swap : ∀ a b : List Int, cmpL b a = - cmpL a b
  | [], [] => rfl
  | [], _ :: _ => rfl
  | _ :: _, [] => rfl
  | a :: ar, b :: bs => by
    have ih := cmpL_swap ar bs
    simp only [cmpL]
    by_cases h1 : a < b
    · rw [if_neg (by omega), if_pos h1, if_pos h1]; rfl
    · by_cases h2 : b < a
      · rw [if_pos h2, if_neg h1, if_pos h2]
      · rw [if_neg h2, if_neg h1, if_neg h1, if_neg h2]; exact ih
theorem cmpL_zero : ∀ a b : List Int, cmpL a b = 0 → a = b
  | [], [], _ => rfl
  | [], _ :: _, h => by simp [cmpL] at h
  | _ :: _, [], h => by simp [cmpL] at h
  | a :: ar, b :: bs, h => by
    simp only [cmpL] at h
    by_cases h1 : a < b
    · rw [if_pos h1] at h; omega
    · by_cases h2 : b < a
      · rw [if_neg h1, if_pos h2] at h; omega
      · rw [if_neg h1, if_neg h2] at h
        rw [cmpL_zero ar bs h, show a = b by omega]
theorem cmpL_le_trans : ∀ a b c : List Int, cmpL a b ≤ 0 → cmpL b c ≤ 0 → cmpL a c ≤ 0
  | [], _, [], _, _ => by simp [cmpL]
  | [], _, _ :: _, _, _ => by simp [cmpL]
  | _ :: _, [], _, h, _ => by simp [cmpL] at h
  | _ :: _, _ :: _, [], _, h => by simp [cmpL] at h
  | a :: ar, b :: bs, c :: cs, h1, h2 => by
    have ih := cmpL_le_trans ar bs cs
    simp only [cmpL] at h1 h2 ⊢
    (repeat' split at h1) <;> (repeat' split at h2) <;> (repeat' split) <;> first | omega | (exact ih h1 h2)
end Go.Proofs.YtaambkdiokbdgabGreatM
namespace Go.Proofs.YtaambkdiokbdgabGreatS
open Go.RowKit Go.Shelf Go.Proofs.YtaambkdiokbdgabGreatW.PrintWords
section
variable {P : Program} {ρ : Ren} {α β : Type}
theorem heap_sortWorld [Inhabited β] (enc : β → ZA) (w : Zu) (blk off n : Nat) (d : Array β) (os : Array Obj) (k : Nat) (hk : k < w.heap.size) (hne : k ≠ blk) : (sortWorld enc w blk off n d os).heap[k]? = w.heap[k]? := by
  unfold sortWorld
  rw [Go.Sort.heap_grow_old _ _ (by rw [Go.Proofs.size_putRow]; exact hk)]
  unfold Go.Sort.putRow Go.Sort.mapBlock
  show (w.heap.modify blk _)[k]? = _
  rw [Array.getElem?_modify, if_neg (fun e => hne e.symm)]
theorem row_sortWorld [Inhabited β] (enc : β → ZA) (w : Zu) (blk off n : Nat) (d : Array β) (os : Array Obj) {c : Array ZA} {e : Z7} {fr : Nat × Nat} (hb : w.heap[blk]? = some (.cells c e fr)) : (sortWorld enc w blk off n d os).heap[blk]? = some (.cells (Zv enc off d c) e fr) := by
  have hk : blk < w.heap.size := (ZX.1 hb).1
  unfold sortWorld
  rw [Go.Sort.heap_grow_old _ _ (by rw [Go.Proofs.size_putRow]; exact hk)]
  unfold Go.Sort.putRow Go.Sort.mapBlock
  show (w.heap.modify blk _)[blk]? = _
  rw [Array.getElem?_modify, if_pos rfl, hb]
  rfl
theorem size_sortWorld [Inhabited β] (enc : β → ZA) (w : Zu) (blk off n : Nat) (d : Array β) (os : Array Obj) : w.heap.size ≤ (sortWorld enc w blk off n d os).heap.size := by
  unfold sortWorld
  rw [Go.Sort.size_grow, Go.Proofs.size_putRow]
  show w.heap.size ≤ w.heap.size + _
  omega
theorem swo_pull {cf : α → α → Int} (hO : Go.Sort.SWO (ltOf cf)) (f : β → α) : Go.Sort.SWO (ltOf fun i j => cf (f i) (f j)) where
  irrefl x := hO.irrefl (f x)
  trans x y z := hO.trans (f x) (f y) (f z)
  ntrans x y z := hO.ntrans (f x) (f y) (f z)
theorem drop_take_one (l : List ZA) (j : Nat) (h : j < l.length) : (l.drop (j * 1)).take 1 = [l[j]] := by
  rw [ZB, ZS h]
  rfl
set_option maxHeartbeats 1000000 in
theorem hZ (L : SlLaysF.n6 P ρ) (d : Kd α) (hd : d.sz = 1) (cf : α → α → Int) (hO : Go.Sort.SWO (ltOf cf)) (g : Nat) (eg : ∀ args w, (Z8 g args).run P w = .ok (.enter g args) w)
    {e : Nat} {w : Zu} {base : Nat} {ok : Nat → Prop} {A : Option Addr} {c : Nat} {xs : List α} (hS : Kd.S d e w base ok (.slice A xs.length c) xs) (hmx : xs.length < 4611686018427387904)
    (hcmp : ∀ (W : Zu) (x y : α) (u v : ZA), x ∈ xs → y ∈ xs → d.K W x [u] → d.K W y [v] → ZD P g #[u, v] W fun e W' => e = .returned (.int .i64 (cf x y)) ∧ ∃ q, W' = W.drewN q) :
    ZD P (ρ.f 6) #[.slice A xs.length c, .func (.func g) #[] #[]] w fun e' W' => e' = .returned (.tuple #[]) ∧ ∃ ys : List α, ys.Perm xs ∧ ys.Pairwise (fun a b => ltOf cf b a = false) ∧ Kd.S d e W' base ok (.slice A xs.length c) ys ∧ w.grownBy W' (Value.slice A xs.length c).ownBlock := by
  by_cases hn : xs = []
  · subst hn
    refine (AnyF.slices_SortFunc_none (P := P) (ρ := ρ) { L with } A c _ w).mono ?_
    rintro e' W' ⟨rfl, rfl⟩
    exact ⟨rfl, [], List.Perm.refl _, List.Pairwise.nil, hS, ⟨rfl, rfl, rfl, Ze _, fun _ _ _ => rfl⟩⟩
  have hpos : 0 < xs.length := List.length_pos_iff.2 hn
  obtain ⟨f, h0, inner, ho, hr⟩ := hS
  have hsz : ∀ f, (Kd.tag f d).sz = 1 := fun _ => hd
  rw [hsz, ZE] at ho
  rw [hsz] at hr
  obtain ⟨hlen, ⟨_, h00⟩ | ⟨gb, cap, cur, hv, hbase, hheap, hnc, hmax, hcs, htake⟩⟩ := ho
  · omega
  injection hv with hA _ hc
  subst hA
  subst hc
  rw [ZB] at hlen hcs htake
  have hil : ∀ i : Fin xs.length, i.1 < inner.length := fun i => by rw [hlen]; exact i.2
  have hcur : ∀ j, j < xs.length → cur[j]? = inner[j]? := fun j hj => by
    rw [← htake, ZL, if_pos hj, Zs]
  haveI : Inhabited (Fin xs.length) := ⟨⟨0, hpos⟩⟩
  have hM : ∀ i : Fin xs.length, d.M w base (fun k => (ok k ∧ some k ≠ some gb) ∧ f k = i.1) xs[i] [inner[i.1]'(hil i)] := fun i => by
    have h := hr.2 i.1 (xs[i], i.1) (Kd.zip_at (Zg i.2))
    rw [drop_take_one inner i.1 (hil i)] at h
    exact h
  let enc : Fin xs.length → ZA := fun i => inner[i.1]'(hil i)
  let da : Array (Fin xs.length) := Array.ofFn (n := xs.length) id
  have hdas : da.size = xs.length := Array.size_ofFn
  have hdag : ∀ j (h : j < xs.length), da[j]! = ⟨j, h⟩ := fun j h => by
    rw [getElem!_pos da j (by rw [hdas]; exact h)]
    simp [da]
  have hH : Go.Sort.Holds enc w gb 0 da := fun j hj => by
    rw [hdas] at hj
    rw [hdag j hj, Yd]
    refine ⟨?_, ?_⟩
    · simp only [World.cell?, hheap]
      rw [if_neg (by simp), hcur j hj, Zg (hil ⟨j, hj⟩)]
    · simp [World.frozen?, hheap]
  have h1 : OneCell enc := fun i => d.K_one (d.K_of_M (hM i)) _ (List.mem_singleton.2 rfl)
  have hblk : gb < w.heap.size := (ZX.1 hheap).1
  have hcmp1 : CmpLays1 P g #[] enc (fun i j => cf xs[i] xs[j]) gb 0 da.size w := fun m os dk _ x y => by
    have hK : ∀ i : Fin xs.length, d.K (sortWorld enc w gb 0 m dk os) xs[i] [enc i] := fun i =>
      d.K_of_M (Kd.M_step (hM i) (fun k hk hlt => heap_sortWorld enc w gb 0 m dk os k hlt (fun e => hk.1.2 (by rw [e]))))
    refine (hcmp _ xs[x] xs[y] (enc x) (enc y) (ZV _) (ZV _) (hK x) (hK y)).mono ?_
    rintro e' W' ⟨rfl, q, rfl⟩
    exact ⟨rfl, q, #[], by rw [Go.Sort.grow_empty]⟩
  have hcall := Any.slices_SortFunc L enc h1 (fun i j => cf xs[i] xs[j]) (swo_pull hO (fun i : Fin xs.length => xs[i])) g #[] gb 0 c da w eg hcmp1 hH hblk (by rw [hdas]; exact hmx)
  rw [hdas] at hcall
  refine hcall.mono ?_
  rintro e' W' ⟨rfl, d', m, os, hp, hs, rfl⟩
  obtain ⟨hps, _, hpp⟩ := hp
  rw [hdas] at hps
  have hd'l : d'.toList.length = xs.length := by simpa using hps
  have hpp' : d'.toList.Perm da.toList := by
    have e1 : d'.extract 0 xs.length = d' := by
      have h_ := Array.extract_size (xs := d')
      rwa [hps] at h_
    have e2 : da.extract 0 xs.length = da := by
      have h_ := Array.extract_size (xs := da)
      rwa [hdas] at h_
    rw [e1, e2] at hpp
    exact hpp
  have hda : da.toList.map (fun i => xs[i]) = xs := by
    show (Array.ofFn (n := xs.length) id).toList.map _ = xs
    rw [Array.toList_ofFn]
    refine List.ext_getElem (by simp) (fun i h1 h2 => ?_)
    simp
  have hnd : d'.toList.Nodup := hpp'.nodup_iff.2 (by
    show (Array.ofFn (n := xs.length) id).toList.Nodup
    rw [Array.toList_ofFn, List.Nodup, ZZ]
    intro i j hi hj hij heq
    simp at heq
    omega)
  refine ⟨rfl, d'.toList.map (fun i => xs[i]), ?_, ?_, ?_, ?_⟩
  · exact (hpp'.map _).trans (by rw [hda])
  · rw [ZZ]
    intro i j hi hj hij
    rw [Zi, hd'l] at hi hj
    have h := hs i j (Nat.zero_le _) hij hj
    rw [getElem!_pos d' i (by omega), getElem!_pos d' j (by omega)] at h
    have h2 : ltOf cf xs[d'[j]'(by omega)] xs[d'[i]'(by omega)] = false := h
    simpa using h2
  · have hgd : ∀ j (h : j < xs.length), d'[j]! = d'[j]'(by omega) := fun j h => getElem!_pos d' j (by omega)
    refine ⟨fun k => if h : f k < xs.length then d'.toList.idxOf ⟨f k, h⟩ else 0, h0, d'.toList.map enc, ⟨?_, .inr ⟨gb, c, Zv enc 0 d' cur, ?_, hbase, row_sortWorld enc w gb 0 m d' os hheap, ?_, hmax, ?_, ?_⟩⟩, ?_, ?_⟩
    · rw [hsz, ZE, Zi, Zi, ZB]
    · rw [ZE, Zi, hd'l]
    · rw [ZE, Zi, hd'l]; exact hnc
    · rw [hsz, ZB]
      simp [Zv, hcs]
    · rw [hsz, ZE, Zi, hd'l, ZB]
      refine List.ext_getElem? (fun j => ?_)
      rw [ZL]
      by_cases hj : j < xs.length
      · rw [if_pos hj, Zs, List.getElem?_map, Zs, ZH (by omega : j < d'.size)]
        simp only [Zv, Array.getElem?_mapIdx, hcur j hj, Zg (hil ⟨j, hj⟩), Option.map_some]
        rw [if_pos ⟨Nat.zero_le _, by omega⟩, Nat.sub_zero, hgd j hj]
      · rw [if_neg hj, List.getElem?_eq_none (by rw [Zi, hd'l]; omega)]
    · rw [hsz, ZE, Zi, Zi, ZB]
    · intro j p hj
      rw [hsz]
      rw [List.getElem?_zipIdx] at hj
      obtain ⟨y, hy, rfl⟩ := Option.map_eq_some_iff.1 hj
      have hjl : j < xs.length := by
        have := (Zy.1 hy).1
        rw [Zi, hd'l] at this
        exact this
      rw [List.getElem?_map, Zs, ZH (by omega : j < d'.size)] at hy
      obtain rfl := Zd hy
      rw [drop_take_one (d'.toList.map enc) j (by rw [Zi, hd'l]; exact hjl)]
      have hg : (d'.toList.map enc)[j]'(by rw [Zi, hd'l]; exact hjl) = inner[(d'[j]'(by omega)).1]'(hil _) := by simp [enc]
      rw [hg]
      refine d.M_mono (fun k hk => ⟨hk.1, ?_⟩) (Kd.M_step (hM (d'[j]'(by omega))) (fun k hk hlt => heap_sortWorld enc w gb 0 m d' os k hlt (fun e => hk.1.2 (by rw [e]))))
      have hfk : f k < xs.length := by rw [hk.2]; exact (d'[j]'(by omega)).2
      have hfe : (⟨f k, hfk⟩ : Fin xs.length) = d'.toList[j]'(by omega) := Fin.ext (by rw [Array.getElem_toList]; exact hk.2)
      simp only [dif_pos hfk]
      rw [hfe, List.Nodup.idxOf_getElem hnd, Yd]
  · refine ⟨rfl, rfl, rfl, size_sortWorld _ _ _ _ _ _ _, fun k hk hne => heap_sortWorld _ _ _ _ _ _ _ k hk (fun e => hne ?_)⟩
    rw [e]
    rfl
end
open Go.Proofs.YtaambkdiokbdgabGreatM
theorem swoL : Go.Sort.SWO (ltOf cmpL) where
  irrefl x := by simp [ltOf, cmpL_self]
  trans x y z h1 h2 := by
    simp only [ltOf, decide_eq_true_eq] at *
    have h3 := cmpL_le_trans x y z (by omega) (by omega)
    rcases Int.lt_or_eq_of_le h3 with h | h
    · exact h
    · obtain rfl := cmpL_zero x z h
      have := cmpL_swap x y
      omega
  ntrans x y z h1 h2 := by
    simp only [ltOf, decide_eq_false_iff_not] at *
    have e1 := cmpL_swap x y
    have e2 := cmpL_swap y z
    have e3 := cmpL_swap x z
    have := cmpL_le_trans z y x (by omega) (by omega)
    omega
def sortL (xs : List (List Int)) : List (List Int) := xs.mergeSort fun a b => !ltOf cmpL b a
theorem sortL_of {xs ys : List (List Int)} (hp : ys.Perm xs) (hs : ys.Pairwise fun a b => ltOf cmpL b a = false) : ys = sortL xs := by
  refine List.Perm.eq_of_pairwise (le := fun x y => (!ltOf cmpL y x) = true) ?_ ?_ ?_ (hp.trans (Ya _ _).symm)
  · intro a b _ _ h1 h2
    simp only [Z2, ltOf, decide_eq_false_iff_not] at h1 h2
    have := cmpL_swap a b
    exact cmpL_zero a b (by omega)
  · exact hs.imp (fun h => by simpa using h)
  · refine List.pairwise_mergeSort (fun a b c h1 h2 => ?_) (fun a b => ?_) xs
    · simp only [Z2] at h1 h2 ⊢
      exact swoL.ntrans c b a h2 h1
    · simp only [Bool.or_eq_true, Z2, ltOf, decide_eq_false_iff_not]
      have := cmpL_swap a b
      omega
theorem sortL_perm (xs : List (List Int)) : (sortL xs).Perm xs := Ya _ _
end Go.Proofs.YtaambkdiokbdgabGreatS
namespace Go.Proofs.YtaambkdiokbdgabGreatR
open Go.RowKit Go.Shelf Go.Proofs.YtaambkdiokbdgabGreatW.PrintWords Go.Proofs.YtaambkdiokbdgabGreatS
theorem row_open {w : Zu} {base : Nat} {e : Z7} {ok : Nat → Prop} {v : ZA} {xs : List Int} (h : Kd.R (Zp .i64) e w base ok v xs) (hn : 0 < xs.length) :
    ∃ (gb cap : Nat) (cur : Array ZA), v = .slice (some ⟨gb, 0, none⟩) xs.length cap ∧ ok gb ∧ base ≤ gb ∧ w.heap[gb]? = some (.cells cur e (0, 0)) ∧ xs.length ≤ cap ∧ cap ≤ Yb ∧ cur.size = cap ∧ Go.Sort.Holds (ZN .i64) w gb 0 xs.toArray := by
  obtain ⟨h0, inner, ⟨hl, hcase⟩, hr⟩ := h
  rcases hcase with ⟨_, h00⟩ | ⟨gb, cap, cur, hv, hb, hh, hnc, hmax, hcs, ht⟩
  · omega
  have hsz : (Zp .i64).sz = 1 := rfl
  rw [hsz] at hl hcs ht hr
  rw [ZB] at hl hcs ht
  refine ⟨gb, cap, cur, hv, h0 gb (by rw [hv]; rfl), hb, hh, hnc, hmax, hcs, fun j hj => ?_⟩
  have hj2 : j < xs.length := by simpa using hj
  have hji : j < inner.length := by omega
  have h1 : (inner.drop (j * 1)).take 1 = [ZN .i64 xs[j]] := hr.2 j xs[j] (Zg hj2)
  rw [drop_take_one inner j hji] at h1
  have h2 := (List.cons.inj h1).1
  have h3 : cur[j]? = some (ZN .i64 xs[j]) := by
    rw [← Zs, ← h2, ← Zg hji, ← ht, ZL, if_pos hj2]
  have h4 : xs.toArray[j]! = xs[j] := by
    rw [getElem!_pos xs.toArray j (by simpa using hj2)]
    simp
  rw [Yd, h4]
  refine ⟨?_, ?_⟩
  · simp only [World.cell?, hh]
    rw [if_neg (by simp), h3]
  · simp [World.frozen?, hh]
theorem row_close {W : Zu} {base : Nat} {e : Z7} {ok : Nat → Prop} {gb cap : Nat} {cur : Array ZA} {ys : List Int} (hok : ok gb) (hb : base ≤ gb) (hh : W.heap[gb]? = some (.cells cur e (0, 0))) (hnc : ys.length ≤ cap) (hmax : cap ≤ Yb) (hcs : cur.size = cap) (hc : cur.toList.take ys.length = ys.map (ZN .i64)) :
    Kd.R (Zp .i64) e W base ok (.slice (some ⟨gb, 0, none⟩) ys.length cap) ys := by
  have hsz : (Zp .i64).sz = 1 := rfl
  refine ⟨fun k hk => ?_, ys.map (ZN .i64), ⟨by rw [hsz, Zi, ZB], .inr ⟨gb, cap, cur, rfl, hb, hh, hnc, hmax, by rw [hsz, hcs, ZB], by rw [hsz, ZB]; exact hc⟩⟩, by rw [hsz, Zi, ZB], fun j p hp => ?_⟩
  · have : gb = k := by simpa [Value.ownBlock] using hk
    exact this ▸ hok
  · have hj : j < ys.length := (Zy.1 hp).1
    rw [hsz, drop_take_one (ys.map (ZN .i64)) j (by rw [Zi]; exact hj), List.getElem_map]
    have : ys[j] = p := (Zy.1 hp).2
    rw [this]
    rfl
theorem putCells_take {enc : Int → ZA} (d : Array Int) (cur : Array ZA) (hle : d.size ≤ cur.size) (m : Nat) (hm : m ≤ d.size) : (Zv enc 0 d cur).toList.take m = (d.toList.take m).map enc := by
  refine List.ext_getElem? (fun j => ?_)
  rw [ZL, List.getElem?_map, ZL]
  by_cases hj : j < m
  · rw [if_pos hj, if_pos hj, Zs, Zs]
    have h1 : j < cur.size := by omega
    have h2 : j < d.size := by omega
    simp only [Zv, Array.getElem?_mapIdx, ZH h1, ZH h2, Option.map_some]
    rw [if_pos ⟨Nat.zero_le _, by omega⟩, Nat.sub_zero, getElem!_pos d j h2]
  · rw [if_neg hj, if_neg hj]
    rfl
theorem size_putCells {enc : Int → ZA} (d : Array Int) (cur : Array ZA) : (Zv enc 0 d cur).size = cur.size := by simp [Zv]
theorem row_wrote {w w0 : Zu} {e : Z7} {P : Nat → Prop} {gb cap : Nat} {cur : Array ZA} {zs : List Int} (m n : Nat) (os : Array Obj) (hB : Zr w0.heap.size w0 w) (hok : P gb) (hb : w0.heap.size ≤ gb) (hh : w.heap[gb]? = some (.cells cur e (0, 0))) (hmax : cap ≤ Yb) (hcs : cur.size = cap) (hz : zs.length ≤ cap) (hm : m ≤ zs.length) :
    Kd.R (Zp .i64) e (sortWorld (ZN .i64) w gb 0 n zs.toArray os) w0.heap.size (fun k => P k ∨ w.heap.size ≤ k) (.slice (some ⟨gb, 0, none⟩) (zs.take m).length cap) (zs.take m) ∧ Zr w0.heap.size w0 (sortWorld (ZN .i64) w gb 0 n zs.toArray os) ∧ Kept w (sortWorld (ZN .i64) w gb 0 n zs.toArray os) P := by
  have hl : (zs.take m).length = m := by rw [List.length_take]; omega
  refine ⟨row_close (cur := Zv (ZN .i64) 0 zs.toArray cur) (.inl hok) hb (row_sortWorld _ _ _ _ _ _ _ hh) (by omega) hmax (by rw [size_putCells, hcs]) ?_, ?_, ?_⟩
  · rw [hl, putCells_take _ _ (by rw [List.size_toArray]; omega) m (by rw [List.size_toArray]; exact hm)]
  · have hg : w.grownBy (sortWorld (ZN .i64) w gb 0 n zs.toArray os) (some gb) := ⟨rfl, rfl, rfl, size_sortWorld _ _ _ _ _ _ _, fun k hk hne => heap_sortWorld _ _ _ _ _ _ _ k hk (fun e => hne (by rw [e]))⟩
    exact hB.grown hg hB.size (fun k hk => by have : gb = k := by simpa using hk
                                              omega)
  · exact ⟨size_sortWorld _ _ _ _ _ _ _, fun i hi hn => heap_sortWorld _ _ _ _ _ _ _ i hi (fun e => hn (e ▸ hok))⟩
end Go.Proofs.YtaambkdiokbdgabGreatR
namespace Go.Proofs.YtaambkdiokbdgabGreatO
open Go.RowKit Go.ChangeShapes Go.WideShapes Go.ChangeAt Go.Proofs.YtaambkdiokbdgabGreatW.PrintWords Go.Proofs.YtaambkdiokbdgabGreatM
section
variable {H : Type} {enc : Z7 × ZA → H} {P : Program} {w : Zu} {α : Type}
def Reads1 (enc : Z7 × ZA → H) (P : Program) (w : Zu) (t : Z7) (d : Kd α) (ok : α → Prop) : Prop :=
  ∀ fuel v x, DataW.trod enc P w 0 (fun _ => true) true fuel t [v] = some x → ∃ a, d.K w a [v] ∧ ok a
theorem reads_int {t : Z7} {k : IntKind} (hu : P.underlying t = some (.int k)) : Reads1 enc P w t (Zp k) (fun n => (Lit.int k n).wf = true) := by
  intro fuel v x h
  obtain ⟨n, e, _, hw⟩ := DataW.trod_int hu h
  exact ⟨n, e, hw⟩
theorem reads_slice {t e : Z7} {d : Kd α} {ok : α → Prop} (hu : P.underlying t = some (.slice e)) (hc : P.cellsOf e = 1) (hs : d.sz = 1) (he : Reads1 enc P w e d ok) :
    Reads1 enc P w t (Kd.slice e d) (fun l => l.length ≤ Yb ∧ ∀ x ∈ l, ok x) := by
  intro fuel v x h
  rcases Go.Deep.open_slice1 hu hc h with ⟨hcs, _⟩ | ⟨a, len, cap, m, n, V, D, Pl, hcs, _, hl, hm, hmm, _, hx⟩
  · obtain rfl : v = .slice none 0 0 := by simpa using hcs
    refine ⟨[], ⟨none, 0, rfl, Ze _, rfl, Nat.zero_le _, fun h => absurd h (Nat.lt_irrefl _)⟩, Nat.zero_le _, fun _ h => by cases h⟩
  · obtain rfl : v = .slice (some a) len cap := by simpa using hcs
    have hlm : len ≤ m := by rw [hmm]; simpa using hl
    have hall : ∀ i, i < len → ∃ b, d.K w b [V i] ∧ ok b := fun i hi => he n (V i) _ (hx i (by omega)).2
    have key : ∀ j, j ≤ len → ∃ l : List α, l.length = j ∧ (∀ i b, l[i]? = some b → d.K w b [V i] ∧ ok b) := by
      intro j
      induction j with
      | zero => exact fun _ => ⟨[], rfl, fun i b h => by simp at h⟩
      | succ j ih =>
        intro hj
        obtain ⟨l, hl1, hl2⟩ := ih (by omega)
        obtain ⟨b, hb⟩ := hall j (by omega)
        refine ⟨l ++ [b], by simp [hl1], fun i c h => ?_⟩
        rcases Nat.lt_or_ge i l.length with hi | hi
        · rw [List.getElem?_append_left hi] at h
          exact hl2 i c h
        · have e : i = l.length := by
            have := (Zy.1 h).1
            rw [List.length_append, List.length_singleton] at this
            omega
          subst e
          obtain rfl : b = c := by simpa using h
          rw [hl1]
          exact hb
    obtain ⟨l, hl1, hl2⟩ := key len (Ze _)
    subst hl1
    refine ⟨l, ⟨some a, cap, rfl, hl, rfl, by unfold Yb at hm; omega, fun _ => ⟨a, rfl, fun j p hj => ⟨[V j], by rw [hs]; rfl, (hl2 j p hj).1, fun i u hi => ?_⟩⟩⟩, Nat.le_trans hl hm, fun x hxm => ?_⟩
    · match i, hi with
      | 0, hi =>
        obtain rfl : V j = u := by simpa using hi
        have hj' := (Zy.1 hj).1
        rw [hs, ZB, Nat.add_zero]
        exact (hx j (by omega)).1
      | i + 1, hi => simp at hi
    · obtain ⟨i, hi, rfl⟩ := Z9.1 hxm
      exact (hl2 i _ (Zg hi)).2
theorem open_slice_arg {r : Reach} {b0 : Nat} {t e : Z7} {d : Kd α} {ok' : List α → Prop} {v : ZA} {dd : DataW H} {ps : List MemPlace} (hu : P.underlying t = some (.slice e)) (hr : Reads1 enc P w t (Kd.slice e d) ok') (hv : Value.okWide P w r b0 t v)
    (h : DataW.Trod enc P w 0 (fun _ => true) true t v dd ps) : ∃ (A : Option Addr) (c : Nat) (l : List α), v = .slice A l.length c ∧ l.length ≤ c ∧ d.C w A l.length l ∧ ok' l := by
  obtain ⟨a, len, cap, rfl⟩ := okWide_slice hu hv
  obtain ⟨fuel, hf⟩ := h
  obtain ⟨l, ⟨A, c, hcs, hlc, hC⟩, ho⟩ := hr fuel _ _ hf
  exact ⟨A, c, l, by simpa using hcs, hlc, hC, ho⟩
end
end Go.Proofs.YtaambkdiokbdgabGreatO
namespace Go.Proofs.YtaambkdiokbdgabGreat.Q
open Go.RowKit Go.Proofs.YtaambkdiokbdgabGreatW.PrintWords Go.Proofs.YtaambkdiokbdgabGreatW.PrintLast Go.Proofs.YtaambkdiokbdgabGreatW.PrintMore
attribute [local go_sem] max2_int min2_int max_two min_two max_three min_three max_four min_four   -- for this text's walks alone
set_option linter.unusedVariables false
set_option linter.unusedSimpArgs false
theorem info3 : (Tryz.prog.info? 3).map (fun i => (i.zero, i.size, i.bytes)) = some (some (.int .i64 0), 1, 8) := by kernel_rfl
theorem info4 : (Tryz.prog.info? 4).map (fun i => (i.zero, i.size, i.bytes)) = some (some (.bool false), 1, 1) := by kernel_rfl
theorem info22 : (Tryz.prog.info? 22).map (fun i => (i.zero, i.size, i.bytes)) = some (some (.slice none 0 0), 1, 24) := by kernel_rfl
-- the values' own types
end Go.Proofs.YtaambkdiokbdgabGreat.Q
namespace Go.Proofs.YtaambkdiokbdgabGreat.Q
open Go.RowKit Go.Proofs.YtaambkdiokbdgabGreatX Go.Proofs.YtaambkdiokbdgabGreatY Go.Proofs.YtaambkdiokbdgabGreatX Go.Proofs.YtaambkdiokbdgabGreatW.PrintWords Go.Proofs.YtaambkdiokbdgabGreatW.PrintLast Go.Proofs.YtaambkdiokbdgabGreatW.PrintMore
attribute [local go_sem] max2_int min2_int max_two min_two max_three min_three max_four min_four   -- for this text's walks alone
set_option linter.unusedVariables false
set_option linter.unusedSimpArgs false
def fU.f (a0 : Int) (a1 : Int) (a2 : Int) : Option (Bool) := if a0 ≥ a1 then (some (decide (a0 ≤ a2))) else (some false)
theorem fU.calls (a0 : Int) (a1 : Int) (a2 : Int) (r : Bool) (w : Zu) (h : fU.f a0 a1 a2 = some r) :
  ZD Tryz.prog 35 #[.int .i64 a0, .int .i64 a1, .int .i64 a2] w fun e w' => e = .returned (.bool r) ∧ Drawn0 w w' := by
 have H := h
 unfold fU.f at H
 clear h
 by_cases c4 : a0 ≥ a1
 ·rw [if_pos c4] at H
  have aa : decide (a1 ≤ a0) = true := decide_eq_true c4
  clear c4
  obtain rfl := Zd H
  go_enter Tryz.func35, Tryz.ntmps35
  go_wp2
  go_ret
  exact ⟨by first | rfl | (simp; done) | (simp [*]; done), dS⟩
 rw [if_neg c4] at H
 have aa : decide (a1 ≤ a0) = false := decide_eq_false c4
 clear c4
 obtain rfl := Zd H
 go_enter Tryz.func35, Tryz.ntmps35
 go_wp2
 go_ret
 exact ⟨by first | rfl | (simp; done) | (simp [*]; done), dS⟩
def idxOf (p : Int → Bool) (l : List Int) : Int := match l.findIdx? p with
 | some i => (i : Int)
 | none => -1
theorem idxOf_hit (p : Int → Bool) (l : List Int) (x : Int) (h0 : 0 ≤ x) (h1 : x < (l.length : Int)) (hp : p (rd l x) = true) (hb : ∀ j : Nat, (j : Int) < x → p (l.getD j 0) = false) : idxOf p l = x := by
 obtain ⟨k, rfl⟩ := Int.eq_ofNat_of_zero_le h0
 have hk : k < l.length := by omega
 have : l.findIdx? p = some k := by
  rw [ZU]
  refine ⟨hk, ?_, fun j hj => ?_⟩
  ·simpa [rd, Zx, Zg hk] using hp
  have := hb j (by omega)
  have hjl : j < l.length := by omega
  simpa [Zx, Zg hjl] using this
 simp [idxOf, this]
theorem idxOf_miss (p : Int → Bool) (l : List Int) (hb : ∀ j : Nat, (j : Int) < (l.length : Int) → p (l.getD j 0) = false) : idxOf p l = -1 := by
 have : l.findIdx? p = none := by
  rw [Z0]
  intro x hx
  obtain ⟨j, hj, rfl⟩ := Z9.1 hx
  have := hb j (by omega)
  simpa [Zx, Zg hj] using this
 simp [idxOf, this]
theorem idxOf_any (p : Int → Bool) (l : List Int) : decide (0 ≤ idxOf p l) = l.any p := by
 unfold idxOf
 cases h : l.findIdx? p with
 | none =>
  rw [Z0] at h
  have : l.any p = false := by simpa using h
  simp [this]
 | some i =>
  rw [ZU] at h
  obtain ⟨hi, hp, _⟩ := h
  have : l.any p = true := by simpa using ⟨_, ZV hi, hp⟩
  simp [this]
theorem wrap64_succ {x : Int} {n : Nat} (h0 : 0 ≤ x) (h1 : x < (n : Int)) (hn : n ≤ 9223372036854775807) : Zb (x + 1) = x + 1 := by
 unfold Zb
 omega
theorem sb.hof (A0 : Option Addr) (c0 : Nat) (l0 : List Int) (g : Nat) (lb : Array ZA) (p : Int → Bool) (w : Zu) (hr0 : Kd.C (Zp .i64) w A0 l0.length l0)
  (eg : ∀ args w, (Z8 g args).run Tryz.prog w = .ok (.enter g args) w)
  (hp : ∀ (W : Zu) (x : Int), x ∈ l0 → Zr w.heap.size w W → ZD Tryz.prog g (#[.int .i64 x] ++ lb) W fun e W' => e = .returned (.bool (p x)) ∧ Zr W.heap.size W W') :
  ZD Tryz.prog 60 #[.slice A0 l0.length c0, .func (.func g) #[] lb] w fun e w' => e = .returned (.int .i64 (idxOf p l0)) ∧ Zr w.heap.size w w' := by
 have hn := hr0.2.1
 have HP := Za hp
 have HR := Za hr0
 clear hp hr0
 go_enter Tryz.func60, Tryz.ntmps60
 go_wp2
 go_loopg [5, 8] l0.length (fun gg _ s8 wr => ∃ x : Int, s8 = .int .i64 x ∧ Zc (0 ≤ x ∧ x ≤ (l0.length : Int) ∧ (l0.length : Int) - x ≤ (gg : Int)) ∧ Zc (Zr w.heap.size w wr) ∧ Zc (∀ j : Nat, (j : Int) < x → p (l0.getD j 0) = false))
 case atStart => exact ⟨0, rfl, ⟨by omega⟩, ⟨Zq _ _⟩, ⟨fun j hj => by omega⟩⟩
 case round =>
  obtain ⟨x, rfl, HX, HB, HA⟩ := hrel
  have h0 : 0 ≤ x := HX.out.1
  by_cases hlt : x < (l0.length : Int)
  ·obtain ⟨ad, ea, hcell⟩ := ZI (Zm HR.out HB.out) x h0 hlt
   cases ea
   have hw1 := wrap64_succ h0 hlt hn
   have HW1 := Za hw1
   clear hw1
   have aa : decide (x < (l0.length : Int)) = true := decide_eq_true hlt
   have HLT := Za hlt
   have H0 := Za h0
   have hmem : rd l0 x ∈ l0 := by
    have hk : x.toNat < l0.length := by omega
    simp only [rd, Zx, Zg hk, Option.getD_some]
    exact ZV hk
   have hcall := HP.out wr (rd l0 x) hmem HB.out
   have HC := Za hcall
   clear hcall hmem
   have p5 := eq_true h0
   have q5 := eq_true hlt
   clear h0 hlt hn
   cases hq : p (rd l0 x) with
   | true =>
    have HQ := Za hq
    have HCT := Za (show ZD Tryz.prog g (#[.int .i64 (rd l0 x)] ++ lb) wr fun e W' => e = .returned (.bool true) ∧ Zr wr.heap.size wr W' from by have := HC.out; rwa [hq] at this)
    clear hq HC
    go_wp2_with fail
    refine (HCT.out).mono ?_
    rintro e w' ⟨rfl, hb⟩
    have HBN := Za (HB.out.trans (hb.mono HB.out.size))
    clear hb
    go_wp2
    go_ret
    exact ⟨by rw [idxOf_hit p l0 x H0.out HLT.out HQ.out HA.out]; first | rfl | (simp; done), HBN.out⟩
   | false =>
    have HQ := Za hq
    have HCT := Za (show ZD Tryz.prog g (#[.int .i64 (rd l0 x)] ++ lb) wr fun e W' => e = .returned (.bool false) ∧ Zr wr.heap.size wr W' from by have := HC.out; rwa [hq] at this)
    clear hq HC
    go_wp2_with fail
    refine (HCT.out).mono ?_
    rintro e w' ⟨rfl, hb⟩
    have HBN := Za (HB.out.trans (hb.mono HB.out.size))
    clear hb
    go_wp2
    go_roundg (gk - 1)
    case measure => have := HX.out; have := HLT.out; omega
    case rel =>
     refine ⟨x + 1, by rw [HW1.out], ⟨by have := HX.out; have := HLT.out; omega⟩, ⟨HBN.out⟩, ⟨fun j hj => ?_⟩⟩
     by_cases e : (j : Int) = x
     ·subst e
      exact HQ.out
     exact HA.out j (by omega)
  have aa : decide (x < (l0.length : Int)) = false := decide_eq_false hlt
  have HLT := Za hlt
  clear hlt hn
  go_wp2
  go_ret
  exact ⟨by rw [idxOf_miss p l0 (fun j hj => HA.out j (by have := HX.out; have := HLT.out; omega))]; first | rfl | (simp; done), HB.out⟩
theorem sf.hof (A0 : Option Addr) (c0 : Nat) (l0 : List Int) (g : Nat) (lb : Array ZA) (p : Int → Bool) (w : Zu) (hr0 : Kd.C (Zp .i64) w A0 l0.length l0)
  (eg : ∀ args w, (Z8 g args).run Tryz.prog w = .ok (.enter g args) w)
  (hp : ∀ (W : Zu) (x : Int), x ∈ l0 → Zr w.heap.size w W → ZD Tryz.prog g (#[.int .i64 x] ++ lb) W fun e W' => e = .returned (.bool (p x)) ∧ Zr W.heap.size W W') :
  ZD Tryz.prog 82 #[.slice A0 l0.length c0, .func (.func g) #[] lb] w fun e w' => e = .returned (.bool (l0.any p)) ∧ Zr w.heap.size w w' := by
 have HI := Za (sb.hof A0 c0 l0 g lb p w hr0 eg hp)
 clear hp hr0
 go_enter Tryz.func82, Tryz.ntmps82
 go_wp2_with (go_at_call 60; refine (HI.out).mono ?_; rintro e w' ⟨rfl, hb⟩)
 go_ret
 exact ⟨by rw [← idxOf_any]; first | rfl | (simp; done), hb⟩
def g6.f (l0 : List Int) (a1 : Int) (a2 : Int) : Option (Bool) := some (l0.all fun x => decide (a1 ≤ x) && decide (x ≤ a2))
theorem sg.clo (n lo hi : Int) (B1 B2 : Nat) (W : Zu) (h1 : W.cell? ⟨B1, 0, none⟩ = some (.int .i64 lo)) (h2 : W.cell? ⟨B2, 0, none⟩ = some (.int .i64 hi)) :
  ZD Tryz.prog 83 #[.int .i64 n, .pointer (some ⟨B1, 0, none⟩), .pointer (some ⟨B2, 0, none⟩)] W fun e W' => e = .returned (.bool (!(decide (lo ≤ n) && decide (n ≤ hi)))) ∧ Zr W.heap.size W W' := by
 have hv : ∃ b, fU.f n lo hi = some b ∧ b = (decide (lo ≤ n) && decide (n ≤ hi)) := by
  unfold fU.f
  by_cases h : n ≥ lo
  ·exact ⟨_, by rw [if_pos h], by simp [show lo ≤ n from h]⟩
  exact ⟨_, by rw [if_neg h], by simp [show ¬ lo ≤ n from h]⟩
 obtain ⟨b, hb, eb⟩ := hv
 have HV := Za hb
 clear hb
 rw [← eb]
 clear eb
 go_enter Tryz.func83, Tryz.ntmps83
 go_wp2_with (go_at_call 35; refine (fU.calls n lo hi b _ HV.out).mono ?_; rintro e w' ⟨rfl, ⟨nd, rfl⟩⟩)
 go_ret
 exact ⟨rfl, pw_below_drewN (Zq _ _) _⟩
theorem g6.calls (A0 : Option Addr) (c0 : Nat) (l0 : List Int) (a1 : Int) (a2 : Int) (r : Bool) (w : Zu) (hr0 : Kd.C (Zp .i64) w A0 l0.length l0) (hc0 : l0.length ≤ c0) (h : g6.f l0 a1 a2 = some r) :
  ZD Tryz.prog 56 #[.slice A0 l0.length c0, .int .i64 a1, .int .i64 a2] w fun e w' => e = .returned (.bool r) ∧ Zr w.heap.size w w' := by
 have eg : ∀ args w, (Z8 83 args).run Tryz.prog w = .ok (.enter 83 args) w := enters_of Tryz.func83 (by kernel_rfl) rfl
 have hmf : ∀ (fn : Fn) (first cap : Array ZA) (w : Zu), (Instr.makeFunc fn first cap).run Tryz.prog w = .ok (.func fn first cap) w := fun _ _ _ _ => rfl
 have HR := Za hr0
 have hres : r = !(l0.any fun x => !(decide (a1 ≤ x) && decide (x ≤ a2))) := by
  have := Zd h
  rw [← this]
  simp [List.all_eq_not_any_not]
 have HRES := Za hres
 clear hr0 hres h
 go_enter Tryz.func56, Tryz.ntmps56
 go_wp2_with fail
 refine (sf.hof A0 c0 l0 83 #[.pointer (some ⟨w.heap.size, 0, none⟩), .pointer (some ⟨w.heap.size + 1, 0, none⟩)] (fun x => !(decide (a1 ≤ x) && decide (x ≤ a2))) _ ?_ eg ?_).mono ?_
 ·exact Zm HR.out (((Zq _ _).alloc (Ze _) _).alloc (by simp) _)
 ·intro W x _ hb
  refine sg.clo x a1 a2 w.heap.size (w.heap.size + 1) W ?_ ?_
  ·rw [hb.cell (p := ⟨w.heap.size, 0, none⟩) (by simp; omega)]
   simp [go_sem]
  rw [hb.cell (p := ⟨w.heap.size + 1, 0, none⟩) (by simp)]
  simp [go_sem]
 rintro e w' ⟨rfl, hb⟩
 go_wp2
 go_ret
 exact ⟨by rw [HRES.out]; first | rfl | (simp; done), (((Zq _ _).alloc (Ze _) _).alloc (by simp) _).trans (hb.mono (by simp; omega))⟩
def fV.l0 : Nat → Int → List Int → Int → Int → Option (Int)
 | 0, _, _, _, _ => none
 | k + 1, x3, x6, x7, x8 => if x8 < x7 then (if 0 ≤ x8 then (if x8 < (x6.length : Int) then (fV.l0 k (Zb (x3 + (rd x6 x8))) x6 x7 (Zb (x8 + 1))) else (none)) else (none)) else (some x3)
def fV.f (k : Nat) (l0 : List Int) : Option (Int) := fV.l0 k 0 l0 (l0.length : Int) 0
theorem fV.calls (k : Nat) (A0 : Option Addr) (c0 : Nat) (l0 : List Int) (r : Int) (w : Zu) (hr0 : Kd.C (Zp .i64) w A0 l0.length l0) (hc0 : l0.length ≤ c0) (h : fV.f k l0 = some r) :
  ZD Tryz.prog 57 #[.slice A0 l0.length c0] w fun e w' => e = .returned (.int .i64 r) ∧ Drawn0 w w' := by
 have aj := Za hr0
 have am0 := Za hc0
 clear hr0 hc0
 have H := h
 unfold fV.f at H
 clear h
 have H' := Za H
 clear H
 go_enter Tryz.func57, Tryz.ntmps57
 go_wp2
 go_loopg [3, 8] k (fun kq v3 v8 w' => ∃ (ab : Int) (aa : Int), v3 = .int .i64 ab ∧ v8 = .int .i64 aa ∧ Zc (fV.l0 kq ab l0 (l0.length : Int) aa = some r) ∧ Zc (kq ≤ k) ∧ Drawn0 w w')
 case atStart => exact ⟨(0), (0), gR, gR, H', ⟨Ze _⟩, dS⟩
 case round =>
  clear H'
  obtain ⟨ab, aa, rfl, rfl, HA, HK1, ⟨m1, rfl⟩⟩ := hrel
  cases gk with
  | zero => exact absurd HA.out (by simp [fV.l0])
  | succ k1 =>
   have H := HA.out
   clear HA
   simp only [fV.l0] at H
   by_cases c2 : aa < (l0.length : Int)
   rotate_left
   ·rw [if_neg c2] at H
    have ag : decide (aa < (l0.length : Int)) = false := decide_eq_false c2
    clear c2
    obtain rfl := Zd H
    go_wp2
    go_ret
    exact ⟨by first | rfl | (simp; done) | (simp [*]; done), dS⟩
   rw [if_pos c2] at H
   have ag := decide_eq_true c2
   clear c2
   by_cases c3 : 0 ≤ aa
   rotate_left
   ·rw [if_neg c3] at H
    exact absurd H (by simp)
   rw [if_pos c3] at H
   have ak := decide_eq_true c3
   clear c3
   by_cases c4 : aa < (l0.length : Int)
   rotate_left
   ·rw [if_neg c4] at H
    exact absurd H (by simp)
   rw [if_pos c4] at H
   have al := decide_eq_true c4
   clear c4
   have H' := Za H
   clear H
   have ac : 0 ≤ (aa : Int) := oD
   have ae : aa < (l0.length : Int) := oD
   obtain ⟨ai, ah, af⟩ := ZI aj.out aa ac ae
   cases ah
   replace ac := eq_true ac
   replace ae := eq_true ae
   go_wp2
   go_roundg k1
   case measure => have := HK1.out; omega
   case rel => exact ⟨(Zb (ab + (rd l0 aa))), (Zb (aa + 1)), gR, gR, H', ⟨by have := HK1.out; omega⟩, dS⟩
def fd.f (k : Nat) (ab : Int) (aa : List Int) : Option (Bool) := if (aa.length : Int) ≥ 1 then (if (aa.length : Int) ≤ 9 then ((g6.f aa 0 1000).bind fun ac => (if ac = true then ((fV.f k aa).bind fun ae => ((fU.f ab 1 ae).bind fun af => (some af))) else (some false))) else (some false)) else (some false)
def fd.T1 : Bool × List (List Nat × List Nat) := (true, [([], []), ([0], [0]), ([1], [1]), ([2], [2]), ([3], [3]), ([4], [4]), ([5, 4], [4, 5]), ([6, 4], [4, 6]), ([7, 4], [4, 7]), ([4, 8], [4, 8]), ([9, 4], [9]), ([10], [10]), ([11, 10], [10, 11]), ([12, 10, 10], [10, 12]), ([10, 13], [10, 13]), ([14, 13], [14]), ([15], [15]), ([16, 15], [15, 16]), ([15], [15]), ([18, 15], [15, 18]), ([19, 15, 15], [15, 19]), ([17, 20, 20, 15], [15, 17, 20]), ([15, 21], [15, 21]), ([22, 21, 0, 1, 2, 3, 4, 5, 6, 7, 8, 9, 10, 11, 12, 13, 14, 15, 16, 17, 18, 19, 20, 21, 22], [22])])
def fd.B1 : List Nat := [0, 1, 3, 7, 15, 31, 63, 127, 255, 511, 1023, 2047, 4095, 8191, 16383, 32767, 65535, 131071, 65535, 327679, 851967, 2097151, 4194303, 8388607]
theorem fd.tab1 : rtab .any (opsOf Tryz.f16 1) = fd.T1 := by kernel_rfl
theorem fd.bits1 : waitsOk fd.T1.2 fd.B1 = true := by kernel_rfl
theorem fd.calls (k : Nat) (ae : Int) (af : Option Addr) (ag : Nat) (ab : List Int) (r : Bool) (w : Zu) (ah : Kd.C (Zp .i64) w af ab.length ab) (ai : ab.length ≤ ag) (h : fd.f k ae ab = some r) :
  ZD Tryz.prog 16 #[.agg #[.int .i64 ae, .slice af ab.length ag]] w fun e w' => e = .returned (.bool r) ∧ Zr w.heap.size w w' := by
 have hu24 := Tryz.underlying24
 have aj := Za ah
 have ak := Za ai
 clear ah ai
 have HB := Za (Zq w.heap.size w)
 have H := h
 unfold fd.f at H
 clear h
 by_cases c2 : (ab.length : Int) ≥ 1
 rotate_left
 ·rw [if_neg c2] at H
  have au : decide (1 ≤ (ab.length : Int)) = false := decide_eq_false c2
  have av : decide (1 ≤ ab.length) = false := decide_eq_false (by omega)
  clear c2
  obtain rfl := Zd H
  go_enter Tryz.func16, Tryz.ntmps16
  try go_wp2_with (first | ((with_reducible refine Zo (N := 1) rfl ?_); (try (refine gate_guard (by rfl) ?_; dsimp only)); refine xE (N := 1) (cs := #[.int .i64 ae, .slice af ab.length ag]) (t := 24) ?_; intro ac hg az aa hb; have ao : Zc (w.heap.size ≤ ac) := gT hg; have ap : Zc (w.heap.size ≤ ac) := gT hg; replace HB := sQ hb; clear hb hg))
  replace aa := bD aa
  replace HB := Za (below_drew1 HB.out)
  refine start_ (n := 24) (S := fun w' => w'.cell? ⟨ac, 0, none⟩ = some (.int .i64 ae) ∧ w'.cell? ⟨ac, 1, none⟩ = some (.slice af ab.length ag)) (ds := []) #[F,F,F,F,F,F,F,F,F,F,F,F,F,F,F,F,F,F,F,F,F,F,F,F] (by kernel_rfl) rfl rfl ⟨(Zf aa.out 0).trans rfl, (Zf aa.out 1).trans rfl⟩ (fun hHeld => ?_); refine with_tabW fd.tab1 fd.bits1 (fun HT_ HW_ => ?_)
  generalize az.drew = aA at aa HB hHeld ⊢
  refine pU 0 HT_ ?_
  refine tK 1 HT_ HW_ hHeld (hy := by rintro w' ⟨s0, s1⟩; go_simp; with_reducible rfl) ?_
  refine pU 2 HT_ ?_
  refine pU 3 HT_ ?_
  refine pU 4 HT_ ?_
  refine pV 5 HT_ ?_
  refine pV 6 HT_ ?_
  refine pV 7 HT_ ?_
  refine pV 8 HT_ ?_
  refine pU 9 HT_ ?_
  refine pU 10 HT_ ?_
  refine pV 11 HT_ ?_
  refine pV 12 HT_ ?_
  refine pV 13 HT_ ?_
  refine pU 14 HT_ ?_
  refine pU 15 HT_ ?_
  refine pV 16 HT_ ?_
  refine pV 17 HT_ ?_
  refine pV 18 HT_ ?_
  refine pV 19 HT_ ?_
  refine pV 20 HT_ ?_
  refine pV 21 HT_ ?_
  refine pU 22 HT_ ?_
  refine pU 23 HT_ ?_
  refine done_ (done_of HT_.out (by kernel_rfl)) ?_
  try go_wp2
  go_ret
  exact ⟨fR, wB⟩
 rw [if_pos c2] at H
 have au : decide (1 ≤ (ab.length : Int)) = true := decide_eq_true c2
 have av : decide (1 ≤ ab.length) = true := decide_eq_true (by omega)
 clear c2
 have ax := Za H
 clear H
 go_enter Tryz.func16, Tryz.ntmps16
 try go_wp2_with (first | ((with_reducible refine Zo (N := 1) rfl ?_); (try (refine gate_guard (by rfl) ?_; dsimp only)); refine xE (N := 1) (cs := #[.int .i64 ae, .slice af ab.length ag]) (t := 24) ?_; intro ac hg w8 aa hb; have ao := gS hg HB; have ap := gS hg HB; replace HB := sB HB hb; clear hb hg))
 replace aa := bD aa
 replace HB := Za (below_drew1 HB.out)
 refine start_ (n := 24) (S := fun w' => w'.cell? ⟨ac, 0, none⟩ = some (.int .i64 ae) ∧ w'.cell? ⟨ac, 1, none⟩ = some (.slice af ab.length ag)) (ds := []) #[F,F,F,F,F,F,F,F,F,F,F,F,F,F,F,F,F,F,F,F,F,F,F,F] (by kernel_rfl) rfl rfl ⟨(Zf aa.out 0).trans rfl, (Zf aa.out 1).trans rfl⟩ (fun hHeld => ?_); refine with_tabW fd.tab1 fd.bits1 (fun HT_ HW_ => ?_)
 generalize w8.drew = w9 at aa HB hHeld ⊢
 refine pU 0 HT_ ?_
 refine tK 1 HT_ HW_ hHeld (hy := by rintro w' ⟨s0, s1⟩; go_simp; with_reducible rfl) ?_
 refine pU 2 HT_ ?_
 refine pU 3 HT_ ?_
 refine pU 4 HT_ ?_
 refine pU 5 HT_ ?_
 refine tK 6 HT_ HW_ hHeld (hy := by rintro w' ⟨s0, s1⟩; go_simp; with_reducible rfl) ?_
 refine pU 7 HT_ ?_
 refine pU 8 HT_ ?_
 refine pU 9 HT_ ?_
 refine pU 10 HT_ ?_
 have H := ax.out
 clear ax
 by_cases c3 : (ab.length : Int) ≤ 9
 rotate_left
 ·rw [if_neg c3] at H
  have al : decide ((ab.length : Int) ≤ 9) = false := decide_eq_false c3
  have am0 : decide (ab.length ≤ 9) = false := decide_eq_false (by omega)
  clear c3
  obtain rfl := Zd H
  (try rw [al])
  (try rw [am0])
  refine pV 11 HT_ ?_
  refine pV 12 HT_ ?_
  refine pV 13 HT_ ?_
  refine pU 14 HT_ ?_
  refine pU 15 HT_ ?_
  refine pV 16 HT_ ?_
  refine pV 17 HT_ ?_
  refine pV 18 HT_ ?_
  refine pV 19 HT_ ?_
  refine pV 20 HT_ ?_
  refine pV 21 HT_ ?_
  refine pU 22 HT_ ?_
  refine pU 23 HT_ ?_
  refine done_ (done_of HT_.out (by kernel_rfl)) ?_
  try go_wp2
  go_ret
  exact ⟨fR, wB⟩
 rw [if_pos c3] at H
 have al := decide_eq_true c3
 have am0 : decide (ab.length ≤ 9) = true := decide_eq_true (by omega)
 clear c3
 replace H := oA H
 obtain ⟨aq, A4, H⟩ := H
 (try dsimp only at H)
 have ay := Za H
 clear H
 (try rw [al])
 (try rw [am0])
 refine pU 11 HT_ ?_
 refine tK 12 HT_ HW_ hHeld (hy := by rintro w' ⟨s0, s1⟩; go_simp; with_reducible rfl) ?_
 refine oN 13 HT_ (fun K hK => ?_)
 refine gE Tryz.func56 #[.slice af ab.length ag, .int .i64 0, .int .i64 1000] ?_
 with_reducible refine (g6.calls _ _ ab 0 1000 aq _ (Zm aj.out HB.out) ak.out A4.out).mono ?_
 rintro e aC ⟨rfl, hb⟩
 refine ⟨_, rfl, ?_⟩
 replace aa := bB aa hb
 replace HB := sB HB hb
 (try clear hb)
 (try clear hb2)
 (try clear hk)
 (try clear hi)
 refine hK.out _ _ ⟨(Zf aa.out 0).trans rfl, (Zf aa.out 1).trans rfl⟩ (fun hHeld => ?_)
 clear hK K
 refine nM ?_
 refine pU 14 HT_ ?_
 refine pU 15 HT_ ?_
 have H := ay.out
 clear ay
 by_cases c5 : aq = true
 rotate_left
 ·replace c5 := Bool.eq_false_iff.mpr c5
  subst c5
  replace H := iF H
  obtain rfl := Zd H
  refine pV 16 HT_ ?_
  refine pV 17 HT_ ?_
  refine pV 18 HT_ ?_
  refine pV 19 HT_ ?_
  refine pV 20 HT_ ?_
  refine pV 21 HT_ ?_
  refine pU 22 HT_ ?_
  refine pU 23 HT_ ?_
  refine done_ (done_of HT_.out (by kernel_rfl)) ?_
  try go_wp2
  go_ret
  exact ⟨fR, wB⟩
 subst c5
 replace H := iT H
 replace H := oA H
 obtain ⟨an0, A6, H⟩ := H
 (try dsimp only at H)
 replace H := oA H
 obtain ⟨aw, A7, H⟩ := H
 (try dsimp only at H)
 obtain rfl := Zd H
 refine pU 16 HT_ ?_
 refine pU 18 HT_ ?_
 refine tK 17 HT_ HW_ hHeld (hy := by rintro w' ⟨s0, s1⟩; go_simp; with_reducible rfl) ?_
 refine tK 19 HT_ HW_ hHeld (hy := by rintro w' ⟨s0, s1⟩; go_simp; with_reducible rfl) ?_
 refine oN 20 HT_ (fun K hK => ?_)
 refine gE Tryz.func57 #[.slice af ab.length ag] ?_
 with_reducible refine (fV.calls k _ _ ab an0 _ (Zm aj.out HB.out) ak.out A6.out).mono ?_
 rintro e w' ⟨rfl, ⟨nd, rfl⟩⟩
 refine ⟨_, rfl, ?_⟩
 refine hK.out _ _ ⟨(Zf aa.out 0).trans rfl, (Zf aa.out 1).trans rfl⟩ (fun hHeld => ?_)
 clear hK K
 refine nM ?_
 refine oN 21 HT_ (fun K hK => ?_)
 refine gE Tryz.func35 #[.int .i64 ae, .int .i64 1, .int .i64 an0] ?_
 with_reducible refine (fU.calls ae 1 an0 aw _ A7.out).mono ?_
 rintro e w' ⟨rfl, ⟨nd, rfl⟩⟩
 refine ⟨_, rfl, ?_⟩
 refine hK.out _ _ ⟨(Zf aa.out 0).trans rfl, (Zf aa.out 1).trans rfl⟩ (fun hHeld => ?_)
 clear hK K
 refine nM ?_
 refine pU 22 HT_ ?_
 refine pU 23 HT_ ?_
 refine done_ (done_of HT_.out (by kernel_rfl)) ?_
 try go_wp2
 go_ret
 exact ⟨fR, wB⟩
def gy.f (k : Nat) (aa : Int) (ab : List Int) : Option (Int × List Int × Bool) := (fd.f k aa ab).bind fun ac => (if ac = true then (some (aa, ab, true)) else (some (0, ([] : List Int), false)))
theorem gP {p : Prop} (h : p := by repeat (first | (with_reducible first | exact HK.out | apply Kept.alloc | apply Kept.drewN | apply Kept.drew | refine Kept.setCell ?_ (.inr ao.out) _ | refine Kept.setCell ?_ (.inr ap.out) _) | exact HK.out)) : p := h
theorem gy.calls (k : Nat) (af : Int) (P0_1_ : Nat → Prop) (u9000_ : ZA) (ag : List Int) (r1 : Int) (r2 : List Int) (r3 : Bool) (w0 w : Zu) (hB : Zr w0.heap.size w0 w) (aq : Kd.R (Zp .i64) 3 w w0.heap.size P0_1_ u9000_ ag) (h : gy.f k af ag = some (r1, r2, r3)) :
  ZD Tryz.prog 36 #[.agg #[.int .i64 af, u9000_]] w fun e w' => ∃ v1_ : ZA, e = .returned (.tuple #[.agg #[.int .i64 r1, v1_], .bool r3]) ∧ Kd.R (Zp .i64) 3 w' w0.heap.size (fun k_ => (P0_1_ k_ ∨ w.heap.size ≤ k_)) v1_ r2 ∧ Zr w0.heap.size w0 w' ∧ Kept w w' (fun k_ => P0_1_ k_) := by
 have hu24 := Tryz.underlying24
 have aa := Za (show Kd.R (Zp .i64) 3 w w0.heap.size (fun k_ => (P0_1_ k_ ∨ w.heap.size ≤ k_)) u9000_ ag from ZK aq (fun k_ hk => (.inl hk)))
 have HK := Za (Kept.refl w (fun k_ => P0_1_ k_))
 have HW0 := Za hB.size
 have HB := Za hB
 clear hB
 have H := h
 unfold gy.f at H
 clear h
 replace H := oA H
 obtain ⟨au, A2, H⟩ := H
 (try dsimp only at H)
 have aM := Za H
 clear H
 obtain ⟨av, aw, aT⟩ := ZF aa.out
 subst aT
 go_enter Tryz.func36, Tryz.ntmps36
 go_upto_if 6 with (first | ((with_reducible refine Zo (N := 1) rfl ?_); refine xE (N := 1) (cs := #[.int .i64 af, .slice av ag.length aw]) (t := 24) ?_; intro aj hg w5 ab hb; have ao := Za ((by rw [hg]; exact (by first | exact HK.out.1 | exact (show Kept w _ (fun k_ => P0_1_ k_) from gP).1) : w.heap.size ≤ aj)); have aN := Za ((by rw [hg]; exact (ZM HB.out) : w0.heap.size ≤ aj)); replace aa := rB aa hb; replace HK := Za (Kept.below (S := (fun k_ => P0_1_ k_)) (gP) hb); replace HB := sB HB hb; clear hb hg) | ((with_reducible refine Zo (N := 2) rfl ?_); refine xE (N := 2) (cs := #[.int .i64 0, .slice none 0 0]) (t := 24) ?_; intro ae hg w6 ac hb; have ap := Za ((by rw [hg]; exact (by first | exact HK.out.1 | exact (show Kept w _ (fun k_ => P0_1_ k_) from gP).1) : w.heap.size ≤ ae)); have aQ := Za ((by rw [hg]; exact (ZM HB.out) : w0.heap.size ≤ ae)); have ah := nL hg (ZG ab.out); have ai := nG hg (ZG ab.out); replace aa := rB aa hb; replace ab := bB ab hb; replace HK := Za (Kept.below (S := (fun k_ => P0_1_ k_)) (gP) hb); replace HB := sB HB hb; clear hb hg; have aU := ah.out; have aV := ai.out; obtain ⟨ak, al, am0, an0⟩ := zZ ab) | ((with_reducible refine Zn (f := 16) rfl ?_); refine gL 5 Tryz.func16 #[.agg #[.int .i64 af, .slice av ag.length aw]] ?_; (with_reducible refine (fd.calls k af _ _ ag au _ ?side1 ?side2 A2.out).mono ?_); (case side1 => have hx_ := (ZP aa.out).2.2; exact cC); (case side2 => exact (ZP aa.out).2.1); rintro e w9 ⟨rfl, hb⟩; refine ⟨_, rfl, ?_⟩; replace aa := rB aa hb; replace ab := bB ab hb; replace ac := bB ac hb; replace HK := Za (Kept.below (S := (fun k_ => P0_1_ k_)) (gP) hb); replace HB := sB HB hb; (try clear hb); (try clear ak al am0 an0); obtain ⟨ax, ay, az, aA⟩ := zZ ab; obtain ⟨aC, aD, aE, aG⟩ := zZ ac))
 have H := aM.out
 clear aM
 by_cases c3 : au = true
 rotate_left
 ·replace c3 := Bool.eq_false_iff.mpr c3
  subst c3
  replace H := iF H
  simp only [Zl, Zt] at H
  obtain ⟨rfl, rfl, rfl⟩ := H
  obtain ⟨aH, aI, aJ, aK⟩ := zZ ac
  go_wp2_with (fail)
  refine Zz (ZQ rfl _ _ ae 24 #[.int .i64 0, .slice none 0 0] (0, 0) _ rfl (by refine Zj (cs := #[.int .i64 0, .slice none 0 0]) ?_ 1 _ rfl; refine Zj (cs := #[.int .i64 0, .slice none 0 0]) ?_ 0 _ rfl; exact ac.out) Tryz.underlying24 rfl (by kernel_rfl)) rfl ?_
  exact ⟨_, fR, by first | exact Kd.R_nil _ _ _ _ _ | exact Kd.N_nil _ _ _ _ _ | exact Kd.V_nil _ _ _ _ _ | exact Kd.Q_nil _ _ _ _ _ | exact Kd.S_nil _ _ _ _ _, wB, gP⟩
 subst c3
 replace H := iT H
 simp only [Zl, Zt] at H
 obtain ⟨rfl, rfl, rfl⟩ := H
 go_wp2_with (fail)
 refine Zz (ZQ rfl _ _ ae 24 #[.int .i64 af, .slice av ag.length aw] (0, 0) _ rfl (by refine Zj (cs := #[.int .i64 af, .slice none 0 0]) ?_ 1 _ rfl; refine Zj (cs := #[.int .i64 0, .slice none 0 0]) ?_ 0 _ rfl; exact ac.out) Tryz.underlying24 rfl (by kernel_rfl)) rfl ?_
 exact ⟨_, fR, by exact ZK (ZC (p := ⟨ae, 1, none⟩) (ZC (p := ⟨ae, 0, none⟩) (ZJ aa.out ac.out (by decide)) (fun _ hk => hk.2) (.int .i64 af)) (fun _ hk => hk.2) (.slice av ag.length aw)) (fun _ hk => hk.1), wB, gP⟩
mutual
def fE.j0 : Nat → Int → Bool → Int → List Int → Option (Int × List Int × Bool)
 | 0, _, _, _, _ => none
 | k + 1, x1, aj, af, ab => if aj = true then (some (0, ([] : List Int), false)) else (fE.l0 k x1 ab (ab.length : Int) 0 (Zb ((Zb (af * x1)) - (Zb (x1 - 1)))) ([] : List Int))
def fE.l0 : Nat → Int → List Int → Int → Int → Int → List Int → Option (Int × List Int × Bool)
 | 0, _, _, _, _, _, _ => none
 | k + 1, x1, ah, ai, ag, ac, aa => if ag < ai then (if 0 ≤ ag then (if ag < (ah.length : Int) then (if aa.length < 17592186044416 then (fE.l0 k x1 ah ai (Zb (ag + 1)) ac (aa ++ [Zb ((rd ah ag) * x1)])) else (none)) else (none)) else (none)) else ((gy.f k ac aa).bind fun ae => (some (ae.1, ae.2.1, ae.2.2)))
end
def fE.f (k : Nat) (aa : Int) (ab : List Int) (a1 : Int) : Option (Int × List Int × Bool) := (fd.f k aa ab).bind fun ac => (if ac = true then ((fU.f a1 1 1000).bind fun ae => (fE.j0 k a1 (!ae) aa ab)) else (fE.j0 k a1 true aa ab))
theorem fE.calls (k : Nat) (am0 : Int) (aw : Option Addr) (au : Nat) (af : List Int) (a1 : Int) (r1 : Int) (r2 : List Int) (r3 : Bool) (w : Zu) (bx : Kd.C (Zp .i64) w aw af.length af) (bz : af.length ≤ au) (h : fE.f k am0 af a1 = some (r1, r2, r3)) :
  ZD Tryz.prog 5 #[.agg #[.int .i64 am0, .slice aw af.length au], .int .i64 a1] w fun e w' => ∃ v1_ : ZA, e = .returned (.tuple #[.agg #[.int .i64 r1, v1_], .bool r3]) ∧ Kd.R (Zp .i64) 3 w' w.heap.size (fun _ => True) v1_ r2 ∧ Zr w.heap.size w w' := by
 have hu24 := Tryz.underlying24
 have aI := Za bx
 have bA := Za bz
 clear bx bz
 have HB := Za (Zq w.heap.size w)
 have H := h
 unfold fE.f at H
 clear h
 have ce := Za H
 clear H
 go_enter Tryz.func5, Tryz.ntmps5
 go_upto_region 1 with (first | ((with_reducible refine Zo (N := 2) rfl ?_); refine xE (N := 2) (cs := #[.int .i64 am0, .slice aw af.length au]) (t := 24) ?_; intro aJ hg w4 aa hb; have cm := gS hg HB; have bL := gS hg HB; replace HB := sB HB hb; clear hb hg) | ((with_reducible refine Zo (N := 4) rfl ?_); refine xE (N := 4) (cs := #[.int .i64 0, .slice none 0 0]) (t := 24) ?_; intro ap hg w5 ab hb; have cn := gS hg HB; have bM := gS hg HB; have ak := nL hg (ZG aa.out); have al := nG hg (ZG aa.out); replace aa := bB aa hb; replace HB := sB HB hb; clear hb hg))
 (try simp only [Ye, sA, sZ, sS])
 go_cut [16] (fun cS wc => ∃ (kq : Nat) (ax : Bool), cS = .bool ax ∧ Zc (fE.j0 kq a1 ax am0 af = some (r1, r2, r3)) ∧ Zc (kq ≤ k) ∧ Zc (wc.heap[aJ]? = some (.cells #[.int .i64 am0, (.slice aw af.length au)] 24 (0, 0))) ∧ Zc (wc.heap[ap]? = some (.cells #[.int .i64 0, (.slice none 0 0)] 24 (0, 0))) ∧ Zc (Zr w.heap.size w wc))
 case first =>
  have H := ce.out
  clear ce
  replace H := oA H
  obtain ⟨cg, A6, H⟩ := H
  (try dsimp only at H)
  by_cases c7 : cg = true
  rotate_left
  ·replace c7 := Bool.eq_false_iff.mpr c7
   subst c7
   replace H := iF H
   have H' := Za H
   clear H
   have cp := ak.out
   have cq := al.out
   obtain ⟨ay, az, aA, aC⟩ := zZ aa
   go_wp2_with (first | ((with_reducible refine Zn (f := 16) rfl ?_); refine gL 10 Tryz.func16 #[.agg #[.int .i64 am0, .slice aw af.length au]] ?_; (with_reducible refine (fd.calls k am0 _ _ af false _ ?side1 ?side2 A6.out).mono ?_); (case side1 => have hx_ := (Zm aI.out HB.out); exact cC); (case side2 => exact bA.out); rintro e dc ⟨rfl, hb⟩; refine ⟨_, rfl, ?_⟩; replace aa := bP aa hb; replace ab := bP ab hb; replace HB := sQ hb; (try clear hb)))
   go_meet
   case rel => exact ⟨_, (true), gR, H', ⟨by first | omega | exact Ze _⟩, ⟨bQ aa⟩, ⟨bQ ab⟩, ⟨wB⟩⟩
  subst c7
  replace H := iT H
  replace H := oA H
  obtain ⟨bN, A8, H⟩ := H
  (try dsimp only at H)
  have H' := Za H
  clear H
  have cT := ak.out
  have cU := al.out
  obtain ⟨aD, aE, aG, aH⟩ := zZ aa
  go_wp2_with (first | ((with_reducible refine Zn (f := 16) rfl ?_); refine gL 10 Tryz.func16 #[.agg #[.int .i64 am0, .slice aw af.length au]] ?_; (with_reducible refine (fd.calls k am0 _ _ af true _ (Zm aI.out HB.out) bA.out A6.out).mono ?_); rintro e de ⟨rfl, hb⟩; refine ⟨_, rfl, ?_⟩; replace aa := bB aa hb; replace ab := bB ab hb; replace HB := sB HB hb; (try clear hb)) | (go_at_call 35; (with_reducible refine (fU.calls a1 1 1000 bN _ A8.out).mono ?_); rintro e w' ⟨rfl, ⟨nd, rfl⟩⟩))
  go_meet
  case rel => exact ⟨_, (!bN), gR, H', ⟨by first | omega | exact Ze _⟩, ⟨bQ aa⟩, ⟨bQ ab⟩, ⟨wB⟩⟩
 case rest =>
  clear ce
  (try clear c1); (try clear p2); (try clear c5); (try clear c7); (try clear c9); (try clear cV); (try clear aD); (try clear aE); (try clear ay); (try clear az); (try clear aG); (try clear aH); (try clear aA); (try clear aC)
  obtain ⟨kq, ax, rfl, HA, cr, aa, ab, HB⟩ := hcut
  cases kq with
  | zero => exact absurd HA.out (by simp [fE.j0])
  | succ ct =>
   have H := HA.out
   clear HA
   simp only [fE.j0] at H
   by_cases bO : ax = true
   ·subst bO
    replace H := iT H
    simp only [Zl, Zt] at H
    obtain ⟨rfl, rfl, rfl⟩ := H
    have cu := al.out
    have cv := ak.out
    obtain ⟨aM, aN, aQ, aT⟩ := zZ ab
    go_wp2
    refine Zz (ZQ rfl _ _ ap 24 #[.int .i64 0, .slice none 0 0] (0, 0) _ rfl (by refine Zj (cs := #[.int .i64 0, .slice none 0 0]) ?_ 1 _ rfl; refine Zj (cs := #[.int .i64 0, .slice none 0 0]) ?_ 0 _ rfl; exact ab.out) Tryz.underlying24 rfl (by kernel_rfl)) rfl ?_
    exact ⟨_, fR, by first | exact Kd.R_nil _ _ _ _ _ | exact Kd.N_nil _ _ _ _ _ | exact Kd.V_nil _ _ _ _ _ | exact Kd.Q_nil _ _ _ _ _ | exact Kd.S_nil _ _ _ _ _, wB⟩
   replace bO := Bool.eq_false_iff.mpr bO
   subst bO
   replace H := iF H
   have H' := Za H
   clear H
   have cw := ak.out
   have cy := al.out
   obtain ⟨aU, aV, aW, aX⟩ := zZ aa
   go_wp2_with (first | ((with_reducible refine Zo (N := 6) rfl ?_); refine xE (N := 6) (cs := #[.int .i64 0, .slice none 0 0]) (t := 24) ?_; intro aK hg dg aj hb; have cz := gS hg HB; have bR := gS hg HB; have ag := nL hg (ZG aa.out); have an0 := nG hg (ZG aa.out); have ah := nL hg (ZG ab.out); have ao := nG hg (ZG ab.out); replace aa := bB aa hb; replace ab := bB ab hb; replace HB := sB HB hb; clear hb hg; have cA := an0.out; have cB := ag.out; have cD := ao.out; have cE := ah.out; (try clear aM aN aQ aT aU aV aW aX); obtain ⟨aY, aZ, a6, a7⟩ := zZ aj; obtain ⟨a8, bb, bc, bf⟩ := zZ aa))
   go_loopg [29] ct (fun kq cW w' => ∃ (ai : Int) (ac : List Int) (u106001 : ZA), cW = .int .i64 ai ∧ Zc (fE.l0 kq a1 af (af.length : Int) ai (Zb ((Zb (am0 * a1)) - (Zb (a1 - 1)))) ac = some (r1, r2, r3)) ∧ Zc (kq ≤ ct) ∧ Zc (Kd.R (Zp .i64) 3 w' w.heap.size (fun _ => True) u106001 ac) ∧ Zc (w'.heap[aJ]? = some (.cells #[.int .i64 am0, (.slice aw af.length au)] 24 (0, 0))) ∧ Zc (w'.heap[ap]? = some (.cells #[.int .i64 0, (.slice none 0 0)] 24 (0, 0))) ∧ Zc (w'.heap[aK]? = some (.cells #[.int .i64 (Zb ((Zb (am0 * a1)) - (Zb (a1 - 1)))), u106001] 24 (0, 0))) ∧ Zc (Zr w.heap.size w w'))
   case atStart => exact ⟨(0), (([] : List Int)), (.slice none 0 0), gR, H', ⟨Ze _⟩, ⟨by first | exact Kd.R_nil _ _ _ _ _ | exact Kd.N_nil _ _ _ _ _ | exact Kd.V_nil _ _ _ _ _ | exact Kd.Q_nil _ _ _ _ _ | exact Kd.S_nil _ _ _ _ _⟩, ⟨by refine Zw ?_ ag.out _; refine Zw ?_ ag.out _; exact aa.out⟩, ⟨by refine Zw ?_ ah.out _; refine Zw ?_ ah.out _; exact ab.out⟩, ⟨by refine Zj (cs := #[.int .i64 (Zb ((Zb (am0 * a1)) - (Zb (a1 - 1)))), .slice none 0 0]) ?_ 1 _ rfl; refine Zj (cs := #[.int .i64 0, .slice none 0 0]) ?_ 0 _ rfl; exact aj.out⟩, ⟨wB⟩⟩
   case round =>
    clear H'
    (try clear c1); (try clear c2); (try clear p2); (try clear c5); (try clear p6); (try clear c7); (try clear c9); (try clear cV); (try clear bO); (try clear dh); (try clear di); (try clear dj); (try clear dl); (try clear aD); (try clear aE); (try clear ay); (try clear az); (try clear aY); (try clear aZ); (try clear a8); (try clear bb); (try clear aG); (try clear aH); (try clear aA); (try clear aC); (try clear a6); (try clear a7); (try clear bc); (try clear bf); (try clear p2)
    obtain ⟨ai, ac, u106001, rfl, HA, HK2, ae, aa, ab, aj, HB⟩ := hrel
    cases gk with
    | zero => exact absurd HA.out (by simp [fE.l0])
    | succ k2 =>
     have H := HA.out
     clear HA
     simp only [fE.l0] at H
     by_cases bK : ai < (af.length : Int)
     rotate_left
     ·rw [if_neg bK] at H
      have bS : decide (ai < (af.length : Int)) = false := decide_eq_false bK
      clear bK
      replace H := oB H
      obtain ⟨⟨bg, bF, ch⟩, bT, H⟩ := H
      (try dsimp only at H)
      have cX := Za bT
      clear bT
      simp only [Zl, Zt] at H
      obtain ⟨rfl, rfl, rfl⟩ := H
      have cF := an0.out
      have cG := ag.out
      have cH := ao.out
      have cI := ah.out
      (try clear bh bi bj bl)
      obtain ⟨bm, bn, bo, bq⟩ := zZ aj
      obtain ⟨bG, bH, ci⟩ := ZF ae.out
      subst ci
      go_wp2_with (first | ((with_reducible refine Zn (f := 36) rfl ?_); refine gL 43 Tryz.func36 #[.agg #[.int .i64 (Zb ((Zb (am0 * a1)) - (Zb (a1 - 1)))), .slice bG ac.length bH]] ?_; (with_reducible refine (gy.calls k2 (Zb ((Zb (am0 * a1)) - (Zb (a1 - 1)))) (fun k_ => some k_ = (.slice bG ac.length bH : ZA).ownBlock) (.slice bG ac.length bH) ac bg bF ch w _ ?side1 ?side2 cX.out).mono ?_); (case side1 => repeat (first | (with_reducible first | exact HB.out | apply ba | apply bd | apply be | refine bs ?_ bL.out | refine bs ?_ bM.out | refine bs ?_ bR.out) | exact HB.out)); (case side2 => exact Kd.R_tight rfl ae.out); rintro e dm ⟨cY, rfl, cJ, hb, hkp⟩; refine ⟨_, rfl, ?_⟩; have bC := Za (ZK (ok' := fun k_ => True) cJ (fun k_ hk_ => trivial)); replace aa := Za (blk_kept aa.out hkp (fun hs_ => (fun e_ => (ZO ae.out aa.out (by decide)) e_) hs_)); replace ab := Za (blk_kept ab.out hkp (fun hs_ => (fun e_ => (ZO ae.out ab.out (by decide)) e_) hs_)); replace aj := Za (blk_kept aj.out hkp (fun hs_ => (fun e_ => (ZO ae.out aj.out (by decide)) e_) hs_)); replace HB := Za (hb); (try clear hb); (try clear hkp); (try clear cJ); have cK := al.out; have cL := ak.out; (try clear bm bn bo bq); obtain ⟨b6, b7, b8, b9⟩ := zZ ab; obtain ⟨bU, bV, cj⟩ := ZF bC.out; subst cj))
      refine Zz (ZQ rfl _ _ ap 24 #[.int .i64 bg, .slice bU bF.length bV] (0, 0) _ rfl (by refine Zj (cs := #[.int .i64 bg, .slice none 0 0]) ?_ 1 _ rfl; refine Zj (cs := #[.int .i64 0, .slice none 0 0]) ?_ 0 _ rfl; exact ab.out) Tryz.underlying24 rfl (by kernel_rfl)) rfl ?_
      exact ⟨_, fR, by exact ZK (ZC (p := ⟨ap, 1, none⟩) (ZC (p := ⟨ap, 0, none⟩) (ZJ bC.out ab.out (by decide)) (fun _ hk => hk.2) (.int .i64 bg)) (fun _ hk => hk.2) (.slice bU bF.length bV)) (fun _ hk => trivial), wB⟩
     rw [if_pos bK] at H
     have bS := decide_eq_true bK
     clear bK
     by_cases ca : 0 ≤ ai
     rotate_left
     ·rw [if_neg ca] at H
      exact absurd H (by simp)
     rw [if_pos ca] at H
     have cM := decide_eq_true ca
     clear ca
     by_cases cb : ai < (af.length : Int)
     rotate_left
     ·rw [if_neg cb] at H
      exact absurd H (by simp)
     rw [if_pos cb] at H
     have cN := decide_eq_true cb
     clear cb
     by_cases cd : ac.length < 17592186044416
     rotate_left
     ·rw [if_neg cd] at H
      exact absurd H (by simp)
     rw [if_pos cd] at H
     have bW := Za cd
     clear cd
     obtain ⟨br, av⟩ : ∃ y_ : List Int, y_ = (ac ++ [Zb ((rd af ai) * a1)]) := ⟨_, rfl⟩
     replace H : (fE.l0 k2 a1 af (af.length : Int) (Zb (ai + 1)) (Zb ((Zb (am0 * a1)) - (Zb (a1 - 1)))) br) = some (r1, r2, r3) := by first | (rw [av]; with_reducible exact H) | (have H2_ := (Zk _ _).symm.trans H; rw [av]; with_reducible exact H2_) | (have H2_ := (Zk _ _).symm.trans H; with_reducible exact H2_) | with_reducible exact H | (rw [av]; exact H) | exact H
     have bX := Za av
     clear av
     have H' := Za H
     clear H
     have bI : 0 ≤ (ai : Int) := oD
     have bJ : ai < (af.length : Int) := oD
     obtain ⟨bY, ck, aq⟩ := ZI aI.out ai bI bJ
     cases ck
     replace aq := (HB.out.cell (Zh w _ aq)).trans aq
     replace bI := eq_true bI
     replace bJ := eq_true bJ
     have cO := an0.out
     have cP := ag.out
     have cQ := ao.out
     have cR := ah.out
     obtain ⟨bt, bu, bv, bw⟩ := zZ aj
     go_wp2_with (first | ((with_reducible refine gate_builtin (b := .append) (xs := #[.tmp 34, .tmp 38]) rfl ?_); at_builtin; refine Kd.R_append (Zp .i64) (w0 := w) w.heap.size rfl (.tmp 34) (.tmp 38) 22 3 (.int .i64 0) 8 rfl Tryz.underlying22 info3 rfl (by decide) (by omega) u106001 ac (Zb ((rd af ai) * a1)) [.int .i64 (Zb ((rd af ai) * a1))] (fun _ => True) (fun _ => False) rfl rfl ?aP (fun _ hk => hk.elim) ?aF ?aO ?aB ?aS ?aL ?_; (case aP => exact rfl); (case aB => exact HB.out); (case aF => exact (fun _ _ => trivial)); (case aO => exact ae.out); (case aS => exact (ZM HB.out)); (case aL => have := bW.out; omega); intro db dn ho hb hg hat; rw [← bX.out] at ho; have bE := Za (ho); replace aa := Za (ZR (g := aJ) (o := .cells #[.int .i64 am0, .slice (some bY) af.length au] 24 (0, 0)) aa.out hg (ZO ae.out aa.out (by decide))); replace ab := Za (ZR (g := ap) (o := .cells #[.int .i64 0, .slice none 0 0] 24 (0, 0)) ab.out hg (ZO ae.out ab.out (by decide))); replace aj := Za (ZR (g := aK) (o := .cells #[.int .i64 (Zb ((Zb (am0 * a1)) - (Zb (a1 - 1)))), u106001] 24 (0, 0)) aj.out hg (ZO ae.out aj.out (by decide))); replace HB := Za (hb); clear ho hb hg hat; obtain ⟨bZ, b5, cl⟩ := ZF bE.out; subst cl; (try clear bt bu bv bw); obtain ⟨bh, bi, bj, bl⟩ := zZ aj))
     go_roundg k2
     case measure => have := cr.out; have := HK2.out; omega
     case rel => exact ⟨(Zb (ai + 1)), (br), (.slice bZ br.length b5), gR, H', ⟨by have := cr.out; have := HK2.out; omega⟩, ⟨by exact ZK (ZC (p := ⟨aK, 1, none⟩) (ZJ bE.out aj.out (by decide)) (fun _ hk => hk.2) (.slice bZ br.length b5)) (fun _ hk => trivial)⟩, ⟨by refine Zw ?_ ag.out _; exact aa.out⟩, ⟨by refine Zw ?_ ah.out _; exact ab.out⟩, ⟨by refine Zj (cs := #[.int .i64 (Zb ((Zb (am0 * a1)) - (Zb (a1 - 1)))), u106001]) ?_ 1 _ rfl; exact aj.out⟩, ⟨wB⟩⟩
def fB.f (a0 : Int) (a1 : Int) (a2 : Int) : Option (Bool) := if a0 ≥ a1 then (some (decide (a0 ≤ a2))) else (some false)
theorem fB.calls (a0 : Int) (a1 : Int) (a2 : Int) (r : Bool) (w : Zu) (h : fB.f a0 a1 a2 = some r) :
  ZD Tryz.prog 38 #[.int .i64 a0, .int .i64 a1, .int .i64 a2] w fun e w' => e = .returned (.bool r) ∧ Drawn0 w w' := by
 have H := h
 unfold fB.f at H
 clear h
 by_cases c4 : a0 ≥ a1
 ·rw [if_pos c4] at H
  have aa : decide (a1 ≤ a0) = true := decide_eq_true c4
  clear c4
  obtain rfl := Zd H
  go_enter Tryz.func38, Tryz.ntmps38
  go_wp2
  go_ret
  exact ⟨by first | rfl | (simp; done) | (simp [*]; done), dS⟩
 rw [if_neg c4] at H
 have aa : decide (a1 ≤ a0) = false := decide_eq_false c4
 clear c4
 obtain rfl := Zd H
 go_enter Tryz.func38, Tryz.ntmps38
 go_wp2
 go_ret
 exact ⟨by first | rfl | (simp; done) | (simp [*]; done), dS⟩
def fq.l0 : Nat → Int → List Int → Int → Int → Option (Int)
 | 0, _, _, _, _ => none
 | k + 1, x3, x6, x7, x8 => if x8 < x7 then (if 0 ≤ x8 then (if x8 < (x6.length : Int) then (fq.l0 k (Zb (x3 + (rd x6 x8))) x6 x7 (Zb (x8 + 1))) else (none)) else (none)) else (some x3)
def fq.f (k : Nat) (l0 : List Int) : Option (Int) := fq.l0 k 0 l0 (l0.length : Int) 0
theorem fq.calls (k : Nat) (A0 : Option Addr) (c0 : Nat) (l0 : List Int) (r : Int) (w : Zu) (hr0 : Kd.C (Zp .i64) w A0 l0.length l0) (hc0 : l0.length ≤ c0) (h : fq.f k l0 = some r) :
  ZD Tryz.prog 54 #[.slice A0 l0.length c0] w fun e w' => e = .returned (.int .i64 r) ∧ Drawn0 w w' := by
 have aj := Za hr0
 have am0 := Za hc0
 clear hr0 hc0
 have H := h
 unfold fq.f at H
 clear h
 have H' := Za H
 clear H
 go_enter Tryz.func54, Tryz.ntmps54
 go_wp2
 go_loopg [3, 8] k (fun kq v3 v8 w' => ∃ (ab : Int) (aa : Int), v3 = .int .i64 ab ∧ v8 = .int .i64 aa ∧ Zc (fq.l0 kq ab l0 (l0.length : Int) aa = some r) ∧ Zc (kq ≤ k) ∧ Drawn0 w w')
 case atStart => exact ⟨(0), (0), gR, gR, H', ⟨Ze _⟩, dS⟩
 case round =>
  clear H'
  obtain ⟨ab, aa, rfl, rfl, HA, HK1, ⟨m1, rfl⟩⟩ := hrel
  cases gk with
  | zero => exact absurd HA.out (by simp [fq.l0])
  | succ k1 =>
   have H := HA.out
   clear HA
   simp only [fq.l0] at H
   by_cases c2 : aa < (l0.length : Int)
   rotate_left
   ·rw [if_neg c2] at H
    have ag : decide (aa < (l0.length : Int)) = false := decide_eq_false c2
    clear c2
    obtain rfl := Zd H
    go_wp2
    go_ret
    exact ⟨by first | rfl | (simp; done) | (simp [*]; done), dS⟩
   rw [if_pos c2] at H
   have ag := decide_eq_true c2
   clear c2
   by_cases c3 : 0 ≤ aa
   rotate_left
   ·rw [if_neg c3] at H
    exact absurd H (by simp)
   rw [if_pos c3] at H
   have ak := decide_eq_true c3
   clear c3
   by_cases c4 : aa < (l0.length : Int)
   rotate_left
   ·rw [if_neg c4] at H
    exact absurd H (by simp)
   rw [if_pos c4] at H
   have al := decide_eq_true c4
   clear c4
   have H' := Za H
   clear H
   have ac : 0 ≤ (aa : Int) := oD
   have ae : aa < (l0.length : Int) := oD
   obtain ⟨ai, ah, af⟩ := ZI aj.out aa ac ae
   cases ah
   replace ac := eq_true ac
   replace ae := eq_true ae
   go_wp2
   go_roundg k1
   case measure => have := HK1.out; omega
   case rel => exact ⟨(Zb (ab + (rd l0 aa))), (Zb (aa + 1)), gR, gR, H', ⟨by have := HK1.out; omega⟩, dS⟩
def f9.l0 : Nat → Int → Int → List Int → Int → Int → Option (Bool)
 | 0, _, _, _, _, _ => none
 | k + 1, x1, x2, x9, ac, aa => if aa < ac then (if 0 ≤ aa then (if aa < (x9.length : Int) then ((fB.f (rd x9 aa) x1 x2).bind fun ab => (if ab = true then (f9.l0 k x1 x2 x9 ac (Zb (aa + 1))) else (some false))) else (none)) else (none)) else (some true)
def f9.f (k : Nat) (l0 : List Int) (a1 : Int) (a2 : Int) : Option (Bool) := f9.l0 k a1 a2 l0 (l0.length : Int) 0
theorem f9.calls (k : Nat) (A0 : Option Addr) (c0 : Nat) (l0 : List Int) (a1 : Int) (a2 : Int) (r : Bool) (w : Zu) (hr0 : Kd.C (Zp .i64) w A0 l0.length l0) (hc0 : l0.length ≤ c0) (h : f9.f k l0 a1 a2 = some r) :
  ZD Tryz.prog 74 #[.slice A0 l0.length c0, .int .i64 a1, .int .i64 a2] w fun e w' => e = .returned (.bool r) ∧ Drawn0 w w' := by
 have aj := Za hr0
 have an0 := Za hc0
 clear hr0 hc0
 have H := h
 unfold f9.f at H
 clear h
 have H' := Za H
 clear H
 go_enter Tryz.func74, Tryz.ntmps74
 go_wp2
 go_loopg [11] k (fun kq ak w' => ∃ (aa : Int), ak = .int .i64 aa ∧ Zc (f9.l0 kq a1 a2 l0 (l0.length : Int) aa = some r) ∧ Zc (kq ≤ k) ∧ Drawn0 w w')
 case atStart => exact ⟨(0), gR, H', ⟨Ze _⟩, dS⟩
 case round =>
  clear H'
  (try clear p2)
  obtain ⟨aa, rfl, HA, HK1, ⟨m1, rfl⟩⟩ := hrel
  cases gk with
  | zero => exact absurd HA.out (by simp [f9.l0])
  | succ k1 =>
   have H := HA.out
   clear HA
   simp only [f9.l0] at H
   by_cases c4 : aa < (l0.length : Int)
   rotate_left
   ·rw [if_neg c4] at H
    have ah : decide (aa < (l0.length : Int)) = false := decide_eq_false c4
    clear c4
    obtain rfl := Zd H
    go_wp2
    go_ret
    exact ⟨by first | rfl | (simp; done) | (simp [*]; done), dS⟩
   rw [if_pos c4] at H
   have ah := decide_eq_true c4
   clear c4
   by_cases c5 : 0 ≤ aa
   rotate_left
   ·rw [if_neg c5] at H
    exact absurd H (by simp)
   rw [if_pos c5] at H
   have al := decide_eq_true c5
   clear c5
   by_cases c6 : aa < (l0.length : Int)
   rotate_left
   ·rw [if_neg c6] at H
    exact absurd H (by simp)
   rw [if_pos c6] at H
   have am0 := decide_eq_true c6
   clear c6
   replace H := oA H
   obtain ⟨ai, A7, H⟩ := H
   (try dsimp only at H)
   by_cases c8 : ai = true
   rotate_left
   ·replace c8 := Bool.eq_false_iff.mpr c8
    subst c8
    replace H := iF H
    obtain rfl := Zd H
    have ab : 0 ≤ (aa : Int) := oD
    have ac : aa < (l0.length : Int) := oD
    obtain ⟨ag, af, ae⟩ := ZI aj.out aa ab ac
    cases af
    replace ab := eq_true ab
    replace ac := eq_true ac
    go_wp2_with (first | ((with_reducible refine Zn (f := 38) rfl ?_); refine gL 18 Tryz.func38 #[.int .i64 (rd l0 aa), .int .i64 a1, .int .i64 a2] ?_; (with_reducible refine (fB.calls (rd l0 aa) a1 a2 false _ A7.out).mono ?_); rintro e w' ⟨rfl, ⟨nd, rfl⟩⟩; refine ⟨_, rfl, ?_⟩))
    go_ret
    exact ⟨by first | rfl | (simp; done) | (simp [*]; done), dS⟩
   subst c8
   replace H := iT H
   have H' := Za H
   clear H
   have ab : 0 ≤ (aa : Int) := oD
   have ac : aa < (l0.length : Int) := oD
   obtain ⟨ag, af, ae⟩ := ZI aj.out aa ab ac
   cases af
   replace ab := eq_true ab
   replace ac := eq_true ac
   go_wp2_with (first | ((with_reducible refine Zn (f := 38) rfl ?_); refine gL 18 Tryz.func38 #[.int .i64 (rd l0 aa), .int .i64 a1, .int .i64 a2] ?_; (with_reducible refine (fB.calls (rd l0 aa) a1 a2 true _ A7.out).mono ?_); rintro e w' ⟨rfl, ⟨nd, rfl⟩⟩; refine ⟨_, rfl, ?_⟩))
   go_roundg k1
   case measure => have := HK1.out; omega
   case rel => exact ⟨(Zb (aa + 1)), gR, H', ⟨by have := HK1.out; omega⟩, dS⟩
def fi.j0 : Nat → Bool → Int → List Int → Option (Bool)
 | 0, _, _, _ => none
 | k + 1, af, aa, ab => if af = true then (some false) else ((fq.f k ab).bind fun ac => ((fB.f aa 1 ac).bind fun ae => (some ae)))
def fi.f (k : Nat) (ab : Int) (aa : List Int) : Option (Bool) := (fB.f (aa.length : Int) 1 9).bind fun ac => (if ac = true then ((f9.f k aa 0 1000).bind fun ae => (fi.j0 k (!ae) ab aa)) else (fi.j0 k true ab aa))
theorem fi.calls (k : Nat) (ac : Int) (ai : Option Addr) (aj : Nat) (aa : List Int) (r : Bool) (w : Zu) (an0 : Kd.C (Zp .i64) w ai aa.length aa) (ao : aa.length ≤ aj) (h : fi.f k ac aa = some r) :
  ZD Tryz.prog 37 #[.agg #[.int .i64 ac, .slice ai aa.length aj]] w fun e w' => e = .returned (.bool r) ∧ Zr w.heap.size w w' := by
 have hu24 := Tryz.underlying24
 have ae := Za an0
 have af := Za ao
 clear an0 ao
 have HB := Za (Zq w.heap.size w)
 have H := h
 unfold fi.f at H
 clear h
 have aI := Za H
 clear H
 go_enter Tryz.func37, Tryz.ntmps37
 go_upto_region 1 with (first | ((with_reducible refine Zo (N := 1) rfl ?_); refine xE (N := 1) (cs := #[.int .i64 ac, .slice ai aa.length aj]) (t := 24) ?_; intro al hg w3 ab hb; have ap := gS hg HB; have ag := gS hg HB; replace HB := sB HB hb; clear hb hg))
 repeat (go_quiet (first | ((with_reducible refine Zo (N := 1) rfl ?_); refine xE (N := 1) (cs := #[.int .i64 ac, .slice ai aa.length aj]) (t := 24) ?_; intro al hg w3 ab hb; have ap := gS hg HB; have ag := gS hg HB; replace HB := sB HB hb; clear hb hg)); go_upto_region 1 with (first | ((with_reducible refine Zo (N := 1) rfl ?_); refine xE (N := 1) (cs := #[.int .i64 ac, .slice ai aa.length aj]) (t := 24) ?_; intro al hg w3 ab hb; have ap := gS hg HB; have ag := gS hg HB; replace HB := sB HB hb; clear hb hg)))
 (try simp only [Ye, sA, sZ, sS])
 go_cut [13] (fun aQ wc => ∃ (kq : Nat) (ah : Bool), aQ = .bool ah ∧ Zc (fi.j0 kq ah ac aa = some r) ∧ Zc (kq ≤ k) ∧ Zc (wc.heap[al]? = some (.cells #[.int .i64 ac, (.slice ai aa.length aj)] 24 (0, 0))) ∧ Zc (Zr w.heap.size w wc))
 case first =>
  have H := aI.out
  clear aI
  replace H := oA H
  obtain ⟨aJ, A4, H⟩ := H
  (try dsimp only at H)
  by_cases c5 : aJ = true
  rotate_left
  ·replace c5 := Bool.eq_false_iff.mpr c5
   subst c5
   replace H := iF H
   have H' := Za H
   clear H
   obtain ⟨aq, au, av, aw⟩ := zZ ab
   go_wp2_with (first | (go_at_call 38; (with_reducible refine (fB.calls (aa.length : Int) 1 9 false _ A4.out).mono ?_); rintro e w' ⟨rfl, ⟨nd, rfl⟩⟩; (try exact dR)))
   repeat (go_quiet (first | (go_at_call 38; (with_reducible refine (fB.calls (aa.length : Int) 1 9 false _ A4.out).mono ?_); rintro e w' ⟨rfl, ⟨nd, rfl⟩⟩; (try exact dR))); try go_wp2_with (first | (go_at_call 38; (with_reducible refine (fB.calls (aa.length : Int) 1 9 false _ A4.out).mono ?_); rintro e w' ⟨rfl, ⟨nd, rfl⟩⟩; (try exact dR))))
   go_meet
   case rel => exact ⟨_, (true), gR, H', ⟨by first | omega | exact Ze _⟩, ⟨bQ ab⟩, ⟨wB⟩⟩
  subst c5
  replace H := iT H
  replace H := oA H
  obtain ⟨am0, A6, H⟩ := H
  (try dsimp only at H)
  have H' := Za H
  clear H
  obtain ⟨ax, ay, az, aA⟩ := zZ ab
  go_wp2_with (first | (go_at_call 38; (with_reducible refine (fB.calls (aa.length : Int) 1 9 true _ A4.out).mono ?_); rintro e w' ⟨rfl, ⟨nd, rfl⟩⟩; (try exact dR)) | (go_at_call 74; (with_reducible refine (f9.calls k _ _ aa 0 1000 am0 _ ?side1 ?side2 A6.out).mono ?_); (case side1 =>  repeat (first | exact (Zm ae.out (by repeat (first | exact HB.out | apply ba | apply bd | apply be | refine bs ?_ ag.out))) | (with_reducible refine Kd.C_alloc ?_ _) | (with_reducible refine Kd.C_drewN ?_ _) | (with_reducible refine Kd.C_drew ?_))); (case side2 => exact af.out); rintro e w' ⟨rfl, ⟨nd, rfl⟩⟩; (try exact dR)))
  repeat (go_quiet (first | (go_at_call 38; (with_reducible refine (fB.calls (aa.length : Int) 1 9 true _ A4.out).mono ?_); rintro e w' ⟨rfl, ⟨nd, rfl⟩⟩; (try exact dR)) | (go_at_call 74; (with_reducible refine (f9.calls k _ _ aa 0 1000 am0 _ ?side1 ?side2 A6.out).mono ?_); (case side1 =>  repeat (first | exact (Zm ae.out (by repeat (first | exact HB.out | apply ba | apply bd | apply be | refine bs ?_ ag.out))) | (with_reducible refine Kd.C_alloc ?_ _) | (with_reducible refine Kd.C_drewN ?_ _) | (with_reducible refine Kd.C_drew ?_))); (case side2 => exact af.out); rintro e w' ⟨rfl, ⟨nd, rfl⟩⟩; (try exact dR))); try go_wp2_with (first | (go_at_call 38; (with_reducible refine (fB.calls (aa.length : Int) 1 9 true _ A4.out).mono ?_); rintro e w' ⟨rfl, ⟨nd, rfl⟩⟩; (try exact dR)) | (go_at_call 74; (with_reducible refine (f9.calls k _ _ aa 0 1000 am0 _ ?side1 ?side2 A6.out).mono ?_); (case side1 =>  repeat (first | exact (Zm ae.out (by repeat (first | exact HB.out | apply ba | apply bd | apply be | refine bs ?_ ag.out))) | (with_reducible refine Kd.C_alloc ?_ _) | (with_reducible refine Kd.C_drewN ?_ _) | (with_reducible refine Kd.C_drew ?_))); (case side2 => exact af.out); rintro e w' ⟨rfl, ⟨nd, rfl⟩⟩; (try exact dR))))
  go_meet
  case rel => exact ⟨_, (!am0), gR, H', ⟨by first | omega | exact Ze _⟩, ⟨bQ ab⟩, ⟨wB⟩⟩
 case rest =>
  clear aI
  (try clear p2); (try clear c3); (try clear c5); (try clear ax); (try clear ay); (try clear aq); (try clear au); (try clear az); (try clear aA); (try clear av); (try clear aw)
  obtain ⟨kq, ah, rfl, HA, aT, ab, HB⟩ := hcut
  cases kq with
  | zero => exact absurd HA.out (by simp [fi.j0])
  | succ aK =>
   have H := HA.out
   clear HA
   simp only [fi.j0] at H
   by_cases c9 : ah = true
   ·subst c9
    replace H := iT H
    obtain rfl := Zd H
    go_wp2
    repeat (go_quiet (fail); try go_wp2)
    go_ret
    exact ⟨fR, wB⟩
   replace c9 := Bool.eq_false_iff.mpr c9
   subst c9
   replace H := iF H
   replace H := oA H
   obtain ⟨ak, aM, H⟩ := H
   (try dsimp only at H)
   replace H := oA H
   obtain ⟨aC, aN, H⟩ := H
   (try dsimp only at H)
   obtain rfl := Zd H
   obtain ⟨aD, aE, aG, aH⟩ := zZ ab
   go_wp2_with (first | (go_at_call 54; (with_reducible refine (fq.calls aK _ _ aa ak _ (Zm ae.out HB.out) af.out aM.out).mono ?_); rintro e w' ⟨rfl, ⟨nd, rfl⟩⟩; (try exact dR)) | (go_at_call 38; (with_reducible refine (fB.calls ac 1 ak aC _ aN.out).mono ?_); rintro e w' ⟨rfl, ⟨nd, rfl⟩⟩; (try exact dR)))
   repeat (go_quiet (first | (go_at_call 54; (with_reducible refine (fq.calls aK _ _ aa ak _ ?side1 ?side2 aM.out).mono ?_); (case side1 => have hx_ := (Zm ae.out HB.out); exact cC); (case side2 => exact af.out); rintro e w' ⟨rfl, ⟨nd, rfl⟩⟩; (try exact dR)) | (go_at_call 38; (with_reducible refine (fB.calls ac 1 ak aC _ aN.out).mono ?_); rintro e w' ⟨rfl, ⟨nd, rfl⟩⟩; (try exact dR))); try go_wp2_with (first | (go_at_call 54; (with_reducible refine (fq.calls aK _ _ aa ak _ ?side1 ?side2 aM.out).mono ?_); (case side1 => have hx_ := (Zm ae.out HB.out); exact cC); (case side2 => exact af.out); rintro e w' ⟨rfl, ⟨nd, rfl⟩⟩; (try exact dR)) | (go_at_call 38; (with_reducible refine (fB.calls ac 1 ak aC _ aN.out).mono ?_); rintro e w' ⟨rfl, ⟨nd, rfl⟩⟩; (try exact dR))))
   go_ret
   exact ⟨fR, wB⟩
mutual
def fu.j0 : Nat → Int → Bool → Int → List Int → Option (Int × List Int × Bool)
 | 0, _, _, _, _ => none
 | k + 1, x1, aj, ae, ac => if aj = true then (some (0, ([] : List Int), false)) else (fu.l0 k x1 ac (ac.length : Int) 0 (Zb ((Zb ((Zb (ae - 1)) * x1)) + 1)) ([] : List Int))
def fu.l0 : Nat → Int → List Int → Int → Int → Int → List Int → Option (Int × List Int × Bool)
 | 0, _, _, _, _, _, _ => none
 | k + 1, x1, ag, ai, af, ab, aa => if af < ai then (if 0 ≤ af then (if af < (ag.length : Int) then (if aa.length < 17592186044416 then (fu.l0 k x1 ag ai (Zb (af + 1)) ab (aa ++ [Zb ((rd ag af) * x1)])) else (none)) else (none)) else (none)) else ((fi.f k ab aa).bind fun ah => (if ah = true then (some (ab, aa, true)) else (some (0, ([] : List Int), false))))
end
def fu.f (k : Nat) (aa : Int) (ab : List Int) (a1 : Int) : Option (Int × List Int × Bool) := (fi.f k aa ab).bind fun ac => (if ac = true then ((fB.f a1 1 1000).bind fun ae => (fu.j0 k a1 (!ae) aa ab)) else (fu.j0 k a1 true aa ab))
theorem fu.calls (k : Nat) (al : Int) (aw : Option Addr) (au : Nat) (af : List Int) (a1 : Int) (r1 : Int) (r2 : List Int) (r3 : Bool) (w : Zu) (bw : Kd.C (Zp .i64) w aw af.length af) (bx : af.length ≤ au) (h : fu.f k al af a1 = some (r1, r2, r3)) :
  ZD Tryz.prog 6 #[.agg #[.int .i64 al, .slice aw af.length au], .int .i64 a1] w fun e w' => ∃ v1_ : ZA, e = .returned (.tuple #[.agg #[.int .i64 r1, v1_], .bool r3]) ∧ Kd.R (Zp .i64) 3 w' w.heap.size (fun _ => True) v1_ r2 ∧ Zr w.heap.size w w' := by
 have hu24 := Tryz.underlying24
 have aI := Za bw
 have bz := Za bx
 clear bw bx
 have HB := Za (Zq w.heap.size w)
 have H := h
 unfold fu.f at H
 clear h
 have cg := Za H
 clear H
 go_enter Tryz.func6, Tryz.ntmps6
 go_upto_region 1 with (first | ((with_reducible refine Zo (N := 2) rfl ?_); refine xE (N := 2) (cs := #[.int .i64 al, .slice aw af.length au]) (t := 24) ?_; intro aJ hg w4 aa hb; have cl := gS hg HB; have cm := gS hg HB; replace HB := sB HB hb; clear hb hg) | ((with_reducible refine Zo (N := 4) rfl ?_); refine xE (N := 4) (cs := #[.int .i64 0, .slice none 0 0]) (t := 24) ?_; intro ap hg w5 ab hb; have cn := gS hg HB; have cp := gS hg HB; have ag := nL hg (ZG aa.out); have ah := nG hg (ZG aa.out); replace aa := bB aa hb; replace HB := sB HB hb; clear hb hg))
 (try simp only [Ye, sA, sZ, sS])
 go_cut [16] (fun cW wc => ∃ (kq : Nat) (ax : Bool), cW = .bool ax ∧ Zc (fu.j0 kq a1 ax al af = some (r1, r2, r3)) ∧ Zc (kq ≤ k) ∧ Zc (wc.heap[aJ]? = some (.cells #[.int .i64 al, (.slice aw af.length au)] 24 (0, 0))) ∧ Zc (wc.heap[ap]? = some (.cells #[.int .i64 0, (.slice none 0 0)] 24 (0, 0))) ∧ Zc (Zr w.heap.size w wc))
 case first =>
  have H := cg.out
  clear cg
  replace H := oA H
  obtain ⟨ch, A6, H⟩ := H
  (try dsimp only at H)
  by_cases c7 : ch = true
  rotate_left
  ·replace c7 := Bool.eq_false_iff.mpr c7
   subst c7
   replace H := iF H
   have H' := Za H
   clear H
   have cq := ag.out
   have cr := ah.out
   obtain ⟨ay, az, aA, aC⟩ := zZ aa
   go_wp2_with (first | ((with_reducible refine Zn (f := 37) rfl ?_); refine gL 10 Tryz.func37 #[.agg #[.int .i64 al, .slice aw af.length au]] ?_; (with_reducible refine (fi.calls k al _ _ af false _ ?side1 ?side2 A6.out).mono ?_); (case side1 => have hx_ := (Zm aI.out HB.out); exact cC); (case side2 => exact bz.out); rintro e dh ⟨rfl, hb⟩; refine ⟨_, rfl, ?_⟩; replace aa := bP aa hb; replace ab := bP ab hb; replace HB := sQ hb; (try clear hb)))
   go_meet
   case rel => exact ⟨_, (true), gR, H', ⟨by first | omega | exact Ze _⟩, ⟨bQ aa⟩, ⟨bQ ab⟩, ⟨wB⟩⟩
  subst c7
  replace H := iT H
  replace H := oA H
  obtain ⟨bI, A8, H⟩ := H
  (try dsimp only at H)
  have H' := Za H
  clear H
  have cX := ag.out
  have cY := ah.out
  obtain ⟨aD, aE, aG, aH⟩ := zZ aa
  go_wp2_with (first | ((with_reducible refine Zn (f := 37) rfl ?_); refine gL 10 Tryz.func37 #[.agg #[.int .i64 al, .slice aw af.length au]] ?_; (with_reducible refine (fi.calls k al _ _ af true _ (Zm aI.out HB.out) bz.out A6.out).mono ?_); rintro e di ⟨rfl, hb⟩; refine ⟨_, rfl, ?_⟩; replace aa := bB aa hb; replace ab := bB ab hb; replace HB := sB HB hb; (try clear hb)) | (go_at_call 38; (with_reducible refine (fB.calls a1 1 1000 bI _ A8.out).mono ?_); rintro e w' ⟨rfl, ⟨nd, rfl⟩⟩))
  go_meet
  case rel => exact ⟨_, (!bI), gR, H', ⟨by first | omega | exact Ze _⟩, ⟨bQ aa⟩, ⟨bQ ab⟩, ⟨wB⟩⟩
 case rest =>
  clear cg
  (try clear c1); (try clear p2); (try clear c3); (try clear c6); (try clear c7); (try clear c9); (try clear db); (try clear aD); (try clear aE); (try clear ay); (try clear az); (try clear aG); (try clear aH); (try clear aA); (try clear aC)
  obtain ⟨kq, ax, rfl, HA, ct, aa, ab, HB⟩ := hcut
  cases kq with
  | zero => exact absurd HA.out (by simp [fu.j0])
  | succ cu =>
   have H := HA.out
   clear HA
   simp only [fu.j0] at H
   by_cases bJ : ax = true
   ·subst bJ
    replace H := iT H
    simp only [Zl, Zt] at H
    obtain ⟨rfl, rfl, rfl⟩ := H
    have cv := ah.out
    have cw := ag.out
    obtain ⟨aM, aN, aQ, aT⟩ := zZ ab
    go_wp2
    refine Zz (ZQ rfl _ _ ap 24 #[.int .i64 0, .slice none 0 0] (0, 0) _ rfl (by refine Zj (cs := #[.int .i64 0, .slice none 0 0]) ?_ 1 _ rfl; refine Zj (cs := #[.int .i64 0, .slice none 0 0]) ?_ 0 _ rfl; exact ab.out) Tryz.underlying24 rfl (by kernel_rfl)) rfl ?_
    exact ⟨_, fR, by first | exact Kd.R_nil _ _ _ _ _ | exact Kd.N_nil _ _ _ _ _ | exact Kd.V_nil _ _ _ _ _ | exact Kd.Q_nil _ _ _ _ _ | exact Kd.S_nil _ _ _ _ _, wB⟩
   replace bJ := Bool.eq_false_iff.mpr bJ
   subst bJ
   replace H := iF H
   have H' := Za H
   clear H
   have cy := ag.out
   have cz := ah.out
   obtain ⟨aU, aV, aW, aX⟩ := zZ aa
   go_wp2_with (first | ((with_reducible refine Zo (N := 6) rfl ?_); refine xE (N := 6) (cs := #[.int .i64 0, .slice none 0 0]) (t := 24) ?_; intro aK hg dj am0 hb; have cA := gS hg HB; have cB := gS hg HB; have ai := nL hg (ZG aa.out); have an0 := nG hg (ZG aa.out); have aj := nL hg (ZG ab.out); have ao := nG hg (ZG ab.out); replace aa := bB aa hb; replace ab := bB ab hb; replace HB := sB HB hb; clear hb hg; have cD := an0.out; have cE := ai.out; have cF := ao.out; have cG := aj.out; (try clear aM aN aQ aT aU aV aW aX); obtain ⟨aY, aZ, a6, a7⟩ := zZ am0; obtain ⟨a8, bb, bc, bf⟩ := zZ aa))
   go_loopg [28] cu (fun kq dc w' => ∃ (ak : Int) (ac : List Int) (u106001 : ZA), dc = .int .i64 ak ∧ Zc (fu.l0 kq a1 af (af.length : Int) ak (Zb ((Zb ((Zb (al - 1)) * a1)) + 1)) ac = some (r1, r2, r3)) ∧ Zc (kq ≤ cu) ∧ Zc (Kd.R (Zp .i64) 3 w' w.heap.size (fun _ => True) u106001 ac) ∧ Zc (w'.heap[aJ]? = some (.cells #[.int .i64 al, (.slice aw af.length au)] 24 (0, 0))) ∧ Zc (w'.heap[ap]? = some (.cells #[.int .i64 0, (.slice none 0 0)] 24 (0, 0))) ∧ Zc (w'.heap[aK]? = some (.cells #[.int .i64 (Zb ((Zb ((Zb (al - 1)) * a1)) + 1)), u106001] 24 (0, 0))) ∧ Zc (Zr w.heap.size w w'))
   case atStart => exact ⟨(0), (([] : List Int)), (.slice none 0 0), gR, H', ⟨Ze _⟩, ⟨by first | exact Kd.R_nil _ _ _ _ _ | exact Kd.N_nil _ _ _ _ _ | exact Kd.V_nil _ _ _ _ _ | exact Kd.Q_nil _ _ _ _ _ | exact Kd.S_nil _ _ _ _ _⟩, ⟨by refine Zw ?_ ai.out _; refine Zw ?_ ai.out _; exact aa.out⟩, ⟨by refine Zw ?_ aj.out _; refine Zw ?_ aj.out _; exact ab.out⟩, ⟨by refine Zj (cs := #[.int .i64 (Zb ((Zb ((Zb (al - 1)) * a1)) + 1)), .slice none 0 0]) ?_ 1 _ rfl; refine Zj (cs := #[.int .i64 0, .slice none 0 0]) ?_ 0 _ rfl; exact am0.out⟩, ⟨wB⟩⟩
   case round =>
    clear H'
    (try clear c1); (try clear c2); (try clear p2); (try clear c3); (try clear c6); (try clear p6); (try clear c7); (try clear c9); (try clear db); (try clear bJ); (try clear dl); (try clear dm); (try clear dn); (try clear dp); (try clear aD); (try clear aE); (try clear ay); (try clear az); (try clear aY); (try clear aZ); (try clear a8); (try clear bb); (try clear aG); (try clear aH); (try clear aA); (try clear aC); (try clear a6); (try clear a7); (try clear bc); (try clear bf); (try clear p2)
    obtain ⟨ak, ac, u106001, rfl, HA, HK2, ae, aa, ab, am0, HB⟩ := hrel
    cases gk with
    | zero => exact absurd HA.out (by simp [fu.l0])
    | succ k2 =>
     have H := HA.out
     clear HA
     simp only [fu.l0] at H
     by_cases bH : ak < (af.length : Int)
     rotate_left
     ·rw [if_neg bH] at H
      have bK : decide (ak < (af.length : Int)) = false := decide_eq_false bH
      clear bH
      replace H := oA H
      obtain ⟨bL, de, H⟩ := H
      (try dsimp only at H)
      have cH := Za H
      clear H
      have cI := an0.out
      have cJ := ai.out
      have cK := ao.out
      have cL := aj.out
      (try clear bg bh bi bj)
      obtain ⟨bl, bm, bn, bo⟩ := zZ am0
      obtain ⟨bC, bE, ci⟩ := ZF ae.out
      subst ci
      go_upto_if 43 with (first | ((with_reducible refine Zn (f := 37) rfl ?_); refine gL 42 Tryz.func37 #[.agg #[.int .i64 (Zb ((Zb ((Zb (al - 1)) * a1)) + 1)), .slice bC ac.length bE]] ?_; (with_reducible refine (fi.calls k2 (Zb ((Zb ((Zb (al - 1)) * a1)) + 1)) _ _ ac bL _ ?side1 ?side2 de.out).mono ?_); (case side1 => have hx_ := (ZP ae.out).2.2; exact cC); (case side2 => exact (ZP ae.out).2.1); rintro e dq ⟨rfl, hb⟩; refine ⟨_, rfl, ?_⟩; replace ae := rB ae hb; replace aa := bB aa hb; replace ab := bB ab hb; replace am0 := bB am0 hb; replace HB := sB HB hb; (try clear hb); (try clear bl bm bn bo); obtain ⟨bT, bU, bV, bW⟩ := zZ am0; have cM := ah.out; have cN := ag.out; obtain ⟨bX, bY, bZ, b5⟩ := zZ ab))
      have H := cH.out
      clear cH
      by_cases b6 : bL = true
      rotate_left
      ·replace b6 := Bool.eq_false_iff.mpr b6
       subst b6
       replace H := iF H
       simp only [Zl, Zt] at H
       obtain ⟨rfl, rfl, rfl⟩ := H
       have cO := ah.out
       have cP := ag.out
       obtain ⟨b7, b8, b9, ca⟩ := zZ ab
       go_wp2_with (fail)
       refine Zz (ZQ rfl _ _ ap 24 #[.int .i64 0, .slice none 0 0] (0, 0) _ rfl (by refine Zj (cs := #[.int .i64 0, .slice none 0 0]) ?_ 1 _ rfl; refine Zj (cs := #[.int .i64 0, .slice none 0 0]) ?_ 0 _ rfl; exact ab.out) Tryz.underlying24 rfl (by kernel_rfl)) rfl ?_
       exact ⟨_, fR, by first | exact Kd.R_nil _ _ _ _ _ | exact Kd.N_nil _ _ _ _ _ | exact Kd.V_nil _ _ _ _ _ | exact Kd.Q_nil _ _ _ _ _ | exact Kd.S_nil _ _ _ _ _, wB⟩
      subst b6
      replace H := iT H
      simp only [Zl, Zt] at H
      obtain ⟨rfl, rfl, rfl⟩ := H
      go_wp2_with (fail)
      refine Zz (ZQ rfl _ _ ap 24 #[.int .i64 (Zb ((Zb ((Zb (al - 1)) * a1)) + 1)), .slice bC ac.length bE] (0, 0) _ rfl (by refine Zj (cs := #[.int .i64 (Zb ((Zb ((Zb (al - 1)) * a1)) + 1)), .slice none 0 0]) ?_ 1 _ rfl; refine Zj (cs := #[.int .i64 0, .slice none 0 0]) ?_ 0 _ rfl; exact ab.out) Tryz.underlying24 rfl (by kernel_rfl)) rfl ?_
      exact ⟨_, fR, by exact ZK (ZC (p := ⟨ap, 1, none⟩) (ZC (p := ⟨ap, 0, none⟩) (ZJ ae.out ab.out (by decide)) (fun _ hk => hk.2) (.int .i64 (Zb ((Zb ((Zb (al - 1)) * a1)) + 1)))) (fun _ hk => hk.2) (.slice bC ac.length bE)) (fun _ hk => trivial), wB⟩
     rw [if_pos bH] at H
     have bK := decide_eq_true bH
     clear bH
     by_cases cb : 0 ≤ ak
     rotate_left
     ·rw [if_neg cb] at H
      exact absurd H (by simp)
     rw [if_pos cb] at H
     have cQ := decide_eq_true cb
     clear cb
     by_cases cd : ak < (af.length : Int)
     rotate_left
     ·rw [if_neg cd] at H
      exact absurd H (by simp)
     rw [if_pos cd] at H
     have cR := decide_eq_true cd
     clear cd
     by_cases ce : ac.length < 17592186044416
     rotate_left
     ·rw [if_neg ce] at H
      exact absurd H (by simp)
     rw [if_pos ce] at H
     have bM := Za ce
     clear ce
     obtain ⟨bq, av⟩ : ∃ y_ : List Int, y_ = (ac ++ [Zb ((rd af ak) * a1)]) := ⟨_, rfl⟩
     replace H : (fu.l0 k2 a1 af (af.length : Int) (Zb (ak + 1)) (Zb ((Zb ((Zb (al - 1)) * a1)) + 1)) bq) = some (r1, r2, r3) := by first | (rw [av]; with_reducible exact H) | (have H2_ := (Zk _ _).symm.trans H; rw [av]; with_reducible exact H2_) | (have H2_ := (Zk _ _).symm.trans H; with_reducible exact H2_) | with_reducible exact H | (rw [av]; exact H) | exact H
     have bN := Za av
     clear av
     have H' := Za H
     clear H
     have bF : 0 ≤ (ak : Int) := oD
     have bG : ak < (af.length : Int) := oD
     obtain ⟨bO, cj, aq⟩ := ZI aI.out ak bF bG
     cases cj
     replace aq := (HB.out.cell (Zh w _ aq)).trans aq
     replace bF := eq_true bF
     replace bG := eq_true bG
     have cS := an0.out
     have cT := ai.out
     have cU := ao.out
     have cV := aj.out
     obtain ⟨br, bt, bu, bv⟩ := zZ am0
     go_wp2_with (first | ((with_reducible refine gate_builtin (b := .append) (xs := #[.tmp 33, .tmp 37]) rfl ?_); at_builtin; refine Kd.R_append (Zp .i64) (w0 := w) w.heap.size rfl (.tmp 33) (.tmp 37) 22 3 (.int .i64 0) 8 rfl Tryz.underlying22 info3 rfl (by decide) (by omega) u106001 ac (Zb ((rd af ak) * a1)) [.int .i64 (Zb ((rd af ak) * a1))] (fun _ => True) (fun _ => False) rfl rfl ?aP (fun _ hk => hk.elim) ?aF ?aO ?aB ?aS ?aL ?_; (case aP => exact rfl); (case aB => exact HB.out); (case aF => exact (fun _ _ => trivial)); (case aO => exact ae.out); (case aS => exact (ZM HB.out)); (case aL => have := bM.out; omega); intro dg dr ho hb hg hat; rw [← bN.out] at ho; have bA := Za (ho); replace aa := Za (ZR (g := aJ) (o := .cells #[.int .i64 al, .slice (some bO) af.length au] 24 (0, 0)) aa.out hg (ZO ae.out aa.out (by decide))); replace ab := Za (ZR (g := ap) (o := .cells #[.int .i64 0, .slice none 0 0] 24 (0, 0)) ab.out hg (ZO ae.out ab.out (by decide))); replace am0 := Za (ZR (g := aK) (o := .cells #[.int .i64 (Zb ((Zb ((Zb (al - 1)) * a1)) + 1)), u106001] 24 (0, 0)) am0.out hg (ZO ae.out am0.out (by decide))); replace HB := Za (hb); clear ho hb hg hat; obtain ⟨bR, bS, ck⟩ := ZF bA.out; subst ck; (try clear br bt bu bv); obtain ⟨bg, bh, bi, bj⟩ := zZ am0))
     go_roundg k2
     case measure => have := ct.out; have := HK2.out; omega
     case rel => exact ⟨(Zb (ak + 1)), (bq), (.slice bR bq.length bS), gR, H', ⟨by have := ct.out; have := HK2.out; omega⟩, ⟨by exact ZK (ZC (p := ⟨aK, 1, none⟩) (ZJ bA.out am0.out (by decide)) (fun _ hk => hk.2) (.slice bR bq.length bS)) (fun _ hk => trivial)⟩, ⟨by refine Zw ?_ ai.out _; exact aa.out⟩, ⟨by refine Zw ?_ aj.out _; exact ab.out⟩, ⟨by refine Zj (cs := #[.int .i64 (Zb ((Zb ((Zb (al - 1)) * a1)) + 1)), u106001]) ?_ 1 _ rfl; exact am0.out⟩, ⟨wB⟩⟩
def gt.l0 : Nat → Int → Int → Option (Int)
 | 0, _, _ => none
 | k + 1, x0, x1 => if x1 = 0 then (some x0) else (gt.l0 k x1 (ZT x0 x1))
def gt.f (k : Nat) (a0 : Int) (a1 : Int) : Option (Int) := gt.l0 k a0 a1
theorem gt.calls (k : Nat) (a0 : Int) (a1 : Int) (r : Int) (w : Zu) (h : gt.f k a0 a1 = some r) :
  ZD Tryz.prog 39 #[.int .i64 a0, .int .i64 a1] w fun e w' => e = .returned (.int .i64 r) ∧ Drawn0 w w' := by
 have H : (gt.l0 k a0 a1) = some r := h
 clear h
 have H' := Za H
 clear H
 go_enter Tryz.func39, Tryz.ntmps39
 go_wp2
 repeat (go_quiet (fail); try go_wp2)
 go_loopg [0, 1] k (fun kq v0 v1 w' => ∃ (ab : Int) (aa : Int), v0 = .int .i64 ab ∧ v1 = .int .i64 aa ∧ Zc (gt.l0 kq ab aa = some r) ∧ Zc (kq ≤ k) ∧ Drawn0 w w')
 case atStart => exact ⟨(a0), (a1), gR, gR, H', ⟨Ze _⟩, dS⟩
 case round =>
  clear H'
  (try clear p2)
  obtain ⟨ab, aa, rfl, rfl, HA, HK1, ⟨m1, rfl⟩⟩ := hrel
  cases gk with
  | zero => exact absurd HA.out (by simp [gt.l0])
  | succ k1 =>
   have H := HA.out
   clear HA
   simp only [gt.l0] at H
   by_cases c3 : aa = 0
   ·rw [if_pos c3] at H
    have ac : (aa == 0) = true := beq_iff_eq.mpr c3
    have ae : (aa != 0) = false := bne_eq_false_iff_eq.mpr c3
    clear c3
    obtain rfl := Zd H
    go_wp2
    repeat (go_quiet (fail); try go_wp2)
    go_ret
    exact ⟨by first | rfl | (simp; done) | (simp [*]; done), dS⟩
   rw [if_neg c3] at H
   have ac : (aa == 0) = false := beq_eq_false_iff_ne.mpr c3
   have ae : (aa != 0) = true := bne_iff_ne.mpr c3
   have H' := Za H
   clear H
   go_wp2
   repeat (go_quiet (fail); try go_wp2)
   go_roundg k1
   case measure => have := HK1.out; omega
   case rel => exact ⟨(aa), (ZT ab aa), gR, gR, H', ⟨by have := HK1.out; omega⟩, dS⟩
def fC.f (a0 : Int) (a1 : Int) : Option (Bool) := if 0 ≤ a1 then (some ((Yg .and .i64 (shr .i64 a0 a1) 1) == 1)) else (none)
theorem fC.calls (a0 : Int) (a1 : Int) (r : Bool) (w : Zu) (h : fC.f a0 a1 = some r) :
  ZD Tryz.prog 81 #[.int .i64 a0, .int .i64 a1] w fun e w' => e = .returned (.bool r) ∧ Drawn0 w w' := by
 have H := h
 unfold fC.f at H
 clear h
 by_cases c3 : 0 ≤ a1
 rotate_left
 ·rw [if_neg c3] at H
  exact absurd H (by simp)
 rw [if_pos c3] at H
 have ac := eq_true c3
 have ae := decide_eq_true c3
 clear c3
 obtain ⟨ab, aa⟩ : ∃ j_ : Int, (shr .i64 a0 a1) = j_ := ⟨_, rfl⟩
 replace H : (some ((Yg .and .i64 (ab) 1) == 1)) = some r := by first | (rw [aa] at H; exact H) | (simp only [aa] at H ⊢; exact H)
 have hji4_ : (a0 / 2 ^ min a1.toNat 64) = ab := aa
 have hji4z : a1 ≤ 64 → (a0 / 2 ^ a1.toNat) = ab := shr_small aa
 obtain rfl := Zd H
 go_enter Tryz.func81, Tryz.ntmps81
 go_wp2
 go_ret
 exact ⟨by first | rfl | (simp; done) | (simp only [← aa] <;> (first | rfl | simp)) | (simp [*]; done), dS⟩
def fI.l0 : Nat → Int → Int → List Int → Int → Int → Option (Int)
 | 0, _, _, _, _, _ => none
 | k + 1, x1, x5, x9, ab, aa => if aa < ab then (if 0 ≤ aa then (if aa < (x9.length : Int) then ((fC.f x1 aa).bind fun ac => (if ac = true then (fI.l0 k x1 (Zb (x5 + (rd x9 aa))) x9 ab (Zb (aa + 1))) else (fI.l0 k x1 x5 x9 ab (Zb (aa + 1))))) else (none)) else (none)) else (some x5)
def fI.f (k : Nat) (ab : Int) (aa : List Int) (a1 : Int) : Option (Int) := fI.l0 k a1 0 aa (aa.length : Int) 0
theorem fI.calls (k : Nat) (ai : Int) (aj : Option Addr) (ak : Nat) (ac : List Int) (a1 : Int) (r : Int) (w : Zu) (al : Kd.C (Zp .i64) w aj ac.length ac) (am0 : ac.length ≤ ak) (h : fI.f k ai ac a1 = some r) :
  ZD Tryz.prog 51 #[.agg #[.int .i64 ai, .slice aj ac.length ak], .int .i64 a1] w fun e w' => e = .returned (.int .i64 r) ∧ Zr w.heap.size w w' := by
 have hu24 := Tryz.underlying24
 have an0 := Za al
 have aA := Za am0
 clear al am0
 have HB := Za (Zq w.heap.size w)
 have H := h
 unfold fI.f at H
 clear h
 have H' := Za H
 clear H
 go_enter Tryz.func51, Tryz.ntmps51
 go_wp2_with (first | ((with_reducible refine Zo (N := 2) rfl ?_); refine xE (N := 2) (cs := #[.int .i64 ai, .slice aj ac.length ak]) (t := 24) ?_; intro aw hg w3 ae hb; have aC := gS hg HB; have aD := gS hg HB; replace HB := sB HB hb; clear hb hg; obtain ⟨ao, ap, aq, au⟩ := zZ ae))
 go_loopg [5, 11] k (fun kq v5 aE w' => ∃ (ah : Int) (aa : Int), v5 = .int .i64 ah ∧ aE = .int .i64 aa ∧ Zc (fI.l0 kq a1 ah ac (ac.length : Int) aa = some r) ∧ Zc (kq ≤ k) ∧ Zc (w'.heap[aw]? = some (.cells #[.int .i64 ai, (.slice aj ac.length ak)] 24 (0, 0))) ∧ Zc (Zr w.heap.size w w'))
 case atStart => exact ⟨(0), (0), gR, gR, H', ⟨Ze _⟩, ⟨by exact ae.out⟩, ⟨wB⟩⟩
 case round =>
  clear H'
  (try clear p2); (try clear ao); (try clear ap); (try clear aq); (try clear au)
  obtain ⟨ah, aa, rfl, rfl, HA, HK1, ae, HB⟩ := hrel
  cases gk with
  | zero => exact absurd HA.out (by simp [fI.l0])
  | succ k1 =>
   have H := HA.out
   clear HA
   simp only [fI.l0] at H
   by_cases c5 : aa < (ac.length : Int)
   rotate_left
   ·rw [if_neg c5] at H
    have ay : decide (aa < (ac.length : Int)) = false := decide_eq_false c5
    clear c5
    obtain rfl := Zd H
    go_wp2
    go_ret
    exact ⟨fR, wB⟩
   rw [if_pos c5] at H
   have ay := decide_eq_true c5
   clear c5
   by_cases c6 : 0 ≤ aa
   rotate_left
   ·rw [if_neg c6] at H
    exact absurd H (by simp)
   rw [if_pos c6] at H
   have aG := decide_eq_true c6
   clear c6
   by_cases c7 : aa < (ac.length : Int)
   rotate_left
   ·rw [if_neg c7] at H
    exact absurd H (by simp)
   rw [if_pos c7] at H
   have aH := decide_eq_true c7
   clear c7
   replace H := oA H
   obtain ⟨az, A8, H⟩ := H
   (try dsimp only at H)
   by_cases c9 : az = true
   ·subst c9
    replace H := iT H
    have H' := Za H
    clear H
    have af : 0 ≤ (aa : Int) := oD
    have ag : aa < (ac.length : Int) := oD
    obtain ⟨ax, av, ab⟩ := ZI an0.out aa af ag
    cases av
    replace ab := (HB.out.cell (Zh w _ ab)).trans ab
    replace af := eq_true af
    replace ag := eq_true ag
    go_wp2_with (first | ((with_reducible refine Zn (f := 81) rfl ?_); refine gL 18 Tryz.func81 #[.int .i64 a1, .int .i64 aa] ?_; (with_reducible refine (fC.calls a1 aa true _ A8.out).mono ?_); rintro e w' ⟨rfl, ⟨nd, rfl⟩⟩; refine ⟨_, rfl, ?_⟩))
    go_roundg k1
    case measure => have := HK1.out; omega
    case rel => exact ⟨(Zb (ah + (rd ac aa))), (Zb (aa + 1)), gR, gR, H', ⟨by have := HK1.out; omega⟩, ⟨bQ ae⟩, ⟨wB⟩⟩
   replace c9 := Bool.eq_false_iff.mpr c9
   subst c9
   replace H := iF H
   have H' := Za H
   clear H
   have af : 0 ≤ (aa : Int) := oD
   have ag : aa < (ac.length : Int) := oD
   obtain ⟨ax, av, ab⟩ := ZI an0.out aa af ag
   cases av
   replace ab := (HB.out.cell (Zh w _ ab)).trans ab
   replace af := eq_true af
   replace ag := eq_true ag
   go_wp2_with (first | ((with_reducible refine Zn (f := 81) rfl ?_); refine gL 18 Tryz.func81 #[.int .i64 a1, .int .i64 aa] ?_; (with_reducible refine (fC.calls a1 aa false _ A8.out).mono ?_); rintro e w' ⟨rfl, ⟨nd, rfl⟩⟩; refine ⟨_, rfl, ?_⟩))
   go_roundg k1
   case measure => have := HK1.out; omega
   case rel => exact ⟨(ah), (Zb (aa + 1)), gR, gR, H', ⟨by have := HK1.out; omega⟩, ⟨bQ ae⟩, ⟨wB⟩⟩
def fD.l0 : Nat → (Int → Option Bool) → Int → Int → Int → List Bool → Option (Int × List Bool)
 | 0, _, _, _, _, _ => none
 | k + 1, x1, af, ac, ab, aa => if ac < af then ((x1 ac).bind fun ae => (if 0 ≤ ac then (if ac < (aa.length : Int) then (fD.l0 k x1 af (Zb (ac + 1)) ab (aa.set (ac : Int).toNat ae)) else (none)) else (none))) else (some (ab, aa))
def fD.f (k : Nat) (a0 : Int) (a1 : Int → Option Bool) : Option (Int × List Bool) := if 0 ≤ a0 then (if 0 ≤ (shl .i64 1 a0) then (if (shl .i64 1 a0 : Int).toNat ≤ 281474976710656 then ((some (ZY (shl .i64 1 a0 : Int).toNat false : List Bool)).bind fun aa => (fD.l0 k a1 (aa.length : Int) 0 a0 aa)) else (none)) else (none)) else (none)
def fD.T5 : Bool × List (List Nat × List Nat) := (true, [([], []), ([0], [0]), ([], []), ([], []), ([], []), ([3, 4], [3, 4]), ([1, 2, 0, 1, 2, 3, 4, 5], [1, 2]), ([6, 5, 5, 0, 1, 2, 3, 4, 5], [5, 6])])
def fD.B5 : List Nat := [0, 1, 0, 0, 0, 24, 63, 127]
theorem fD.tab5 : rtab .any (opsOf Tryz.f75 5) = fD.T5 := by kernel_rfl
theorem fD.bits5 : waitsOk fD.T5.2 fD.B5 = true := by kernel_rfl
theorem fD.hof (k : Nat) (a0 : Int) (a1 : Int → Option Bool) (g : Nat) (lb : Array ZA) (r1 : Int) (r2 : List Bool) (w : Zu) (eg : ∀ args w, (Z8 g args).run Tryz.prog w = .ok (.enter g args) w)
  (hp : ∀ (W : Zu) (x : Int) (b : Bool), Zr w.heap.size w W → a1 x = some b → ZD Tryz.prog g (#[.int .i64 x] ++ lb) W fun e W' => e = .returned (.bool b) ∧ Zr W.heap.size W W') (h : fD.f k a0 a1 = some (r1, r2)) :
  ZD Tryz.prog 75 #[.int .i64 a0, .func (.func g) #[] lb] w fun e w' => ∃ v1_ : ZA, e = .returned (.agg #[.int .i64 r1, v1_]) ∧ Kd.R Kd.bool 4 w' w.heap.size (fun _ => True) v1_ r2 ∧ Zr w.heap.size w w' := by
 have huV := Tryz.underlying53
 have HB := Za (Zq w.heap.size w)
 have HP := Za hp
 clear hp
 have H : (if 0 ≤ a0 then (if 0 ≤ (shl .i64 1 a0) then (if (shl .i64 1 a0 : Int).toNat ≤ 281474976710656 then ((some (ZY (shl .i64 1 a0 : Int).toNat false : List Bool)).bind fun ah => (fD.l0 k a1 (ah.length : Int) 0 a0 ah)) else (none)) else (none)) else (none)) = some (r1, r2) := h
 clear h
 by_cases c3 : 0 ≤ a0
 rotate_left
 ·rw [if_neg c3] at H
  exact absurd H (by simp)
 rw [if_pos c3] at H
 have bc := eq_true c3
 have bf := decide_eq_true c3
 clear c3
 obtain ⟨am0, ap⟩ : ∃ j_ : Int, (shl .i64 1 a0) = j_ := ⟨_, rfl⟩
 replace H : (if 0 ≤ (am0) then (if (am0 : Int).toNat ≤ 281474976710656 then ((some (ZY (am0 : Int).toNat false : List Bool)).bind fun ah => (fD.l0 k a1 (ah.length : Int) 0 a0 ah)) else (none)) else (none)) = some (r1, r2) := by first | (rw [ap] at H; exact H) | (simp only [ap] at H ⊢; exact H)
 have hji4_ : (IntKind.i64.wrap (1 * 2 ^ min a0.toNat 64)) = am0 := ap
 have hji4z : a0 ≤ 64 → (IntKind.i64.wrap (1 * 2 ^ a0.toNat)) = am0 := shl_small ap
 have hji4u : (IntKind.i64.wrap (2 ^ min a0.toNat 64)) = am0 := by have h_ := hji4_; rw [Z1] at h_; exact h_
 have hji4v : a0 ≤ 64 → (IntKind.i64.wrap (2 ^ a0.toNat)) = am0 := fun hle_ => by have h_ := hji4z hle_; rw [Z1] at h_; exact h_
 have hji4y : (Zb (1 * 2 ^ min a0.toNat 64)) = am0 := (i64_w _).symm.trans hji4_
 have hji4x : a0 ≤ 64 → (Zb (1 * 2 ^ a0.toNat)) = am0 := fun h_ => (i64_w _).symm.trans (hji4z h_)
 by_cases c5 : 0 ≤ (am0)
 rotate_left
 ·rw [if_neg c5] at H
  exact absurd H (by simp)
 rw [if_pos c5] at H
 have bg := eq_true c5
 have bh := decide_eq_true c5
 clear c5
 by_cases c6 : (am0 : Int).toNat ≤ 281474976710656
 rotate_left
 ·rw [if_neg c6] at H
  exact absurd H (by simp)
 rw [if_pos c6] at H
 have bi := eq_true c6
 have bj := decide_eq_true c6
 clear c6
 obtain ⟨ah, aj⟩ : ∃ y_ : List Bool, y_ = (ZY (am0 : Int).toNat false) := ⟨_, rfl⟩
 replace H : (fD.l0 k a1 (ah.length : Int) 0 a0 ah) = some (r1, r2) := by first | (rw [aj]; with_reducible exact H) | (have H2_ := (Zk _ _).symm.trans H; rw [aj]; with_reducible exact H2_) | (have H2_ := (Zk _ _).symm.trans H; with_reducible exact H2_) | with_reducible exact H | (rw [aj]; exact H) | exact H
 have ax := Za aj
 clear aj
 have H' := Za H
 clear H
 go_enter Tryz.func75, Tryz.ntmps75
 go_wp2_with (first | ((with_reducible refine Zo (N := 4) rfl ?_); refine xE (N := 4) (cs := #[.int .i64 0, .slice none 0 0]) (t := 53) ?_; intro an0 hg w7 ac hb; have bw := gS hg HB; have aC := gS hg HB; replace HB := sB HB hb; clear hb hg) | ((with_reducible refine Zo (N := 10) rfl ?_); refine Kd.R_make Kd.bool _ 4 rfl (N := 10) rfl 51 _ _ rfl am0 rfl rfl Tryz.underlying51 (.bool false) 1 info4 rfl (by decide) (by omega) false (ok := fun _ => True) (okp := fun _ => True) rfl (fun _ hk => hk) trivial (oD) (Nat.le_trans (Nat.mul_le_mul_right _ (oD : am0.toNat ≤ 281474976710656)) (by omega)) (Zq _ _) (Ze _) ?_; intro bH w8 aD hb hg_ hnew_; clear hg_ hnew_; (first | rw [← ax.out] at aD | (simp only [Int.reduceToNat] at aD; rw [← ax.out] at aD)); have ao := Za (Kd.R_lower aD (ZM HB.out)); replace ac := bB ac hb; replace HB := sB HB hb; clear hb aD; obtain ⟨aE, aG, bl⟩ := ZF ao.out; subst bl) | ((with_reducible refine Zo (N := 5) rfl ?_); refine xE (N := 5) (cs := #[.int .i64 0, .slice none 0 0]) (t := 53) ?_; intro ak hg bK ae hb; have bx := gS hg HB; have aH := gS hg HB; have ag := nL hg (ZG ac.out); have ai := nG hg (ZG ac.out); replace ao := rB ao hb; replace ac := bB ac hb; replace HB := sB HB hb; clear hb hg; have bz := ai.out; have bA := ag.out; obtain ⟨aq, au, av, aw⟩ := zZ ae))
 go_loopg [15] k (fun kq bI w' => ∃ (af : Int) (ab : List Bool) (u106001 : ZA), bI = .int .i64 af ∧ Zc (fD.l0 kq a1 (ah.length : Int) af a0 ab = some (r1, r2)) ∧ Zc (kq ≤ k) ∧ Zc (Kd.R Kd.bool 4 w' w.heap.size (fun _ => True) u106001 ab) ∧ Zc (w'.heap[an0]? = some (.cells #[.int .i64 0, (.slice none 0 0)] 53 (0, 0))) ∧ Zc (w'.heap[ak]? = some (.cells #[.int .i64 a0, u106001] 53 (0, 0))) ∧ Zc (Zr w.heap.size w w'))
 case atStart => exact ⟨(0), (ah), (.slice aE ah.length aG), gR, H', ⟨Ze _⟩, ⟨by exact ZK (ZC (p := ⟨ak, 1, none⟩) (ZC (p := ⟨ak, 0, none⟩) (ZJ ao.out ae.out (by decide)) (fun _ hk => hk.2) (.int .i64 a0)) (fun _ hk => hk.2) (.slice aE ah.length aG)) (fun _ hk => trivial)⟩, ⟨by refine Zw ?_ ag.out _; refine Zw ?_ ag.out _; exact ac.out⟩, ⟨by refine Zj (cs := #[.int .i64 a0, .slice none 0 0]) ?_ 1 _ rfl; refine Zj (cs := #[.int .i64 0, .slice none 0 0]) ?_ 0 _ rfl; exact ae.out⟩, ⟨wB⟩⟩
 case round =>
  clear H'
  (try clear c1); (try clear p2); (try clear c3); (try clear bc); (try clear bf); (try clear c5); (try clear bg); (try clear bh); (try clear c6); (try clear bi); (try clear bj); (try clear p6); (try clear bL); (try clear aq); (try clear au); (try clear av); (try clear aw)
  obtain ⟨af, ab, u106001, rfl, HA, HK1, aa, ac, ae, HB⟩ := hrel
  cases gk with
  | zero => exact absurd HA.out (by simp [fD.l0])
  | succ k1 =>
   have H := HA.out
   clear HA
   simp only [fD.l0] at H
   by_cases aA : af < (ah.length : Int)
   rotate_left
   ·rw [if_neg aA] at H
    have aI : decide (af < (ah.length : Int)) = false := decide_eq_false aA
    clear aA
    simp only [Zl, Zt] at H
    obtain ⟨rfl, rfl⟩ := H
    have bC := ai.out
    have bE := ag.out
    obtain ⟨aU, aV, aW, aX⟩ := zZ ae
    obtain ⟨aY, aZ, a6, a7⟩ := zZ ac
    obtain ⟨aJ, aK, bm⟩ := ZF aa.out
    subst bm
    go_wp2
    refine Zz (results_cell_row rfl _ _ an0 53 #[.int .i64 a0, .slice aJ ab.length aK] (0, 0) _ rfl (by refine Zj (cs := #[.int .i64 a0, .slice none 0 0]) ?_ 1 _ rfl; refine Zj (cs := #[.int .i64 0, .slice none 0 0]) ?_ 0 _ rfl; exact ac.out) Tryz.underlying53 rfl (by kernel_rfl)) rfl ?_
    exact ⟨_, by first | rfl | (simp <;> rfl) | (simp only [← ap]; first | rfl | (simp <;> rfl)) | (simp [*] <;> rfl), by exact ZK (ZC (p := ⟨an0, 1, none⟩) (ZC (p := ⟨an0, 0, none⟩) (ZJ aa.out ac.out (by decide)) (fun _ hk => hk.2) (.int .i64 a0)) (fun _ hk => hk.2) (.slice aJ ab.length aK)) (fun _ hk => trivial), wB⟩
   rw [if_pos aA] at H
   have aI := decide_eq_true aA
   clear aA
   replace H := oA H
   obtain ⟨ay, bJ, H⟩ := H
   (try dsimp only at H)
   by_cases a8 : 0 ≤ af
   rotate_left
   ·rw [if_neg a8] at H
    exact absurd H (by simp)
   rw [if_pos a8] at H
   have bF := decide_eq_true a8
   clear a8
   by_cases bb : af < (ab.length : Int)
   rotate_left
   ·rw [if_neg bb] at H
    exact absurd H (by simp)
   rw [if_pos bb] at H
   have bG := decide_eq_true bb
   clear bb
   obtain ⟨aM, al⟩ : ∃ y_ : List Bool, y_ = (ab.set (af : Int).toNat ay) := ⟨_, rfl⟩
   replace H : (fD.l0 k1 a1 (ah.length : Int) (Zb (af + 1)) a0 aM) = some (r1, r2) := by first | (rw [al]; with_reducible exact H) | (have H2_ := (Zk _ _).symm.trans H; rw [al]; with_reducible exact H2_) | (have H2_ := (Zk _ _).symm.trans H; with_reducible exact H2_) | with_reducible exact H | (rw [al]; exact H) | exact H
   have aN := Za al
   clear al
   have H' := Za H
   clear H
   try go_wp2
   replace aa := rD aa
   replace ac := bD ac
   replace ae := bD ae
   replace HB := Za (below_drew1 HB.out)
   refine start_ (n := 8) (S := fun w' => w'.cell? ⟨ak, 0, none⟩ = some (.int .i64 a0) ∧ w'.cell? ⟨ak, 1, none⟩ = some (u106001)) (ds := [7]) #[F,F,F,F,F,F,F,F] (by kernel_rfl) rfl rfl ⟨(Zf ae.out 0).trans rfl, (Zf ae.out 1).trans rfl⟩ (fun hHeld => ?_); refine with_tabW fD.tab5 fD.bits5 (fun HT_ HW_ => ?_)
   generalize wr.drew = bM at aa ac ae HB hHeld ⊢
   refine pU 0 HT_ ?_
   refine pU 2 HT_ ?_
   refine pU 3 HT_ ?_
   refine pU 4 HT_ ?_
   refine tK 1 HT_ HW_ hHeld (hy := by rintro w' ⟨s0, s1⟩; go_simp; with_reducible rfl) ?_
   refine oN 5 HT_ (fun K hK => ?_)
   refine goesF_ (g := g) (lb := lb) eg #[.int .i64 af] (by rfl) rfl rfl rfl (by (try simp only [mA, mC, mN]); first | done | rfl) ?_
   refine (HP.out _ af ay HB.out bJ.out).mono ?_
   rintro e bN ⟨rfl, hb⟩
   refine ⟨_, rfl, ?_⟩
   replace aa := rB aa hb
   replace ac := bB ac hb
   replace ae := bB ae hb
   replace HB := sB HB hb
   (try clear hb)
   (try clear hb2)
   (try clear hk)
   (try clear hi)
   have bn : 0 ≤ (af : Int) := oD
   have bo : (af : Int) < ((ab.length : Int) : Int) := oD
   obtain ⟨bq, br, aQ, aT, gl18, cl18, HG18⟩ := Kd.R_form aa.out (by omega)
   (first | cases aQ | (injection aQ with ea_ en_ ec_; (first | subst ea_ | (injection ea_ with ea_; subst ea_)); subst ec_; clear en_))
   have GB18 := Za aT
   have GG18 := Za HG18
   clear aT gl18 HG18
   obtain ⟨bt, bu⟩ := Kd.R_celln false aa.out (af : Int) bn bo
   replace bn := eq_true bn
   replace bo := eq_true bo
   have az := Kd.R_putn aa.out (af : Int) ay
   rw [← aN.out] at az
   have bv := Za az
   clear az
   refine hK.out _ _ ⟨(Zf ae.out 0).trans rfl, (Zf ae.out 1).trans rfl⟩ (fun hHeld => ?_)
   clear hK K
   refine nM ?_
   refine pU 6 HT_ ?_
   refine last_ (i := 7) (N := none) #[T,T,T,T,T,T,T,T] rfl rfl (one_of HT_.out (by kernel_rfl)) (by decide) (fun K hK => ?_)
   refine skip_ (w1 := ?_) (by rfl) rfl ?_ ?_
   rotate_left
   ·go_simp
    rfl
   refine hK.out _ _ ?_
   clear hK K
   refine done_ (done_of HT_.out (by kernel_rfl)) ?_
   try go_wp2
   go_roundg k1
   case measure => have := HK1.out; omega
   case rel => exact ⟨(Zb (af + 1)), (aM), (.slice (some ⟨bq, 0, none⟩) ab.length br), gR, H', ⟨by have := HK1.out; omega⟩, ⟨by exact bv.out⟩, ⟨by refine Zw ?_ (by have h_ := ZO aa.out ac.out (by decide); intro e_; exact h_ (by rw [e_]; rfl)) _; exact ac.out⟩, ⟨by refine Zw ?_ (by have h_ := ZO aa.out ae.out (by decide); intro e_; exact h_ (by rw [e_]; rfl)) _; exact ae.out⟩, ⟨by repeat (first | (with_reducible first | exact HB.out | apply ba | apply bd | apply be | refine bs ?_ GB18.out | refine bs ?_ aC.out | refine bs ?_ aH.out) | exact HB.out)⟩⟩
def gQ.f (k : Nat) (a0 : Int) (l0 : List Int) (m : Int) : Option Bool := (fI.f k a0 l0 m).bind fun s => some (decide (a0 ≤ s))
def fF.f (k : Nat) (ab : Int) (aa : List Int) : Option (Int × List Bool) := fD.f k (aa.length : Int) (gQ.f k ab aa)
theorem gQ.clo (k : Nat) (m q : Int) (A : Option Addr) (c : Nat) (l : List Int) (B : Nat) (b : Bool) (W : Zu) (hlt : B < W.heap.size) (h0 : W.cell? ⟨B, 0, none⟩ = some (.int .i64 q)) (h1 : W.cell? ⟨B, 1, none⟩ = some (.slice A l.length c))
  (hr : Kd.C (Zp .i64) W A l.length l) (hc : l.length ≤ c) (h : gQ.f k q l m = some b) :
  ZD Tryz.prog 76 #[.int .i64 m, .pointer (some ⟨B, 0, none⟩)] W fun e W' => e = .returned (.bool b) ∧ Zr W.heap.size W W' := by
 obtain ⟨s, hs, hb⟩ := oB h
 obtain rfl := Zd hb
 have HS := Za hs
 have HR := Za hr
 have HC := Za hc
 have HLT := Za hlt
 clear h hb hs hr hc hlt
 have hd0 : W.drew.cell? ⟨B, 0, none⟩ = some (.int .i64 q) := h0
 have hd1 : W.drew.cell? ⟨B, 1, none⟩ = some (.slice A l.length c) := h1
 have HD0 := Za hd0
 have HD1 := Za hd1
 clear hd0 hd1
 have HZ := Za (show W.drew.heap.size = W.heap.size from rfl)
 go_enter Tryz.func76, Tryz.ntmps76
 go_wp2
 go_region_held3 (fun w' => w'.cell? ⟨B, 0, none⟩ = some (.int .i64 q) ∧ w'.cell? ⟨B, 1, none⟩ = some (.slice A l.length c)) (first | exact ⟨k0, k1⟩ | go_keep)
  (first | (go_at_call 51; refine (fI.calls k q A c l m s _ (Kd.C_drew HR.out) HC.out HS.out).mono ?_; rintro e w' ⟨rfl, hb⟩; have k0 := (hb.cell (p := ⟨B, 0, none⟩) (by rw [HZ.out]; exact HLT.out)).trans HD0.out; have k1 := (hb.cell (p := ⟨B, 1, none⟩) (by rw [HZ.out]; exact HLT.out)).trans HD1.out; have HBN := Za hb; clear hb))
 go_wp2
 go_ret
 exact ⟨rfl, (below_drew1 (Zq _ _)).trans (HBN.out.mono (by rw [HZ.out]; exact Ze _))⟩
theorem fF.calls (k : Nat) (ab : Int) (ac : Option Addr) (ae : Nat) (aa : List Int) (r1 : Int) (r2 : List Bool) (w : Zu) (af : Kd.C (Zp .i64) w ac aa.length aa) (ag : aa.length ≤ ae) (h : fF.f k ab aa = some (r1, r2)) :
  ZD Tryz.prog 40 #[.agg #[.int .i64 ab, .slice ac aa.length ae]] w fun e w' => ∃ v1_ : ZA, e = .returned (.agg #[.int .i64 r1, v1_]) ∧ Kd.R Kd.bool 4 w' w.heap.size (fun _ => True) v1_ r2 ∧ Zr w.heap.size w w' := by
 have eg : ∀ args w, (Z8 76 args).run Tryz.prog w = .ok (.enter 76 args) w := enters_of Tryz.func76 (by kernel_rfl) rfl
 have hmf : ∀ (fn : Fn) (first cap : Array ZA) (w : Zu), (Instr.makeFunc fn first cap).run Tryz.prog w = .ok (.func fn first cap) w := fun _ _ _ _ => rfl
 have huC := Tryz.underlying24
 have huV := Tryz.underlying53
 have HR := Za af
 have HC := Za ag
 have H := Za h
 clear af ag h
 go_enter Tryz.func40, Tryz.ntmps40
 go_wp2_with fail
 have hB2 : Zr w.heap.size w ((w.alloc (.cells #[.int .i64 ab, .slice ac aa.length ae] 24)).alloc (.cells #[.int .i64 0, .slice none 0 0] 53)) := ((Zq _ _).alloc (Ze _) _).alloc (by simp) _
 refine (fD.hof k (aa.length : Int) (gQ.f k ab aa) 76 #[.pointer (some ⟨w.heap.size, 0, none⟩)] r1 r2 _ eg ?_ H.out).mono ?_
 ·intro W x b hb hx
  have hlt : w.heap.size < W.heap.size := Nat.lt_of_lt_of_le (by simp; omega) hb.size
  refine gQ.clo k x ab ac ae aa w.heap.size b W hlt ?_ ?_ (Zm HR.out (hB2.trans (hb.mono hB2.size))) HC.out hx
  ·rw [hb.cell (p := ⟨w.heap.size, 0, none⟩) (by simp; omega)]
   simp [go_sem]
  rw [hb.cell (p := ⟨w.heap.size, 1, none⟩) (by simp; omega)]
  simp [go_sem]
 rintro e w' ⟨v1, rfl, hown, hb⟩
 obtain ⟨A1, c1, rfl⟩ := ZF hown
 have HBN := Za (hB2.trans (hb.mono hB2.size))
 have hsz : (w.alloc (.cells #[.int .i64 ab, .slice ac aa.length ae] 24)).heap.size = w.heap.size + 1 := by simp
 have hw2 := blk_new (w.alloc (.cells #[.int .i64 ab, .slice ac aa.length ae] 24)) (.cells #[.int .i64 0, .slice none 0 0] 53)
 rw [hsz] at hw2
 have BK := Za (blk_below hw2 hb)
 have HO := Za (Kd.R_lower hown hB2.size)
 have hc0 := (Zf BK.out 0).trans rfl
 have hc1 := (Zf BK.out 1).trans rfl
 have ah := blk_frozen BK.out 0
 have ai := blk_frozen BK.out 1
 clear hown hw2 hb hB2 hsz
 go_wp2
 refine Zz (results_cell_row rfl _ _ (w.heap.size + 1) 53 #[.int .i64 r1, .slice A1 r2.length c1] (0, 0) _ rfl (by refine Zj (cs := #[.int .i64 r1, .slice none 0 0]) ?_ 1 _ rfl; refine Zj (cs := #[.int .i64 0, .slice none 0 0]) ?_ 0 _ rfl; exact BK.out) Tryz.underlying53 rfl (by kernel_rfl)) rfl ?_
 exact ⟨_, rfl, ZK (ZC (p := ⟨w.heap.size + 1, 1, none⟩) (ZC (p := ⟨w.heap.size + 1, 0, none⟩) (ZJ HO.out BK.out (by decide)) (fun _ hk => hk.2) (.int .i64 r1)) (fun _ hk => hk.2) (.slice A1 r2.length c1)) (fun _ _ => trivial), below_set (below_set HBN.out (Nat.le_succ _)) (Nat.le_succ _)⟩
mutual
def fv.l0 : Nat → Int → Int → List Bool → Int → Int → Int → List Int → Option (Int × Int)
 | 0, _, _, _, _, _, _, _ => none
 | k + 1, x7, x8, ae, af, ac, aa, ab => if ac < af then (if 0 ≤ ac then (if ac < (ae.length : Int) then ((fI.f k aa ab ac).bind fun ag => (if rdOf false ae ac = true then (if x7 < 0 then (fv.j1 k x7 x8 (rdOf false ae ac) ag ae af ac true aa ab) else (fv.j1 k x7 x8 (rdOf false ae ac) ag ae af ac (decide (ag < x7)) aa ab)) else (fv.j1 k x7 x8 (rdOf false ae ac) ag ae af ac false aa ab))) else (none)) else (none)) else (some (x7, x8))
def fv.j1 : Nat → Int → Int → Bool → Int → List Bool → Int → Int → Bool → Int → List Int → Option (Int × Int)
 | 0, _, _, _, _, _, _, _, _, _, _ => none
 | k + 1, x7, x8, ai, ah, ae, af, ac, aj, aa, ab => if aj = true then (if ai = true then (fv.l0 k ah x8 ae af (Zb (ac + 1)) aa ab) else (fv.l0 k ah (mx x8 ah) ae af (Zb (ac + 1)) aa ab)) else (if ai = true then (fv.l0 k x7 x8 ae af (Zb (ac + 1)) aa ab) else (fv.l0 k x7 (mx x8 ah) ae af (Zb (ac + 1)) aa ab))
end
def fv.f (k : Nat) (ab : Int) (aa : List Bool) (l1 : List Int) : Option (Int × Int) := fv.l0 k (-1) (-1) aa (aa.length : Int) 0 0 l1
theorem fv.calls (k : Nat) (av : Int) (aH : Option Addr) (aw : Nat) (ae : List Bool) (A1 : Option Addr) (c1 : Nat) (l1 : List Int) (r1 : Int) (r2 : Int) (w : Zu) (aU : Kd.C Kd.bool w aH ae.length ae) (aV : ae.length ≤ aw) (hr1 : Kd.C (Zp .i64) w A1 l1.length l1) (hc1 : l1.length ≤ c1) (h : fv.f k av ae l1 = some (r1, r2)) :
  ZD Tryz.prog 41 #[.agg #[.int .i64 av, .slice aH ae.length aw], .slice A1 l1.length c1] w fun e w' => e = .returned (.tuple #[.int .i64 r1, .int .i64 r2]) ∧ Zr w.heap.size w w' := by
 have hu53 := Tryz.underlying53
 have hu24 := Tryz.underlying24
 have bc := Za aU
 have br := Za aV
 clear aU aV
 have bC := Za hr1
 have bE := Za hc1
 clear hr1 hc1
 have HB := Za (Zq w.heap.size w)
 have H := h
 unfold fv.f at H
 clear h
 have H' := Za H
 clear H
 go_enter Tryz.func41, Tryz.ntmps41
 go_wp2_with (first | ((with_reducible refine Zo (N := 2) rfl ?_); refine xE (N := 2) (cs := #[.int .i64 av, .slice aH ae.length aw]) (t := 53) ?_; intro aW hg w3 ab hb; have bt := gS hg HB; have bu := gS hg HB; replace HB := sB HB hb; clear hb hg) | ((with_reducible refine Zo (N := 6) rfl ?_); refine xE (N := 6) (cs := #[.int .i64 0, .slice none 0 0]) (t := 24) ?_; intro aX hg w4 ac hb; have bv := gS hg HB; have bw := gS hg HB; have af := nL hg (ZG ab.out); have ak := nG hg (ZG ab.out); replace ab := bB ab hb; replace HB := sB HB hb; clear hb hg; have bF := ak.out; have bG := af.out; obtain ⟨ax, ay, az, aA⟩ := zZ ac; obtain ⟨aC, aD, aE, aG⟩ := zZ ab))
 go_loopg [7, 8, 17] k (fun kq v7 v8 bH w' => ∃ (aj : Int) (ag : Int) (aa : Int), v7 = .int .i64 aj ∧ v8 = .int .i64 ag ∧ bH = .int .i64 aa ∧ Zc (fv.l0 kq aj ag ae (ae.length : Int) aa 0 l1 = some (r1, r2)) ∧ Zc (kq ≤ k) ∧ Zc (w'.heap[aW]? = some (.cells #[.int .i64 av, (.slice aH ae.length aw)] 53 (0, 0))) ∧ Zc (w'.heap[aX]? = some (.cells #[.int .i64 0, (.slice A1 l1.length c1)] 24 (0, 0))) ∧ Zc (Zr w.heap.size w w'))
 case atStart => exact ⟨((-1)), ((-1)), (0), gR, gR, gR, H', ⟨Ze _⟩, ⟨by refine Zw ?_ af.out _; refine Zw ?_ af.out _; exact ab.out⟩, ⟨by refine Zj (cs := #[.int .i64 0, .slice none 0 0]) ?_ 1 _ rfl; refine Zj (cs := #[.int .i64 0, .slice none 0 0]) ?_ 0 _ rfl; exact ac.out⟩, ⟨wB⟩⟩
 case round =>
  clear H'
  (try clear c1); (try clear p2); (try clear c4); (try clear c5); (try clear ax); (try clear ay); (try clear aC); (try clear aD); (try clear az); (try clear aA); (try clear aE); (try clear aG)
  obtain ⟨aj, ag, aa, rfl, rfl, rfl, HA, HK1, ab, ac, HB⟩ := hrel
  cases gk with
  | zero => exact absurd HA.out (by simp [fv.l0])
  | succ k1 =>
   have H := HA.out
   clear HA
   simp only [fv.l0] at H
   by_cases c8 : aa < (ae.length : Int)
   rotate_left
   ·rw [if_neg c8] at H
    have bf : decide (aa < (ae.length : Int)) = false := decide_eq_false c8
    clear c8
    simp only [Zl, Zt] at H
    obtain ⟨rfl, rfl⟩ := H
    go_wp2
    go_ret2
    exact ⟨fR, wB⟩
   rw [if_pos c8] at H
   have bf := decide_eq_true c8
   clear c8
   by_cases c9 : 0 ≤ aa
   rotate_left
   ·rw [if_neg c9] at H
    exact absurd H (by simp)
   rw [if_pos c9] at H
   have bo := decide_eq_true c9
   clear c9
   by_cases bg : aa < (ae.length : Int)
   rotate_left
   ·rw [if_neg bg] at H
    exact absurd H (by simp)
   rw [if_pos bg] at H
   have bh := decide_eq_true bg
   clear bg
   replace H := oA H
   obtain ⟨ah, bI, H⟩ := H
   (try dsimp only at H)
   have aI := Za H
   clear H
   have aJ : 0 ≤ (aa : Int) := oD
   have aK : aa < (ae.length : Int) := oD
   obtain ⟨bi, bq, ai⟩ := Kd.at_bool bc.out aa aJ aK
   cases bq
   replace ai := (HB.out.cell (Zh w _ ai)).trans ai
   replace aJ := eq_true aJ
   replace aK := eq_true aK
   have bx := ak.out
   have bz := af.out
   obtain ⟨aM, aN, aQ, aT⟩ := zZ ac
   go_upto_region 7 with (first | ((with_reducible refine Zn (f := 51) rfl ?_); refine gL 24 Tryz.func51 #[.agg #[.int .i64 0, .slice A1 l1.length c1], .int .i64 aa] ?_; (with_reducible refine (fI.calls k1 0 _ _ l1 aa ah _ (Zm bC.out HB.out) bE.out bI.out).mono ?_); rintro e bL ⟨rfl, hb⟩; refine ⟨_, rfl, ?_⟩; replace ab := bB ab hb; replace ac := bB ac hb; replace HB := sB HB hb; (try clear hb)))
   (try simp only [Ye, sA, sZ, sS])
   obtain ⟨am0, ao⟩ : ∃ b_ : Bool, b_ = (rdOf false ae aa) := ⟨_, rfl⟩
   rw [← ao] at aI
   (try rw [← ao])
   have bA := Za ao
   clear ao
   go_cut [34] (fun bJ wc => ∃ (kq : Nat) (al : Bool), bJ = .bool al ∧ Zc (fv.j1 kq aj ag am0 ah ae (ae.length : Int) aa al 0 l1 = some (r1, r2)) ∧ Zc (kq ≤ k1) ∧ Zc (wc.heap[aW]? = some (.cells #[.int .i64 av, (.slice (some bi) ae.length aw)] 53 (0, 0))) ∧ Zc (wc.heap[aX]? = some (.cells #[.int .i64 0, (.slice A1 l1.length c1)] 24 (0, 0))) ∧ Zc (Zr w.heap.size w wc))
   case first =>
    have H := aI.out
    clear aI
    by_cases bj : am0 = true
    rotate_left
    ·replace bj := Bool.eq_false_iff.mpr bj
     subst bj
     replace H := iF H
     have H' := Za H
     clear H
     go_wp2
     go_meet
     case rel => exact ⟨_, (false), gR, H', ⟨oN'⟩, ⟨by exact ab.out⟩, ⟨by exact ac.out⟩, ⟨wB⟩⟩
    subst bj
    replace H := iT H
    by_cases aZ : aj < 0
    ·rw [if_pos aZ] at H
     have aY := decide_eq_true aZ
     clear aZ
     have H' := Za H
     clear H
     go_wp2
     go_meet
     case rel => exact ⟨_, (true), gR, H', ⟨oN'⟩, ⟨by exact ab.out⟩, ⟨by exact ac.out⟩, ⟨wB⟩⟩
    rw [if_neg aZ] at H
    have aY : decide (aj < 0) = false := decide_eq_false aZ
    clear aZ
    have H' := Za H
    clear H
    go_wp2
    go_meet
    case rel => exact ⟨_, (decide (ah < aj)), gR, H', ⟨oN'⟩, ⟨by exact ab.out⟩, ⟨by exact ac.out⟩, ⟨wB⟩⟩
   case rest =>
    clear aI
    (try clear c1); (try clear p1); (try clear q1); (try clear bM); (try clear p2); (try clear c4); (try clear c5); (try clear c8); (try clear bf); (try clear c9); (try clear bo); (try clear bg); (try clear bh); (try clear bN); (try clear bO); (try clear bK); (try clear bR); (try clear bS); (try clear bj); (try clear aZ); (try clear aY); (try clear aM); (try clear aN); (try clear ax); (try clear ay); (try clear aC); (try clear aD); (try clear aQ); (try clear aT); (try clear az); (try clear aA); (try clear aE); (try clear aG); (try clear ai); (try clear aJ); (try clear p2); (try clear aK)
    obtain ⟨kq, al, rfl, HA, an0, ab, ac, HB⟩ := hcut
    cases kq with
    | zero => exact absurd HA.out (by simp [fv.j1])
    | succ au =>
     have H := HA.out
     clear HA
     simp only [fv.j1] at H
     by_cases bn : al = true
     ·subst bn
      replace H := iT H
      by_cases a8 : am0 = true
      ·rw [if_pos a8] at H
       have bl : am0 = true := a8
       clear a8
       have H' := Za H
       clear H
       go_wp2
       go_roundg au
       case measure => have := HK1.out; have := an0.out; omega
       case rel => exact ⟨(ah), (ag), (Zb (aa + 1)), gR, gR, gR, H', ⟨by have := HK1.out; have := an0.out; omega⟩, ⟨by exact ab.out⟩, ⟨by exact ac.out⟩, ⟨wB⟩⟩
      rw [if_neg a8] at H
      have bl : am0 = false := by simpa using a8
      clear a8
      obtain ⟨a6, ap⟩ : ∃ j_ : Int, (mx ag ah) = j_ := ⟨_, rfl⟩
      replace H : (fv.l0 au ah a6 ae (ae.length : Int) (Zb (aa + 1)) 0 l1) = some (r1, r2) := by first | (rw [ap] at H; exact H) | (simp only [ap] at H ⊢; exact H)
      have hji22_ : (if ag < ah then ah else ag) = a6 := ap
      have H' := Za H
      clear H
      go_wp2
      go_roundg au
      case measure => have := HK1.out; have := an0.out; omega
      case rel => exact ⟨(ah), (a6), (Zb (aa + 1)), gR, (by first | rfl | (simp; done) | (simp only [← ap] <;> (first | rfl | simp)) | (simp [*]; done)), gR, H', ⟨by have := HK1.out; have := an0.out; omega⟩, ⟨by exact ab.out⟩, ⟨by exact ac.out⟩, ⟨wB⟩⟩
     replace bn := Bool.eq_false_iff.mpr bn
     subst bn
     replace H := iF H
     by_cases bb : am0 = true
     ·rw [if_pos bb] at H
      have bm : am0 = true := bb
      clear bb
      have H' := Za H
      clear H
      go_wp2
      go_roundg au
      case measure => have := HK1.out; have := an0.out; omega
      case rel => exact ⟨(aj), (ag), (Zb (aa + 1)), gR, gR, gR, H', ⟨by have := HK1.out; have := an0.out; omega⟩, ⟨by exact ab.out⟩, ⟨by exact ac.out⟩, ⟨wB⟩⟩
     rw [if_neg bb] at H
     have bm : am0 = false := by simpa using bb
     clear bb
     obtain ⟨a7, aq⟩ : ∃ j_ : Int, (mx ag ah) = j_ := ⟨_, rfl⟩
     replace H : (fv.l0 au aj a7 ae (ae.length : Int) (Zb (aa + 1)) 0 l1) = some (r1, r2) := by first | (rw [aq] at H; exact H) | (simp only [aq] at H ⊢; exact H)
     have hji25_ : (if ag < ah then ah else ag) = a7 := aq
     have H' := Za H
     clear H
     go_wp2
     go_roundg au
     case measure => have := HK1.out; have := an0.out; omega
     case rel => exact ⟨(aj), (a7), (Zb (aa + 1)), gR, (by first | rfl | (simp; done) | (simp only [← aq] <;> (first | rfl | simp)) | (simp [*]; done)), gR, H', ⟨by have := HK1.out; have := an0.out; omega⟩, ⟨by exact ab.out⟩, ⟨by exact ac.out⟩, ⟨wB⟩⟩
mutual
def ff.l0 : Nat → Int → List Int → Int → Int → Int → List Int → Option (Int × List Int × Bool)
 | 0, _, _, _, _, _, _ => none
 | k + 1, x4, aj, am0, ag, ab, aa => if ag < am0 then (if 0 ≤ ag then (if ag < (aj.length : Int) then ((gt.f k x4 (rd aj ag)).bind fun ak => (ff.l0 k ak aj am0 (Zb (ag + 1)) ab aa)) else (none)) else (none)) else (ff.l1 k x4 aa (aa.length : Int) 0 ab aa 0 ([] : List Int))
def ff.l1 : Nat → Int → List Int → Int → Int → Int → List Int → Int → List Int → Option (Int × List Int × Bool)
 | 0, _, _, _, _, _, _, _, _ => none
 | k + 1, x4, al, an0, ah, ab, aa, ae, ac => if ah < an0 then (if 0 ≤ ah then (if ah < (al.length : Int) then (if x4 = 0 then (none) else (if ac.length < 17592186044416 then (ff.l1 k x4 al an0 (Zb (ah + 1)) ab aa ae (ac ++ [Zb (Yf (rd al ah) x4)])) else (none))) else (none)) else (none)) else ((fF.f k ab aa).bind fun af => ((fv.f k af.1 af.2 ac).bind fun ai => (some (Zb (ai.2 + 1), ac, true))))
end
def ff.f (k : Nat) (ab : Int) (aa : List Int) : Option (Int × List Int × Bool) := (fd.f k ab aa).bind fun ac => (if ac = true then (ff.l0 k 0 aa (aa.length : Int) 0 ab aa) else (some (0, ([] : List Int), false)))
def ff.T13 : Bool × List (List Nat × List Nat) := (true, [([], []), ([0], [0]), ([], []), ([], []), ([2, 3], [2, 3]), ([4], [4]), ([1, 5], [1, 5]), ([0, 1, 2, 3, 4, 5, 6], []), ([7, 6, 6, 0, 1, 2, 3, 4, 5, 6], [6, 7])])
def ff.B13 : List Nat := [0, 1, 0, 0, 12, 28, 63, 127, 255]
theorem ff.tab13 : rtab .any (opsOf Tryz.f7 13) = ff.T13 := by kernel_rfl
theorem ff.bits13 : waitsOk ff.T13.2 ff.B13 = true := by kernel_rfl
def ff.T15 : Bool × List (List Nat × List Nat) := (true, [([], []), ([0], [0]), ([], []), ([2], [2]), ([1, 3, 1], [1, 3]), ([4], [4]), ([5], [5]), ([5], [5]), ([6, 4, 0, 1, 2, 3, 4, 5, 6], [6]), ([7, 8, 0, 1, 2, 3, 4, 5, 6, 7, 8], [7])])
def ff.B15 : List Nat := [0, 1, 0, 4, 15, 31, 63, 63, 127, 511]
theorem ff.tab15 : rtab .any (opsOf Tryz.f7 15) = ff.T15 := by kernel_rfl
theorem ff.bits15 : waitsOk ff.T15.2 ff.B15 = true := by kernel_rfl
theorem ff.calls (k : Nat) (an0 : Int) (az : Option Addr) (ay : Nat) (af : List Int) (r1 : Int) (r2 : List Int) (r3 : Bool) (w : Zu) (bj : Kd.C (Zp .i64) w az af.length af) (bl : af.length ≤ ay) (h : ff.f k an0 af = some (r1, r2, r3)) :
  ZD Tryz.prog 7 #[.agg #[.int .i64 an0, .slice az af.length ay]] w fun e w' => ∃ v1_ : ZA, e = .returned (.tuple #[.agg #[.int .i64 r1, v1_], .bool r3]) ∧ Kd.R (Zp .i64) 3 w' w.heap.size (fun _ => True) v1_ r2 ∧ Zr w.heap.size w w' := by
 have hu24 := Tryz.underlying24
 have aE := Za bj
 have bm := Za bl
 clear bj bl
 have HB := Za (Zq w.heap.size w)
 have H := h
 unfold ff.f at H
 clear h
 replace H := oA H
 obtain ⟨bI, A2, H⟩ := H
 (try dsimp only at H)
 have cq := Za H
 clear H
 go_enter Tryz.func7, Tryz.ntmps7
 go_upto_if 14 with (first | ((with_reducible refine Zo (N := 1) rfl ?_); refine xE (N := 1) (cs := #[.int .i64 an0, .slice az af.length ay]) (t := 24) ?_; intro ao hg w4 ab hb; have cr := gS hg HB; have bn := gS hg HB; replace HB := sB HB hb; clear hb hg) | ((with_reducible refine Zo (N := 2) rfl ?_); refine xE (N := 2) (cs := #[.int .i64 0, .slice none 0 0]) (t := 24) ?_; intro am0 hg w5 ae hb; have ct := gS hg HB; have bo := gS hg HB; have ap := nL hg (ZG ab.out); have aq := nG hg (ZG ab.out); replace ab := bB ab hb; replace HB := sB HB hb; clear hb hg; have cR := ap.out; have cS := aq.out; obtain ⟨bt, bu, bv, bw⟩ := zZ ab) | ((with_reducible refine Zn (f := 16) rfl ?_); refine gL 13 Tryz.func16 #[.agg #[.int .i64 an0, .slice az af.length ay]] ?_; (with_reducible refine (fd.calls k an0 _ _ af bI _ (Zm aE.out HB.out) bm.out A2.out).mono ?_); rintro e w8 ⟨rfl, hb⟩; refine ⟨_, rfl, ?_⟩; replace ab := bB ab hb; replace ae := bB ae hb; replace HB := sB HB hb; (try clear hb); (try clear bt bu bv bw); obtain ⟨aG, aH, aI, aJ⟩ := zZ ab))
 have H := cq.out
 clear cq
 by_cases c3 : bI = true
 rotate_left
 ·replace c3 := Bool.eq_false_iff.mpr c3
  subst c3
  replace H := iF H
  simp only [Zl, Zt] at H
  obtain ⟨rfl, rfl, rfl⟩ := H
  (try clear aM aN aQ aT aU aV aW aX)
  obtain ⟨b6, b7, b8, b9⟩ := zZ ae
  go_wp2_with (fail)
  refine Zz (ZQ rfl _ _ am0 24 #[.int .i64 0, .slice none 0 0] (0, 0) _ rfl (by refine Zj (cs := #[.int .i64 0, .slice none 0 0]) ?_ 1 _ rfl; refine Zj (cs := #[.int .i64 0, .slice none 0 0]) ?_ 0 _ rfl; exact ae.out) Tryz.underlying24 rfl (by kernel_rfl)) rfl ?_
  exact ⟨_, fR, by first | exact Kd.R_nil _ _ _ _ _ | exact Kd.N_nil _ _ _ _ _ | exact Kd.V_nil _ _ _ _ _ | exact Kd.Q_nil _ _ _ _ _ | exact Kd.S_nil _ _ _ _ _, wB⟩
 subst c3
 replace H := iT H
 have H' := Za H
 clear H
 go_wp2_with (fail)
 go_loopg [4, 19] k (fun kq v4 cT w' => ∃ (au : Int) (al : Int), v4 = .int .i64 au ∧ cT = .int .i64 al ∧ Zc (ff.l0 kq au af (af.length : Int) al an0 af = some (r1, r2, r3)) ∧ Zc (kq ≤ k) ∧ Zc (w'.heap[ao]? = some (.cells #[.int .i64 an0, (.slice az af.length ay)] 24 (0, 0))) ∧ Zc (w'.heap[am0]? = some (.cells #[.int .i64 0, (.slice none 0 0)] 24 (0, 0))) ∧ Zc (Zr w.heap.size w w'))
 case atStart => exact ⟨(0), (0), gR, gR, H', ⟨Ze _⟩, ⟨by exact ab.out⟩, ⟨by exact ae.out⟩, ⟨wB⟩⟩
 case round =>
  clear H'
  (try clear c1); (try clear p2); (try clear c3); (try clear c6); (try clear c7); (try clear aG); (try clear aH); (try clear aI); (try clear aJ)
  obtain ⟨au, al, rfl, rfl, HA, HK1, ab, ae, HB⟩ := hrel
  cases gk with
  | zero => exact absurd HA.out (by simp [ff.l0])
  | succ k1 =>
   have H := HA.out
   clear HA
   simp only [ff.l0] at H
   by_cases bx : al < (af.length : Int)
   ·rw [if_pos bx] at H
    have bq := decide_eq_true bx
    clear bx
    by_cases bJ : 0 ≤ al
    rotate_left
    ·rw [if_neg bJ] at H
     exact absurd H (by simp)
    rw [if_pos bJ] at H
    have bK := decide_eq_true bJ
    clear bJ
    by_cases bL : al < (af.length : Int)
    rotate_left
    ·rw [if_neg bL] at H
     exact absurd H (by simp)
    rw [if_pos bL] at H
    have bM := decide_eq_true bL
    clear bL
    replace H := oA H
    obtain ⟨bN, cU, H⟩ := H
    (try dsimp only at H)
    have H' := Za H
    clear H
    have aY : 0 ≤ (al : Int) := oD
    have aZ : al < (af.length : Int) := oD
    obtain ⟨cu, ck, ax⟩ := ZI aE.out al aY aZ
    cases ck
    replace ax := (HB.out.cell (Zh w _ ax)).trans ax
    replace aY := eq_true aY
    replace aZ := eq_true aZ
    go_wp2_with (first | ((with_reducible refine Zn (f := 39) rfl ?_); refine gL 25 Tryz.func39 #[.int .i64 au, .int .i64 (rd af al)] ?_; (with_reducible refine (gt.calls k1 au (rd af al) bN _ cU.out).mono ?_); rintro e w' ⟨rfl, ⟨nd, rfl⟩⟩; refine ⟨_, rfl, ?_⟩))
    go_roundg k1
    case measure => have := HK1.out; omega
    case rel => exact ⟨(bN), (Zb (al + 1)), gR, gR, H', ⟨by have := HK1.out; omega⟩, ⟨bQ ab⟩, ⟨bQ ae⟩, ⟨wB⟩⟩
   rw [if_neg bx] at H
   have bq : decide (al < (af.length : Int)) = false := decide_eq_false bx
   clear bx
   have H' := Za H
   clear H
   go_wp2_with (first | ((with_reducible refine Zo (N := 7) rfl ?_); refine xE (N := 7) (cs := #[.int .i64 0, .slice none 0 0]) (t := 24) ?_; intro aj hg dg ac hb; have cv := Za ((by rw [hg]; exact (ZM (by repeat (first | exact HB.out | apply ba | apply bd | apply be | refine bs ?_ bn.out | refine bs ?_ bo.out))) : w.heap.size ≤ aj)); have cw := Za ((by rw [hg]; exact (ZM (by repeat (first | exact HB.out | apply ba | apply bd | apply be | refine bs ?_ bn.out | refine bs ?_ bo.out))) : w.heap.size ≤ aj)); have ai := Za ((by rw [hg]; exact Nat.ne_of_lt (ZG (g := ao) (o := .cells #[.int .i64 an0, .slice az af.length ay] 24 (0, 0)) (bQ ab)) : ao ≠ aj)); have av := Za ((by rw [hg]; exact Nat.ne_of_gt (ZG (g := ao) (o := .cells #[.int .i64 an0, .slice az af.length ay] 24 (0, 0)) (bQ ab)) : aj ≠ ao)); have ah := Za ((by rw [hg]; exact Nat.ne_of_lt (ZG (g := am0) (o := .cells #[.int .i64 0, .slice none 0 0] 24 (0, 0)) (bQ ae)) : am0 ≠ aj)); have aw := Za ((by rw [hg]; exact Nat.ne_of_gt (ZG (g := am0) (o := .cells #[.int .i64 0, .slice none 0 0] 24 (0, 0)) (bQ ae)) : aj ≠ am0)); replace ab := bP ab hb; replace ae := bP ae hb; replace HB := sQ hb; clear hb hg; have cy := av.out; have cz := ai.out; have cA := aw.out; have cB := ah.out; obtain ⟨a6, a7, a8, bb⟩ := zZ ac; have cD := ap.out; have cE := aq.out; obtain ⟨bc, bf, bg, bh⟩ := zZ ab))
   go_loopg [31] k1 (fun kq cV w' => ∃ (ak : Int) (ag : List Int) (u107001 : ZA), cV = .int .i64 ak ∧ Zc (ff.l1 kq au af (af.length : Int) ak an0 af 0 ag = some (r1, r2, r3)) ∧ Zc (kq ≤ k1) ∧ Zc (Kd.R (Zp .i64) 3 w' w.heap.size (fun _ => True) u107001 ag) ∧ Zc (w'.heap[ao]? = some (.cells #[.int .i64 an0, (.slice az af.length ay)] 24 (0, 0))) ∧ Zc (w'.heap[am0]? = some (.cells #[.int .i64 0, (.slice none 0 0)] 24 (0, 0))) ∧ Zc (w'.heap[aj]? = some (.cells #[.int .i64 0, u107001] 24 (0, 0))) ∧ Zc (Zr w.heap.size w w'))
   case atStart => exact ⟨(0), (([] : List Int)), (.slice none 0 0), gR, H', ⟨Ze _⟩, ⟨by first | exact Kd.R_nil _ _ _ _ _ | exact Kd.N_nil _ _ _ _ _ | exact Kd.V_nil _ _ _ _ _ | exact Kd.Q_nil _ _ _ _ _ | exact Kd.S_nil _ _ _ _ _⟩, ⟨by (with_reducible repeat (first | refine kN ?_ _ | refine kD ?_ | refine kA ?_ _)); refine Zw ?_ ai.out _; (with_reducible repeat (first | refine kN ?_ _ | refine kD ?_ | refine kA ?_ _)); refine Zw ?_ ai.out _; (with_reducible repeat (first | refine kN ?_ _ | refine kD ?_ | refine kA ?_ _)); exact ab.out⟩, ⟨by (with_reducible repeat (first | refine kN ?_ _ | refine kD ?_ | refine kA ?_ _)); refine Zw ?_ ah.out _; (with_reducible repeat (first | refine kN ?_ _ | refine kD ?_ | refine kA ?_ _)); refine Zw ?_ ah.out _; (with_reducible repeat (first | refine kN ?_ _ | refine kD ?_ | refine kA ?_ _)); exact ae.out⟩, ⟨by (with_reducible repeat (first | refine kN ?_ _ | refine kD ?_ | refine kA ?_ _)); refine Zj (cs := #[.int .i64 0, .slice none 0 0]) ?_ 1 _ rfl; (with_reducible repeat (first | refine kN ?_ _ | refine kD ?_ | refine kA ?_ _)); refine Zj (cs := #[.int .i64 0, .slice none 0 0]) ?_ 0 _ rfl; (with_reducible repeat (first | refine kN ?_ _ | refine kD ?_ | refine kA ?_ _)); exact ac.out⟩, ⟨wB⟩⟩
   case round =>
    clear H'
    (try clear c1); (try clear p1); (try clear q1); (try clear dh); (try clear p2); (try clear c3); (try clear c6); (try clear p6); (try clear c7); (try clear bx); (try clear bq); (try clear di); (try clear dj); (try clear cW); (try clear bJ); (try clear bK); (try clear bL); (try clear bM); (try clear dl); (try clear dm); (try clear dn); (try clear a6); (try clear a7); (try clear bc); (try clear bf); (try clear aG); (try clear aH); (try clear a8); (try clear bb); (try clear bg); (try clear bh); (try clear aI); (try clear aJ); (try clear ax); (try clear aY); (try clear p2); (try clear aZ)
    obtain ⟨ak, ag, u107001, rfl, HA, HK2, aa, ab, ae, ac, HB⟩ := hrel
    cases gk with
    | zero => exact absurd HA.out (by simp [ff.l1])
    | succ k2 =>
     have H := HA.out
     clear HA
     simp only [ff.l1] at H
     by_cases bH : ak < (af.length : Int)
     rotate_left
     ·rw [if_neg bH] at H
      have bO : decide (ak < (af.length : Int)) = false := decide_eq_false bH
      clear bH
      replace H := oB H
      obtain ⟨⟨bz, bA⟩, bR, H⟩ := H
      (try dsimp only at H)
      have cX := Za bR
      clear bR
      replace H := oB H
      obtain ⟨⟨cl, aK⟩, bS, H⟩ := H
      (try dsimp only at H)
      have cY := Za bS
      clear bS
      simp only [Zl, Zt] at H
      obtain ⟨rfl, rfl, rfl⟩ := H
      try go_wp2
      replace aa := rD aa
      replace ab := bD ab
      replace ae := bD ae
      replace ac := bD ac
      replace HB := Za (below_drew1 HB.out)
      refine start_ (n := 10) (S := fun w' => w'.cell? ⟨ao, 0, none⟩ = some (.int .i64 an0) ∧ w'.cell? ⟨ao, 1, none⟩ = some (.slice az af.length ay) ∧ w'.cell? ⟨aj, 0, none⟩ = some (.int .i64 0) ∧ w'.cell? ⟨aj, 1, none⟩ = some (u107001)) (ds := []) #[F,F,F,F,F,F,F,F,F,F] (by kernel_rfl) rfl rfl ⟨(Zf ab.out 0).trans rfl, (Zf ab.out 1).trans rfl, (Zf ac.out 0).trans rfl, (Zf ac.out 1).trans rfl⟩ (fun hHeld => ?_); refine with_tabW ff.tab15 ff.bits15 (fun HT_ HW_ => ?_)
      generalize wr.drew = dp at aa ab ae ac HB hHeld ⊢
      refine pU 2 HT_ ?_
      refine tK 0 HT_ HW_ hHeld (hy := by rintro w' ⟨s0, s1, s2, s3⟩; go_simp; with_reducible rfl) ?_
      refine tK 3 HT_ HW_ hHeld (hy := by rintro w' ⟨s0, s1, s2, s3⟩; go_simp; with_reducible rfl) ?_
      refine oN 1 HT_ (fun K hK => ?_)
      refine gE Tryz.func40 #[.agg #[.int .i64 an0, .slice az af.length ay]] ?_
      with_reducible refine (fF.calls k2 an0 _ _ af bz bA _ (Zm aE.out HB.out) bm.out cX.out).mono ?_
      rintro e dq ⟨db, rfl, cF, hb⟩
      refine ⟨_, rfl, ?_⟩
      have aC := Za (Kd.R_lower cF (ZM HB.out))
      replace aa := rB aa hb
      replace ab := bB ab hb
      replace ae := bB ae hb
      replace ac := bB ac hb
      replace HB := sB HB hb
      (try clear hb)
      (try clear hb2)
      (try clear hk)
      (try clear hi)
      (try clear cF)
      obtain ⟨cm, cn, bT⟩ := ZF aC.out
      (first | subst bT | (injection bT with f1_ f2_ f3_; have f4_ := f1_.symm; have f5_ := f3_.symm; clear f1_ f2_ f3_; subst f4_; subst f5_))
      obtain ⟨bC, bE, bU⟩ := ZF aa.out
      (first | subst bU | (injection bU with f1_ f2_ f3_; have f4_ := f1_.symm; have f5_ := f3_.symm; clear f1_ f2_ f3_; subst f4_; subst f5_))
      refine hK.out _ _ ⟨(Zf ab.out 0).trans rfl, (Zf ab.out 1).trans rfl, (Zf ac.out 0).trans rfl, (Zf ac.out 1).trans rfl⟩ (fun hHeld => ?_)
      clear hK K
      refine nM ?_
      refine oN 4 HT_ (fun K hK => ?_)
      refine gE Tryz.func41 #[.agg #[.int .i64 bz, .slice cm bA.length cn], .slice bC ag.length bE] ?_
      with_reducible refine (fv.calls k2 bz _ _ bA _ _ ag cl aK _ ?side1 ?side2 ?side3 ?side4 cY.out).mono ?_
      (case side1 => have hx_ := (ZP aC.out).2.2; exact cC)
      (case side2 => exact (ZP aC.out).2.1)
      (case side3 => have hx_ := (ZP aa.out).2.2; exact cC)
      (case side4 => exact (ZP aa.out).2.1)
      rintro e dr ⟨rfl, hb⟩
      refine ⟨_, rfl, ?_⟩
      replace aa := rB aa hb
      replace aC := rB aC hb
      replace ab := bB ab hb
      replace ae := bB ae hb
      replace ac := bB ac hb
      replace HB := sB HB hb
      (try clear hb)
      (try clear hb2)
      (try clear hk)
      (try clear hi)
      refine hK.out _ _ ⟨(Zf ab.out 0).trans rfl, (Zf ab.out 1).trans rfl, (Zf ac.out 0).trans rfl, (Zf ac.out 1).trans rfl⟩ (fun hHeld => ?_)
      clear hK K
      refine nM ?_
      refine pU 5 HT_ ?_
      refine pU 6 HT_ ?_
      refine pU 7 HT_ ?_
      refine pU 8 HT_ ?_
      refine pU 9 HT_ ?_
      refine done_ (done_of HT_.out (by kernel_rfl)) ?_
      have cG := av.out
      have cH := ai.out
      have cI := aw.out
      have cJ := ah.out
      obtain ⟨aM, aN, aQ, aT⟩ := zZ ac
      have cK := aq.out
      have cL := ap.out
      obtain ⟨aU, aV, aW, aX⟩ := zZ ae
      try go_wp2
      refine Zz (ZQ rfl _ _ am0 24 #[.int .i64 (Zb (aK + 1)), .slice bC ag.length bE] (0, 0) _ rfl (by refine Zj (cs := #[.int .i64 (Zb (aK + 1)), .slice none 0 0]) ?_ 1 _ rfl; refine Zj (cs := #[.int .i64 0, .slice none 0 0]) ?_ 0 _ rfl; refine Zw ?_ ah.out _; exact ae.out) Tryz.underlying24 rfl (by kernel_rfl)) rfl ?_
      exact ⟨_, fR, by exact ZK (ZC (p := ⟨am0, 1, none⟩) (ZC (p := ⟨am0, 0, none⟩) (ZC (p := ⟨aj, 0, none⟩) (ZJ (ZJ aa.out ac.out (by decide)) ae.out (by decide)) (fun _ hk => hk.1.2) (.int .i64 (Zb (aK + 1)))) (fun _ hk => hk.2) (.int .i64 (Zb (aK + 1)))) (fun _ hk => hk.2) (.slice bC ag.length bE)) (fun _ hk => trivial), wB⟩
     rw [if_pos bH] at H
     have bO := decide_eq_true bH
     clear bH
     by_cases ca : 0 ≤ ak
     rotate_left
     ·rw [if_neg ca] at H
      exact absurd H (by simp)
     rw [if_pos ca] at H
     have cM := decide_eq_true ca
     clear ca
     by_cases cb : ak < (af.length : Int)
     rotate_left
     ·rw [if_neg cb] at H
      exact absurd H (by simp)
     rw [if_pos cb] at H
     have cN := decide_eq_true cb
     clear cb
     by_cases cd : au = 0
     ·rw [if_pos cd] at H
      exact absurd H (by simp)
     rw [if_neg cd] at H
     have cO : (au == 0) = false := beq_eq_false_iff_ne.mpr cd
     have cP : (au != 0) = true := bne_iff_ne.mpr cd
     by_cases ce : ag.length < 17592186044416
     rotate_left
     ·rw [if_neg ce] at H
      exact absurd H (by simp)
     rw [if_pos ce] at H
     have bV := Za ce
     clear ce
     obtain ⟨bi, aD⟩ : ∃ y_ : List Int, y_ = (ag ++ [Zb (Yf (rd af ak) au)]) := ⟨_, rfl⟩
     replace H : (ff.l1 k2 au af (af.length : Int) (Zb (ak + 1)) an0 af 0 bi) = some (r1, r2, r3) := by first | (rw [aD]; with_reducible exact H) | (have H2_ := (Zk _ _).symm.trans H; rw [aD]; with_reducible exact H2_) | (have H2_ := (Zk _ _).symm.trans H; with_reducible exact H2_) | with_reducible exact H | (rw [aD]; exact H) | exact H
     have bW := Za aD
     clear aD
     have H' := Za H
     clear H
     have bF : 0 ≤ (ak : Int) := oD
     have bG : ak < (af.length : Int) := oD
     obtain ⟨bX, cp, aA⟩ := ZI aE.out ak bF bG
     cases cp
     replace aA := (HB.out.cell (Zh w _ aA)).trans aA
     replace bF := eq_true bF
     replace bG := eq_true bG
     try go_wp2
     replace aa := rD aa
     replace ab := bD ab
     replace ae := bD ae
     replace ac := bD ac
     replace HB := Za (below_drew1 HB.out)
     refine start_ (n := 9) (S := fun w' => w'.cell? ⟨aj, 0, none⟩ = some (.int .i64 0) ∧ w'.cell? ⟨aj, 1, none⟩ = some (u107001)) (ds := [8]) #[F,F,F,F,F,F,F,F,F] (by kernel_rfl) rfl rfl ⟨(Zf ac.out 0).trans rfl, (Zf ac.out 1).trans rfl⟩ (fun hHeld => ?_); refine with_tabW ff.tab13 ff.bits13 (fun HT_ HW_ => ?_)
     generalize wr.drew = dt at aa ab ae ac HB hHeld ⊢
     refine pU 0 HT_ ?_
     refine pU 2 HT_ ?_
     refine pU 3 HT_ ?_
     refine pU 4 HT_ ?_
     refine tK 1 HT_ HW_ hHeld (hy := by rintro w' ⟨s0, s1⟩; go_simp; with_reducible rfl) ?_
     refine oN 5 HT_ (fun K hK => ?_)
     refine value_ (w1 := ?_) (v := ?_) (by rfl) rfl ?_ ?_
     rotate_left 2
     ·go_simp
      constructor
      ·rfl
      rfl
     refine hK.out _ _ ⟨(Zf (blk_alloc ac.out _) 0).trans rfl, (Zf (blk_alloc ac.out _) 1).trans rfl⟩ (fun hHeld => ?_)
     clear hK K
     refine nM ?_
     refine oN 6 HT_ (fun K hK => ?_)
     refine Kd.R_append_step (Zp .i64) (w0 := w) w.heap.size (by rfl) (.tmp 36) (.tmp 40) 22 3 (.int .i64 0) 8 rfl Tryz.underlying22 info3 rfl (by decide) (by omega) u107001 ag (Zb (Yf (rd af ak) au)) [.int .i64 (Zb (Yf (rd af ak) au))] (fun _ => True) (fun _ => False) rfl rfl ?aP (fun _ hk => hk.elim) ?aF ?aO ?aB ?aS ?aL ?_
     (case aP => exact rfl)
     (case aB => exact HB.out)
     (case aF => exact (fun _ _ => trivial))
     (case aO => exact aa.out)
     (case aS => exact (ZM HB.out))
     (case aL => have := bV.out; omega)
     intro dc de ho hb hg hat
     rw [← bW.out] at ho
     have br := Za (ho)
     replace ab := Za (ZR (g := ao) (o := .cells #[.int .i64 an0, .slice (some bX) af.length ay] 24 (0, 0)) ab.out hg (ZO aa.out ab.out (by decide)))
     replace ae := Za (ZR (g := am0) (o := .cells #[.int .i64 0, .slice none 0 0] 24 (0, 0)) ae.out hg (ZO aa.out ae.out (by decide)))
     replace ac := Za (ZR (g := aj) (o := .cells #[.int .i64 0, u107001] 24 (0, 0)) ac.out hg (ZO aa.out ac.out (by decide)))
     replace HB := Za (hb)
     clear ho hb hg hat
     obtain ⟨bY, bZ, b5⟩ := ZF br.out
     (first | subst b5 | (injection b5 with f1_ f2_ f3_; have f4_ := f1_.symm; have f5_ := f3_.symm; clear f1_ f2_ f3_; subst f4_; subst f5_))
     refine hK.out _ _ ⟨(Zf ac.out 0).trans rfl, (Zf ac.out 1).trans rfl⟩ (fun hHeld => ?_)
     clear hK K
     refine nM ?_
     refine pU 7 HT_ ?_
     refine last_ (i := 8) (N := none) #[T,T,T,T,T,T,T,T,T] rfl rfl (one_of HT_.out (by kernel_rfl)) (by decide) (fun K hK => ?_)
     have hs28 : de.cell? ⟨aj, 1, none⟩ = some (u107001) := (Zf ac.out 1).trans rfl
     have cQ := blk_frozen ac.out 1
     have cg := ai.out
     have ch := ah.out
     have ci := av.out
     have cj := aw.out
     refine skip_ (w1 := ?_) (by rfl) rfl ?_ ?_
     rotate_left
     ·go_simp
      rfl
     refine hK.out _ _ ?_
     clear hK K
     refine done_ (done_of HT_.out (by kernel_rfl)) ?_
     try go_wp2
     go_roundg k2
     case measure => have := HK1.out; have := HK2.out; omega
     case rel => exact ⟨(Zb (ak + 1)), (bi), (.slice bY bi.length bZ), gR, H', ⟨by have := HK1.out; have := HK2.out; omega⟩, ⟨by exact ZK (ZC (p := ⟨aj, 1, none⟩) (ZJ br.out ac.out (by decide)) (fun _ hk => hk.2) (.slice bY bi.length bZ)) (fun _ hk => trivial)⟩, ⟨by refine Zw ?_ ai.out _; exact ab.out⟩, ⟨by refine Zw ?_ ah.out _; exact ae.out⟩, ⟨by refine Zj (cs := #[.int .i64 0, u107001]) ?_ 1 _ rfl; exact ac.out⟩, ⟨wB⟩⟩
def gu.l0 : Nat → Int → Int → Option (Int)
 | 0, _, _ => none
 | k + 1, x0, x1 => if x1 > 0 then (if x1 = 0 then (none) else (gu.l0 k x1 (ZT x0 x1))) else (some x0)
def gu.f (k : Nat) (a0 : Int) (a1 : Int) : Option (Int) := gu.l0 k a0 a1
theorem gu.calls (k : Nat) (a0 : Int) (a1 : Int) (r : Int) (w : Zu) (h : gu.f k a0 a1 = some r) :
  ZD Tryz.prog 42 #[.int .i64 a0, .int .i64 a1] w fun e w' => e = .returned (.int .i64 r) ∧ Drawn0 w w' := by
 have H : (gu.l0 k a0 a1) = some r := h
 clear h
 have H' := Za H
 clear H
 go_enter Tryz.func42, Tryz.ntmps42
 go_wp2
 repeat (go_quiet (fail); try go_wp2)
 go_loopg [0, 1] k (fun kq v0 v1 w' => ∃ (ab : Int) (aa : Int), v0 = .int .i64 ab ∧ v1 = .int .i64 aa ∧ Zc (gu.l0 kq ab aa = some r) ∧ Zc (kq ≤ k) ∧ Drawn0 w w')
 case atStart => exact ⟨(a0), (a1), gR, gR, H', ⟨Ze _⟩, dS⟩
 case round =>
  clear H'
  (try clear p2)
  obtain ⟨ab, aa, rfl, rfl, HA, HK1, ⟨m1, rfl⟩⟩ := hrel
  cases gk with
  | zero => exact absurd HA.out (by simp [gu.l0])
  | succ k1 =>
   have H := HA.out
   clear HA
   simp only [gu.l0] at H
   by_cases c3 : aa > 0
   rotate_left
   ·rw [if_neg c3] at H
    have ac : decide (0 < aa) = false := decide_eq_false c3
    clear c3
    obtain rfl := Zd H
    go_wp2
    repeat (go_quiet (fail); try go_wp2)
    go_ret
    exact ⟨by first | rfl | (simp; done) | (simp [*]; done), dS⟩
   rw [if_pos c3] at H
   have ac : decide (0 < aa) = true := decide_eq_true c3
   clear c3
   by_cases c4 : aa = 0
   ·rw [if_pos c4] at H
    exact absurd H (by simp)
   rw [if_neg c4] at H
   have ae : (aa == 0) = false := beq_eq_false_iff_ne.mpr c4
   have af : (aa != 0) = true := bne_iff_ne.mpr c4
   have H' := Za H
   clear H
   go_wp2
   repeat (go_quiet (fail); try go_wp2)
   go_roundg k1
   case measure => have := HK1.out; omega
   case rel => exact ⟨(aa), (ZT ab aa), gR, gR, H', ⟨by have := HK1.out; omega⟩, dS⟩
def fx.l0 : Nat → Int → Int → List Int → Int → Int → Option (Int)
 | 0, _, _, _, _, _ => none
 | k + 1, x1, x5, x9, ab, aa => if aa < ab then (if 0 ≤ aa then (if aa < (x9.length : Int) then (if (ZT (shr .i64 x1 aa) 2) = 1 then (fx.l0 k x1 (Zb (x5 + (rd x9 aa))) x9 ab (Zb (aa + 1))) else (fx.l0 k x1 x5 x9 ab (Zb (aa + 1)))) else (none)) else (none)) else (some x5)
def fx.f (k : Nat) (ab : Int) (aa : List Int) (a1 : Int) : Option (Int) := fx.l0 k a1 0 aa (aa.length : Int) 0
theorem fx.calls (k : Nat) (ai : Int) (aj : Option Addr) (ak : Nat) (ab : List Int) (a1 : Int) (r : Int) (w : Zu) (am0 : Kd.C (Zp .i64) w aj ab.length ab) (an0 : ab.length ≤ ak) (h : fx.f k ai ab a1 = some r) :
  ZD Tryz.prog 53 #[.agg #[.int .i64 ai, .slice aj ab.length ak], .int .i64 a1] w fun e w' => e = .returned (.int .i64 r) ∧ Zr w.heap.size w w' := by
 have hu24 := Tryz.underlying24
 have ao := Za am0
 have aG := Za an0
 clear am0 an0
 have HB := Za (Zq w.heap.size w)
 have H := h
 unfold fx.f at H
 clear h
 have H' := Za H
 clear H
 go_enter Tryz.func53, Tryz.ntmps53
 go_wp2_with (first | ((with_reducible refine Zo (N := 2) rfl ?_); refine xE (N := 2) (cs := #[.int .i64 ai, .slice aj ab.length ak]) (t := 24) ?_; intro az hg w3 ae hb; have aH := gS hg HB; have aI := gS hg HB; replace HB := sB HB hb; clear hb hg; obtain ⟨aq, au, av, aw⟩ := zZ ae))
 go_loopg [5, 11] k (fun kq v5 aJ w' => ∃ (af : Int) (aa : Int), v5 = .int .i64 af ∧ aJ = .int .i64 aa ∧ Zc (fx.l0 kq a1 af ab (ab.length : Int) aa = some r) ∧ Zc (kq ≤ k) ∧ Zc (w'.heap[az]? = some (.cells #[.int .i64 ai, (.slice aj ab.length ak)] 24 (0, 0))) ∧ Zc (Zr w.heap.size w w'))
 case atStart => exact ⟨(0), (0), gR, gR, H', ⟨Ze _⟩, ⟨by exact ae.out⟩, ⟨wB⟩⟩
 case round =>
  clear H'
  (try clear p2); (try clear aq); (try clear au); (try clear av); (try clear aw)
  obtain ⟨af, aa, rfl, rfl, HA, HK1, ae, HB⟩ := hrel
  cases gk with
  | zero => exact absurd HA.out (by simp [fx.l0])
  | succ k1 =>
   have H := HA.out
   clear HA
   simp only [fx.l0] at H
   by_cases c5 : aa < (ab.length : Int)
   rotate_left
   ·rw [if_neg c5] at H
    have aE : decide (aa < (ab.length : Int)) = false := decide_eq_false c5
    clear c5
    obtain rfl := Zd H
    go_wp2
    go_ret
    exact ⟨fR, wB⟩
   rw [if_pos c5] at H
   have aE := decide_eq_true c5
   clear c5
   by_cases c6 : 0 ≤ aa
   rotate_left
   ·rw [if_neg c6] at H
    exact absurd H (by simp)
   rw [if_pos c6] at H
   have aK := decide_eq_true c6
   clear c6
   by_cases c7 : aa < (ab.length : Int)
   rotate_left
   ·rw [if_neg c7] at H
    exact absurd H (by simp)
   rw [if_pos c7] at H
   have aM := decide_eq_true c7
   clear c7
   have aN := eq_true (oD : 0 ≤ aa)
   obtain ⟨ap, al⟩ : ∃ j_ : Int, (shr .i64 a1 aa) = j_ := ⟨_, rfl⟩
   replace H : (if (ZT (ap) 2) = 1 then (fx.l0 k1 a1 (Zb (af + (rd ab aa))) ab (ab.length : Int) (Zb (aa + 1))) else (fx.l0 k1 a1 af ab (ab.length : Int) (Zb (aa + 1)))) = some r := by first | (rw [al] at H; exact H) | (simp only [al] at H ⊢; exact H)
   have hji9_ : (a1 / 2 ^ min aa.toNat 64) = ap := al
   have hji9z : aa ≤ 64 → (a1 / 2 ^ aa.toNat) = ap := shr_small al
   by_cases ax : (ZT (ap) 2) = 1
   rotate_left
   ·rw [if_neg ax] at H
    have aA : ((ZT (ap) 2) == 1) = false := beq_eq_false_iff_ne.mpr ax
    have aC : ((ZT (ap) 2) != 1) = true := bne_iff_ne.mpr ax
    have H' := Za H
    clear H
    have ag : 0 ≤ (aa : Int) := oD
    have ah : aa < (ab.length : Int) := oD
    obtain ⟨aD, ay, ac⟩ := ZI ao.out aa ag ah
    cases ay
    replace ac := (HB.out.cell (Zh w _ ac)).trans ac
    replace ag := eq_true ag
    replace ah := eq_true ah
    go_wp2
    go_roundg k1
    case measure => have := HK1.out; omega
    case rel => exact ⟨(af), (Zb (aa + 1)), gR, gR, H', ⟨by have := HK1.out; omega⟩, ⟨by exact ae.out⟩, ⟨wB⟩⟩
   rw [if_pos ax] at H
   have aA : ((ZT (ap) 2) == 1) = true := beq_iff_eq.mpr ax
   have aC : ((ZT (ap) 2) != 1) = false := bne_eq_false_iff_eq.mpr ax
   clear ax
   have H' := Za H
   clear H
   have ag : 0 ≤ (aa : Int) := oD
   have ah : aa < (ab.length : Int) := oD
   obtain ⟨aD, ay, ac⟩ := ZI ao.out aa ag ah
   cases ay
   replace ac := (HB.out.cell (Zh w _ ac)).trans ac
   replace ag := eq_true ag
   replace ah := eq_true ah
   go_wp2
   go_roundg k1
   case measure => have := HK1.out; omega
   case rel => exact ⟨(Zb (af + (rd ab aa))), (Zb (aa + 1)), gR, gR, H', ⟨by have := HK1.out; omega⟩, ⟨by exact ae.out⟩, ⟨wB⟩⟩
mutual
def fz.l0 : Nat → Int → Int → List Bool → Int → Int → Int → List Int → Option (Int × Bool)
 | 0, _, _, _, _, _, _, _ => none
 | k + 1, x7, x8, ae, af, ac, aa, ab => if ac < af then (if 0 ≤ ac then (if ac < (ae.length : Int) then ((fx.f k aa ab ac).bind fun ag => (if rdOf false ae ac = true then (if x8 < 0 then (fz.j1 k x7 x8 (rdOf false ae ac) ag ae af ac true aa ab) else (fz.j1 k x7 x8 (rdOf false ae ac) ag ae af ac (decide (ag < x8)) aa ab)) else (fz.j1 k x7 x8 (rdOf false ae ac) ag ae af ac false aa ab))) else (none)) else (none)) else (some (Zb (x7 + 1), decide (x7 < x8)))
def fz.j1 : Nat → Int → Int → Bool → Int → List Bool → Int → Int → Bool → Int → List Int → Option (Int × Bool)
 | 0, _, _, _, _, _, _, _, _, _, _ => none
 | k + 1, x7, x8, ai, ah, ae, af, ac, aj, aa, ab => if aj = true then (if ai = true then (fz.l0 k x7 ah ae af (Zb (ac + 1)) aa ab) else (if ah > x7 then (fz.l0 k ah ah ae af (Zb (ac + 1)) aa ab) else (fz.l0 k x7 ah ae af (Zb (ac + 1)) aa ab))) else (if ai = true then (fz.l0 k x7 x8 ae af (Zb (ac + 1)) aa ab) else (if ah > x7 then (fz.l0 k ah x8 ae af (Zb (ac + 1)) aa ab) else (fz.l0 k x7 x8 ae af (Zb (ac + 1)) aa ab)))
end
def fz.f (k : Nat) (l0 : List Bool) (l1 : List Int) : Option (Int × Bool) := fz.l0 k (-1) (-1) l0 (l0.length : Int) 0 0 l1
theorem fz.calls (k : Nat) (A0 : Option Addr) (c0 : Nat) (l0 : List Bool) (A1 : Option Addr) (c1 : Nat) (l1 : List Int) (r1 : Int) (r2 : Bool) (w : Zu) (hr0 : Kd.C Kd.bool w A0 l0.length l0) (hc0 : l0.length ≤ c0) (hr1 : Kd.C (Zp .i64) w A1 l1.length l1) (hc1 : l1.length ≤ c1) (h : fz.f k l0 l1 = some (r1, r2)) :
  ZD Tryz.prog 43 #[.slice A0 l0.length c0, .slice A1 l1.length c1] w fun e w' => e = .returned (.tuple #[.int .i64 r1, .bool r2]) ∧ Zr w.heap.size w w' := by
 have hu24 := Tryz.underlying24
 have a8 := Za hr0
 have bi := Za hc0
 clear hr0 hc0
 have bb := Za hr1
 have bc := Za hc1
 clear hr1 hc1
 have HB := Za (Zq w.heap.size w)
 have H := h
 unfold fz.f at H
 clear h
 have H' := Za H
 clear H
 go_enter Tryz.func43, Tryz.ntmps43
 go_wp2_with (first | ((with_reducible refine Zo (N := 6) rfl ?_); refine xE (N := 6) (cs := #[.int .i64 0, .slice none 0 0]) (t := 24) ?_; intro ay hg w3 ab hb; have aY := gS hg HB; have aZ := gS hg HB; replace HB := sB HB hb; clear hb hg; obtain ⟨al, am0, an0, ao⟩ := zZ ab))
 go_loopg [7, 8, 16] k (fun kq v7 v8 bf w' => ∃ (ac : Int) (ag : Int) (aa : Int), v7 = .int .i64 ac ∧ v8 = .int .i64 ag ∧ bf = .int .i64 aa ∧ Zc (fz.l0 kq ac ag l0 (l0.length : Int) aa 0 l1 = some (r1, r2)) ∧ Zc (kq ≤ k) ∧ Zc (w'.heap[ay]? = some (.cells #[.int .i64 0, (.slice A1 l1.length c1)] 24 (0, 0))) ∧ Zc (Zr w.heap.size w w'))
 case atStart => exact ⟨((-1)), ((-1)), (0), gR, gR, gR, H', ⟨Ze _⟩, ⟨by refine Zj (cs := #[.int .i64 0, .slice none 0 0]) ?_ 1 _ rfl; refine Zj (cs := #[.int .i64 0, .slice none 0 0]) ?_ 0 _ rfl; exact ab.out⟩, ⟨wB⟩⟩
 case round =>
  clear H'
  (try clear c1); (try clear p2); (try clear c4); (try clear al); (try clear am0); (try clear an0); (try clear ao)
  obtain ⟨ac, ag, aa, rfl, rfl, rfl, HA, HK1, ab, HB⟩ := hrel
  cases gk with
  | zero => exact absurd HA.out (by simp [fz.l0])
  | succ k1 =>
   have H := HA.out
   clear HA
   simp only [fz.l0] at H
   by_cases c5 : aa < (l0.length : Int)
   rotate_left
   ·rw [if_neg c5] at H
    have aI : decide (aa < (l0.length : Int)) = false := decide_eq_false c5
    clear c5
    simp only [Zl, Zt] at H
    obtain ⟨rfl, rfl⟩ := H
    go_wp2
    go_ret2
    exact ⟨fR, wB⟩
   rw [if_pos c5] at H
   have aI := decide_eq_true c5
   clear c5
   by_cases c6 : 0 ≤ aa
   rotate_left
   ·rw [if_neg c6] at H
    exact absurd H (by simp)
   rw [if_pos c6] at H
   have aV := decide_eq_true c6
   clear c6
   by_cases c7 : aa < (l0.length : Int)
   rotate_left
   ·rw [if_neg c7] at H
    exact absurd H (by simp)
   rw [if_pos c7] at H
   have aW := decide_eq_true c7
   clear c7
   replace H := oA H
   obtain ⟨ae, A8, H⟩ := H
   (try dsimp only at H)
   have aT := Za H
   clear H
   have ap : 0 ≤ (aa : Int) := oD
   have aq : aa < (l0.length : Int) := oD
   obtain ⟨a6, aX, af⟩ := Kd.at_bool a8.out aa ap aq
   cases aX
   replace af := (HB.out.cell (Zh w _ af)).trans af
   replace ap := eq_true ap
   replace aq := eq_true aq
   obtain ⟨au, av, aw, ax⟩ := zZ ab
   go_upto_region 7 with (first | ((with_reducible refine Zn (f := 53) rfl ?_); refine gL 23 Tryz.func53 #[.agg #[.int .i64 0, .slice A1 l1.length c1], .int .i64 aa] ?_; (with_reducible refine (fx.calls k1 0 _ _ l1 aa ae _ (Zm bb.out HB.out) bc.out A8.out).mono ?_); rintro e bj ⟨rfl, hb⟩; refine ⟨_, rfl, ?_⟩; replace ab := bB ab hb; replace HB := sB HB hb; (try clear hb)))
   (try simp only [Ye, sA, sZ, sS])
   obtain ⟨ah, ai⟩ : ∃ b_ : Bool, b_ = (rdOf false l0 aa) := ⟨_, rfl⟩
   rw [← ai] at aT
   (try rw [← ai])
   have a7 := Za ai
   clear ai
   go_cut [33] (fun bg wc => ∃ (kq : Nat) (aj : Bool), bg = .bool aj ∧ Zc (fz.j1 kq ac ag ah ae l0 (l0.length : Int) aa aj 0 l1 = some (r1, r2)) ∧ Zc (kq ≤ k1) ∧ Zc (wc.heap[ay]? = some (.cells #[.int .i64 0, (.slice A1 l1.length c1)] 24 (0, 0))) ∧ Zc (Zr w.heap.size w wc))
   case first =>
    have H := aT.out
    clear aT
    by_cases aJ : ah = true
    rotate_left
    ·replace aJ := Bool.eq_false_iff.mpr aJ
     subst aJ
     replace H := iF H
     have H' := Za H
     clear H
     go_wp2
     go_meet
     case rel => exact ⟨_, (false), gR, H', ⟨oN'⟩, ⟨by exact ab.out⟩, ⟨wB⟩⟩
    subst aJ
    replace H := iT H
    by_cases aA : ag < 0
    ·rw [if_pos aA] at H
     have az := decide_eq_true aA
     clear aA
     have H' := Za H
     clear H
     go_wp2
     go_meet
     case rel => exact ⟨_, (true), gR, H', ⟨oN'⟩, ⟨by exact ab.out⟩, ⟨wB⟩⟩
    rw [if_neg aA] at H
    have az : decide (ag < 0) = false := decide_eq_false aA
    clear aA
    have H' := Za H
    clear H
    go_wp2
    go_meet
    case rel => exact ⟨_, (decide (ae < ag)), gR, H', ⟨oN'⟩, ⟨by exact ab.out⟩, ⟨wB⟩⟩
   case rest =>
    clear aT
    (try clear c1); (try clear p1); (try clear q1); (try clear bl); (try clear p2); (try clear c4); (try clear c5); (try clear aI); (try clear c6); (try clear aV); (try clear c7); (try clear aW); (try clear bm); (try clear bn); (try clear bh); (try clear bo); (try clear aJ); (try clear aA); (try clear az); (try clear au); (try clear av); (try clear al); (try clear am0); (try clear aw); (try clear ax); (try clear an0); (try clear ao); (try clear af); (try clear ap); (try clear p2); (try clear aq)
    obtain ⟨kq, aj, rfl, HA, ak, ab, HB⟩ := hcut
    cases kq with
    | zero => exact absurd HA.out (by simp [fz.j1])
    | succ aC =>
     have H := HA.out
     clear HA
     simp only [fz.j1] at H
     by_cases aU : aj = true
     ·subst aU
      replace H := iT H
      by_cases aD : ah = true
      ·rw [if_pos aD] at H
       have aK : ah = true := aD
       clear aD
       have H' := Za H
       clear H
       go_wp2
       go_roundg aC
       case measure => have := HK1.out; have := ak.out; omega
       case rel => exact ⟨(ac), (ae), (Zb (aa + 1)), gR, gR, gR, H', ⟨by have := HK1.out; have := ak.out; omega⟩, ⟨by exact ab.out⟩, ⟨wB⟩⟩
      rw [if_neg aD] at H
      have aK : ah = false := by simpa using aD
      clear aD
      by_cases aE : ae > ac
      ·rw [if_pos aE] at H
       have aM : decide (ac < ae) = true := decide_eq_true aE
       clear aE
       have H' := Za H
       clear H
       go_wp2
       go_roundg aC
       case measure => have := HK1.out; have := ak.out; omega
       case rel => exact ⟨(ae), (ae), (Zb (aa + 1)), gR, gR, gR, H', ⟨by have := HK1.out; have := ak.out; omega⟩, ⟨by exact ab.out⟩, ⟨wB⟩⟩
      rw [if_neg aE] at H
      have aM : decide (ac < ae) = false := decide_eq_false aE
      clear aE
      have H' := Za H
      clear H
      go_wp2
      go_roundg aC
      case measure => have := HK1.out; have := ak.out; omega
      case rel => exact ⟨(ac), (ae), (Zb (aa + 1)), gR, gR, gR, H', ⟨by have := HK1.out; have := ak.out; omega⟩, ⟨by exact ab.out⟩, ⟨wB⟩⟩
     replace aU := Bool.eq_false_iff.mpr aU
     subst aU
     replace H := iF H
     by_cases aG : ah = true
     ·rw [if_pos aG] at H
      have aN : ah = true := aG
      clear aG
      have H' := Za H
      clear H
      go_wp2
      go_roundg aC
      case measure => have := HK1.out; have := ak.out; omega
      case rel => exact ⟨(ac), (ag), (Zb (aa + 1)), gR, gR, gR, H', ⟨by have := HK1.out; have := ak.out; omega⟩, ⟨by exact ab.out⟩, ⟨wB⟩⟩
     rw [if_neg aG] at H
     have aN : ah = false := by simpa using aG
     clear aG
     by_cases aH : ae > ac
     ·rw [if_pos aH] at H
      have aQ : decide (ac < ae) = true := decide_eq_true aH
      clear aH
      have H' := Za H
      clear H
      go_wp2
      go_roundg aC
      case measure => have := HK1.out; have := ak.out; omega
      case rel => exact ⟨(ae), (ag), (Zb (aa + 1)), gR, gR, gR, H', ⟨by have := HK1.out; have := ak.out; omega⟩, ⟨by exact ab.out⟩, ⟨wB⟩⟩
     rw [if_neg aH] at H
     have aQ : decide (ac < ae) = false := decide_eq_false aH
     clear aH
     have H' := Za H
     clear H
     go_wp2
     go_roundg aC
     case measure => have := HK1.out; have := ak.out; omega
     case rel => exact ⟨(ac), (ag), (Zb (aa + 1)), gR, gR, gR, H', ⟨by have := HK1.out; have := ak.out; omega⟩, ⟨by exact ab.out⟩, ⟨wB⟩⟩
def gC.f (a0 : Int) : Option (Int) := if 0 ≤ a0 then (some (Zb ((shl .i64 1 a0) - 1))) else (none)
theorem gC.calls (a0 : Int) (r : Int) (w : Zu) (h : gC.f a0 = some r) :
  ZD Tryz.prog 77 #[.int .i64 a0] w fun e w' => e = .returned (.int .i64 r) ∧ Drawn0 w w' := by
 have H := h
 unfold gC.f at H
 clear h
 by_cases c2 : 0 ≤ a0
 rotate_left
 ·rw [if_neg c2] at H
  exact absurd H (by simp)
 rw [if_pos c2] at H
 have ac := eq_true c2
 have ae := decide_eq_true c2
 clear c2
 obtain ⟨ab, aa⟩ : ∃ j_ : Int, (shl .i64 1 a0) = j_ := ⟨_, rfl⟩
 replace H : (some (Zb ((ab) - 1))) = some r := by first | (rw [aa] at H; exact H) | (simp only [aa] at H ⊢; exact H)
 have hji3_ : (IntKind.i64.wrap (1 * 2 ^ min a0.toNat 64)) = ab := aa
 have hji3z : a0 ≤ 64 → (IntKind.i64.wrap (1 * 2 ^ a0.toNat)) = ab := shl_small aa
 have hji3u : (IntKind.i64.wrap (2 ^ min a0.toNat 64)) = ab := by have h_ := hji3_; rw [Z1] at h_; exact h_
 have hji3v : a0 ≤ 64 → (IntKind.i64.wrap (2 ^ a0.toNat)) = ab := fun hle_ => by have h_ := hji3z hle_; rw [Z1] at h_; exact h_
 have hji3y : (Zb (1 * 2 ^ min a0.toNat 64)) = ab := (i64_w _).symm.trans hji3_
 have hji3x : a0 ≤ 64 → (Zb (1 * 2 ^ a0.toNat)) = ab := fun h_ => (i64_w _).symm.trans (hji3z h_)
 obtain rfl := Zd H
 go_enter Tryz.func77, Tryz.ntmps77
 go_wp2
 go_ret
 exact ⟨by first | rfl | (simp; done) | (simp only [← aa] <;> (first | rfl | simp)) | (simp [*]; done), dS⟩
def fw.l0 : Nat → List Bool → Int → Int → List Int → Option (List Bool)
 | 0, _, _, _, _ => none
 | k + 1, x3, x4, aa, ab => (gC.f (ab.length : Int)).bind fun ac => (if x4 ≤ ac then ((fx.f k aa ab x4).bind fun ae => (if x3.length < 140737488355328 then (fw.l0 k (x3 ++ [decide (ae ≥ aa)]) (Zb (x4 + 1)) aa ab) else (none))) else (some x3))
def fw.f (k : Nat) (aa : Int) (ab : List Int) : Option (List Bool) := fw.l0 k ([] : List Bool) 0 aa ab
def fw.T5 : Bool × List (List Nat × List Nat) := (true, [([], []), ([], []), ([], []), ([1, 2], [1, 2]), ([], []), ([4], [4]), ([3, 5], [3, 5]), ([6], [6]), ([0, 7, 3], [0, 7]), ([8, 8, 0, 1, 2, 3, 4, 5, 6, 7, 8], [0, 8])])
def fw.B5 : List Nat := [0, 0, 0, 6, 0, 16, 62, 126, 255, 511]
theorem fw.tab5 : rtab .any (opsOf Tryz.f44 5) = fw.T5 := by kernel_rfl
theorem fw.bits5 : waitsOk fw.T5.2 fw.B5 = true := by kernel_rfl
theorem fw.calls (k : Nat) (ac : Int) (ag : Option Addr) (ah : Nat) (ab : List Int) (r : List Bool) (w : Zu) (ao : Kd.C (Zp .i64) w ag ab.length ab) (ap : ab.length ≤ ah) (h : fw.f k ac ab = some r) :
  ZD Tryz.prog 44 #[.agg #[.int .i64 ac, .slice ag ab.length ah]] w fun e w' => ∃ v0_ : ZA, e = .returned (v0_) ∧ Kd.R Kd.bool 4 w' w.heap.size (fun _ => True) v0_ r ∧ Zr w.heap.size w w' := by
 have hu24 := Tryz.underlying24
 have ax := Za ao
 have ay := Za ap
 clear ao ap
 have HB := Za (Zq w.heap.size w)
 have H := h
 unfold fw.f at H
 clear h
 have H' := Za H
 clear H
 go_enter Tryz.func44, Tryz.ntmps44
 go_wp2_with (first | ((with_reducible refine Zo (N := 1) rfl ?_); refine xE (N := 1) (cs := #[.int .i64 ac, .slice ag ab.length ah]) (t := 24) ?_; intro ai hg w2 aa hb; have aK := gS hg HB; have al := gS hg HB; replace HB := sB HB hb; clear hb hg))
 go_loopg [3, 4] k (fun kq v3 v4 w' => ∃ (ak : List Bool) (af : Int), v4 = .int .i64 af ∧ Zc (fw.l0 kq ak af ac ab = some r) ∧ Zc (kq ≤ k) ∧ Zc (Kd.R Kd.bool 4 w' w.heap.size (fun _ => True) v3 ak) ∧ Zc (w'.heap[ai]? = some (.cells #[.int .i64 ac, (.slice ag ab.length ah)] 24 (0, 0))) ∧ Zc (Zr w.heap.size w w'))
 case atStart => exact ⟨(([] : List Bool)), (0), gR, H', ⟨Ze _⟩, ⟨by first | exact Kd.R_nil _ _ _ _ _ | exact Kd.N_nil _ _ _ _ _ | exact Kd.V_nil _ _ _ _ _ | exact Kd.Q_nil _ _ _ _ _ | exact Kd.S_nil _ _ _ _ _⟩, ⟨by exact aa.out⟩, ⟨wB⟩⟩
 case round =>
  clear H'
  (try clear p2)
  obtain ⟨ak, af, rfl, HA, HK1, ae, aa, HB⟩ := hrel
  cases gk with
  | zero => exact absurd HA.out (by simp [fw.l0])
  | succ k1 =>
   have H := HA.out
   clear HA
   simp only [fw.l0] at H
   replace H := oA H
   obtain ⟨am0, A3, H⟩ := H
   (try dsimp only at H)
   by_cases c4 : af ≤ am0
   rotate_left
   ·rw [if_neg c4] at H
    have aI : decide (af ≤ am0) = false := decide_eq_false c4
    clear c4
    obtain rfl := Zd H
    obtain ⟨aD, aE, aG, aH⟩ := zZ aa
    go_wp2_with (first | ((with_reducible refine Zn (f := 77) rfl ?_); refine gL 9 Tryz.func77 #[.int .i64 (ab.length : Int)] ?_; (with_reducible refine (gC.calls (ab.length : Int) am0 _ A3.out).mono ?_); rintro e w' ⟨rfl, ⟨nd, rfl⟩⟩; refine ⟨_, rfl, ?_⟩))
    go_ret
    exact ⟨_, fR, by (with_reducible repeat (first | apply qA | apply qN | apply qD)); exact ae.out, wB⟩
   rw [if_pos c4] at H
   have aI := decide_eq_true c4
   clear c4
   replace H := oA H
   obtain ⟨an0, A5, H⟩ := H
   (try dsimp only at H)
   by_cases c6 : ak.length < 140737488355328
   rotate_left
   ·rw [if_neg c6] at H
    exact absurd H (by simp)
   rw [if_pos c6] at H
   have aJ := Za c6
   clear c6
   obtain ⟨az, aj⟩ : ∃ y_ : List Bool, y_ = (ak ++ [decide (an0 ≥ ac)]) := ⟨_, rfl⟩
   replace H : (fw.l0 k1 az (Zb (af + 1)) ac ab) = some r := by first | (rw [aj]; with_reducible exact H) | (have H2_ := (Zk _ _).symm.trans H; rw [aj]; with_reducible exact H2_) | (have H2_ := (Zk _ _).symm.trans H; with_reducible exact H2_) | with_reducible exact H | (rw [aj]; exact H) | exact H
   have aA := Za aj
   clear aj
   have H' := Za H
   clear H
   obtain ⟨aq, au, av, aw⟩ := zZ aa
   try go_wp2_with (first | ((with_reducible refine Zn (f := 77) rfl ?_); refine gL 9 Tryz.func77 #[.int .i64 (ab.length : Int)] ?_; (with_reducible refine (gC.calls (ab.length : Int) am0 _ A3.out).mono ?_); rintro e w' ⟨rfl, ⟨nd, rfl⟩⟩; refine ⟨_, rfl, ?_⟩))
   (try (rw [drewN_self wr]; generalize hq_ : World.drewN wr _ = wr; have n0_ : Zc (Kd.R Kd.bool 4 wr w.heap.size (fun _ => True) u3 ak) := ⟨by rw [← hq_]; exact (rQ ae)⟩; have n1_ : Zc (wr.heap[ai]? = some (.cells #[.int .i64 ac, .slice ag ab.length ah] 24 (0, 0))) := ⟨by rw [← hq_]; exact (bQ aa)⟩; have n2_ : Zc (Zr w.heap.size w wr) := ⟨by rw [← hq_]; exact (by repeat (first | exact HB.out | apply ba | apply bd | apply be | refine bs ?_ al.out))⟩; clear ae aa HB hq_; have ae := n0_; have aa := n1_; have HB := n2_; clear n0_ n1_ n2_))
   replace ae := rD ae
   replace aa := bD aa
   replace HB := Za (below_drew1 HB.out)
   refine start_ (n := 10) (S := fun w' => w'.cell? ⟨ai, 0, none⟩ = some (.int .i64 ac) ∧ w'.cell? ⟨ai, 1, none⟩ = some (.slice ag ab.length ah)) (ds := []) #[F,F,F,F,F,F,F,F,F,F] (by kernel_rfl) rfl rfl ⟨(Zf aa.out 0).trans rfl, (Zf aa.out 1).trans rfl⟩ (fun hHeld => ?_); refine with_tabW fw.tab5 fw.bits5 (fun HT_ HW_ => ?_)
   (try clear aq au av aw)
   generalize wr.drew = w8 at ae aa HB hHeld ⊢
   refine pU 0 HT_ ?_
   refine pU 2 HT_ ?_
   refine pU 4 HT_ ?_
   refine tK 1 HT_ HW_ hHeld (hy := by rintro w' ⟨s0, s1⟩; go_simp; with_reducible rfl) ?_
   refine tK 5 HT_ HW_ hHeld (hy := by rintro w' ⟨s0, s1⟩; go_simp; with_reducible rfl) ?_
   refine oN 3 HT_ (fun K hK => ?_)
   refine gE Tryz.func53 #[.agg #[.int .i64 ac, .slice ag ab.length ah], .int .i64 af] ?_
   with_reducible refine (fx.calls k1 ac _ _ ab af an0 _ ?side1 ?side2 A5.out).mono ?_
   (case side1 => have hx_ := (Zm ax.out HB.out); exact cC)
   (case side2 => exact ay.out)
   rintro e w9 ⟨rfl, hb⟩
   refine ⟨_, rfl, ?_⟩
   replace ae := rP ae hb
   replace aa := bP aa hb
   replace HB := sQ hb
   (try clear hb)
   (try clear hb2)
   (try clear hk)
   (try clear hi)
   refine hK.out _ _ ⟨(Zf aa.out 0).trans rfl, (Zf aa.out 1).trans rfl⟩ (fun hHeld => ?_)
   clear hK K
   refine nM ?_
   refine pU 6 HT_ ?_
   refine oN 7 HT_ (fun K hK => ?_)
   refine value_ (w1 := ?_) (v := ?_) (by rfl) rfl ?_ ?_
   rotate_left 2
   ·go_simp
    constructor
    ·rfl
    rfl
   refine hK.out _ _ ⟨(Zf (blk_alloc aa.out _) 0).trans rfl, (Zf (blk_alloc aa.out _) 1).trans rfl⟩ (fun hHeld => ?_)
   clear hK K
   refine nM ?_
   refine oN 8 HT_ (fun K hK => ?_)
   refine Kd.R_append_step Kd.bool (w0 := w) w.heap.size (by rfl) (.tmp 13) (.tmp 20) 51 4 (.bool false) 1 rfl Tryz.underlying51 info4 rfl (by decide) (by omega) u3 ak (decide (an0 ≥ ac)) [.bool (decide (an0 ≥ ac))] (fun _ => True) (fun _ => False) rfl rfl ?aP (fun _ hk => hk.elim) ?aF ?aO ?aB ?aS ?aL ?_
   (case aP => exact rfl)
   (case aB => exact (by repeat (first | exact HB.out | apply ba | apply bd | apply be | refine bs ?_ al.out)))
   (case aF => exact (fun _ _ => trivial))
   (case aO => exact (rQ ae))
   (case aS => exact (ZM (by repeat (first | exact HB.out | apply ba | apply bd | apply be | refine bs ?_ al.out))))
   (case aL => have := aJ.out; omega)
   intro aM aN ho hb hg hat
   rw [← aA.out] at ho
   have aC := Za (ho)
   replace aa := Za (ZR (g := ai) (o := .cells #[.int .i64 ac, .slice ag ab.length ah] 24 (0, 0)) (bQ aa) hg (ZO ae.out aa.out (by decide)))
   replace HB := Za (hb)
   clear ho hb hg hat
   refine hK.out _ _ ⟨(Zf aa.out 0).trans rfl, (Zf aa.out 1).trans rfl⟩ (fun hHeld => ?_)
   clear hK K
   refine nM ?_
   refine pU 9 HT_ ?_
   refine done_ (done_of HT_.out (by kernel_rfl)) ?_
   try go_wp2
   go_roundg k1
   case measure => have := HK1.out; omega
   case rel => exact ⟨(az), (Zb (af + 1)), gR, H', ⟨by have := HK1.out; omega⟩, ⟨rQ aC⟩, ⟨bQ aa⟩, ⟨wB⟩⟩
end Go.Proofs.YtaambkdiokbdgabGreat.Q
