/- Printed functions, their contracts and plain facts on them: X; Y; L; M; S; R; T; V; O; Q0; QImplWithin; QSlicesIndexFuncIntInt; QSlicesContainsFuncIntInt; QImplAreIn; QImplSumOf; QImplIsCommittee; QBitsOnesCount64; QBits. Conditions: as each theorem states. -/
import Derived.Test.YtaambkdiokbdgacGreatDoorProg
import Derived.Deep.Cut
import Derived.Deep.LoopGhost
import Derived.KernelRfl
import Derived.Tactics
import Derived.WalkKit
import Derived.RowKit3
import Derived.Shelf.SlSortCmp.NoneTotal
import Derived.Shelf.SlicesG.Delete
import Derived.Laws.BitsLemmas
import Derived.Shelf.Strings.OnBuilder
import Derived.Shelf.Strconv.Itoa3
import Derived.Shelf.Strings.Cut
import Derived.Shelf.Strings.Split
import Derived.Shelf.Strconv.AtoiAll
import Derived.Lib.AtoiErrMem
import Derived.Lib.SmallJoins
import Derived.Lib.LaidTab
import Derived.WalkSmall
import Derived.Deep.Slices
import Derived.OpenShut
import Derived.ShutString
import Derived.ChangeArms
import Derived.ChangeOld
import Derived.Below
import Derived.Deep.Draws
import Derived.Deep.AppendLies
import Derived.Maps.AppendAt
import Derived.OwnWalk
import Derived.Laws.BytesArg
import Derived.Laws.MakeOwn
import Derived.Laws.OwnMore
import Derived.Deep.OwnRows
import Derived.Lib.ConvBytes
import Derived.Laws.Slices
import Derived.Deep.QuietTactic
import Derived.BigQuiet
import Derived.WideLaws
import Derived.Deep.DeepCutAuto
import Derived.Deep.CutBlock
import Derived.Deep.RegionHeld3
import Derived.Laws.Rows
import Derived.Lib.AppendStr
import Derived.ArgAppend
import Derived.Laws.IdiomCopy
import Derived.OrdersHeld
import Derived.RowKit
import Derived.Shelf.Abstract
import Derived.WalkSpells
import Derived.Test.YtaambkdiokbdgacGreatDoorGCommitteesChangex0
set_option maxHeartbeats 40000000
set_option maxRecDepth 100000
namespace Go.Proofs.YtaambkdiokbdgacGreatDoorX
open Go.RowKit Go.Proofs.YtaambkdiokbdgacGreatDoorW.PrintWords Go.Proofs.YtaambkdiokbdgacGreatDoorW.PrintLast
section
variable {P : Program} {ops : Array Oper} {Q : Exit → Act → World → Prop}
theorem goesF_ {oi : Oper} {N : Option Tmp} {a : Act} {w : World} {K : Act → World → Prop} {o : Operand} {g : FuncId} {lb : Array Value} {xs_ : Array Operand} {ts : Array TypeId} (eg : ∀ args w, (callFunc g args).run P w = .ok (.enter g args) w) (args : Array Value)
    (hw : Region.wanted oi (yielded ops a.tmps) = true) (hN : oi.dst = N) (hop : oi.op = .call { callee := .value o, args := xs_, argTypes := ts }) (ho : a.eval o = .func (.func g) #[] lb) (hargs : xs_.map a.eval = args)
    (h : Calls P g (args ++ lb) w fun e w' => ∃ v, e = .returned v ∧ K (a.put N v) w') : if Region.wanted oi (yielded ops a.tmps) = true then Oper.wp P oi a w K Q else K (a.put N undef) w := by
  refine call_ g (args ++ lb) hw hN ?_ h
  unfold execOp
  simp [hop, resolve, Deferred.ofValue, invoke, ho, hargs, eg]
end
theorem ba {w W : World} (h : Below w.heap.size w W) (o : Obj) : Below w.heap.size w (W.alloc o) := below_alloc h o
theorem bd {B : Nat} {w W : World} (h : Below B w W) (n : Nat) : Below B w (W.drewN n) := pw_below_drewN h n
theorem be {base : Nat} {w W : World} (h : Below base w W) : Below base w W.drew := below_drew1 h
theorem bs {w W : World} {g j : Nat} {v : Value} (h : Below w.heap.size w W) (hg : w.heap.size ≤ g) : Below w.heap.size w (W.setCell ⟨g, j, none⟩ v) := below_set h hg
/-- w' stands some plain steps (draws, new blocks) behind w. -/
class Peel (w' : World) (w : outParam World) : Prop where
  same : ∀ k, k < w.heap.size → w'.heap[k]? = w.heap[k]?
  le : w.heap.size ≤ w'.heap.size
instance (priority := 100) peel_refl (w : World) : Peel w w := ⟨fun _ _ => rfl, Nat.le_refl _⟩
instance peel_drewN (w' w : World) (n : Nat) [h : Peel w' w] : Peel (w'.drewN n) w := ⟨h.same, h.le⟩
instance peel_drew (w' w : World) [h : Peel w' w] : Peel w'.drew w := ⟨h.same, h.le⟩
instance peel_alloc (w' w : World) (o : Obj) [h : Peel w' w] : Peel (w'.alloc o) w :=
  ⟨fun k hk => (Below.heap_alloc w' o k (Nat.lt_of_lt_of_le hk h.le)).trans (h.same k hk), Nat.le_trans h.le (by simp)⟩
theorem bp {w' w : World} {g : Nat} {o : Obj} [p : Peel w' w] (h : w.heap[g]? = some o) : w'.heap[g]? = some o := (p.same g (blk_lt h)).trans h
theorem rp {α : Type} {d : Kd α} {e : Nat} {w' w : World} {base : Nat} {ok : Nat → Prop} {v : Value} {xs : List α} [p : Peel w' w] (h : d.R e w base ok v xs) : d.R e w' base ok v xs := Kd.R_step h (fun k _ hk => p.same k hk)
theorem kA {w : World} {g : Nat} {o : Obj} (h : w.heap[g]? = some o) (o' : Obj) : (w.alloc o').heap[g]? = some o := blk_alloc h o'
theorem kD {w : World} {g : Nat} {o : Obj} (h : w.heap[g]? = some o) : w.drew.heap[g]? = some o := h
theorem kN {w : World} {g : Nat} {o : Obj} (h : w.heap[g]? = some o) (n : Nat) : (w.drewN n).heap[g]? = some o := h
section
variable {α : Type} {d : Kd α} {e : Nat} {w : World} {base : Nat} {ok : Nat → Prop} {v : Value} {xs : List α}
theorem qA (h : d.R e w base ok v xs) (o : Obj) : d.R e (w.alloc o) base ok v xs := Kd.R_alloc h o
theorem qD (h : d.R e w base ok v xs) : d.R e w.drew base ok v xs := Kd.R_drew h
theorem qN (h : d.R e w base ok v xs) (m : Nat) : d.R e (w.drewN m) base ok v xs := Kd.R_drewN h m
end
theorem sA {α : Type} (l : List α) (i : Nat) (a : α) : l.toArray.setIfInBounds i a = (l.set i a).toArray := List.setIfInBounds_toArray ..
theorem sZ {α : Type} (x : α) (xs : List α) (a : α) : (x :: xs).set 0 a = a :: xs := rfl
theorem sS {α : Type} (x : α) (xs : List α) (n : Nat) (a : α) : (x :: xs).set (n + 1) a = x :: xs.set n a := rfl
theorem oB {α β : Type} {x : Option α} {f : α → Option β} {b : β} (h : x.bind f = some b) : ∃ a, x = some a ∧ f a = some b := Option.bind_eq_some_iff.mp h
theorem mA {α β : Type} {f : α → β} {l : List α} : l.toArray.map f = (l.map f).toArray := List.map_toArray ..
theorem mC {α β : Type} {f : α → β} {a : α} {l : List α} : (a :: l).map f = f a :: l.map f := rfl
theorem mN {α β : Type} {f : α → β} : ([] : List α).map f = [] := rfl
abbrev T : Bool := true
abbrev F : Bool := false
def putM (T : Nat → Value) : Nat → List Bool → List Value → List Value
  | _, [], t => t
  | _, _ :: _, [] => []
  | i, true :: m, _ :: t => T i :: putM T (i + 1) m t
  | i, false :: m, v :: t => v :: putM T (i + 1) m t
def putT (m : List Bool) (T : Nat → Value) (tm : Array Value) : Array Value := (putM T 0 m tm.toList).toArray
theorem cutT_ {P : Program} {s : Code} {K : Act → World → Prop} {Q' : Exit → Act → World → Prop} {tm : Array Value} {df : List Deferred} {w : World} (m : List Bool) (rel : (Nat → Value) → World → Prop)
    (rest : ∀ T wc, rel T wc → K ⟨putT m T tm, df⟩ wc)
    (first : ∀ J K' : Act → World → Prop, (∀ T a' w', a' = ⟨putT m T tm, df⟩ → rel T w' → J a' w') → (∀ a' w', Met J a' w' → K' a' w') → s.wp P (Exit.then K' Q') ⟨tm, df⟩ w) : s.wp P (Exit.then K Q') ⟨tm, df⟩ w :=
  wp_cut (fun a' w' => ∃ T, a' = ⟨putT m T tm, df⟩ ∧ rel T w') (fun _ w' h => by obtain ⟨T, e, h⟩ := h; subst e; exact rest T w' h) fun J K' hJ hM => first J K' (fun T a' w' e h => hJ a' w' ⟨T, e, h⟩) hM
theorem meetT_ {J : Act → World → Prop} {m : List Bool} {tm : Array Value} {df : List Deferred} {rel : (Nat → Value) → World → Prop} {a' : Act} {w' : World} (hJ : ∀ T a' w', a' = ⟨putT m T tm, df⟩ → rel T w' → J a' w')
    (e : a' = ⟨putT m (fun n => a'.tmps.getD n undef) tm, df⟩) (h : rel (fun n => a'.tmps.getD n undef) w') : Met J a' w' := hJ _ _ _ e h
theorem loopT_ {P : Program} {Q : Exit → Act → World → Prop} {tm : Array Value} {df : List Deferred} {w : World} {c : Code} (m : List Bool) (k0 : Nat) (rel : Nat → (Nat → Value) → World → Prop)
    (e0 : (⟨tm, df⟩ : Act) = ⟨putT m (fun n => tm.getD n undef) tm, df⟩) (atStart : rel k0 (fun n => tm.getD n undef) w)
    (round : ∀ gk T wr, rel gk T wr → ∀ (J : Nat → Act → World → Prop) (K : Act → World → Prop), (∀ k T a' w', a' = ⟨putT m T tm, df⟩ → rel k T w' → J k a' w') → (∀ a' w', Handed J gk a' w' → K a' w') → c.wp P (Exit.then K Q) ⟨putT m T tm, df⟩ wr) : (Code.loop c).wp P Q ⟨tm, df⟩ w :=
  wp_loop_ghost_k (fun k a' w' => ∃ T, a' = ⟨putT m T tm, df⟩ ∧ rel k T w') k0 ⟨_, e0, atStart⟩ fun n a w h J K hJ hM => by
    obtain ⟨T, e, h⟩ := h
    subst e
    exact round n T w h J K (fun k T a' w' e h => hJ k a' w' ⟨T, e, h⟩) hM
theorem roundT_ {J : Nat → Act → World → Prop} {m : List Bool} {tm : Array Value} {df : List Deferred} {rel : Nat → (Nat → Value) → World → Prop} {gk : Nat} {a' : Act} {w' : World} (k : Nat) (h1 : k < gk) (hJ : ∀ k T a' w', a' = ⟨putT m T tm, df⟩ → rel k T w' → J k a' w')
    (e : a' = ⟨putT m (fun n => a'.tmps.getD n undef) tm, df⟩) (h : rel k (fun n => a'.tmps.getD n undef) w') : Handed J gk a' w' := Handed.intro k h1 (hJ k _ _ _ e h)
theorem ite_yes {α : Type} {c : Prop} [Decidable c] {x : Option α} {r : α} (h : (if c then x else none) = some r) : c ∧ x = some r := by
  by_cases hc : c
  · rw [if_pos hc] at h; exact ⟨hc, h⟩
  · rw [if_neg hc] at h; cases h
theorem ite_no {α : Type} {c : Prop} [Decidable c] {x : Option α} {r : α} (h : (if c then none else x) = some r) : ¬ c ∧ x = some r := by
  by_cases hc : c
  · rw [if_pos hc] at h; cases h
  · rw [if_neg hc] at h; exact ⟨hc, h⟩
theorem of_nbne {a b : Bool} (h : ¬ (a != b) = true) : a = b := by cases a <;> cases b <;> first | rfl | exact absurd rfl h
section
variable {α : Type} {d : Kd α} {e base g a t : Nat} {w W w1 : World} {ok : Nat → Prop} {v u0 u1 : Value} {xs : List α} {cells : Array Value} {o : Obj}
theorem rQ (h : Aside0 (d.R e w base ok v xs)) (hb : Below W.heap.size W w1) (hp : d.R e w base ok v xs → d.R e W base ok v xs := by intro hz_; (with_reducible repeat (first | apply Kd.R_alloc | apply Kd.R_drewN | apply Kd.R_drew)); exact hz_) : Aside0 (d.R e w1 base ok v xs) := ⟨Kd.R_below (hp h.out) hb⟩
theorem bQ (bk : Aside0 (w.heap[a]? = some o)) (hb : Below W.heap.size W w1) (hp : w.heap[a]? = some o → W.heap[a]? = some o := by intro hz_; (with_reducible repeat (first | refine blk_drewN ?_ _ | refine blk_drew ?_ | refine blk_alloc ?_ _)); exact hz_) : Aside0 (w1.heap[a]? = some o) := ⟨blk_below (hp bk.out) hb⟩
end
end Go.Proofs.YtaambkdiokbdgacGreatDoorX
namespace Go.Proofs.YtaambkdiokbdgacGreatDoorY
open Go.RowKit Go.Proofs.YtaambkdiokbdgacGreatDoorW.PrintWords Go.Proofs.YtaambkdiokbdgacGreatDoorW.PrintLast Go.Proofs.YtaambkdiokbdgacGreatDoorX
section
variable {P : Program} {ops : Array Oper} {Q : Exit → Act → World → Prop} {md : Region.Mode} {S : World → Prop} {ds : List Nat} {T : Bool × List (List Nat × List Nat)}
theorem pU (i : Nat) {N : Tmp} {oi : Oper} {v : Value} {fuel : Nat} {l l' : Array Bool} {a a' : Act} {w : World} (hT : Aside0 (rtab md ops = T)) (h : wpAnyLast P md ops Q S ds fuel l' a' w)
    (hi : ops[i]? = some oi := by rfl) (hN : oi.dst = some N := by rfl) (hl : l.setIfInBounds i true = l' := by simp only [sA, sZ, sS]; rfl) (hc : anyT T l.toList l'.toList i = true := by kernel_rfl)
    (hw : Region.wanted oi (yielded ops a.tmps) = true := by rfl) (hy : ∀ w', (execOp a.eval oi).run P w' = .ok (.value v) w' := by (intro w'; go_simp; with_reducible rfl))
    (ha : a.put (some N) v = a' := by simp only [Act.put, sA, sZ, sS, i64_w, i32_w]; rfl) (hQ : ∀ c a w, Q (.panic c) (a.put (some N) v) w → Q (.panic c) a w := by exact fun _ _ _ h => h) : wpAnyLast P md ops Q S ds (fuel + 1) l a w := by
  subst hl
  exact pure_ _ hi hN (any_of hT.out hc) (fun c a w => by rw [hN]; exact hQ c a w) (Or.inl ⟨hw, hy⟩) ha h
theorem pV (i : Nat) {N : Tmp} {oi : Oper} {fuel : Nat} {l l' : Array Bool} {a a' : Act} {w : World} (hT : Aside0 (rtab md ops = T)) (h : wpAnyLast P md ops Q S ds fuel l' a' w)
    (hi : ops[i]? = some oi := by rfl) (hN : oi.dst = some N := by rfl) (hl : l.setIfInBounds i true = l' := by simp only [sA, sZ, sS]; rfl) (hc : anyT T l.toList l'.toList i = true := by kernel_rfl)
    (hw : Region.wanted oi (yielded ops a.tmps) = false := by rfl)
    (ha : a.put (some N) undef = a' := by simp only [Act.put, sA, sZ, sS, i64_w, i32_w]; rfl) (hQ : ∀ c a w, Q (.panic c) (a.put (some N) undef) w → Q (.panic c) a w := by exact fun _ _ _ h => h) : wpAnyLast P md ops Q S ds (fuel + 1) l a w := by
  subst hl
  exact pure_ _ hi hN (any_of hT.out hc) (fun c a w => by rw [hN]; exact hQ c a w) (Or.inr ⟨hw, rfl⟩) ha h
theorem tK (i : Nat) {N : Tmp} {oi : Oper} {v : Value} {fuel : Nat} {l l' : Array Bool} {a a' : Act} {w : World} {B : List Nat} (hT : Aside0 (rtab md ops = T)) (hB : Aside0 (waitsOk T.2 B = true)) (hS : S w) (h : wpAnyLast P md ops Q S ds fuel l' a' w)
    (hi : ops[i]? = some oi := by rfl) (hN : oi.dst = some N := by rfl) (hl : l.setIfInBounds i true = l' := by simp only [sA, sZ, sS]; rfl) (hc : takeW T B ds l.toList l'.toList i = true := by kernel_rfl)
    (hw : Region.wanted oi (yielded ops a.tmps) = true := by rfl) (hy : ∀ w', S w' → (execOp a.eval oi).run P w' = .ok (.value v) w')
    (ha : a.put (some N) v = a' := by simp only [Act.put, sA, sZ, sS, i64_w, i32_w]; rfl) (hQ : ∀ c a w, Q (.panic c) (a.put (some N) v) w → Q (.panic c) a w := by exact fun _ _ _ h => h) : wpAnyLast P md ops Q S ds (fuel + 1) l a w := by
  subst hl
  exact take_ _ hi hN (take_ofW hT.out hB.out hc) (fun c a w => by rw [hN]; exact hQ c a w) (Or.inl ⟨hw, hy⟩) hS ha h
theorem oN (i : Nat) {N : Option Tmp} {oi : Oper} {fuel : Nat} {l l' : Array Bool} {a : Act} {w : World} (hT : Aside0 (rtab md ops = T))
    (h : ∀ K : Act → World → Prop, Shut (∀ a' w', S w' → (S w' → wpAnyLast P md ops Q S ds fuel l' a' w') → K a' w') → if Region.wanted oi (yielded ops a.tmps) = true then Oper.wp P oi a w K Q else K (a.put N undef) w)
    (hi : ops[i]? = some oi := by rfl) (hN : oi.dst = N := by rfl) (hl : l.setIfInBounds i true = l' := by simp only [sA, sZ, sS]; rfl) (hc : (readyT T.2 l.toList == [i] && l.toList.set i true == l'.toList) = true := by kernel_rfl) (hd : i ∉ ds := by decide) : wpAnyLast P md ops Q S ds (fuel + 1) l a w := by
  subst hl
  exact one_ _ hi hN (one_of hT.out hc) hd h
theorem nM {fuel : Nat} {l : Array Bool} {a a' : Act} {N : Tmp} {v : Value} {w : World} (h : wpAnyLast P md ops Q S ds fuel l a' w) (ha : Act.put a (some N) v = a' := by simp only [Act.put, sA, sZ, sS, i64_w, i32_w]; rfl) : wpAnyLast P md ops Q S ds fuel l (a.put (some N) v) w := norm_ ha h
theorem gE {oi : Oper} {N : Option Tmp} {a : Act} {w : World} {K : Act → World → Prop} {f : FuncId} {fn : Func} {as_ : Array Operand} {ts : Array TypeId} (hf : P.funcs[f]? = some fn) (args : Array Value)
    (h : Calls P f args w fun e w' => ∃ v, e = .returned v ∧ K (a.put N v) w') (hname : (fn.name == "runtime.NumGoroutine") = false := by kernel_rfl) (hb : fn.body.isSome = true := by rfl)
    (hw : Region.wanted oi (yielded ops a.tmps) = true := by rfl) (hN : oi.dst = N := by rfl) (hop : oi.op = .call { callee := .value (.func f), args := as_, argTypes := ts } := by rfl)
    (hargs : as_.map a.eval = args := by (try simp only [mA, mC, mN]); first | done | rfl | (simp only [List.length_drop, List.length_take]; rfl)) : if Region.wanted oi (yielded ops a.tmps) = true then Oper.wp P oi a w K Q else K (a.put N undef) w := goes_ hf hname hb args hw hN hop hargs h
theorem gL {rest : List Oper} {oi : Oper} {a : Act} {w : World} (N : Tmp) {f : FuncId} {fn : Func} {as_ : Array Operand} {ts : Array TypeId} (hf : P.funcs[f]? = some fn) (args : Array Value)
    (h : Calls P f args w fun e w' => ∃ v, e = .returned v ∧ wpList P ops Q rest (a.put (some N) v) w') (hd : oi.dst = some N := by rfl) (hg : oi.guard = none := by rfl) (hname : (fn.name == "runtime.NumGoroutine") = false := by kernel_rfl) (hb : fn.body.isSome = true := by rfl)
    (hop : oi.op = .call { callee := .value (.func f), args := as_, argTypes := ts } := by rfl)
    (hargs : as_.map a.eval = args := by (try simp only [mA, mC, mN]); first | done | rfl | (simp only [List.length_drop, List.length_take]; rfl)) : wpList P ops Q (oi :: rest) a w := goesL_ (some N) hd hg hf hname hb args hop hargs h
theorem xE {o : Oper} {a : Act} {rest : List Oper} {W : World} {N : Tmp} {cs : Array Value} {t : TypeId}
    (h : ∀ g, g = W.heap.size → ∀ w1, Aside0 (w1.heap[g]? = some (.cells cs t (0, 0))) → Below W.heap.size W w1 → wpList P ops Q rest (a.put (some N) (.pointer (some ⟨g, 0, none⟩))) w1)
    (hd : o.dst = some N := by rfl) (hgd : o.guard = none := by rfl) (hrun : (execOp a.eval o).run P W = .ok (.value (.pointer (some ⟨W.heap.size, 0, none⟩))) (W.alloc (.cells cs t (0, 0))) := by first | (go_simp; done) | (go_simp; rfl)) : wpList P ops Q (o :: rest) a W :=
  box_event hgd hd hrun (fun g hg w1 hb hB => by rw [hd]; exact h g hg w1 ⟨hb⟩ hB)
end
theorem oD {p : Prop} [Decidable p] (h : decide p = true := by first | (with_reducible assumption) | assumption) : p := of_decide_eq_true h
theorem oA {α β : Type} {o : Option α} {f : α → Option β} {r : β} (h : o.bind f = some r) : ∃ t, Aside0 (o = some t) ∧ f t = some r := by
  obtain ⟨t, h1, h2⟩ := Option.bind_eq_some_iff.mp h
  exact ⟨t, ⟨h1⟩, h2⟩
theorem iT {α : Type} {a b r : α} {d : Decidable (true = true)} (h : @ite α (true = true) d a b = r) : a = r := by rwa [if_pos rfl] at h
theorem iF {α : Type} {a b r : α} {d : Decidable (false = true)} (h : @ite α (false = true) d a b = r) : b = r := by rwa [if_neg (fun h => nomatch h)] at h
theorem bB {w w1 : World} {g : Nat} {o : Obj} (h : Aside0 (w.heap[g]? = some o)) (hb : Below w.heap.size w w1) : Aside0 (w1.heap[g]? = some o) := ⟨blk_below h.out hb⟩
theorem sB {w W w2 : World} (h : Aside0 (Below w.heap.size w W)) (k : Below W.heap.size W w2) : Aside0 (Below w.heap.size w w2) := ⟨below_step h.out k⟩
theorem gS {w W : World} {g : Nat} (hg : g = W.heap.size) (h : Aside0 (Below w.heap.size w W)) : Aside0 (w.heap.size ≤ g) := ⟨by rw [hg]; exact below_size h.out⟩
theorem cZ {w : World} {g : Nat} {t : TypeId} {cs : Array Value} (h : Aside0 (w.heap[g]? = some (.cells cs t (0, 0)))) (i : Nat) {v : Value} (e : cs[i]? = some v := by rfl) : w.cell? ⟨g, i, none⟩ = some v := (blk_cell h.out i).trans e
theorem fZ {w : World} {g : Nat} {t : TypeId} {cs : Array Value} (h : Aside0 (w.heap[g]? = some (.cells cs t (0, 0)))) (i : Nat) : w.frozen? ⟨g, i, none⟩ = false := blk_frozen h.out i
theorem nL {a b c : Nat} (hg : b = c) (h : a < c) : Aside0 (a ≠ b) := ⟨by omega⟩
theorem nG {a b c : Nat} (hg : b = c) (h : a < c) : Aside0 (b ≠ a) := ⟨by omega⟩
theorem aS {p : Prop} (h : p) : Aside0 p := ⟨h⟩
theorem rB {α : Type} {d : Kd α} {e : Nat} {w w1 : World} {base : Nat} {ok : Nat → Prop} {v : Value} {xs : List α} (h : Aside0 (d.R e w base ok v xs)) (hb : Below w.heap.size w w1) : Aside0 (d.R e w1 base ok v xs) := ⟨Kd.R_below h.out hb⟩
theorem tB {α : Type} {d : Kd α} {e : Nat} {w w1 : World} {base : Nat} {ok : Nat → Prop} {v : Value} {xs : List α} (h : Aside0 (Kd.S d e w base ok v xs)) (hb : Below w.heap.size w w1) : Aside0 (Kd.S d e w1 base ok v xs) := ⟨Kd.S_below h.out hb⟩
theorem bP {w W w1 : World} {g : Nat} {o : Obj} (h : Aside0 (w.heap[g]? = some o)) (hb : Below W.heap.size W w1) (hp : w.heap[g]? = some o → W.heap[g]? = some o := by intro hz_; (with_reducible repeat (first | refine kN ?_ _ | refine kD ?_ | refine kA ?_ _)); exact hz_) : Aside0 (w1.heap[g]? = some o) := ⟨blk_below (hp h.out) hb⟩
theorem rP {α : Type} {d : Kd α} {e : Nat} {w W w1 : World} {base : Nat} {ok : Nat → Prop} {v : Value} {xs : List α} (h : Aside0 (d.R e w base ok v xs)) (hb : Below W.heap.size W w1) (hp : d.R e w base ok v xs → d.R e W base ok v xs := by intro hz_; (with_reducible repeat (first | apply qA | apply qN | apply qD)); exact hz_) : Aside0 (d.R e w1 base ok v xs) := ⟨Kd.R_below (hp h.out) hb⟩
theorem sQ {w W w2 : World} (k : Below W.heap.size W w2) (hp : Below w.heap.size w W := by repeat (first | exact HB.out | apply ba | apply bd | apply be | refine bs ?_ (Aside0.out (by assumption)))) : Aside0 (Below w.heap.size w w2) := ⟨below_step hp k⟩
theorem wB {p : Prop} (h : p := by repeat (first | (with_reducible first | exact HB.out | apply ba | apply bd | apply be | refine bs ?_ (Aside0.out (by assumption))) | exact HB.out)) : p := h
theorem fR {p : Prop} (h : p := by first | rfl | (simp <;> rfl) | (simp [*] <;> rfl)) : p := h
theorem gR {p : Prop} (h : p := by first | rfl | (simp; done) | (simp [*]; done)) : p := h
theorem dR {p : Prop} (h : p := by first | exact ⟨rfl, _, World.drewN_drewN _ _ _⟩ | exact ⟨rfl, _, Eq.trans (World.drewN_drewN _ _ _) (congrArg (World.drewN _) (Nat.add_assoc _ _ _))⟩) : p := h
theorem dS {p : Prop} (h : p := by repeat (first | exact Drawn0.refl _ | apply Drawn0.step)) : p := h
theorem cC {p : Prop} (h : p := by repeat (first | exact hx_ | (with_reducible refine Kd.C_alloc ?_ _) | (with_reducible refine Kd.C_drewN ?_ _) | (with_reducible refine Kd.C_drew ?_))) : p := h
theorem oN' {p : Prop} (h : p := by have := HK1.out; first | omega | exact Nat.le_refl _) : p := h
theorem sE {P : Program} {ops : Array Oper} {Q : Exit → Act → World → Prop} {rest : List Oper} {o : Oper} {a : Act} {W w1 : World} {t : TypeId} {p : Tmp} {v : Operand} (h : ∀ w', w' = w1 → wpList P ops Q rest a w')
    (hgd : o.guard = none := by rfl) (ho : o.op = .store t (.tmp p) v := by rfl) (hN : o.dst = none := by rfl) (hrun : (execOp a.eval o).run P W = .ok .skip w1 := by first | (go_simp; done) | (go_simp; rfl)) : wpList P ops Q (o :: rest) a W := store_event hgd ho hN hrun h
abbrev nb (v : Value) (k : Nat) : Prop := some k ≠ v.ownBlock
theorem rQ {α : Type} {d : Kd α} {e : Nat} {w : World} {base : Nat} {ok : Nat → Prop} {v : Value} {xs : List α} {p : Prop} (h : Aside0 (d.R e w base ok v xs)) (hp : d.R e w base ok v xs → p := by intro hz_; (with_reducible repeat (first | apply qA | apply qN | apply qD)); exact hz_) : p := hp h.out
theorem bQ {w : World} {g : Nat} {o : Obj} {p : Prop} (h : Aside0 (w.heap[g]? = some o)) (hp : w.heap[g]? = some o → p := by intro hz_; (with_reducible repeat (first | refine kN ?_ _ | refine kD ?_ | refine kA ?_ _)); exact hz_) : p := hp h.out
theorem rE {α : Type} {d : Kd α} {e : Nat} {w W w1 : World} {base : Nat} {ok : Nat → Prop} {u v : Value} {xs : List α} (h : Aside0 (d.R e w base ok u xs)) (hbase : ∀ k, v.ownBlock = some k → W.heap.size ≤ k) (hb : Below W.heap.size W w1) (hp : d.R e w base ok u xs → d.R e W base ok u xs := by intro hz_; (with_reducible repeat (first | apply qA | apply qN | apply qD)); exact hz_) : Aside0 (d.R e w1 base (fun k => ok k ∧ some k ≠ v.ownBlock) u xs) := ⟨Kd.R_elder' (hp h.out) hbase hb⟩
theorem tE {α : Type} {d : Kd α} {e : Nat} {w W w1 : World} {base : Nat} {ok : Nat → Prop} {u v : Value} {xs : List α} (h : Aside0 (Kd.S d e w base ok u xs)) (hbase : ∀ k, v.ownBlock = some k → W.heap.size ≤ k) (hb : Below W.heap.size W w1) (hp : Kd.S d e w base ok u xs → Kd.S d e W base ok u xs := by intro hz_; (with_reducible repeat (first | apply Kd.S_alloc | apply Kd.S_drewN | apply Kd.S_drew)); exact hz_) : Aside0 (Kd.S d e w1 base (fun k => ok k ∧ some k ≠ v.ownBlock) u xs) := ⟨Kd.S_elder' (hp h.out) hbase hb⟩
theorem rD {α : Type} {d : Kd α} {e : Nat} {w : World} {base : Nat} {ok : Nat → Prop} {v : Value} {xs : List α} (h : Aside0 (d.R e w base ok v xs)) : Aside0 (d.R e w.drew base ok v xs) := ⟨Kd.R_drew h.out⟩
theorem bD {w : World} {g : Nat} {o : Obj} (h : Aside0 (w.heap[g]? = some o)) : Aside0 (w.drew.heap[g]? = some o) := ⟨blk_drew h.out⟩
theorem aP {p q : Nat → Prop} (h : ∀ k, p k → q k := by intro _ hk; simp [hk]) : ∀ k, p k → q k := h
theorem gT {w W : World} {g : Nat} (hg : g = W.heap.size) (h : Below w.heap.size w W := by repeat (first | exact HB.out | apply ba | apply bd | apply be)) : Aside0 (w.heap.size ≤ g) := ⟨by rw [hg]; exact below_size h⟩
theorem zZ {w : World} {g : Nat} {t : TypeId} {a b : Value} (h : Aside0 (w.heap[g]? = some (.cells #[a, b] t (0, 0)))) : w.cell? ⟨g, 0, none⟩ = some a ∧ w.cell? ⟨g, 1, none⟩ = some b ∧ w.frozen? ⟨g, 0, none⟩ = false ∧ w.frozen? ⟨g, 1, none⟩ = false := ⟨cZ h 0, cZ h 1, fZ h 0, fZ h 1⟩
end Go.Proofs.YtaambkdiokbdgacGreatDoorY
namespace Go.Proofs.YtaambkdiokbdgacGreatDoorL
open Go.Shelf
def sortLL_ren : Go.Shelf.Ren := ⟨fun | 6 => 96 | 15 => 119 | 14 => 118 | 28 => 144 | 29 => 122 | 20 => 136 | 21 => 137 | 22 => 138 | 23 => 139 | 24 => 140 | 25 => 141 | 26 => 142 | 27 => 143 | 46 => 151 | 47 => 152 | 48 => 153 | 49 => 154 | 50 => 155 | 57 => 156 | n => n, fun | 22 => 38 | 24 => 22 | 25 => 115 | 3 => 3 | 39 => 102 | 0 => 0 | 53 => 117 | 55 => 79 | 4 => 4 | 46 => 152 | 45 => 151 | 50 => 28 | 5 => 5 | 9 => 9 | 66 => 162 | 70 => 166 | 76 => 174 | 77 => 175 | n => n, fun | n => n⟩
theorem sortLL : Go.Proofs.SlLaysF.n6 Tryz.prog sortLL_ren := {
  mixed := by kernel_rfl
  f6 := ⟨Tryz.f96.name, by decide, Tryz.func96.trans (congrArg some (by kernel_rfl))⟩
  f14 := ⟨Tryz.f118.name, by decide, Tryz.func118.trans (congrArg some (by kernel_rfl))⟩
  f15 := Tryz.func119.trans (congrArg some (by kernel_rfl))
  f20 := ⟨Tryz.f136.name, by decide, Tryz.func136.trans (congrArg some (by kernel_rfl))⟩
  f21 := ⟨Tryz.f137.name, by decide, Tryz.func137.trans (congrArg some (by kernel_rfl))⟩
  f22 := ⟨Tryz.f138.name, by decide, Tryz.func138.trans (congrArg some (by kernel_rfl))⟩
  f23 := ⟨Tryz.f139.name, by decide, Tryz.func139.trans (congrArg some (by kernel_rfl))⟩
  f24 := ⟨Tryz.f140.name, by decide, Tryz.func140.trans (congrArg some (by kernel_rfl))⟩
  f25 := ⟨Tryz.f141.name, by decide, Tryz.func141.trans (congrArg some (by kernel_rfl))⟩
  f26 := ⟨Tryz.f142.name, by decide, Tryz.func142.trans (congrArg some (by kernel_rfl))⟩
  f27 := ⟨Tryz.f143.name, by decide, Tryz.func143.trans (congrArg some (by kernel_rfl))⟩
  f28 := Tryz.func144.trans (congrArg some (by kernel_rfl))
  f29 := Tryz.func122.trans (congrArg some (by kernel_rfl))
  f46 := ⟨Tryz.f151.name, by decide, Tryz.func151.trans (congrArg some (by kernel_rfl))⟩
  f47 := Tryz.func152.trans (congrArg some (by kernel_rfl))
  f48 := Tryz.func153.trans (congrArg some (by kernel_rfl))
  f49 := ⟨Tryz.f154.name, by decide, Tryz.func154.trans (congrArg some (by kernel_rfl))⟩
  f50 := ⟨Tryz.f155.name, by decide, Tryz.func155.trans (congrArg some (by kernel_rfl))⟩
  f57 := ⟨Tryz.f156.name, by decide, Tryz.func156.trans (congrArg some (by kernel_rfl))⟩
  t0 := Tryz.underlying0
  a0 := Tryz.isAgg0
  z0 := Tryz.sizeOf0
  v0 := Tryz.zeroValue0
  t3 := Tryz.underlying3
  a3 := Tryz.isAgg3
  z3 := Tryz.sizeOf3
  v3 := Tryz.zeroValue3
  t4 := Tryz.underlying4
  a4 := Tryz.isAgg4
  z4 := Tryz.sizeOf4
  v4 := Tryz.zeroValue4
  t5 := Tryz.underlying5
  a5 := Tryz.isAgg5
  z5 := Tryz.sizeOf5
  v5 := Tryz.zeroValue5
  t9 := Tryz.underlying9
  a9 := Tryz.isAgg9
  z9 := Tryz.sizeOf9
  v9 := Tryz.zeroValue9
  t22 := Tryz.underlying38
  a22 := Tryz.isAgg38
  z22 := Tryz.sizeOf38
  v22 := Tryz.zeroValue38
  a24 := Tryz.isAgg22
  z24 := Tryz.sizeOf22
  t25 := Tryz.underlying115
  a25 := Tryz.isAgg115
  z25 := Tryz.sizeOf115
  v25 := Tryz.zeroValue115
  t39 := Tryz.underlying102
  a39 := Tryz.isAgg102
  z39 := Tryz.sizeOf102
  v39 := Tryz.zeroValue102
  t45 := Tryz.underlying151
  a45 := Tryz.isAgg151
  z45 := Tryz.sizeOf151
  v45 := Tryz.zeroValue151
  t46 := Tryz.underlying152
  a46 := Tryz.isAgg152
  z46 := Tryz.sizeOf152
  v46 := Tryz.zeroValue152
  t50 := Tryz.underlying28
  a50 := Tryz.isAgg28
  z50 := Tryz.sizeOf28
  v50 := Tryz.zeroValue28
  t53 := Tryz.underlying117
  a53 := Tryz.isAgg117
  z53 := Tryz.sizeOf117
  v53 := Tryz.zeroValue117
  t55 := Tryz.underlying79
  a55 := Tryz.isAgg79
  z55 := Tryz.sizeOf79
  v55 := Tryz.zeroValue79
  t66 := Tryz.underlying162
  a66 := Tryz.isAgg162
  z66 := Tryz.sizeOf162
  v66 := Tryz.zeroValue162
  t70 := Tryz.underlying166
  a70 := Tryz.isAgg166
  z70 := Tryz.sizeOf166
  v70 := Tryz.zeroValue166
  t76 := Tryz.underlying174
  a76 := Tryz.isAgg174
  z76 := Tryz.sizeOf174
  v76 := Tryz.zeroValue174
  t77 := Tryz.underlying175
  a77 := Tryz.isAgg175
  z77 := Tryz.sizeOf175
  v77 := Tryz.zeroValue175 }
def delI_ren : Go.Shelf.Ren := ⟨fun | 45 => 35 | n => n, fun | 22 => 22 | 23 => 3 | 3 => 3 | 4 => 4 | 0 => 0 | n => n, fun | n => n⟩
theorem delI : Go.Proofs.SlLaysN.n45 Tryz.prog delI_ren := {
  mixed := by kernel_rfl
  f45 := ⟨Tryz.f35.name, by decide, Tryz.func35.trans (congrArg some (by kernel_rfl))⟩
  t0 := Tryz.underlying0
  a0 := Tryz.isAgg0
  z0 := Tryz.sizeOf0
  v0 := Tryz.zeroValue0
  t3 := Tryz.underlying3
  a3 := Tryz.isAgg3
  z3 := Tryz.sizeOf3
  v3 := Tryz.zeroValue3
  t4 := Tryz.underlying4
  a4 := Tryz.isAgg4
  z4 := Tryz.sizeOf4
  v4 := Tryz.zeroValue4
  t22 := Tryz.underlying22
  a22 := Tryz.isAgg22
  z22 := Tryz.sizeOf22
  v22 := Tryz.zeroValue22
  t23 := Tryz.underlying3
  a23 := Tryz.isAgg3
  z23 := Tryz.sizeOf3
  v23 := Tryz.zeroValue3
  i23 := by kernel_rfl }
end Go.Proofs.YtaambkdiokbdgacGreatDoorL
namespace Go.Proofs.YtaambkdiokbdgacGreatDoorM
open Go.RowKit Go.Proofs.YtaambkdiokbdgacGreatDoorW.PrintWords Go.Proofs.YtaambkdiokbdgacGreatDoorW.PrintMore
theorem ev_pos {α : Type} {c : Prop} [Decidable c] {g f : Nat → Option α} {r : α} (h : c) : Ev (fun k => if c then g k else f k) r ↔ Ev g r := by simp only [if_pos h]
theorem ev_neg {α : Type} {c : Prop} [Decidable c] {g f : Nat → Option α} {r : α} (h : ¬ c) : Ev (fun k => if c then g k else f k) r ↔ Ev f r := by simp only [if_neg h]
theorem ev_bind {α β : Type} {g : Nat → Option α} {f : Nat → α → Option β} {a : α} {r : β} (h : Ev g a) : Ev (fun n => (g n).bind (f n)) r ↔ Ev (fun n => f n a) r := by
  refine ⟨fun hb => ?_, fun k => Ev.bind h k⟩
  obtain ⟨K, h⟩ := h
  obtain ⟨K', hb⟩ := hb
  refine ⟨max K K', fun n hn => ?_⟩
  have h1 := h n (by omega)
  have h2 := hb n (by omega)
  simpa only [h1, Option.bind_some] using h2
theorem ev_now {α : Type} {a r : α} : Ev (fun _ => some a) r ↔ a = r := by
  refine ⟨fun ⟨K, h⟩ => Option.some.inj (h K (Nat.le_refl _)), fun h => h ▸ Ev.now a⟩
theorem ev_of {α : Type} {a : Option α} {r : α} (h : a = some r) : Ev (fun _ => a) r := ⟨0, fun _ _ => h⟩
theorem ev_step {α : Type} {g : Nat → Option α} {r : α} (k : Ev (fun n => g (n + 1)) r) : Ev g r := Ev.step (fun _ => rfl) k
theorem ev_all {α : Type} (N : Nat) (g : Nat → Nat → Option α) (p : Nat → α) (h : ∀ m, m < N → Ev (fun k => g k m) (p m)) : ∃ K, ∀ k, K ≤ k → ∀ m, m < N → g k m = some (p m) := by
  induction N with
  | zero => exact ⟨0, fun _ _ m hm => absurd hm (Nat.not_lt_zero m)⟩
  | succ N ih =>
    obtain ⟨K, hK⟩ := ih (fun m hm => h m (by omega))
    obtain ⟨K', hK'⟩ := h N (by omega)
    refine ⟨max K K', fun k hk m hm => ?_⟩
    by_cases e : m = N
    · subst e
      exact hK' k (by omega)
    · exact hK k (by omega) m (by omega)
theorem w64 {x : Int} (h0 : -9223372036854775808 ≤ x) (h1 : x ≤ 9223372036854775807) : wrap64 x = x := by unfold wrap64; omega
theorem w64i {i : Int} {n : Nat} (h0 : 0 ≤ i) (h : i < (n : Int)) (hn : n ≤ 9223372036854775807) : wrap64 (i + 1) = i + 1 := by unfold wrap64; omega
theorem rd_nat (l : List Int) (i : Nat) : rd l (i : Int) = l.getD i 0 := by simp [rd]
theorem rd_lt (l : List Int) (i : Nat) (h : i < l.length) : rd l (i : Int) = l[i] := by simp [rd, h]
theorem rdOf_nat {α : Type} (d : α) (l : List α) (i : Nat) : rdOf d l (i : Int) = l.getD i d := by simp [rdOf]
theorem rdOf_lt {α : Type} (d : α) (l : List α) (i : Nat) (h : i < l.length) : rdOf d l (i : Int) = l[i] := by simp [rdOf, h]
def wfold (l : List Int) (s : Int) : Int := l.foldl (fun s x => wrap64 (s + x)) s
theorem wfold_sum (l : List Int) : ∀ s : Int, (∀ x ∈ l, 0 ≤ x ∧ x ≤ 1000000) → 0 ≤ s → s + 1000000 * (l.length : Int) ≤ 9000000000000000000 → wfold l s = s + l.sum := by
  induction l with
  | nil => intro s _ _ _; simp [wfold]
  | cons a l ih =>
    intro s h h0 h1
    have ha := h a (by simp)
    simp only [List.length_cons] at h1
    have e : wrap64 (s + a) = s + a := w64 (by omega) (by omega)
    show wfold l (wrap64 (s + a)) = _
    rw [e, ih (s + a) (fun x hx => h x (by simp [hx])) (by omega) (by omega), List.sum_cons, Int.add_assoc]
theorem wfold_take (l : List Int) (i : Nat) (h : i < l.length) (s : Int) : wfold (l.drop i) s = wfold (l.drop (i + 1)) (wrap64 (s + l[i])) := by
  rw [List.drop_eq_getElem_cons h]
  rfl
def goodB (q : Int) (l : List Int) : Bool := decide (1 ≤ l.length) && decide (l.length ≤ 9) && (l.all fun x => decide (0 ≤ x) && decide (x ≤ 1000)) && (decide (1 ≤ q) && decide (q ≤ l.sum))
theorem wfold_w (l : List Int) (h : l.length ≤ 9) (hb : (l.all fun x => decide (0 ≤ x) && decide (x ≤ 1000)) = true) : wfold l 0 = l.sum := by
  rw [wfold_sum l 0 (fun x hx => ?_) (by omega) (by omega), Int.zero_add]
  have := List.all_eq_true.1 hb x hx
  simp at this
  omega
structure GoodC (q : Int) (l : List Int) : Prop where
  l1 : 1 ≤ l.length
  l9 : l.length ≤ 9
  w : ∀ x ∈ l, 0 ≤ x ∧ x ≤ 1000
  q1 : 1 ≤ q
  qs : q ≤ l.sum
theorem good_iff (q : Int) (l : List Int) : goodB q l = true ↔ GoodC q l := by
  unfold goodB
  simp only [Bool.and_eq_true, decide_eq_true_eq, List.all_eq_true]
  exact ⟨fun ⟨⟨⟨a, b⟩, c⟩, d, e⟩ => ⟨a, b, c, d, e⟩, fun h => ⟨⟨⟨h.l1, h.l9⟩, h.w⟩, h.q1, h.qs⟩⟩
theorem sum_bounds (l : List Int) (c : Int) (h : ∀ x ∈ l, 0 ≤ x ∧ x ≤ c) : 0 ≤ l.sum ∧ l.sum ≤ c * l.length := by
  induction l with
  | nil => simp
  | cons a l ih =>
    have h1 := h a (by simp)
    have h2 := ih (fun x hx => h x (by simp [hx]))
    rw [List.sum_cons, List.length_cons]
    have : c * ((l.length + 1 : Nat) : Int) = c * l.length + c := by rw [Int.natCast_add, Int.mul_add]; simp
    omega
theorem GoodC.sum {q : Int} {l : List Int} (h : GoodC q l) : 1 ≤ l.sum ∧ l.sum ≤ 9000 := by
  have h1 := sum_bounds l 1000 h.w
  have h2 := h.q1
  have h3 := h.qs
  have h4 := h.l9
  omega
def OkI (n : Int) : Prop := (Lit.int .i64 n).wf = true
def OkB (n : Int) : Prop := (Lit.int .u8 n).wf = true
def OkBL (l : List Int) : Prop := l.length ≤ maxLen ∧ ∀ x ∈ l, OkB x
theorem OkI.range {n : Int} (h : OkI n) : -9223372036854775808 ≤ n ∧ n ≤ 9223372036854775807 := by
  simp [OkI, Lit.wf, IntKind.min, IntKind.max, IntKind.bits, IntKind.signed] at h
  omega
def wsum : List Int → Nat → Int
  | [], _ => 0
  | w :: ws, m => (if m % 2 = 1 then w else 0) + wsum ws (m / 2)
theorem wsum_bounds (ws : List Int) (h : ∀ x ∈ ws, 0 ≤ x) : ∀ m, 0 ≤ wsum ws m ∧ wsum ws m ≤ ws.sum := by
  induction ws with
  | nil => intro m; simp [wsum]
  | cons a l ih =>
    intro m
    have h1 := ih (fun x hx => h x (by simp [hx])) (m / 2)
    have h2 := h a (by simp)
    rw [List.sum_cons]
    simp only [wsum]
    split <;> omega
theorem div_pow_succ (m i : Nat) : m / 2 / 2 ^ i = m / 2 ^ (i + 1) := by rw [Nat.div_div_eq_div_mul, Nat.pow_succ, Nat.mul_comm]
theorem wsum_drop (ws : List Int) (i m : Nat) (h : i < ws.length) : wsum (ws.drop i) m = (if m % 2 = 1 then ws[i] else 0) + wsum (ws.drop (i + 1)) (m / 2) := by
  rw [List.drop_eq_getElem_cons h]
  rfl
theorem shr_nat (m i : Nat) (hi : i ≤ 64) : shr .i64 (m : Int) (i : Int) = ((m / 2 ^ i : Nat) : Int) := by
  unfold shr
  rw [Int.toNat_natCast, show IntKind.i64.bits = 64 from rfl, Nat.min_eq_left hi]
  simp
theorem i64_wrap {x : Int} (h0 : -9223372036854775808 ≤ x) (h1 : x ≤ 9223372036854775807) : IntKind.i64.wrap x = x := by rw [IntKind.wrap_i64]; omega
theorem shl_one (i : Nat) (hi : i ≤ 62) : shl .i64 1 (i : Int) = ((2 ^ i : Nat) : Int) := by
  unfold shl
  rw [Int.toNat_natCast, show IntKind.i64.bits = 64 from rfl, Nat.min_eq_left (by omega), Int.one_mul]
  have h : 2 ^ i ≤ 2 ^ 62 := Nat.pow_le_pow_right (by omega) hi
  have h' : (2 : Int) ^ i = ((2 ^ i : Nat) : Int) := by simp
  have h0 : 0 < 2 ^ i := Nat.two_pow_pos i
  rw [h', i64_wrap (by omega) (by omega)]
theorem wraps_i64 (n : Int) (h0 : 0 ≤ n) (h1 : n < 2 ^ 62) : IntKind.i64.wrap n = n := i64_wrap (by omega) (by omega)
theorem and_one (a : Nat) (h : a < 2 ^ 62) : Go.bits .and .i64 (a : Int) 1 = ((a % 2 : Nat) : Int) := by
  have := Go.bits_mask .i64 62 (by decide) wraps_i64 1 (by decide) (a : Int) (by omega) (by omega)
  simpa using this
theorem or_nat (a b : Nat) (ha : a < 2 ^ 62) (hb : b < 2 ^ 62) : Go.bits .or .i64 (a : Int) (b : Int) = ((a ||| b : Nat) : Int) := (Go.bits_nat .i64 62 (by decide) wraps_i64 a b ha hb).2
theorem or_pow : ∀ (i m : Nat), m / 2 ^ i % 2 = 0 → m ||| 2 ^ i = m + 2 ^ i := by
  intro i
  induction i with
  | zero =>
    intro m h
    have h1 := Nat.or_div_two (a := m) (b := 1)
    have h2 := Nat.or_mod_two_eq_one (a := m) (b := 1)
    simp only [Nat.pow_zero, Nat.div_one] at h ⊢
    have h3 : (m ||| 1) % 2 = 1 := h2.2 (.inr rfl)
    have h4 : (m ||| 1) / 2 = m / 2 := by rw [h1]; simp
    omega
  | succ i ih =>
    intro m h
    have hp : 2 ^ (i + 1) = 2 * 2 ^ i := by rw [Nat.pow_succ, Nat.mul_comm]
    have h1 := Nat.or_div_two (a := m) (b := 2 ^ (i + 1))
    have h2 := Nat.or_mod_two_eq_one (a := m) (b := 2 ^ (i + 1))
    have h3 : 2 ^ (i + 1) / 2 = 2 ^ i := by omega
    rw [h3, ih (m / 2) (by rw [div_pow_succ]; exact h)] at h1
    have h5 : 2 ^ (i + 1) % 2 = 0 := by omega
    have h6 : (m ||| 2 ^ (i + 1)) % 2 = m % 2 := by
      by_cases e : m % 2 = 1
      · rw [h2.2 (.inl e), e]
      · have : ¬ (m ||| 2 ^ (i + 1)) % 2 = 1 := fun hh => by
          rcases h2.1 hh with h | h
          · exact e h
          · omega
        omega
    omega
def winsL (q : Int) (ws : List Int) : List Bool := (List.range (2 ^ ws.length)).map fun m => decide (q ≤ wsum ws m)
theorem winsL_length (q : Int) (ws : List Int) : (winsL q ws).length = 2 ^ ws.length := by simp [winsL]
theorem winsL_get (q : Int) (ws : List Int) (m : Nat) (h : m < (winsL q ws).length) : (winsL q ws)[m] = decide (q ≤ wsum ws m) := by simp [winsL]
theorem winsL_getD (q : Int) (ws : List Int) (m : Nat) (h : m < 2 ^ ws.length) : (winsL q ws).getD m false = decide (q ≤ wsum ws m) := by
  rw [List.getD_eq_getElem?_getD, List.getElem?_eq_getElem (by rw [winsL_length]; exact h), winsL_get]
  rfl
theorem GoodC.w0 {q : Int} {ws : List Int} (h : GoodC q ws) : ∀ x ∈ ws, 0 ≤ x := fun x hx => (h.w x hx).1
theorem GoodC.wb {q : Int} {ws : List Int} (h : GoodC q ws) : ∀ x ∈ ws, 0 ≤ x ∧ x ≤ 1000000000 := fun x hx => by have := h.w x hx; omega
theorem GoodC.pow {q : Int} {ws : List Int} (h : GoodC q ws) : 2 ≤ 2 ^ ws.length ∧ 2 ^ ws.length ≤ 512 := by
  have h1 : 2 ^ 1 ≤ 2 ^ ws.length := Nat.pow_le_pow_right (by omega) h.l1
  have h2 : 2 ^ ws.length ≤ 2 ^ 9 := Nat.pow_le_pow_right (by omega) h.l9
  omega
def cmpL : List Int → List Int → Int
  | [], [] => 0
  | [], _ :: _ => -1
  | _ :: _, [] => 1
  | a :: ar, b :: bs => if a < b then -1 else if b < a then 1 else cmpL ar bs
theorem cmpL_self : ∀ a : List Int, cmpL a a = 0
  | [] => rfl
  | a :: ar => by
    rw [cmpL, if_neg (Int.lt_irrefl a), if_neg (Int.lt_irrefl a)]
    exact cmpL_self ar
theorem cmpL_swap : ∀ a b : List Int, cmpL b a = - cmpL a b
  | [], [] => rfl
  | [], _ :: _ => rfl
  | _ :: _, [] => rfl
  | a :: ar, b :: bs => by
    have ih := cmpL_swap ar bs
    simp only [cmpL]
    by_cases h1 : a < b
    · rw [if_neg (by omega), if_pos h1, if_pos h1]; rfl
    · by_cases h2 : b < a
      · rw [if_pos h2, if_neg h1, if_pos h2]
      · rw [if_neg h2, if_neg h1, if_neg h1, if_neg h2]; exact ih
theorem cmpL_zero : ∀ a b : List Int, cmpL a b = 0 → a = b
  | [], [], _ => rfl
  | [], _ :: _, h => by simp [cmpL] at h
  | _ :: _, [], h => by simp [cmpL] at h
  | a :: ar, b :: bs, h => by
    simp only [cmpL] at h
    by_cases h1 : a < b
    · rw [if_pos h1] at h; omega
    · by_cases h2 : b < a
      · rw [if_neg h1, if_pos h2] at h; omega
      · rw [if_neg h1, if_neg h2] at h
        rw [cmpL_zero ar bs h, show a = b by omega]
theorem cmpL_le_trans : ∀ a b c : List Int, cmpL a b ≤ 0 → cmpL b c ≤ 0 → cmpL a c ≤ 0
  | [], _, [], _, _ => by simp [cmpL]
  | [], _, _ :: _, _, _ => by simp [cmpL]
  | _ :: _, [], _, h, _ => by simp [cmpL] at h
  | _ :: _, _ :: _, [], _, h => by simp [cmpL] at h
  | a :: ar, b :: bs, c :: cs, h1, h2 => by
    have ih := cmpL_le_trans ar bs cs
    simp only [cmpL] at h1 h2 ⊢
    (repeat' split at h1) <;> (repeat' split at h2) <;> (repeat' split) <;> first | omega | (exact ih h1 h2)
end Go.Proofs.YtaambkdiokbdgacGreatDoorM
namespace Go.Proofs.YtaambkdiokbdgacGreatDoorS
open Go.RowKit Go.Shelf Go.Proofs.YtaambkdiokbdgacGreatDoorW.PrintWords
section
variable {P : Program} {ρ : Ren} {α β : Type}
theorem heap_sortWorld [Inhabited β] (enc : β → Value) (w : World) (blk off n : Nat) (d : Array β) (os : Array Obj) (k : Nat) (hk : k < w.heap.size) (hne : k ≠ blk) : (sortWorld enc w blk off n d os).heap[k]? = w.heap[k]? := by
  unfold sortWorld
  rw [Go.Sort.heap_grow_old _ _ (by rw [Go.Proofs.size_putRow]; exact hk)]
  unfold Go.Sort.putRow Go.Sort.mapBlock
  show (w.heap.modify blk _)[k]? = _
  rw [Array.getElem?_modify, if_neg (fun e => hne e.symm)]
theorem row_sortWorld [Inhabited β] (enc : β → Value) (w : World) (blk off n : Nat) (d : Array β) (os : Array Obj) {c : Array Value} {e : TypeId} {fr : Nat × Nat} (hb : w.heap[blk]? = some (.cells c e fr)) : (sortWorld enc w blk off n d os).heap[blk]? = some (.cells (Go.Sort.putCells enc off d c) e fr) := by
  have hk : blk < w.heap.size := (Array.getElem?_eq_some_iff.1 hb).1
  unfold sortWorld
  rw [Go.Sort.heap_grow_old _ _ (by rw [Go.Proofs.size_putRow]; exact hk)]
  unfold Go.Sort.putRow Go.Sort.mapBlock
  show (w.heap.modify blk _)[blk]? = _
  rw [Array.getElem?_modify, if_pos rfl, hb]
  rfl
theorem size_sortWorld [Inhabited β] (enc : β → Value) (w : World) (blk off n : Nat) (d : Array β) (os : Array Obj) : w.heap.size ≤ (sortWorld enc w blk off n d os).heap.size := by
  unfold sortWorld
  rw [Go.Sort.size_grow, Go.Proofs.size_putRow]
  show w.heap.size ≤ w.heap.size + _
  omega
theorem swo_pull {cf : α → α → Int} (hO : Go.Sort.SWO (ltOf cf)) (f : β → α) : Go.Sort.SWO (ltOf fun i j => cf (f i) (f j)) where
  irrefl x := hO.irrefl (f x)
  trans x y z := hO.trans (f x) (f y) (f z)
  ntrans x y z := hO.ntrans (f x) (f y) (f z)
theorem drop_take_one (l : List Value) (j : Nat) (h : j < l.length) : (l.drop (j * 1)).take 1 = [l[j]] := by
  rw [Nat.mul_one, List.drop_eq_getElem_cons h]
  rfl
set_option maxHeartbeats 1000000 in
theorem sort_rows (L : SlLaysF.n6 P ρ) (d : Kd α) (hd : d.sz = 1) (cf : α → α → Int) (hO : Go.Sort.SWO (ltOf cf)) (g : Nat) (eg : ∀ args w, (callFunc g args).run P w = .ok (.enter g args) w)
    {e : Nat} {w : World} {base : Nat} {ok : Nat → Prop} {A : Option Addr} {c : Nat} {xs : List α} (hS : Kd.S d e w base ok (.slice A xs.length c) xs) (hmx : xs.length < 4611686018427387904)
    (hcmp : ∀ (W : World) (x y : α) (u v : Value), x ∈ xs → y ∈ xs → d.K W x [u] → d.K W y [v] → Calls P g #[u, v] W fun e W' => e = .returned (.int .i64 (cf x y)) ∧ ∃ q, W' = W.drewN q) :
    Calls P (ρ.f 6) #[.slice A xs.length c, .func (.func g) #[] #[]] w fun e' W' => e' = .returned (.tuple #[]) ∧ ∃ ys : List α, ys.Perm xs ∧ ys.Pairwise (fun a b => ltOf cf b a = false) ∧ Kd.S d e W' base ok (.slice A xs.length c) ys ∧ w.grownBy W' (Value.slice A xs.length c).ownBlock := by
  by_cases hn : xs = []
  · subst hn
    refine (AnyF.slices_SortFunc_none (P := P) (ρ := ρ) { L with } A c _ w).mono ?_
    rintro e' W' ⟨rfl, rfl⟩
    exact ⟨rfl, [], List.Perm.refl _, List.Pairwise.nil, hS, ⟨rfl, rfl, rfl, Nat.le_refl _, fun _ _ _ => rfl⟩⟩
  have hpos : 0 < xs.length := List.length_pos_iff.2 hn
  obtain ⟨f, h0, inner, ho, hr⟩ := hS
  have hsz : ∀ f, (Kd.tag f d).sz = 1 := fun _ => hd
  rw [hsz, List.length_zipIdx] at ho
  rw [hsz] at hr
  obtain ⟨hlen, ⟨_, h00⟩ | ⟨gb, cap, cur, hv, hbase, hheap, hnc, hmax, hcs, htake⟩⟩ := ho
  · omega
  injection hv with hA _ hc
  subst hA
  subst hc
  rw [Nat.mul_one] at hlen hcs htake
  have hil : ∀ i : Fin xs.length, i.1 < inner.length := fun i => by rw [hlen]; exact i.2
  have hcur : ∀ j, j < xs.length → cur[j]? = inner[j]? := fun j hj => by
    rw [← htake, List.getElem?_take, if_pos hj, Array.getElem?_toList]
  haveI : Inhabited (Fin xs.length) := ⟨⟨0, hpos⟩⟩
  have hM : ∀ i : Fin xs.length, d.M w base (fun k => (ok k ∧ some k ≠ some gb) ∧ f k = i.1) xs[i] [inner[i.1]'(hil i)] := fun i => by
    have h := hr.2 i.1 (xs[i], i.1) (Kd.zip_at (List.getElem?_eq_getElem i.2))
    rw [drop_take_one inner i.1 (hil i)] at h
    exact h
  let enc : Fin xs.length → Value := fun i => inner[i.1]'(hil i)
  let da : Array (Fin xs.length) := Array.ofFn (n := xs.length) id
  have hdas : da.size = xs.length := Array.size_ofFn
  have hdag : ∀ j (h : j < xs.length), da[j]! = ⟨j, h⟩ := fun j h => by
    rw [getElem!_pos da j (by rw [hdas]; exact h)]
    simp [da]
  have hH : Go.Sort.Holds enc w gb 0 da := fun j hj => by
    rw [hdas] at hj
    rw [hdag j hj, Nat.zero_add]
    refine ⟨?_, ?_⟩
    · simp only [World.cell?, hheap]
      rw [if_neg (by simp), hcur j hj, List.getElem?_eq_getElem (hil ⟨j, hj⟩)]
    · simp [World.frozen?, hheap]
  have h1 : OneCell enc := fun i => d.K_one (d.K_of_M (hM i)) _ (List.mem_singleton.2 rfl)
  have hblk : gb < w.heap.size := (Array.getElem?_eq_some_iff.1 hheap).1
  have hcmp1 : CmpLays1 P g #[] enc (fun i j => cf xs[i] xs[j]) gb 0 da.size w := fun m os dk _ x y => by
    have hK : ∀ i : Fin xs.length, d.K (sortWorld enc w gb 0 m dk os) xs[i] [enc i] := fun i =>
      d.K_of_M (Kd.M_step (hM i) (fun k hk hlt => heap_sortWorld enc w gb 0 m dk os k hlt (fun e => hk.1.2 (by rw [e]))))
    refine (hcmp _ xs[x] xs[y] (enc x) (enc y) (List.getElem_mem _) (List.getElem_mem _) (hK x) (hK y)).mono ?_
    rintro e' W' ⟨rfl, q, rfl⟩
    exact ⟨rfl, q, #[], by rw [Go.Sort.grow_empty]⟩
  have hcall := Any.slices_SortFunc L enc h1 (fun i j => cf xs[i] xs[j]) (swo_pull hO (fun i : Fin xs.length => xs[i])) g #[] gb 0 c da w eg hcmp1 hH hblk (by rw [hdas]; exact hmx)
  rw [hdas] at hcall
  refine hcall.mono ?_
  rintro e' W' ⟨rfl, d', m, os, hp, hs, rfl⟩
  obtain ⟨hps, _, hpp⟩ := hp
  rw [hdas] at hps
  have hd'l : d'.toList.length = xs.length := by simpa using hps
  have hpp' : d'.toList.Perm da.toList := by
    have e1 : d'.extract 0 xs.length = d' := by
      have h_ := Array.extract_size (xs := d')
      rwa [hps] at h_
    have e2 : da.extract 0 xs.length = da := by
      have h_ := Array.extract_size (xs := da)
      rwa [hdas] at h_
    rw [e1, e2] at hpp
    exact hpp
  have hda : da.toList.map (fun i => xs[i]) = xs := by
    show (Array.ofFn (n := xs.length) id).toList.map _ = xs
    rw [Array.toList_ofFn]
    refine List.ext_getElem (by simp) (fun i h1 h2 => ?_)
    simp
  have hnd : d'.toList.Nodup := hpp'.nodup_iff.2 (by
    show (Array.ofFn (n := xs.length) id).toList.Nodup
    rw [Array.toList_ofFn, List.Nodup, List.pairwise_iff_getElem]
    intro i j hi hj hij heq
    simp at heq
    omega)
  refine ⟨rfl, d'.toList.map (fun i => xs[i]), ?_, ?_, ?_, ?_⟩
  · exact (hpp'.map _).trans (by rw [hda])
  · rw [List.pairwise_iff_getElem]
    intro i j hi hj hij
    rw [List.length_map, hd'l] at hi hj
    have h := hs i j (Nat.zero_le _) hij hj
    rw [getElem!_pos d' i (by omega), getElem!_pos d' j (by omega)] at h
    have h2 : ltOf cf xs[d'[j]'(by omega)] xs[d'[i]'(by omega)] = false := h
    simpa using h2
  · have hgd : ∀ j (h : j < xs.length), d'[j]! = d'[j]'(by omega) := fun j h => getElem!_pos d' j (by omega)
    refine ⟨fun k => if h : f k < xs.length then d'.toList.idxOf ⟨f k, h⟩ else 0, h0, d'.toList.map enc, ⟨?_, .inr ⟨gb, c, Go.Sort.putCells enc 0 d' cur, ?_, hbase, row_sortWorld enc w gb 0 m d' os hheap, ?_, hmax, ?_, ?_⟩⟩, ?_, ?_⟩
    · rw [hsz, List.length_zipIdx, List.length_map, List.length_map, Nat.mul_one]
    · rw [List.length_zipIdx, List.length_map, hd'l]
    · rw [List.length_zipIdx, List.length_map, hd'l]; exact hnc
    · rw [hsz, Nat.mul_one]
      simp [Go.Sort.putCells, hcs]
    · rw [hsz, List.length_zipIdx, List.length_map, hd'l, Nat.mul_one]
      refine List.ext_getElem? (fun j => ?_)
      rw [List.getElem?_take]
      by_cases hj : j < xs.length
      · rw [if_pos hj, Array.getElem?_toList, List.getElem?_map, Array.getElem?_toList, Array.getElem?_eq_getElem (by omega : j < d'.size)]
        simp only [Go.Sort.putCells, Array.getElem?_mapIdx, hcur j hj, List.getElem?_eq_getElem (hil ⟨j, hj⟩), Option.map_some]
        rw [if_pos ⟨Nat.zero_le _, by omega⟩, Nat.sub_zero, hgd j hj]
      · rw [if_neg hj, List.getElem?_eq_none (by rw [List.length_map, hd'l]; omega)]
    · rw [hsz, List.length_zipIdx, List.length_map, List.length_map, Nat.mul_one]
    · intro j p hj
      rw [hsz]
      rw [List.getElem?_zipIdx] at hj
      obtain ⟨y, hy, rfl⟩ := Option.map_eq_some_iff.1 hj
      have hjl : j < xs.length := by
        have := (List.getElem?_eq_some_iff.1 hy).1
        rw [List.length_map, hd'l] at this
        exact this
      rw [List.getElem?_map, Array.getElem?_toList, Array.getElem?_eq_getElem (by omega : j < d'.size)] at hy
      obtain rfl := Option.some.inj hy
      rw [drop_take_one (d'.toList.map enc) j (by rw [List.length_map, hd'l]; exact hjl)]
      have hg : (d'.toList.map enc)[j]'(by rw [List.length_map, hd'l]; exact hjl) = inner[(d'[j]'(by omega)).1]'(hil _) := by simp [enc]
      rw [hg]
      refine d.M_mono (fun k hk => ⟨hk.1, ?_⟩) (Kd.M_step (hM (d'[j]'(by omega))) (fun k hk hlt => heap_sortWorld enc w gb 0 m d' os k hlt (fun e => hk.1.2 (by rw [e]))))
      have hfk : f k < xs.length := by rw [hk.2]; exact (d'[j]'(by omega)).2
      have hfe : (⟨f k, hfk⟩ : Fin xs.length) = d'.toList[j]'(by omega) := Fin.ext (by rw [Array.getElem_toList]; exact hk.2)
      simp only [dif_pos hfk]
      rw [hfe, List.Nodup.idxOf_getElem hnd, Nat.zero_add]
  · refine ⟨rfl, rfl, rfl, size_sortWorld _ _ _ _ _ _ _, fun k hk hne => heap_sortWorld _ _ _ _ _ _ _ k hk (fun e => hne ?_)⟩
    rw [e]
    rfl
end
open Go.Proofs.YtaambkdiokbdgacGreatDoorM
theorem swoL : Go.Sort.SWO (ltOf cmpL) where
  irrefl x := by simp [ltOf, cmpL_self]
  trans x y z h1 h2 := by
    simp only [ltOf, decide_eq_true_eq] at *
    have h3 := cmpL_le_trans x y z (by omega) (by omega)
    rcases Int.lt_or_eq_of_le h3 with h | h
    · exact h
    · obtain rfl := cmpL_zero x z h
      have := cmpL_swap x y
      omega
  ntrans x y z h1 h2 := by
    simp only [ltOf, decide_eq_false_iff_not] at *
    have e1 := cmpL_swap x y
    have e2 := cmpL_swap y z
    have e3 := cmpL_swap x z
    have := cmpL_le_trans z y x (by omega) (by omega)
    omega
def sortL (xs : List (List Int)) : List (List Int) := xs.mergeSort fun a b => !ltOf cmpL b a
theorem sortL_of {xs ys : List (List Int)} (hp : ys.Perm xs) (hs : ys.Pairwise fun a b => ltOf cmpL b a = false) : ys = sortL xs := by
  refine List.Perm.eq_of_pairwise (le := fun x y => (!ltOf cmpL y x) = true) ?_ ?_ ?_ (hp.trans (List.mergeSort_perm _ _).symm)
  · intro a b _ _ h1 h2
    simp only [Bool.not_eq_true', ltOf, decide_eq_false_iff_not] at h1 h2
    have := cmpL_swap a b
    exact cmpL_zero a b (by omega)
  · exact hs.imp (fun h => by simpa using h)
  · refine List.pairwise_mergeSort (fun a b c h1 h2 => ?_) (fun a b => ?_) xs
    · simp only [Bool.not_eq_true'] at h1 h2 ⊢
      exact swoL.ntrans c b a h2 h1
    · simp only [Bool.or_eq_true, Bool.not_eq_true', ltOf, decide_eq_false_iff_not]
      have := cmpL_swap a b
      omega
theorem sortL_perm (xs : List (List Int)) : (sortL xs).Perm xs := List.mergeSort_perm _ _
end Go.Proofs.YtaambkdiokbdgacGreatDoorS
namespace Go.Proofs.YtaambkdiokbdgacGreatDoorR
open Go.RowKit Go.Shelf Go.Proofs.YtaambkdiokbdgacGreatDoorW.PrintWords Go.Proofs.YtaambkdiokbdgacGreatDoorS
theorem row_open {w : World} {base : Nat} {e : TypeId} {ok : Nat → Prop} {v : Value} {xs : List Int} (h : Kd.R (Kd.int .i64) e w base ok v xs) (hn : 0 < xs.length) :
    ∃ (gb cap : Nat) (cur : Array Value), v = .slice (some ⟨gb, 0, none⟩) xs.length cap ∧ ok gb ∧ base ≤ gb ∧ w.heap[gb]? = some (.cells cur e (0, 0)) ∧ xs.length ≤ cap ∧ cap ≤ maxLen ∧ cur.size = cap ∧ Go.Sort.Holds (Value.int .i64) w gb 0 xs.toArray := by
  obtain ⟨h0, inner, ⟨hl, hcase⟩, hr⟩ := h
  rcases hcase with ⟨_, h00⟩ | ⟨gb, cap, cur, hv, hb, hh, hnc, hmax, hcs, ht⟩
  · omega
  have hsz : (Kd.int .i64).sz = 1 := rfl
  rw [hsz] at hl hcs ht hr
  rw [Nat.mul_one] at hl hcs ht
  refine ⟨gb, cap, cur, hv, h0 gb (by rw [hv]; rfl), hb, hh, hnc, hmax, hcs, fun j hj => ?_⟩
  have hj2 : j < xs.length := by simpa using hj
  have hji : j < inner.length := by omega
  have h1 : (inner.drop (j * 1)).take 1 = [Value.int .i64 xs[j]] := hr.2 j xs[j] (List.getElem?_eq_getElem hj2)
  rw [drop_take_one inner j hji] at h1
  have h2 := (List.cons.inj h1).1
  have h3 : cur[j]? = some (Value.int .i64 xs[j]) := by
    rw [← Array.getElem?_toList, ← h2, ← List.getElem?_eq_getElem hji, ← ht, List.getElem?_take, if_pos hj2]
  have h4 : xs.toArray[j]! = xs[j] := by
    rw [getElem!_pos xs.toArray j (by simpa using hj2)]
    simp
  rw [Nat.zero_add, h4]
  refine ⟨?_, ?_⟩
  · simp only [World.cell?, hh]
    rw [if_neg (by simp), h3]
  · simp [World.frozen?, hh]
theorem row_close {W : World} {base : Nat} {e : TypeId} {ok : Nat → Prop} {gb cap : Nat} {cur : Array Value} {ys : List Int} (hok : ok gb) (hb : base ≤ gb) (hh : W.heap[gb]? = some (.cells cur e (0, 0))) (hnc : ys.length ≤ cap) (hmax : cap ≤ maxLen) (hcs : cur.size = cap) (hc : cur.toList.take ys.length = ys.map (Value.int .i64)) :
    Kd.R (Kd.int .i64) e W base ok (.slice (some ⟨gb, 0, none⟩) ys.length cap) ys := by
  have hsz : (Kd.int .i64).sz = 1 := rfl
  refine ⟨fun k hk => ?_, ys.map (Value.int .i64), ⟨by rw [hsz, List.length_map, Nat.mul_one], .inr ⟨gb, cap, cur, rfl, hb, hh, hnc, hmax, by rw [hsz, hcs, Nat.mul_one], by rw [hsz, Nat.mul_one]; exact hc⟩⟩, by rw [hsz, List.length_map, Nat.mul_one], fun j p hp => ?_⟩
  · have : gb = k := by simpa [Value.ownBlock] using hk
    exact this ▸ hok
  · have hj : j < ys.length := (List.getElem?_eq_some_iff.1 hp).1
    rw [hsz, drop_take_one (ys.map (Value.int .i64)) j (by rw [List.length_map]; exact hj), List.getElem_map]
    have : ys[j] = p := (List.getElem?_eq_some_iff.1 hp).2
    rw [this]
    rfl
theorem putCells_take {enc : Int → Value} (d : Array Int) (cur : Array Value) (hle : d.size ≤ cur.size) (m : Nat) (hm : m ≤ d.size) : (Go.Sort.putCells enc 0 d cur).toList.take m = (d.toList.take m).map enc := by
  refine List.ext_getElem? (fun j => ?_)
  rw [List.getElem?_take, List.getElem?_map, List.getElem?_take]
  by_cases hj : j < m
  · rw [if_pos hj, if_pos hj, Array.getElem?_toList, Array.getElem?_toList]
    have h1 : j < cur.size := by omega
    have h2 : j < d.size := by omega
    simp only [Go.Sort.putCells, Array.getElem?_mapIdx, Array.getElem?_eq_getElem h1, Array.getElem?_eq_getElem h2, Option.map_some]
    rw [if_pos ⟨Nat.zero_le _, by omega⟩, Nat.sub_zero, getElem!_pos d j h2]
  · rw [if_neg hj, if_neg hj]
    rfl
theorem size_putCells {enc : Int → Value} (d : Array Int) (cur : Array Value) : (Go.Sort.putCells enc 0 d cur).size = cur.size := by simp [Go.Sort.putCells]
theorem row_wrote {w w0 : World} {e : TypeId} {P : Nat → Prop} {gb cap : Nat} {cur : Array Value} {zs : List Int} (m n : Nat) (os : Array Obj) (hB : Below w0.heap.size w0 w) (hok : P gb) (hb : w0.heap.size ≤ gb) (hh : w.heap[gb]? = some (.cells cur e (0, 0))) (hmax : cap ≤ maxLen) (hcs : cur.size = cap) (hz : zs.length ≤ cap) (hm : m ≤ zs.length) :
    Kd.R (Kd.int .i64) e (sortWorld (Value.int .i64) w gb 0 n zs.toArray os) w0.heap.size (fun k => P k ∨ w.heap.size ≤ k) (.slice (some ⟨gb, 0, none⟩) (zs.take m).length cap) (zs.take m) ∧ Below w0.heap.size w0 (sortWorld (Value.int .i64) w gb 0 n zs.toArray os) ∧ Kept w (sortWorld (Value.int .i64) w gb 0 n zs.toArray os) P := by
  have hl : (zs.take m).length = m := by rw [List.length_take]; omega
  refine ⟨row_close (cur := Go.Sort.putCells (Value.int .i64) 0 zs.toArray cur) (.inl hok) hb (row_sortWorld _ _ _ _ _ _ _ hh) (by omega) hmax (by rw [size_putCells, hcs]) ?_, ?_, ?_⟩
  · rw [hl, putCells_take _ _ (by rw [List.size_toArray]; omega) m (by rw [List.size_toArray]; exact hm)]
  · have hg : w.grownBy (sortWorld (Value.int .i64) w gb 0 n zs.toArray os) (some gb) := ⟨rfl, rfl, rfl, size_sortWorld _ _ _ _ _ _ _, fun k hk hne => heap_sortWorld _ _ _ _ _ _ _ k hk (fun e => hne (by rw [e]))⟩
    exact hB.grown hg hB.size (fun k hk => by have : gb = k := by simpa using hk
                                              omega)
  · exact ⟨size_sortWorld _ _ _ _ _ _ _, fun i hi hn => heap_sortWorld _ _ _ _ _ _ _ i hi (fun e => hn (e ▸ hok))⟩
end Go.Proofs.YtaambkdiokbdgacGreatDoorR
namespace Go.Proofs.YtaambkdiokbdgacGreatDoorT
open Go.Shelf
def laysJoin_ren : Go.Shelf.Ren := ⟨fun | 156 => 71 | 165 => 87 | 166 => 88 | 169 => 89 | 240 => 104 | 241 => 105 | 276 => 126 | 277 => 127 | n => n, fun | 31 => 90 | 9 => 9 | 3 => 3 | 4 => 4 | 0 => 0 | 20 => 20 | 72 => 107 | 76 => 94 | 70 => 105 | 37 => 43 | 75 => 93 | 127 => 123 | 164 => 137 | 5 => 5 | 80 => 109 | n => n, fun | n => n⟩
theorem laysJoin : Go.Proofs.Lays.n156 Tryz.prog laysJoin_ren := {
  mixed := by kernel_rfl
  f156 := Tryz.func71.trans (congrArg some (by kernel_rfl))
  f165 := Tryz.func87.trans (congrArg some (by kernel_rfl))
  f166 := Tryz.func88.trans (congrArg some (by kernel_rfl))
  f169 := Tryz.func89.trans (congrArg some (by kernel_rfl))
  f240 := Tryz.func104.trans (congrArg some (by kernel_rfl))
  f241 := Tryz.func105.trans (congrArg some (by kernel_rfl))
  f276 := Tryz.func126.trans (congrArg some (by kernel_rfl))
  f277 := Tryz.func127.trans (congrArg some (by kernel_rfl))
  t0 := Tryz.underlying0
  a0 := Tryz.isAgg0
  z0 := Tryz.sizeOf0
  v0 := Tryz.zeroValue0
  t3 := Tryz.underlying3
  a3 := Tryz.isAgg3
  z3 := Tryz.sizeOf3
  v3 := Tryz.zeroValue3
  t4 := Tryz.underlying4
  a4 := Tryz.isAgg4
  z4 := Tryz.sizeOf4
  v4 := Tryz.zeroValue4
  t9 := Tryz.underlying9
  a9 := Tryz.isAgg9
  z9 := Tryz.sizeOf9
  v9 := Tryz.zeroValue9
  t20 := Tryz.underlying20
  a20 := Tryz.isAgg20
  z20 := Tryz.sizeOf20
  v20 := Tryz.zeroValue20
  t31 := Tryz.underlying90
  a31 := Tryz.isAgg90
  z31 := Tryz.sizeOf90
  v31 := Tryz.zeroValue90
  t37 := Tryz.underlying43
  a37 := Tryz.isAgg43
  z37 := Tryz.sizeOf43
  v37 := Tryz.zeroValue43
  t70 := Tryz.underlying105
  a70 := Tryz.isAgg105
  z70 := Tryz.sizeOf105
  v70 := Tryz.zeroValue105
  t72 := Tryz.underlying107
  a72 := Tryz.isAgg107
  z72 := Tryz.sizeOf107
  v72 := Tryz.zeroValue107
  t75 := Tryz.underlying93
  a75 := Tryz.isAgg93
  z75 := Tryz.sizeOf93
  v75 := Tryz.zeroValue93
  t76 := Tryz.underlying94
  a76 := Tryz.isAgg94
  z76 := Tryz.sizeOf94
  v76 := Tryz.zeroValue94
  t127 := Tryz.underlying123
  a127 := Tryz.isAgg123
  z127 := Tryz.sizeOf123
  v127 := Tryz.zeroValue123
  t164 := Tryz.underlying137
  a164 := Tryz.isAgg137
  z164 := Tryz.sizeOf137
  v164 := Tryz.zeroValue137 }
def laysItoa_ren : Go.Shelf.Ren := ⟨fun | 171 => 41 | 243 => 70 | 246 => 86 | 283 => 100 | 284 => 101 | 285 => 102 | 286 => 103 | 129 => 122 | 317 => 121 | 318 => 123 | 319 => 124 | 320 => 125 | 337 => 146 | 338 => 147 | n => n, fun | 3 => 3 | 9 => 9 | 2 => 2 | 4 => 4 | 171 => 119 | 0 => 0 | 53 => 79 | 37 => 43 | 5 => 5 | 173 => 121 | 212 => 135 | 51 => 117 | 20 => 20 | 213 => 136 | 46 => 102 | 232 => 168 | 233 => 169 | n => n, fun | 17 => 1 | 18 => 4 | 19 => 5 | n => n⟩
theorem laysItoa : Go.Proofs.LaysM.n171 Tryz.prog laysItoa_ren := {
  mixed := by kernel_rfl
  f129 := Tryz.func122.trans (congrArg some (by kernel_rfl))
  f171 := Tryz.func41.trans (congrArg some (by kernel_rfl))
  f243 := Tryz.func70.trans (congrArg some (by kernel_rfl))
  f246 := Tryz.func86.trans (congrArg some (by kernel_rfl))
  f283 := Tryz.func100.trans (congrArg some (by kernel_rfl))
  f284 := Tryz.func101.trans (congrArg some (by kernel_rfl))
  f285 := Tryz.func102.trans (congrArg some (by kernel_rfl))
  f286 := Tryz.func103.trans (congrArg some (by kernel_rfl))
  f317 := Tryz.func121.trans (congrArg some (by kernel_rfl))
  f318 := Tryz.func123.trans (congrArg some (by kernel_rfl))
  f319 := Tryz.func124.trans (congrArg some (by kernel_rfl))
  f320 := Tryz.func125.trans (congrArg some (by kernel_rfl))
  f337 := Tryz.func146.trans (congrArg some (by kernel_rfl))
  f338 := Tryz.func147.trans (congrArg some (by kernel_rfl))
  t0 := Tryz.underlying0
  a0 := Tryz.isAgg0
  z0 := Tryz.sizeOf0
  v0 := Tryz.zeroValue0
  t2 := Tryz.underlying2
  a2 := Tryz.isAgg2
  z2 := Tryz.sizeOf2
  v2 := Tryz.zeroValue2
  t3 := Tryz.underlying3
  a3 := Tryz.isAgg3
  z3 := Tryz.sizeOf3
  v3 := Tryz.zeroValue3
  t4 := Tryz.underlying4
  a4 := Tryz.isAgg4
  z4 := Tryz.sizeOf4
  v4 := Tryz.zeroValue4
  t5 := Tryz.underlying5
  a5 := Tryz.isAgg5
  z5 := Tryz.sizeOf5
  v5 := Tryz.zeroValue5
  t9 := Tryz.underlying9
  a9 := Tryz.isAgg9
  z9 := Tryz.sizeOf9
  v9 := Tryz.zeroValue9
  t20 := Tryz.underlying20
  a20 := Tryz.isAgg20
  z20 := Tryz.sizeOf20
  v20 := Tryz.zeroValue20
  t37 := Tryz.underlying43
  a37 := Tryz.isAgg43
  z37 := Tryz.sizeOf43
  v37 := Tryz.zeroValue43
  t46 := Tryz.underlying102
  a46 := Tryz.isAgg102
  z46 := Tryz.sizeOf102
  v46 := Tryz.zeroValue102
  t51 := Tryz.underlying117
  a51 := Tryz.isAgg117
  z51 := Tryz.sizeOf117
  v51 := Tryz.zeroValue117
  t53 := Tryz.underlying79
  a53 := Tryz.isAgg79
  z53 := Tryz.sizeOf79
  v53 := Tryz.zeroValue79
  t171 := Tryz.underlying119
  a171 := Tryz.isAgg119
  z171 := Tryz.sizeOf119
  v171 := Tryz.zeroValue119
  t173 := Tryz.underlying121
  a173 := Tryz.isAgg121
  z173 := Tryz.sizeOf121
  v173 := Tryz.zeroValue121
  t212 := Tryz.underlying135
  a212 := Tryz.isAgg135
  z212 := Tryz.sizeOf135
  v212 := Tryz.zeroValue135
  t213 := Tryz.underlying136
  a213 := Tryz.isAgg136
  z213 := Tryz.sizeOf136
  t232 := Tryz.underlying168
  a232 := Tryz.isAgg168
  z232 := Tryz.sizeOf168
  v232 := Tryz.zeroValue168
  t233 := Tryz.underlying169
  a233 := Tryz.isAgg169
  z233 := Tryz.sizeOf169
  v233 := Tryz.zeroValue169
  g17 := by kernel_rfl
  g18 := by kernel_rfl
  g19 := by kernel_rfl
  i0 := by kernel_rfl
  i2 := by kernel_rfl
  i3 := by kernel_rfl
  i4 := by kernel_rfl
  i5 := by kernel_rfl
  i9 := by kernel_rfl
  i20 := by kernel_rfl
  i37 := by kernel_rfl
  i46 := by kernel_rfl
  i51 := by kernel_rfl
  i53 := by kernel_rfl
  i171 := by kernel_rfl
  i173 := by kernel_rfl
  i212 := by kernel_rfl
  i232 := by kernel_rfl
  i233 := by kernel_rfl
  m17 := by kernel_rfl
  m18 := by kernel_rfl
  m19 := by kernel_rfl }
def laysCut_ren : Go.Shelf.Ren := ⟨fun | 145 => 44 | 220 => 73 | 219 => 90 | 217 => 106 | 225 => 107 | 224 => 108 | 267 => 109 | 266 => 128 | 314 => 129 | n => n, fun | 9 => 9 | 4 => 4 | 59 => 71 | 3 => 3 | 5 => 5 | 46 => 102 | 146 => 140 | 51 => 117 | n => n, fun | 1 => 0 | n => n⟩
theorem laysCut : Go.Proofs.Lays.n145 Tryz.prog laysCut_ren := {
  mixed := by kernel_rfl
  f145 := Tryz.func44.trans (congrArg some (by kernel_rfl))
  f217 := Tryz.func106.trans (congrArg some (by kernel_rfl))
  f219 := Tryz.func90.trans (congrArg some (by kernel_rfl))
  f220 := Tryz.func73.trans (congrArg some (by kernel_rfl))
  f224 := Tryz.func108.trans (congrArg some (by kernel_rfl))
  f225 := Tryz.func107.trans (congrArg some (by kernel_rfl))
  f266 := Tryz.func128.trans (congrArg some (by kernel_rfl))
  f267 := Tryz.func109.trans (congrArg some (by kernel_rfl))
  f314 := Tryz.func129.trans (congrArg some (by kernel_rfl))
  t3 := Tryz.underlying3
  a3 := Tryz.isAgg3
  z3 := Tryz.sizeOf3
  v3 := Tryz.zeroValue3
  t4 := Tryz.underlying4
  a4 := Tryz.isAgg4
  z4 := Tryz.sizeOf4
  v4 := Tryz.zeroValue4
  t5 := Tryz.underlying5
  a5 := Tryz.isAgg5
  z5 := Tryz.sizeOf5
  v5 := Tryz.zeroValue5
  t9 := Tryz.underlying9
  a9 := Tryz.isAgg9
  z9 := Tryz.sizeOf9
  v9 := Tryz.zeroValue9
  t46 := Tryz.underlying102
  a46 := Tryz.isAgg102
  z46 := Tryz.sizeOf102
  v46 := Tryz.zeroValue102
  t51 := Tryz.underlying117
  a51 := Tryz.isAgg117
  z51 := Tryz.sizeOf117
  v51 := Tryz.zeroValue117
  t59 := Tryz.underlying71
  a59 := Tryz.isAgg71
  z59 := Tryz.sizeOf71
  v59 := Tryz.zeroValue71
  t146 := Tryz.underlying140
  a146 := Tryz.isAgg140
  z146 := Tryz.sizeOf140
  v146 := Tryz.zeroValue140
  g1 := by kernel_rfl }
def laysSplit_ren : Go.Shelf.Ren := ⟨fun | 146 => 75 | 221 => 93 | 268 => 115 | 138 => 116 | 143 => 117 | 195 => 133 | 197 => 134 | 218 => 135 | 219 => 90 | 260 => 150 | 217 => 106 | 225 => 107 | 224 => 108 | 267 => 109 | 266 => 128 | 314 => 129 | n => n, fun | 9 => 9 | 31 => 90 | 3 => 3 | 4 => 4 | 0 => 0 | 105 => 148 | 21 => 21 | 5 => 5 | 46 => 102 | 119 => 170 | 139 => 173 | 138 => 172 | 146 => 140 | 51 => 117 | n => n, fun | 1 => 0 | 3 => 6 | 4 => 7 | n => n⟩
theorem laysSplit : Go.Proofs.Lays.n146 Tryz.prog laysSplit_ren := {
  mixed := by kernel_rfl
  f138 := Tryz.func116.trans (congrArg some (by kernel_rfl))
  f143 := Tryz.func117.trans (congrArg some (by kernel_rfl))
  f146 := Tryz.func75.trans (congrArg some (by kernel_rfl))
  f195 := Tryz.func133.trans (congrArg some (by kernel_rfl))
  f197 := Tryz.func134.trans (congrArg some (by kernel_rfl))
  f217 := Tryz.func106.trans (congrArg some (by kernel_rfl))
  f218 := Tryz.func135.trans (congrArg some (by kernel_rfl))
  f219 := Tryz.func90.trans (congrArg some (by kernel_rfl))
  f221 := Tryz.func93.trans (congrArg some (by kernel_rfl))
  f224 := Tryz.func108.trans (congrArg some (by kernel_rfl))
  f225 := Tryz.func107.trans (congrArg some (by kernel_rfl))
  f260 := Tryz.func150.trans (congrArg some (by kernel_rfl))
  f266 := Tryz.func128.trans (congrArg some (by kernel_rfl))
  f267 := Tryz.func109.trans (congrArg some (by kernel_rfl))
  f268 := Tryz.func115.trans (congrArg some (by kernel_rfl))
  f314 := Tryz.func129.trans (congrArg some (by kernel_rfl))
  t0 := Tryz.underlying0
  a0 := Tryz.isAgg0
  z0 := Tryz.sizeOf0
  v0 := Tryz.zeroValue0
  t3 := Tryz.underlying3
  a3 := Tryz.isAgg3
  z3 := Tryz.sizeOf3
  v3 := Tryz.zeroValue3
  t4 := Tryz.underlying4
  a4 := Tryz.isAgg4
  z4 := Tryz.sizeOf4
  v4 := Tryz.zeroValue4
  t5 := Tryz.underlying5
  a5 := Tryz.isAgg5
  z5 := Tryz.sizeOf5
  v5 := Tryz.zeroValue5
  t9 := Tryz.underlying9
  a9 := Tryz.isAgg9
  z9 := Tryz.sizeOf9
  v9 := Tryz.zeroValue9
  t21 := Tryz.underlying21
  a21 := Tryz.isAgg21
  z21 := Tryz.sizeOf21
  v21 := Tryz.zeroValue21
  t31 := Tryz.underlying90
  a31 := Tryz.isAgg90
  z31 := Tryz.sizeOf90
  v31 := Tryz.zeroValue90
  t46 := Tryz.underlying102
  a46 := Tryz.isAgg102
  z46 := Tryz.sizeOf102
  v46 := Tryz.zeroValue102
  t51 := Tryz.underlying117
  a51 := Tryz.isAgg117
  z51 := Tryz.sizeOf117
  v51 := Tryz.zeroValue117
  t105 := Tryz.underlying148
  a105 := Tryz.isAgg148
  z105 := Tryz.sizeOf148
  v105 := Tryz.zeroValue148
  t119 := Tryz.underlying170
  a119 := Tryz.isAgg170
  z119 := Tryz.sizeOf170
  t138 := Tryz.underlying172
  a138 := Tryz.isAgg172
  z138 := Tryz.sizeOf172
  v138 := Tryz.zeroValue172
  t139 := Tryz.underlying173
  a139 := Tryz.isAgg173
  z139 := Tryz.sizeOf173
  v139 := Tryz.zeroValue173
  t146 := Tryz.underlying140
  a146 := Tryz.isAgg140
  z146 := Tryz.sizeOf140
  v146 := Tryz.zeroValue140
  g1 := by kernel_rfl
  g3 := by kernel_rfl
  g4 := by kernel_rfl }
def laysAtoi_ren : Go.Shelf.Ren := ⟨fun | 172 => 74 | 244 => 91 | 245 => 92 | 247 => 110 | 279 => 111 | 280 => 112 | 281 => 113 | 282 => 114 | 287 => 130 | 316 => 131 | 171 => 41 | 205 => 132 | 321 => 148 | 322 => 149 | 243 => 70 | 246 => 86 | 283 => 100 | 284 => 101 | 285 => 102 | 286 => 103 | 129 => 122 | 317 => 121 | 318 => 123 | 319 => 124 | 320 => 125 | 337 => 146 | 338 => 147 | n => n, fun | 9 => 9 | 3 => 3 | 75 => 93 | 76 => 94 | 4 => 4 | 5 => 5 | 167 => 125 | 37 => 43 | 0 => 0 | 85 => 126 | 2 => 2 | 168 => 128 | 53 => 79 | 175 => 142 | 46 => 102 | 210 => 146 | 127 => 123 | 145 => 161 | 143 => 159 | 21 => 21 | 171 => 119 | 173 => 121 | 212 => 135 | 51 => 117 | 20 => 20 | 213 => 136 | 232 => 168 | 233 => 169 | 80 => 109 | n => n, fun | 15 => 2 | 16 => 3 | 17 => 1 | 18 => 4 | 19 => 5 | n => n⟩
theorem laysAtoi : Go.Proofs.LaysC.n172 Tryz.prog laysAtoi_ren := {
  mixed := by kernel_rfl
  f129 := Tryz.func122.trans (congrArg some (by kernel_rfl))
  f171 := Tryz.func41.trans (congrArg some (by kernel_rfl))
  f172 := Tryz.func74.trans (congrArg some (by kernel_rfl))
  f205 := Tryz.func132.trans (congrArg some (by kernel_rfl))
  f243 := Tryz.func70.trans (congrArg some (by kernel_rfl))
  f244 := Tryz.func91.trans (congrArg some (by kernel_rfl))
  f245 := Tryz.func92.trans (congrArg some (by kernel_rfl))
  f246 := Tryz.func86.trans (congrArg some (by kernel_rfl))
  f247 := Tryz.func110.trans (congrArg some (by kernel_rfl))
  f279 := Tryz.func111.trans (congrArg some (by kernel_rfl))
  f280 := Tryz.func112.trans (congrArg some (by kernel_rfl))
  f281 := Tryz.func113.trans (congrArg some (by kernel_rfl))
  f282 := Tryz.func114.trans (congrArg some (by kernel_rfl))
  f283 := Tryz.func100.trans (congrArg some (by kernel_rfl))
  f284 := Tryz.func101.trans (congrArg some (by kernel_rfl))
  f285 := Tryz.func102.trans (congrArg some (by kernel_rfl))
  f286 := Tryz.func103.trans (congrArg some (by kernel_rfl))
  f287 := Tryz.func130.trans (congrArg some (by kernel_rfl))
  f316 := Tryz.func131.trans (congrArg some (by kernel_rfl))
  f317 := Tryz.func121.trans (congrArg some (by kernel_rfl))
  f318 := Tryz.func123.trans (congrArg some (by kernel_rfl))
  f319 := Tryz.func124.trans (congrArg some (by kernel_rfl))
  f320 := Tryz.func125.trans (congrArg some (by kernel_rfl))
  f321 := Tryz.func148.trans (congrArg some (by kernel_rfl))
  f322 := Tryz.func149.trans (congrArg some (by kernel_rfl))
  f337 := Tryz.func146.trans (congrArg some (by kernel_rfl))
  f338 := Tryz.func147.trans (congrArg some (by kernel_rfl))
  t0 := Tryz.underlying0
  a0 := Tryz.isAgg0
  z0 := Tryz.sizeOf0
  v0 := Tryz.zeroValue0
  t2 := Tryz.underlying2
  a2 := Tryz.isAgg2
  z2 := Tryz.sizeOf2
  v2 := Tryz.zeroValue2
  t3 := Tryz.underlying3
  a3 := Tryz.isAgg3
  z3 := Tryz.sizeOf3
  v3 := Tryz.zeroValue3
  t4 := Tryz.underlying4
  a4 := Tryz.isAgg4
  z4 := Tryz.sizeOf4
  v4 := Tryz.zeroValue4
  t5 := Tryz.underlying5
  a5 := Tryz.isAgg5
  z5 := Tryz.sizeOf5
  v5 := Tryz.zeroValue5
  t9 := Tryz.underlying9
  a9 := Tryz.isAgg9
  z9 := Tryz.sizeOf9
  v9 := Tryz.zeroValue9
  t20 := Tryz.underlying20
  a20 := Tryz.isAgg20
  z20 := Tryz.sizeOf20
  v20 := Tryz.zeroValue20
  t21 := Tryz.underlying21
  a21 := Tryz.isAgg21
  z21 := Tryz.sizeOf21
  v21 := Tryz.zeroValue21
  t37 := Tryz.underlying43
  a37 := Tryz.isAgg43
  z37 := Tryz.sizeOf43
  v37 := Tryz.zeroValue43
  t46 := Tryz.underlying102
  a46 := Tryz.isAgg102
  z46 := Tryz.sizeOf102
  v46 := Tryz.zeroValue102
  t51 := Tryz.underlying117
  a51 := Tryz.isAgg117
  z51 := Tryz.sizeOf117
  v51 := Tryz.zeroValue117
  t53 := Tryz.underlying79
  a53 := Tryz.isAgg79
  z53 := Tryz.sizeOf79
  v53 := Tryz.zeroValue79
  t75 := Tryz.underlying93
  a75 := Tryz.isAgg93
  z75 := Tryz.sizeOf93
  v75 := Tryz.zeroValue93
  t76 := Tryz.underlying94
  a76 := Tryz.isAgg94
  z76 := Tryz.sizeOf94
  v76 := Tryz.zeroValue94
  t85 := Tryz.underlying126
  a85 := Tryz.isAgg126
  z85 := Tryz.sizeOf126
  v85 := Tryz.zeroValue126
  t127 := Tryz.underlying123
  a127 := Tryz.isAgg123
  z127 := Tryz.sizeOf123
  v127 := Tryz.zeroValue123
  t143 := Tryz.underlying159
  a143 := Tryz.isAgg159
  z143 := Tryz.sizeOf159
  v143 := Tryz.zeroValue159
  t145 := Tryz.underlying161
  a145 := Tryz.isAgg161
  z145 := Tryz.sizeOf161
  v145 := Tryz.zeroValue161
  t167 := Tryz.underlying125
  a167 := Tryz.isAgg125
  z167 := Tryz.sizeOf125
  v167 := Tryz.zeroValue125
  t168 := Tryz.underlying128
  a168 := Tryz.isAgg128
  z168 := Tryz.sizeOf128
  v168 := Tryz.zeroValue128
  t171 := Tryz.underlying119
  a171 := Tryz.isAgg119
  z171 := Tryz.sizeOf119
  v171 := Tryz.zeroValue119
  t173 := Tryz.underlying121
  a173 := Tryz.isAgg121
  z173 := Tryz.sizeOf121
  v173 := Tryz.zeroValue121
  t175 := Tryz.underlying142
  a175 := Tryz.isAgg142
  z175 := Tryz.sizeOf142
  v175 := Tryz.zeroValue142
  t210 := Tryz.underlying146
  a210 := Tryz.isAgg146
  z210 := Tryz.sizeOf146
  v210 := Tryz.zeroValue146
  t212 := Tryz.underlying135
  a212 := Tryz.isAgg135
  z212 := Tryz.sizeOf135
  v212 := Tryz.zeroValue135
  t213 := Tryz.underlying136
  a213 := Tryz.isAgg136
  z213 := Tryz.sizeOf136
  t232 := Tryz.underlying168
  a232 := Tryz.isAgg168
  z232 := Tryz.sizeOf168
  v232 := Tryz.zeroValue168
  t233 := Tryz.underlying169
  a233 := Tryz.isAgg169
  z233 := Tryz.sizeOf169
  v233 := Tryz.zeroValue169
  g15 := by kernel_rfl
  g16 := by kernel_rfl
  g17 := by kernel_rfl
  g18 := by kernel_rfl
  g19 := by kernel_rfl
  t80 := Tryz.underlying109
  a80 := Tryz.isAgg109
  z80 := Tryz.sizeOf109
  v80 := Tryz.zeroValue109
  i0 := by kernel_rfl
  i2 := by kernel_rfl
  i3 := by kernel_rfl
  i4 := by kernel_rfl
  i5 := by kernel_rfl
  i9 := by kernel_rfl
  i20 := by kernel_rfl
  i21 := by kernel_rfl
  i37 := by kernel_rfl
  i46 := by kernel_rfl
  i51 := by kernel_rfl
  i53 := by kernel_rfl
  i75 := by kernel_rfl
  i76 := by kernel_rfl
  i80 := by kernel_rfl
  i85 := by kernel_rfl
  i127 := by kernel_rfl
  i143 := by kernel_rfl
  i145 := by kernel_rfl
  i167 := by kernel_rfl
  i168 := by kernel_rfl
  i171 := by kernel_rfl
  i173 := by kernel_rfl
  i175 := by kernel_rfl
  i210 := by kernel_rfl
  i212 := by kernel_rfl
  i232 := by kernel_rfl
  i233 := by kernel_rfl
  m15 := by kernel_rfl
  m16 := by kernel_rfl
  m17 := by kernel_rfl
  m18 := by kernel_rfl
  m19 := by kernel_rfl
  c0 := by kernel_rfl
  c2 := by kernel_rfl
  c3 := by kernel_rfl
  c4 := by kernel_rfl
  c5 := by kernel_rfl
  c9 := by kernel_rfl
  c20 := by kernel_rfl
  c21 := by kernel_rfl
  c37 := by kernel_rfl
  c46 := by kernel_rfl
  c51 := by kernel_rfl
  c53 := by kernel_rfl
  c75 := by kernel_rfl
  c76 := by kernel_rfl
  c80 := by kernel_rfl
  c85 := by kernel_rfl
  c127 := by kernel_rfl
  c143 := by kernel_rfl
  c145 := by kernel_rfl
  c167 := by kernel_rfl
  c168 := by kernel_rfl
  c171 := by kernel_rfl
  c173 := by kernel_rfl
  c175 := by kernel_rfl
  c210 := by kernel_rfl
  c212 := by kernel_rfl
  c213 := by kernel_rfl
  c232 := by kernel_rfl
  c233 := by kernel_rfl }
theorem extra : Builder.Extra Tryz.prog laysJoin_ren where
  sizeBuilder := by kernel_rfl
  liesBuilder := by kernel_rfl
  t5 := Tryz.underlying5
  a5 := Tryz.isAgg5
  z5 := Tryz.sizeOf5
  v5 := Tryz.zeroValue5
  infoByte := by kernel_rfl
  cellsByte := by kernel_rfl
  sizeByte := by kernel_rfl
  neB5 := by decide
end Go.Proofs.YtaambkdiokbdgacGreatDoorT
namespace Go.Proofs.YtaambkdiokbdgacGreatDoorV
open Go.RowKit Go.Shelf Go.Proofs.YtaambkdiokbdgacGreatDoorW.PrintWords
def Wz (w : World) : Prop := (∃ m, w.cell? ⟨0, 0, none⟩ = some (.int .i64 m)) ∧ (∃ te pe, w.cell? ⟨2, 0, none⟩ = some (.iface te pe)) ∧ (∃ te pe, w.cell? ⟨3, 0, none⟩ = some (.iface te pe)) ∧ Lib.TabIs Tryz.prog w "internal/strconv.uint64pow10" .u64 Lib.pow10Tab
theorem Wz.on {w w' : World} (h : Wz w) (hb : Below w.heap.size w w') : Wz w' := by
  obtain ⟨⟨m, h1⟩, ⟨te, pe, h2⟩, ⟨tr, pr, h3⟩, h4⟩ := h
  have hg : Tryz.prog.globalNamed "internal/strconv.uint64pow10" = some 1 := by kernel_rfl
  have hc := Lib.TabIs.cell h4 hg 0 (by decide)
  exact ⟨⟨m, (hb.cell (World.block_lt_of_cell? w _ h1)).trans h1⟩, ⟨te, pe, (hb.cell (World.block_lt_of_cell? w _ h2)).trans h2⟩, ⟨tr, pr, (hb.cell (World.block_lt_of_cell? w _ h3)).trans h3⟩, var?_below hb hg (World.block_lt_of_cell? w _ hc) h4⟩
theorem atoi_ok (s : ByteArray) (hs : s.size ≤ 1048576) (v : Int) (h : Lib.atoiAll s.data.toList = .ok v) (w : World) :
    Calls Tryz.prog 74 #[.string s] w fun e w' => e = .returned (.tuple #[.int .i64 v, .nilIface]) ∧ Below w.heap.size w w' := by
  refine (Go.Proofs.Any.strconv_Atoi_ok Go.Proofs.YtaambkdiokbdgacGreatDoorT.laysAtoi s (by omega) v h w).mono ?_
  rintro e w' ⟨he, hw⟩
  refine ⟨he, ?_⟩
  rcases hw with rfl | ⟨t, rfl⟩
  · exact Below.refl _ _
  · exact Go.Lib.bytesWorld_below w _ _
theorem atoi_bad (s : ByteArray) (hs : s.size ≤ 1048576) (h : ∀ v, Lib.atoiAll s.data.toList ≠ .ok v) (w : World) (hZ : Wz w) :
    Calls Tryz.prog 74 #[.string s] w fun e w' => ∃ (n : Int) (t : TypeId) (b : Nat), e = .returned (.tuple #[.int .i64 n, .iface t (.pointer (some ⟨b, 0, none⟩))]) ∧ Below w.heap.size w w' := by
  obtain ⟨_, ⟨te, pe, h2⟩, ⟨tr, pr, h3⟩, _⟩ := hZ
  cases hn : Lib.atoiAll s.data.toList with
  | ok v => exact absurd hn (h v)
  | range =>
    refine (Go.Proofs.Any.strconv_Atoi_range Go.Proofs.YtaambkdiokbdgacGreatDoorT.laysAtoi s (by omega) hn _ w h3 (Or.inr ⟨tr, pr, rfl⟩)).mono ?_
    rintro e w' ⟨b, he, _, _, hb⟩
    exact ⟨_, _, b, he, hb⟩
  | _ =>
    refine (Go.Proofs.Any.strconv_Atoi_syntax Go.Proofs.YtaambkdiokbdgacGreatDoorT.laysAtoi s (by omega) hn _ w h2 (Or.inr ⟨te, pe, rfl⟩)).mono ?_
    rintro e w' ⟨b, he, _, _, hb⟩
    exact ⟨_, _, b, he, hb⟩
theorem itoa_ok (n : Int) (h0 : 0 ≤ n) (h1 : n < 10000) (w : World) (hZ : Wz w) :
    Calls Tryz.prog 41 #[.int .i64 n] w fun e w' => e = .returned (.string ⟨(Lib.decDigits n.toNat).toArray⟩) ∧ Below w.heap.size w w' := by
  refine (Go.Proofs.Any.strconv_Itoa Go.Proofs.YtaambkdiokbdgacGreatDoorT.laysItoa n (by omega) (by omega) w hZ.2.2.2).mono ?_
  rintro e w' ⟨rfl, k, os, rfl⟩
  exact ⟨by rw [Lib.itoa, if_neg (by omega)], ⟨rfl, rfl, rfl, by show w.heap.size ≤ (w.heap ++ os).size; rw [Array.size_append]; omega, fun j hj => by show (w.heap ++ os)[j]? = w.heap[j]?; rw [Array.getElem?_append_left hj]⟩⟩
theorem row_texts (e : TypeId) (xs : List ByteArray) (w : World) (hm : xs.length ≤ maxLen) :
    Kd.R Kd.string e (w.alloc (.cells (xs.map Value.string).toArray e)) w.heap.size (fun _ => True) (.slice (some ⟨w.heap.size, 0, none⟩) xs.length xs.length) xs := by
  refine Kd.R_of_own ⟨by simp [encs], Or.inr ⟨w.heap.size, xs.length, (xs.map Value.string).toArray, rfl, Nat.le_refl _, blk_new w _, Nat.le_refl _, hm, by simp, ?_⟩⟩ (fun _ _ => trivial)
  simp only [encs, Nat.mul_one]
  exact List.take_of_length_le (by simp)
end Go.Proofs.YtaambkdiokbdgacGreatDoorV
namespace Go.Proofs.YtaambkdiokbdgacGreatDoorO
open Go.RowKit Go.ChangeShapes Go.WideShapes Go.ChangeAt Go.Proofs.YtaambkdiokbdgacGreatDoorW.PrintWords Go.Proofs.YtaambkdiokbdgacGreatDoorM
section
variable {H : Type} {enc : TypeId × Value → H} {P : Program} {w : World} {α : Type}
def Reads1 (enc : TypeId × Value → H) (P : Program) (w : World) (t : TypeId) (d : Kd α) (ok : α → Prop) : Prop :=
  ∀ fuel v x, DataW.trod enc P w 0 (fun _ => true) true fuel t [v] = some x → ∃ a, d.K w a [v] ∧ ok a
theorem reads_int {t : TypeId} {k : IntKind} (hu : P.underlying t = some (.int k)) : Reads1 enc P w t (Kd.int k) (fun n => (Lit.int k n).wf = true) := by
  intro fuel v x h
  obtain ⟨n, e, _, hw⟩ := DataW.trod_int hu h
  exact ⟨n, e, hw⟩
theorem reads_slice {t e : TypeId} {d : Kd α} {ok : α → Prop} (hu : P.underlying t = some (.slice e)) (hc : P.cellsOf e = 1) (hs : d.sz = 1) (he : Reads1 enc P w e d ok) :
    Reads1 enc P w t (Kd.slice e d) (fun l => l.length ≤ maxLen ∧ ∀ x ∈ l, ok x) := by
  intro fuel v x h
  rcases Go.Deep.open_slice1 hu hc h with ⟨hcs, _⟩ | ⟨a, len, cap, m, n, V, D, Pl, hcs, _, hl, hm, hmm, _, hx⟩
  · obtain rfl : v = .slice none 0 0 := by simpa using hcs
    refine ⟨[], ⟨none, 0, rfl, Nat.le_refl _, rfl, Nat.zero_le _, fun h => absurd h (Nat.lt_irrefl _)⟩, Nat.zero_le _, fun _ h => by cases h⟩
  · obtain rfl : v = .slice (some a) len cap := by simpa using hcs
    have hlm : len ≤ m := by rw [hmm]; simpa using hl
    have hall : ∀ i, i < len → ∃ b, d.K w b [V i] ∧ ok b := fun i hi => he n (V i) _ (hx i (by omega)).2
    have key : ∀ j, j ≤ len → ∃ l : List α, l.length = j ∧ (∀ i b, l[i]? = some b → d.K w b [V i] ∧ ok b) := by
      intro j
      induction j with
      | zero => exact fun _ => ⟨[], rfl, fun i b h => by simp at h⟩
      | succ j ih =>
        intro hj
        obtain ⟨l, hl1, hl2⟩ := ih (by omega)
        obtain ⟨b, hb⟩ := hall j (by omega)
        refine ⟨l ++ [b], by simp [hl1], fun i c h => ?_⟩
        rcases Nat.lt_or_ge i l.length with hi | hi
        · rw [List.getElem?_append_left hi] at h
          exact hl2 i c h
        · have e : i = l.length := by
            have := (List.getElem?_eq_some_iff.1 h).1
            rw [List.length_append, List.length_singleton] at this
            omega
          subst e
          obtain rfl : b = c := by simpa using h
          rw [hl1]
          exact hb
    obtain ⟨l, hl1, hl2⟩ := key len (Nat.le_refl _)
    subst hl1
    refine ⟨l, ⟨some a, cap, rfl, hl, rfl, by unfold maxLen at hm; omega, fun _ => ⟨a, rfl, fun j p hj => ⟨[V j], by rw [hs]; rfl, (hl2 j p hj).1, fun i u hi => ?_⟩⟩⟩, Nat.le_trans hl hm, fun x hxm => ?_⟩
    · match i, hi with
      | 0, hi =>
        obtain rfl : V j = u := by simpa using hi
        have hj' := (List.getElem?_eq_some_iff.1 hj).1
        rw [hs, Nat.mul_one, Nat.add_zero]
        exact (hx j (by omega)).1
      | i + 1, hi => simp at hi
    · obtain ⟨i, hi, rfl⟩ := List.mem_iff_getElem.1 hxm
      exact (hl2 i _ (List.getElem?_eq_getElem hi)).2
theorem open_slice_arg {r : Reach} {b0 : Nat} {t e : TypeId} {d : Kd α} {ok' : List α → Prop} {v : Value} {dd : DataW H} {ps : List MemPlace} (hu : P.underlying t = some (.slice e)) (hr : Reads1 enc P w t (Kd.slice e d) ok') (hv : Value.okWide P w r b0 t v)
    (h : DataW.Trod enc P w 0 (fun _ => true) true t v dd ps) : ∃ (A : Option Addr) (c : Nat) (l : List α), v = .slice A l.length c ∧ l.length ≤ c ∧ d.C w A l.length l ∧ ok' l := by
  obtain ⟨a, len, cap, rfl⟩ := okWide_slice hu hv
  obtain ⟨fuel, hf⟩ := h
  obtain ⟨l, ⟨A, c, hcs, hlc, hC⟩, ho⟩ := hr fuel _ _ hf
  exact ⟨A, c, l, by simpa using hcs, hlc, hC, ho⟩
end
end Go.Proofs.YtaambkdiokbdgacGreatDoorO
namespace Go.Proofs.YtaambkdiokbdgacGreatDoor.Q
open Go.RowKit Go.Proofs.YtaambkdiokbdgacGreatDoorW.PrintWords Go.Proofs.YtaambkdiokbdgacGreatDoorW.PrintLast Go.Proofs.YtaambkdiokbdgacGreatDoorW.PrintMore
attribute [local go_sem] max2_int min2_int max_two min_two max_three min_three max_four min_four   -- for this text's walks alone
set_option linter.unusedVariables false
set_option linter.unusedSimpArgs false
def errW : Option Int → Value
  | none => .nilIface
  | some c => .iface 0 (.int .i64 c)
theorem errW_none : errW none = .nilIface := rfl
theorem errW_some (c : Int) : errW (some c) = .iface 0 (.int .i64 c) := rfl
theorem info3 : (Tryz.prog.info? 3).map (fun i => (i.zero, i.size, i.bytes)) = some (some (.int .i64 0), 1, 8) := by kernel_rfl
theorem info4 : (Tryz.prog.info? 4).map (fun i => (i.zero, i.size, i.bytes)) = some (some (.bool false), 1, 1) := by kernel_rfl
theorem info9 : (Tryz.prog.info? 9).map (fun i => (i.zero, i.size, i.bytes)) = some (some (.string ⟨#[]⟩), 1, 16) := by kernel_rfl
theorem info22 : (Tryz.prog.info? 22).map (fun i => (i.zero, i.size, i.bytes)) = some (some (.slice none 0 0), 1, 24) := by kernel_rfl
-- the values' own types
def rd_L2 (xs : List (List Int)) (i : Int) : (List Int) := xs.getD i.toNat ([] : List Int)
theorem at_L2 {w : World} {A : Option Addr} {n : Nat} {xs : List (List Int)} (h : Kd.C (Kd.slice 3 (Kd.int .i64)) w A n xs) (i : Int) (h0 : 0 ≤ i) (h1 : i < n) : ∃ ad A0 c0, A = some ad ∧ w.cell? (ad.add i.toNat) = some (.slice A0 (rd_L2 xs i).length c0) ∧ (rd_L2 xs i).length ≤ c0 ∧ (Kd.int .i64).C w A0 (rd_L2 xs i).length (rd_L2 xs i) := by
  obtain ⟨ad, c, e, _, hK, hc0⟩ := Kd.C_get h ([] : List Int) i h0 h1
  have hc : ∀ j u, c[j]? = some u → w.cell? (ad.add (i.toNat * 1 + j)) = some u := hc0
  obtain ⟨A0, c0, rfl, l0, g0⟩ := hK
  exact ⟨ad, A0, c0, e, by have hq := hc 0 _ rfl; rwa [Nat.mul_one, Nat.add_zero] at hq, l0, g0⟩
end Go.Proofs.YtaambkdiokbdgacGreatDoor.Q
namespace Go.Proofs.YtaambkdiokbdgacGreatDoor.Q
open Go.RowKit Go.Proofs.YtaambkdiokbdgacGreatDoorX Go.Proofs.YtaambkdiokbdgacGreatDoorY Go.Proofs.YtaambkdiokbdgacGreatDoorW.PrintWords Go.Proofs.YtaambkdiokbdgacGreatDoorW.PrintLast Go.Proofs.YtaambkdiokbdgacGreatDoorW.PrintMore
attribute [local go_sem] max2_int min2_int max_two min_two max_three min_three max_four min_four   -- for this text's walks alone
set_option linter.unusedVariables false
set_option linter.unusedSimpArgs false
def impl_within.f (a0 : Int) (a1 : Int) (a2 : Int) : Option (Bool) := if a0 ≥ a1 then (some (decide (a0 ≤ a2))) else (some false)
theorem impl_within.calls (a0 : Int) (a1 : Int) (a2 : Int) (r : Bool) (w : World) (h : impl_within.f a0 a1 a2 = some r) :
  Calls Tryz.prog 49 #[.int .i64 a0, .int .i64 a1, .int .i64 a2] w fun e w' => e = .returned (.bool r) ∧ Drawn0 w w' := by
 have H := h
 unfold impl_within.f at H
 clear h
 by_cases c4 : a0 ≥ a1
 ·rw [if_pos c4] at H
  have c4b0 : decide (a1 ≤ a0) = true := decide_eq_true c4
  clear c4
  obtain rfl := Option.some.inj H
  go_enter Tryz.func49, Tryz.ntmps49
  go_wp2
  go_ret
  exact ⟨by first | rfl | (simp; done) | (simp [*]; done), dS⟩
 rw [if_neg c4] at H
 have c4b0 : decide (a1 ≤ a0) = false := decide_eq_false c4
 clear c4
 obtain rfl := Option.some.inj H
 go_enter Tryz.func49, Tryz.ntmps49
 go_wp2
 go_ret
 exact ⟨by first | rfl | (simp; done) | (simp [*]; done), dS⟩
def idxOf (p : Int → Bool) (l : List Int) : Int := match l.findIdx? p with
 | some i => (i : Int)
 | none => -1
theorem idxOf_hit (p : Int → Bool) (l : List Int) (x : Int) (h0 : 0 ≤ x) (h1 : x < (l.length : Int)) (hp : p (rd l x) = true) (hb : ∀ j : Nat, (j : Int) < x → p (l.getD j 0) = false) : idxOf p l = x := by
 obtain ⟨k, rfl⟩ := Int.eq_ofNat_of_zero_le h0
 have hk : k < l.length := by omega
 have : l.findIdx? p = some k := by
  rw [List.findIdx?_eq_some_iff_getElem]
  refine ⟨hk, ?_, fun j hj => ?_⟩
  ·simpa [rd, List.getD_eq_getElem?_getD, List.getElem?_eq_getElem hk] using hp
  have := hb j (by omega)
  have hjl : j < l.length := by omega
  simpa [List.getD_eq_getElem?_getD, List.getElem?_eq_getElem hjl] using this
 simp [idxOf, this]
theorem idxOf_miss (p : Int → Bool) (l : List Int) (hb : ∀ j : Nat, (j : Int) < (l.length : Int) → p (l.getD j 0) = false) : idxOf p l = -1 := by
 have : l.findIdx? p = none := by
  rw [List.findIdx?_eq_none_iff]
  intro x hx
  obtain ⟨j, hj, rfl⟩ := List.mem_iff_getElem.1 hx
  have := hb j (by omega)
  simpa [List.getD_eq_getElem?_getD, List.getElem?_eq_getElem hj] using this
 simp [idxOf, this]
theorem idxOf_any (p : Int → Bool) (l : List Int) : decide (0 ≤ idxOf p l) = l.any p := by
 unfold idxOf
 cases h : l.findIdx? p with
 | none =>
  rw [List.findIdx?_eq_none_iff] at h
  have : l.any p = false := by simpa using h
  simp [this]
 | some i =>
  rw [List.findIdx?_eq_some_iff_getElem] at h
  obtain ⟨hi, hp, _⟩ := h
  have : l.any p = true := by simpa using ⟨_, List.getElem_mem hi, hp⟩
  simp [this]
theorem wrap64_succ {x : Int} {n : Nat} (h0 : 0 ≤ x) (h1 : x < (n : Int)) (hn : n ≤ 9223372036854775807) : wrap64 (x + 1) = x + 1 := by
 unfold wrap64
 omega
theorem slices_IndexFunc_int.hof (A0 : Option Addr) (c0 : Nat) (l0 : List Int) (g : Nat) (lb : Array Value) (p : Int → Bool) (w : World) (hr0 : Kd.C (Kd.int .i64) w A0 l0.length l0)
  (eg : ∀ args w, (callFunc g args).run Tryz.prog w = .ok (.enter g args) w)
  (hp : ∀ (W : World) (x : Int), x ∈ l0 → Below w.heap.size w W → Calls Tryz.prog g (#[.int .i64 x] ++ lb) W fun e W' => e = .returned (.bool (p x)) ∧ Below W.heap.size W W') :
  Calls Tryz.prog 94 #[.slice A0 l0.length c0, .func (.func g) #[] lb] w fun e w' => e = .returned (.int .i64 (idxOf p l0)) ∧ Below w.heap.size w w' := by
 have hn := hr0.2.1
 have HP := Aside0.mk hp
 have HR := Aside0.mk hr0
 clear hp hr0
 go_enter Tryz.func94, Tryz.ntmps94
 go_wp2
 go_loopg [5, 8] l0.length (fun gg _ s8 wr => ∃ x : Int, s8 = .int .i64 x ∧ Aside0 (0 ≤ x ∧ x ≤ (l0.length : Int) ∧ (l0.length : Int) - x ≤ (gg : Int)) ∧ Aside0 (Below w.heap.size w wr) ∧ Aside0 (∀ j : Nat, (j : Int) < x → p (l0.getD j 0) = false))
 case atStart => exact ⟨0, rfl, ⟨by omega⟩, ⟨Below.refl _ _⟩, ⟨fun j hj => by omega⟩⟩
 case round =>
  obtain ⟨x, rfl, HX, HB, HA⟩ := hrel
  have h0 : 0 ≤ x := HX.out.1
  by_cases hlt : x < (l0.length : Int)
  ·obtain ⟨ad, ea, hcell⟩ := Kd.at_int (Kd.C_below HR.out HB.out) x h0 hlt
   cases ea
   have hw1 := wrap64_succ h0 hlt hn
   have HW1 := Aside0.mk hw1
   clear hw1
   have c4b0 : decide (x < (l0.length : Int)) = true := decide_eq_true hlt
   have HLT := Aside0.mk hlt
   have H0 := Aside0.mk h0
   have hmem : rd l0 x ∈ l0 := by
    have hk : x.toNat < l0.length := by omega
    simp only [rd, List.getD_eq_getElem?_getD, List.getElem?_eq_getElem hk, Option.getD_some]
    exact List.getElem_mem hk
   have hcall := HP.out wr (rd l0 x) hmem HB.out
   have HC := Aside0.mk hcall
   clear hcall hmem
   have p5 := eq_true h0
   have q5 := eq_true hlt
   clear h0 hlt hn
   cases hq : p (rd l0 x) with
   | true =>
    have HQ := Aside0.mk hq
    have HCT := Aside0.mk (show Calls Tryz.prog g (#[.int .i64 (rd l0 x)] ++ lb) wr fun e W' => e = .returned (.bool true) ∧ Below wr.heap.size wr W' from by have := HC.out; rwa [hq] at this)
    clear hq HC
    go_wp2_with fail
    refine (HCT.out).mono ?_
    rintro e w' ⟨rfl, hb⟩
    have HBN := Aside0.mk (HB.out.trans (hb.mono HB.out.size))
    clear hb
    go_wp2
    go_ret
    exact ⟨by rw [idxOf_hit p l0 x H0.out HLT.out HQ.out HA.out]; first | rfl | (simp; done), HBN.out⟩
   | false =>
    have HQ := Aside0.mk hq
    have HCT := Aside0.mk (show Calls Tryz.prog g (#[.int .i64 (rd l0 x)] ++ lb) wr fun e W' => e = .returned (.bool false) ∧ Below wr.heap.size wr W' from by have := HC.out; rwa [hq] at this)
    clear hq HC
    go_wp2_with fail
    refine (HCT.out).mono ?_
    rintro e w' ⟨rfl, hb⟩
    have HBN := Aside0.mk (HB.out.trans (hb.mono HB.out.size))
    clear hb
    go_wp2
    go_roundg (gk - 1)
    case measure => have := HX.out; have := HLT.out; omega
    case rel =>
     refine ⟨x + 1, by rw [HW1.out], ⟨by have := HX.out; have := HLT.out; omega⟩, ⟨HBN.out⟩, ⟨fun j hj => ?_⟩⟩
     by_cases e : (j : Int) = x
     ·subst e
      exact HQ.out
     exact HA.out j (by omega)
  have c4b0 : decide (x < (l0.length : Int)) = false := decide_eq_false hlt
  have HLT := Aside0.mk hlt
  clear hlt hn
  go_wp2
  go_ret
  exact ⟨by rw [idxOf_miss p l0 (fun j hj => HA.out j (by have := HX.out; have := HLT.out; omega))]; first | rfl | (simp; done), HB.out⟩
theorem slices_ContainsFunc_int.hof (A0 : Option Addr) (c0 : Nat) (l0 : List Int) (g : Nat) (lb : Array Value) (p : Int → Bool) (w : World) (hr0 : Kd.C (Kd.int .i64) w A0 l0.length l0)
  (eg : ∀ args w, (callFunc g args).run Tryz.prog w = .ok (.enter g args) w)
  (hp : ∀ (W : World) (x : Int), x ∈ l0 → Below w.heap.size w W → Calls Tryz.prog g (#[.int .i64 x] ++ lb) W fun e W' => e = .returned (.bool (p x)) ∧ Below W.heap.size W W') :
  Calls Tryz.prog 78 #[.slice A0 l0.length c0, .func (.func g) #[] lb] w fun e w' => e = .returned (.bool (l0.any p)) ∧ Below w.heap.size w w' := by
 have HI := Aside0.mk (slices_IndexFunc_int.hof A0 c0 l0 g lb p w hr0 eg hp)
 clear hp hr0
 go_enter Tryz.func78, Tryz.ntmps78
 go_wp2_with (go_at_call 94; refine (HI.out).mono ?_; rintro e w' ⟨rfl, hb⟩)
 go_ret
 exact ⟨by rw [← idxOf_any]; first | rfl | (simp; done), hb⟩
def impl_areIn.f (l0 : List Int) (a1 : Int) (a2 : Int) : Option (Bool) := some (l0.all fun x => decide (a1 ≤ x) && decide (x ≤ a2))
theorem impl_areIn_1.clo (n lo hi : Int) (B1 B2 : Nat) (W : World) (h1 : W.cell? ⟨B1, 0, none⟩ = some (.int .i64 lo)) (h2 : W.cell? ⟨B2, 0, none⟩ = some (.int .i64 hi)) :
  Calls Tryz.prog 79 #[.int .i64 n, .pointer (some ⟨B1, 0, none⟩), .pointer (some ⟨B2, 0, none⟩)] W fun e W' => e = .returned (.bool (!(decide (lo ≤ n) && decide (n ≤ hi)))) ∧ Below W.heap.size W W' := by
 have hv : ∃ b, impl_within.f n lo hi = some b ∧ b = (decide (lo ≤ n) && decide (n ≤ hi)) := by
  unfold impl_within.f
  by_cases h : n ≥ lo
  ·exact ⟨_, by rw [if_pos h], by simp [show lo ≤ n from h]⟩
  exact ⟨_, by rw [if_neg h], by simp [show ¬ lo ≤ n from h]⟩
 obtain ⟨b, hb, eb⟩ := hv
 have HV := Aside0.mk hb
 clear hb
 rw [← eb]
 clear eb
 go_enter Tryz.func79, Tryz.ntmps79
 go_wp2_with (go_at_call 49; refine (impl_within.calls n lo hi b _ HV.out).mono ?_; rintro e w' ⟨rfl, ⟨nd, rfl⟩⟩)
 go_ret
 exact ⟨rfl, pw_below_drewN (Below.refl _ _) _⟩
theorem impl_areIn.calls (A0 : Option Addr) (c0 : Nat) (l0 : List Int) (a1 : Int) (a2 : Int) (r : Bool) (w : World) (hr0 : Kd.C (Kd.int .i64) w A0 l0.length l0) (hc0 : l0.length ≤ c0) (h : impl_areIn.f l0 a1 a2 = some r) :
  Calls Tryz.prog 48 #[.slice A0 l0.length c0, .int .i64 a1, .int .i64 a2] w fun e w' => e = .returned (.bool r) ∧ Below w.heap.size w w' := by
 have eg : ∀ args w, (callFunc 79 args).run Tryz.prog w = .ok (.enter 79 args) w := enters_of Tryz.func79 (by kernel_rfl) rfl
 have hmf : ∀ (fn : Fn) (first cap : Array Value) (w : World), (Instr.makeFunc fn first cap).run Tryz.prog w = .ok (.func fn first cap) w := fun _ _ _ _ => rfl
 have HR := Aside0.mk hr0
 have hres : r = !(l0.any fun x => !(decide (a1 ≤ x) && decide (x ≤ a2))) := by
  have := Option.some.inj h
  rw [← this]
  simp [List.all_eq_not_any_not]
 have HRES := Aside0.mk hres
 clear hr0 hres h
 go_enter Tryz.func48, Tryz.ntmps48
 go_wp2_with fail
 refine (slices_ContainsFunc_int.hof A0 c0 l0 79 #[.pointer (some ⟨w.heap.size, 0, none⟩), .pointer (some ⟨w.heap.size + 1, 0, none⟩)] (fun x => !(decide (a1 ≤ x) && decide (x ≤ a2))) _ ?_ eg ?_).mono ?_
 ·exact Kd.C_below HR.out (((Below.refl _ _).alloc (Nat.le_refl _) _).alloc (by simp) _)
 ·intro W x _ hb
  refine impl_areIn_1.clo x a1 a2 w.heap.size (w.heap.size + 1) W ?_ ?_
  ·rw [hb.cell (p := ⟨w.heap.size, 0, none⟩) (by simp; omega)]
   simp [go_sem]
  rw [hb.cell (p := ⟨w.heap.size + 1, 0, none⟩) (by simp)]
  simp [go_sem]
 rintro e w' ⟨rfl, hb⟩
 go_wp2
 go_ret
 exact ⟨by rw [HRES.out]; first | rfl | (simp; done), (((Below.refl _ _).alloc (Nat.le_refl _) _).alloc (by simp) _).trans (hb.mono (by simp; omega))⟩
def impl_sumOf.l0 : Nat → Int → List Int → Int → Int → Option (Int)
 | 0, _, _, _, _ => none
 | k + 1, x3, x6, x7, x8 => if x8 < x7 then (if 0 ≤ x8 then (if x8 < (x6.length : Int) then (impl_sumOf.l0 k (wrap64 (x3 + (rd x6 x8))) x6 x7 (wrap64 (x8 + 1))) else (none)) else (none)) else (some x3)
def impl_sumOf.f (k : Nat) (l0 : List Int) : Option (Int) := impl_sumOf.l0 k 0 l0 (l0.length : Int) 0
theorem impl_sumOf.calls (k : Nat) (A0 : Option Addr) (c0 : Nat) (l0 : List Int) (r : Int) (w : World) (hr0 : Kd.C (Kd.int .i64) w A0 l0.length l0) (hc0 : l0.length ≤ c0) (h : impl_sumOf.f k l0 = some r) :
  Calls Tryz.prog 50 #[.slice A0 l0.length c0] w fun e w' => e = .returned (.int .i64 r) ∧ Drawn0 w w' := by
 have HR0 := Aside0.mk hr0
 have HC0 := Aside0.mk hc0
 clear hr0 hc0
 have H := h
 unfold impl_sumOf.f at H
 clear h
 have H' := Aside0.mk H
 clear H
 go_enter Tryz.func50, Tryz.ntmps50
 go_wp2
 go_loopg [3, 8] k (fun kq v3 v8 w' => ∃ (x3_1 : Int) (x8_1 : Int), v3 = .int .i64 x3_1 ∧ v8 = .int .i64 x8_1 ∧ Aside0 (impl_sumOf.l0 kq x3_1 l0 (l0.length : Int) x8_1 = some r) ∧ Aside0 (kq ≤ k) ∧ Drawn0 w w')
 case atStart => exact ⟨(0), (0), gR, gR, H', ⟨Nat.le_refl _⟩, dS⟩
 case round =>
  clear H'
  obtain ⟨x3_1, x8_1, rfl, rfl, HA, HK1, ⟨m1, rfl⟩⟩ := hrel
  cases gk with
  | zero => exact absurd HA.out (by simp [impl_sumOf.l0])
  | succ k1 =>
   have H := HA.out
   clear HA
   simp only [impl_sumOf.l0] at H
   by_cases c2 : x8_1 < (l0.length : Int)
   rotate_left
   ·rw [if_neg c2] at H
    have c2b0 : decide (x8_1 < (l0.length : Int)) = false := decide_eq_false c2
    clear c2
    obtain rfl := Option.some.inj H
    go_wp2
    go_ret
    exact ⟨by first | rfl | (simp; done) | (simp [*]; done), dS⟩
   rw [if_pos c2] at H
   have c2b0 := decide_eq_true c2
   clear c2
   by_cases c3 : 0 ≤ x8_1
   rotate_left
   ·rw [if_neg c3] at H
    exact absurd H (by simp)
   rw [if_pos c3] at H
   have c3b0 := decide_eq_true c3
   clear c3
   by_cases c4 : x8_1 < (l0.length : Int)
   rotate_left
   ·rw [if_neg c4] at H
    exact absurd H (by simp)
   rw [if_pos c4] at H
   have c4b0 := decide_eq_true c4
   clear c4
   have H' := Aside0.mk H
   clear H
   have p101 : 0 ≤ (x8_1 : Int) := oD
   have q101 : x8_1 < (l0.length : Int) := oD
   obtain ⟨ad101, e101, hx101_0⟩ := Kd.at_int HR0.out x8_1 p101 q101
   cases e101
   replace p101 := eq_true p101
   replace q101 := eq_true q101
   go_wp2
   go_roundg k1
   case measure => have := HK1.out; omega
   case rel => exact ⟨(wrap64 (x3_1 + (rd l0 x8_1))), (wrap64 (x8_1 + 1)), gR, gR, H', ⟨by have := HK1.out; omega⟩, dS⟩
def impl_IsCommittee.f (k : Nat) (a0_0 : Int) (l0_1 : List Int) : Option (Bool) := if (l0_1.length : Int) ≥ 1 then (if (l0_1.length : Int) ≤ 9 then ((impl_areIn.f l0_1 0 1000).bind fun t102 => (if t102 = true then ((impl_sumOf.f k l0_1).bind fun t103 => ((impl_within.f a0_0 1 t103).bind fun t104 => (some t104))) else (some false))) else (some false)) else (some false)
def impl_IsCommittee.T1 : Bool × List (List Nat × List Nat) := (true, [([], []), ([0], [0]), ([1], [1]), ([2], [2]), ([3], [3]), ([4], [4]), ([5, 4], [4, 5]), ([6, 4], [4, 6]), ([7, 4], [4, 7]), ([4, 8], [4, 8]), ([9, 4], [9]), ([10], [10]), ([11, 10], [10, 11]), ([12, 10, 10], [10, 12]), ([10, 13], [10, 13]), ([14, 13], [14]), ([15], [15]), ([16, 15], [15, 16]), ([15], [15]), ([18, 15], [15, 18]), ([19, 15, 15], [15, 19]), ([17, 20, 20, 15], [15, 17, 20]), ([15, 21], [15, 21]), ([22, 21, 0, 1, 2, 3, 4, 5, 6, 7, 8, 9, 10, 11, 12, 13, 14, 15, 16, 17, 18, 19, 20, 21, 22], [22])])
def impl_IsCommittee.B1 : List Nat := [0, 1, 3, 7, 15, 31, 63, 127, 255, 511, 1023, 2047, 4095, 8191, 16383, 32767, 65535, 131071, 65535, 327679, 851967, 2097151, 4194303, 8388607]
theorem impl_IsCommittee.tab1 : rtab .any (opsOf Tryz.f17 1) = impl_IsCommittee.T1 := by kernel_rfl
theorem impl_IsCommittee.bits1 : waitsOk impl_IsCommittee.T1.2 impl_IsCommittee.B1 = true := by kernel_rfl
theorem impl_IsCommittee.calls (k : Nat) (a0_0 : Int) (A0_1 : Option Addr) (c0_1 : Nat) (l0_1 : List Int) (r : Bool) (w : World) (hr0_1 : Kd.C (Kd.int .i64) w A0_1 l0_1.length l0_1) (hc0_1 : l0_1.length ≤ c0_1) (h : impl_IsCommittee.f k a0_0 l0_1 = some r) :
  Calls Tryz.prog 17 #[.agg #[.int .i64 a0_0, .slice A0_1 l0_1.length c0_1]] w fun e w' => e = .returned (.bool r) ∧ Below w.heap.size w w' := by
 have hu24 := Tryz.underlying24
 have HR0_1 := Aside0.mk hr0_1
 have HC0_1 := Aside0.mk hc0_1
 clear hr0_1 hc0_1
 have HB := Aside0.mk (Below.refl w.heap.size w)
 have H := h
 unfold impl_IsCommittee.f at H
 clear h
 by_cases c2 : (l0_1.length : Int) ≥ 1
 rotate_left
 ·rw [if_neg c2] at H
  have c2b0 : decide (1 ≤ (l0_1.length : Int)) = false := decide_eq_false c2
  have c2b1 : decide (1 ≤ l0_1.length) = false := decide_eq_false (by omega)
  clear c2
  obtain rfl := Option.some.inj H
  go_enter Tryz.func17, Tryz.ntmps17
  try go_wp2_with (first | ((with_reducible refine gate_dst (N := 1) rfl ?_); (try (refine gate_guard (by rfl) ?_; dsimp only)); refine box_event ?hg (N := 1) ?hd (cs := #[.int .i64 a0_0, .slice A0_1 l0_1.length c0_1]) (t := 24) ?hr ?_; (case hd => rfl); (case hg => rfl); (case hr => first | (go_simp; done) | (go_simp; rfl)); intro gb101 hg w16 hbox hb; have n0_ := sQ hb; have n1_ := Aside0.mk (hbox); have n2_ := Aside0.mk ((by rw [hg]; exact (below_size (wB)) : w.heap.size ≤ gb101)); have n3_ := Aside0.mk ((by rw [hg]; exact (below_size (wB)) : w.heap.size ≤ gb101)); clear HB; have HB := n0_; have BK101 := n1_; have GW101 := n2_; have GE101 := n3_; clear n0_ n1_ n2_ n3_; clear hb hbox hg))
  have n0_ := bD BK101
  have n1_ := Aside0.mk (below_drew1 HB.out)
  clear BK101
  clear HB
  have BK101 := n0_
  have HB := n1_
  clear n0_ n1_
  refine start_ (n := 24) (S := fun w' => w'.cell? ⟨gb101, 0, none⟩ = some (.int .i64 a0_0) ∧ w'.cell? ⟨gb101, 1, none⟩ = some (.slice A0_1 l0_1.length c0_1)) (ds := []) #[false, false, false, false, false, false, false, false, false, false, false, false, false, false, false, false, false, false, false, false, false, false, false, false] (by kernel_rfl) rfl rfl ⟨(blk_cell BK101.out 0).trans rfl, (blk_cell BK101.out 1).trans rfl⟩ (fun hHeld => ?_); refine with_tabW impl_IsCommittee.tab1 impl_IsCommittee.bits1 (fun HT_ HW_ => ?_)
  generalize w16.drew = w17 at BK101 HB hHeld ⊢
  refine pU 0 HT_ ?_
  refine tK 1 HT_ HW_ hHeld (hy := by rintro w' ⟨s0, s1⟩; go_simp; with_reducible rfl) ?_
  refine pU 2 HT_ ?_
  refine pU 3 HT_ ?_
  refine pU 4 HT_ ?_
  refine pV 5 HT_ ?_
  refine pV 6 HT_ ?_
  refine pV 7 HT_ ?_
  refine pV 8 HT_ ?_
  refine pU 9 HT_ ?_
  refine pU 10 HT_ ?_
  refine pV 11 HT_ ?_
  refine pV 12 HT_ ?_
  refine pV 13 HT_ ?_
  refine pU 14 HT_ ?_
  refine pU 15 HT_ ?_
  refine pV 16 HT_ ?_
  refine pV 17 HT_ ?_
  refine pV 18 HT_ ?_
  refine pV 19 HT_ ?_
  refine pV 20 HT_ ?_
  refine pV 21 HT_ ?_
  refine pU 22 HT_ ?_
  refine pU 23 HT_ ?_
  refine done_ (done_of HT_.out (by kernel_rfl)) ?_
  try go_wp2
  go_ret
  exact ⟨fR, wB⟩
 rw [if_pos c2] at H
 have c2b0 : decide (1 ≤ (l0_1.length : Int)) = true := decide_eq_true c2
 have c2b1 : decide (1 ≤ l0_1.length) = true := decide_eq_true (by omega)
 clear c2
 by_cases c3 : (l0_1.length : Int) ≤ 9
 rotate_left
 ·rw [if_neg c3] at H
  have c3b0 : decide ((l0_1.length : Int) ≤ 9) = false := decide_eq_false c3
  have c3b1 : decide (l0_1.length ≤ 9) = false := decide_eq_false (by omega)
  clear c3
  obtain rfl := Option.some.inj H
  go_enter Tryz.func17, Tryz.ntmps17
  try go_wp2_with (first | ((with_reducible refine gate_dst (N := 1) rfl ?_); (try (refine gate_guard (by rfl) ?_; dsimp only)); refine box_event ?hg (N := 1) ?hd (cs := #[.int .i64 a0_0, .slice A0_1 l0_1.length c0_1]) (t := 24) ?hr ?_; (case hd => rfl); (case hg => rfl); (case hr => first | (go_simp; done) | (go_simp; rfl)); intro gb101 hg w14 hbox hb; have n0_ := sQ hb; have n1_ := Aside0.mk (hbox); have n2_ := Aside0.mk ((by rw [hg]; exact (below_size (wB)) : w.heap.size ≤ gb101)); have n3_ := Aside0.mk ((by rw [hg]; exact (below_size (wB)) : w.heap.size ≤ gb101)); clear HB; have HB := n0_; have BK101 := n1_; have GW101 := n2_; have GE101 := n3_; clear n0_ n1_ n2_ n3_; clear hb hbox hg))
  have n0_ := bD BK101
  have n1_ := Aside0.mk (below_drew1 HB.out)
  clear BK101
  clear HB
  have BK101 := n0_
  have HB := n1_
  clear n0_ n1_
  refine start_ (n := 24) (S := fun w' => w'.cell? ⟨gb101, 0, none⟩ = some (.int .i64 a0_0) ∧ w'.cell? ⟨gb101, 1, none⟩ = some (.slice A0_1 l0_1.length c0_1)) (ds := []) #[false, false, false, false, false, false, false, false, false, false, false, false, false, false, false, false, false, false, false, false, false, false, false, false] (by kernel_rfl) rfl rfl ⟨(blk_cell BK101.out 0).trans rfl, (blk_cell BK101.out 1).trans rfl⟩ (fun hHeld => ?_); refine with_tabW impl_IsCommittee.tab1 impl_IsCommittee.bits1 (fun HT_ HW_ => ?_)
  generalize w14.drew = w15 at BK101 HB hHeld ⊢
  refine pU 0 HT_ ?_
  refine tK 1 HT_ HW_ hHeld (hy := by rintro w' ⟨s0, s1⟩; go_simp; with_reducible rfl) ?_
  refine pU 2 HT_ ?_
  refine pU 3 HT_ ?_
  refine pU 4 HT_ ?_
  refine pU 5 HT_ ?_
  refine tK 6 HT_ HW_ hHeld (hy := by rintro w' ⟨s0, s1⟩; go_simp; with_reducible rfl) ?_
  refine pU 7 HT_ ?_
  refine pU 8 HT_ ?_
  refine pU 9 HT_ ?_
  refine pU 10 HT_ ?_
  refine pV 11 HT_ ?_
  refine pV 12 HT_ ?_
  refine pV 13 HT_ ?_
  refine pU 14 HT_ ?_
  refine pU 15 HT_ ?_
  refine pV 16 HT_ ?_
  refine pV 17 HT_ ?_
  refine pV 18 HT_ ?_
  refine pV 19 HT_ ?_
  refine pV 20 HT_ ?_
  refine pV 21 HT_ ?_
  refine pU 22 HT_ ?_
  refine pU 23 HT_ ?_
  refine done_ (done_of HT_.out (by kernel_rfl)) ?_
  try go_wp2
  go_ret
  exact ⟨fR, wB⟩
 rw [if_pos c3] at H
 have c3b0 := decide_eq_true c3
 have c3b1 : decide (l0_1.length ≤ 9) = true := decide_eq_true (by omega)
 clear c3
 replace H := oB H
 obtain ⟨t102, A40, H⟩ := H
 replace H : (if t102 = true then ((impl_sumOf.f k l0_1).bind fun t103 => ((impl_within.f a0_0 1 t103).bind fun t104 => (some t104))) else (some false)) = some r := H
 have A4 := Aside0.mk A40
 clear A40
 by_cases c5 : t102 = true
 rotate_left
 ·replace c5 := Bool.eq_false_iff.mpr c5
  subst c5
  replace H := iF H
  obtain rfl := Option.some.inj H
  go_enter Tryz.func17, Tryz.ntmps17
  try go_wp2_with (first | ((with_reducible refine gate_dst (N := 1) rfl ?_); (try (refine gate_guard (by rfl) ?_; dsimp only)); refine box_event ?hg (N := 1) ?hd (cs := #[.int .i64 a0_0, .slice A0_1 l0_1.length c0_1]) (t := 24) ?hr ?_; (case hd => rfl); (case hg => rfl); (case hr => first | (go_simp; done) | (go_simp; rfl)); intro gb101 hg w11 hbox hb; have n0_ := sQ hb; have n1_ := Aside0.mk (hbox); have n2_ := Aside0.mk ((by rw [hg]; exact (below_size (wB)) : w.heap.size ≤ gb101)); have n3_ := Aside0.mk ((by rw [hg]; exact (below_size (wB)) : w.heap.size ≤ gb101)); clear HB; have HB := n0_; have BK101 := n1_; have GW101 := n2_; have GE101 := n3_; clear n0_ n1_ n2_ n3_; clear hb hbox hg))
  have n0_ := bD BK101
  have n1_ := Aside0.mk (below_drew1 HB.out)
  clear BK101
  clear HB
  have BK101 := n0_
  have HB := n1_
  clear n0_ n1_
  refine start_ (n := 24) (S := fun w' => w'.cell? ⟨gb101, 0, none⟩ = some (.int .i64 a0_0) ∧ w'.cell? ⟨gb101, 1, none⟩ = some (.slice A0_1 l0_1.length c0_1)) (ds := []) #[false, false, false, false, false, false, false, false, false, false, false, false, false, false, false, false, false, false, false, false, false, false, false, false] (by kernel_rfl) rfl rfl ⟨(blk_cell BK101.out 0).trans rfl, (blk_cell BK101.out 1).trans rfl⟩ (fun hHeld => ?_); refine with_tabW impl_IsCommittee.tab1 impl_IsCommittee.bits1 (fun HT_ HW_ => ?_)
  generalize w11.drew = w12 at BK101 HB hHeld ⊢
  refine pU 0 HT_ ?_
  refine tK 1 HT_ HW_ hHeld (hy := by rintro w' ⟨s0, s1⟩; go_simp; with_reducible rfl) ?_
  refine pU 2 HT_ ?_
  refine pU 3 HT_ ?_
  refine pU 4 HT_ ?_
  refine pU 5 HT_ ?_
  refine tK 6 HT_ HW_ hHeld (hy := by rintro w' ⟨s0, s1⟩; go_simp; with_reducible rfl) ?_
  refine pU 7 HT_ ?_
  refine pU 8 HT_ ?_
  refine pU 9 HT_ ?_
  refine pU 10 HT_ ?_
  refine pU 11 HT_ ?_
  refine tK 12 HT_ HW_ hHeld (hy := by rintro w' ⟨s0, s1⟩; go_simp; with_reducible rfl) ?_
  refine oN 13 HT_ (fun K hK => ?_)
  refine gE Tryz.func48 #[.slice A0_1 l0_1.length c0_1, .int .i64 0, .int .i64 1000] ?_
  with_reducible refine (impl_areIn.calls _ _ l0_1 0 1000 false _ ?side1 ?side2 A4.out).mono ?_
  (case side1 => have hx_ := (Kd.C_below HR0_1.out HB.out); exact cC)
  (case side2 => exact HC0_1.out)
  rintro e w13 ⟨rfl, hb⟩
  refine ⟨_, rfl, ?_⟩
  have n0_ := bP BK101 hb
  have n1_ := sQ hb
  clear BK101
  clear HB
  have BK101 := n0_
  have HB := n1_
  clear n0_ n1_
  (try clear hb)
  (try clear hb2)
  (try clear hk)
  (try clear hi)
  refine hK.out _ _ ⟨(blk_cell BK101.out 0).trans rfl, (blk_cell BK101.out 1).trans rfl⟩ (fun hHeld => ?_)
  clear hK K
  refine nM ?_
  refine pU 14 HT_ ?_
  refine pU 15 HT_ ?_
  refine pV 16 HT_ ?_
  refine pV 17 HT_ ?_
  refine pV 18 HT_ ?_
  refine pV 19 HT_ ?_
  refine pV 20 HT_ ?_
  refine pV 21 HT_ ?_
  refine pU 22 HT_ ?_
  refine pU 23 HT_ ?_
  refine done_ (done_of HT_.out (by kernel_rfl)) ?_
  try go_wp2
  go_ret
  exact ⟨fR, wB⟩
 subst c5
 replace H := iT H
 replace H := oB H
 obtain ⟨t103, A60, H⟩ := H
 replace H : ((impl_within.f a0_0 1 t103).bind fun t104 => (some t104)) = some r := H
 have A6 := Aside0.mk A60
 clear A60
 replace H := oB H
 obtain ⟨t104, A70, H⟩ := H
 replace H : (some t104) = some r := H
 have A7 := Aside0.mk A70
 clear A70
 obtain rfl := Option.some.inj H
 go_enter Tryz.func17, Tryz.ntmps17
 try go_wp2_with (first | ((with_reducible refine gate_dst (N := 1) rfl ?_); (try (refine gate_guard (by rfl) ?_; dsimp only)); refine box_event ?hg (N := 1) ?hd (cs := #[.int .i64 a0_0, .slice A0_1 l0_1.length c0_1]) (t := 24) ?hr ?_; (case hd => rfl); (case hg => rfl); (case hr => first | (go_simp; done) | (go_simp; rfl)); intro gb101 hg w8 hbox hb; have n0_ := sQ hb; have n1_ := Aside0.mk (hbox); have n2_ := Aside0.mk ((by rw [hg]; exact (below_size (wB)) : w.heap.size ≤ gb101)); have n3_ := Aside0.mk ((by rw [hg]; exact (below_size (wB)) : w.heap.size ≤ gb101)); clear HB; have HB := n0_; have BK101 := n1_; have GW101 := n2_; have GE101 := n3_; clear n0_ n1_ n2_ n3_; clear hb hbox hg))
 have n0_ := bD BK101
 have n1_ := Aside0.mk (below_drew1 HB.out)
 clear BK101
 clear HB
 have BK101 := n0_
 have HB := n1_
 clear n0_ n1_
 refine start_ (n := 24) (S := fun w' => w'.cell? ⟨gb101, 0, none⟩ = some (.int .i64 a0_0) ∧ w'.cell? ⟨gb101, 1, none⟩ = some (.slice A0_1 l0_1.length c0_1)) (ds := []) #[false, false, false, false, false, false, false, false, false, false, false, false, false, false, false, false, false, false, false, false, false, false, false, false] (by kernel_rfl) rfl rfl ⟨(blk_cell BK101.out 0).trans rfl, (blk_cell BK101.out 1).trans rfl⟩ (fun hHeld => ?_); refine with_tabW impl_IsCommittee.tab1 impl_IsCommittee.bits1 (fun HT_ HW_ => ?_)
 generalize w8.drew = w9 at BK101 HB hHeld ⊢
 refine pU 0 HT_ ?_
 refine tK 1 HT_ HW_ hHeld (hy := by rintro w' ⟨s0, s1⟩; go_simp; with_reducible rfl) ?_
 refine pU 2 HT_ ?_
 refine pU 3 HT_ ?_
 refine pU 4 HT_ ?_
 refine pU 5 HT_ ?_
 refine tK 6 HT_ HW_ hHeld (hy := by rintro w' ⟨s0, s1⟩; go_simp; with_reducible rfl) ?_
 refine pU 7 HT_ ?_
 refine pU 8 HT_ ?_
 refine pU 9 HT_ ?_
 refine pU 10 HT_ ?_
 refine pU 11 HT_ ?_
 refine tK 12 HT_ HW_ hHeld (hy := by rintro w' ⟨s0, s1⟩; go_simp; with_reducible rfl) ?_
 refine oN 13 HT_ (fun K hK => ?_)
 refine gE Tryz.func48 #[.slice A0_1 l0_1.length c0_1, .int .i64 0, .int .i64 1000] ?_
 with_reducible refine (impl_areIn.calls _ _ l0_1 0 1000 true _ ?side1 ?side2 A4.out).mono ?_
 (case side1 => have hx_ := (Kd.C_below HR0_1.out HB.out); exact cC)
 (case side2 => exact HC0_1.out)
 rintro e w10 ⟨rfl, hb⟩
 refine ⟨_, rfl, ?_⟩
 have n0_ := bP BK101 hb
 have n1_ := sQ hb
 clear BK101
 clear HB
 have BK101 := n0_
 have HB := n1_
 clear n0_ n1_
 (try clear hb)
 (try clear hb2)
 (try clear hk)
 (try clear hi)
 refine hK.out _ _ ⟨(blk_cell BK101.out 0).trans rfl, (blk_cell BK101.out 1).trans rfl⟩ (fun hHeld => ?_)
 clear hK K
 refine nM ?_
 refine pU 14 HT_ ?_
 refine pU 15 HT_ ?_
 refine pU 16 HT_ ?_
 refine pU 18 HT_ ?_
 refine tK 17 HT_ HW_ hHeld (hy := by rintro w' ⟨s0, s1⟩; go_simp; with_reducible rfl) ?_
 refine tK 19 HT_ HW_ hHeld (hy := by rintro w' ⟨s0, s1⟩; go_simp; with_reducible rfl) ?_
 refine oN 20 HT_ (fun K hK => ?_)
 refine gE Tryz.func50 #[.slice A0_1 l0_1.length c0_1] ?_
 with_reducible refine (impl_sumOf.calls k _ _ l0_1 t103 _ ?side1 ?side2 A6.out).mono ?_
 (case side1 => have hx_ := (Kd.C_below HR0_1.out HB.out); exact cC)
 (case side2 => exact HC0_1.out)
 rintro e w' ⟨rfl, ⟨nd, rfl⟩⟩
 refine ⟨_, rfl, ?_⟩
 refine hK.out _ _ ⟨(blk_cell BK101.out 0).trans rfl, (blk_cell BK101.out 1).trans rfl⟩ (fun hHeld => ?_)
 clear hK K
 refine nM ?_
 refine oN 21 HT_ (fun K hK => ?_)
 refine gE Tryz.func49 #[.int .i64 a0_0, .int .i64 1, .int .i64 t103] ?_
 with_reducible refine (impl_within.calls a0_0 1 t103 t104 _ A7.out).mono ?_
 rintro e w' ⟨rfl, ⟨nd, rfl⟩⟩
 refine ⟨_, rfl, ?_⟩
 refine hK.out _ _ ⟨(blk_cell BK101.out 0).trans rfl, (blk_cell BK101.out 1).trans rfl⟩ (fun hHeld => ?_)
 clear hK K
 refine nM ?_
 refine pU 22 HT_ ?_
 refine pU 23 HT_ ?_
 refine done_ (done_of HT_.out (by kernel_rfl)) ?_
 try go_wp2
 go_ret
 exact ⟨fR, wB⟩
def bits_OnesCount64.f (a0 : Int) : Option (Int) := some (Go.bits .and .i64 (wrap64 (IntKind.u64.wrap ((IntKind.u64.wrap ((IntKind.u64.wrap ((Go.bits .and .u64 (IntKind.u64.wrap (((IntKind.u64.wrap ((Go.bits .and .u64 ((IntKind.u64.wrap ((Go.bits .and .u64 (a0 / 2) 6148914691236517205) + (Go.bits .and .u64 a0 6148914691236517205))) / 4) 3689348814741910323) + (Go.bits .and .u64 (IntKind.u64.wrap ((Go.bits .and .u64 (a0 / 2) 6148914691236517205) + (Go.bits .and .u64 a0 6148914691236517205))) 3689348814741910323))) / 16) + (IntKind.u64.wrap ((Go.bits .and .u64 ((IntKind.u64.wrap ((Go.bits .and .u64 (a0 / 2) 6148914691236517205) + (Go.bits .and .u64 a0 6148914691236517205))) / 4) 3689348814741910323) + (Go.bits .and .u64 (IntKind.u64.wrap ((Go.bits .and .u64 (a0 / 2) 6148914691236517205) + (Go.bits .and .u64 a0 6148914691236517205))) 3689348814741910323))))) 1085102592571150095) + ((Go.bits .and .u64 (IntKind.u64.wrap (((IntKind.u64.wrap ((Go.bits .and .u64 ((IntKind.u64.wrap ((Go.bits .and .u64 (a0 / 2) 6148914691236517205) + (Go.bits .and .u64 a0 6148914691236517205))) / 4) 3689348814741910323) + (Go.bits .and .u64 (IntKind.u64.wrap ((Go.bits .and .u64 (a0 / 2) 6148914691236517205) + (Go.bits .and .u64 a0 6148914691236517205))) 3689348814741910323))) / 16) + (IntKind.u64.wrap ((Go.bits .and .u64 ((IntKind.u64.wrap ((Go.bits .and .u64 (a0 / 2) 6148914691236517205) + (Go.bits .and .u64 a0 6148914691236517205))) / 4) 3689348814741910323) + (Go.bits .and .u64 (IntKind.u64.wrap ((Go.bits .and .u64 (a0 / 2) 6148914691236517205) + (Go.bits .and .u64 a0 6148914691236517205))) 3689348814741910323))))) 1085102592571150095) / 256))) + ((IntKind.u64.wrap ((Go.bits .and .u64 (IntKind.u64.wrap (((IntKind.u64.wrap ((Go.bits .and .u64 ((IntKind.u64.wrap ((Go.bits .and .u64 (a0 / 2) 6148914691236517205) + (Go.bits .and .u64 a0 6148914691236517205))) / 4) 3689348814741910323) + (Go.bits .and .u64 (IntKind.u64.wrap ((Go.bits .and .u64 (a0 / 2) 6148914691236517205) + (Go.bits .and .u64 a0 6148914691236517205))) 3689348814741910323))) / 16) + (IntKind.u64.wrap ((Go.bits .and .u64 ((IntKind.u64.wrap ((Go.bits .and .u64 (a0 / 2) 6148914691236517205) + (Go.bits .and .u64 a0 6148914691236517205))) / 4) 3689348814741910323) + (Go.bits .and .u64 (IntKind.u64.wrap ((Go.bits .and .u64 (a0 / 2) 6148914691236517205) + (Go.bits .and .u64 a0 6148914691236517205))) 3689348814741910323))))) 1085102592571150095) + ((Go.bits .and .u64 (IntKind.u64.wrap (((IntKind.u64.wrap ((Go.bits .and .u64 ((IntKind.u64.wrap ((Go.bits .and .u64 (a0 / 2) 6148914691236517205) + (Go.bits .and .u64 a0 6148914691236517205))) / 4) 3689348814741910323) + (Go.bits .and .u64 (IntKind.u64.wrap ((Go.bits .and .u64 (a0 / 2) 6148914691236517205) + (Go.bits .and .u64 a0 6148914691236517205))) 3689348814741910323))) / 16) + (IntKind.u64.wrap ((Go.bits .and .u64 ((IntKind.u64.wrap ((Go.bits .and .u64 (a0 / 2) 6148914691236517205) + (Go.bits .and .u64 a0 6148914691236517205))) / 4) 3689348814741910323) + (Go.bits .and .u64 (IntKind.u64.wrap ((Go.bits .and .u64 (a0 / 2) 6148914691236517205) + (Go.bits .and .u64 a0 6148914691236517205))) 3689348814741910323))))) 1085102592571150095) / 256))) / 65536))) + ((IntKind.u64.wrap ((IntKind.u64.wrap ((Go.bits .and .u64 (IntKind.u64.wrap (((IntKind.u64.wrap ((Go.bits .and .u64 ((IntKind.u64.wrap ((Go.bits .and .u64 (a0 / 2) 6148914691236517205) + (Go.bits .and .u64 a0 6148914691236517205))) / 4) 3689348814741910323) + (Go.bits .and .u64 (IntKind.u64.wrap ((Go.bits .and .u64 (a0 / 2) 6148914691236517205) + (Go.bits .and .u64 a0 6148914691236517205))) 3689348814741910323))) / 16) + (IntKind.u64.wrap ((Go.bits .and .u64 ((IntKind.u64.wrap ((Go.bits .and .u64 (a0 / 2) 6148914691236517205) + (Go.bits .and .u64 a0 6148914691236517205))) / 4) 3689348814741910323) + (Go.bits .and .u64 (IntKind.u64.wrap ((Go.bits .and .u64 (a0 / 2) 6148914691236517205) + (Go.bits .and .u64 a0 6148914691236517205))) 3689348814741910323))))) 1085102592571150095) + ((Go.bits .and .u64 (IntKind.u64.wrap (((IntKind.u64.wrap ((Go.bits .and .u64 ((IntKind.u64.wrap ((Go.bits .and .u64 (a0 / 2) 6148914691236517205) + (Go.bits .and .u64 a0 6148914691236517205))) / 4) 3689348814741910323) + (Go.bits .and .u64 (IntKind.u64.wrap ((Go.bits .and .u64 (a0 / 2) 6148914691236517205) + (Go.bits .and .u64 a0 6148914691236517205))) 3689348814741910323))) / 16) + (IntKind.u64.wrap ((Go.bits .and .u64 ((IntKind.u64.wrap ((Go.bits .and .u64 (a0 / 2) 6148914691236517205) + (Go.bits .and .u64 a0 6148914691236517205))) / 4) 3689348814741910323) + (Go.bits .and .u64 (IntKind.u64.wrap ((Go.bits .and .u64 (a0 / 2) 6148914691236517205) + (Go.bits .and .u64 a0 6148914691236517205))) 3689348814741910323))))) 1085102592571150095) / 256))) + ((IntKind.u64.wrap ((Go.bits .and .u64 (IntKind.u64.wrap (((IntKind.u64.wrap ((Go.bits .and .u64 ((IntKind.u64.wrap ((Go.bits .and .u64 (a0 / 2) 6148914691236517205) + (Go.bits .and .u64 a0 6148914691236517205))) / 4) 3689348814741910323) + (Go.bits .and .u64 (IntKind.u64.wrap ((Go.bits .and .u64 (a0 / 2) 6148914691236517205) + (Go.bits .and .u64 a0 6148914691236517205))) 3689348814741910323))) / 16) + (IntKind.u64.wrap ((Go.bits .and .u64 ((IntKind.u64.wrap ((Go.bits .and .u64 (a0 / 2) 6148914691236517205) + (Go.bits .and .u64 a0 6148914691236517205))) / 4) 3689348814741910323) + (Go.bits .and .u64 (IntKind.u64.wrap ((Go.bits .and .u64 (a0 / 2) 6148914691236517205) + (Go.bits .and .u64 a0 6148914691236517205))) 3689348814741910323))))) 1085102592571150095) + ((Go.bits .and .u64 (IntKind.u64.wrap (((IntKind.u64.wrap ((Go.bits .and .u64 ((IntKind.u64.wrap ((Go.bits .and .u64 (a0 / 2) 6148914691236517205) + (Go.bits .and .u64 a0 6148914691236517205))) / 4) 3689348814741910323) + (Go.bits .and .u64 (IntKind.u64.wrap ((Go.bits .and .u64 (a0 / 2) 6148914691236517205) + (Go.bits .and .u64 a0 6148914691236517205))) 3689348814741910323))) / 16) + (IntKind.u64.wrap ((Go.bits .and .u64 ((IntKind.u64.wrap ((Go.bits .and .u64 (a0 / 2) 6148914691236517205) + (Go.bits .and .u64 a0 6148914691236517205))) / 4) 3689348814741910323) + (Go.bits .and .u64 (IntKind.u64.wrap ((Go.bits .and .u64 (a0 / 2) 6148914691236517205) + (Go.bits .and .u64 a0 6148914691236517205))) 3689348814741910323))))) 1085102592571150095) / 256))) / 65536))) / 4294967296)))) 127)
theorem bits_OnesCount64.calls (a0 : Int) (r : Int) (w : World) (h : bits_OnesCount64.f a0 = some r) :
  Calls Tryz.prog 99 #[.int .u64 a0] w fun e w' => e = .returned (.int .i64 r) ∧ Drawn0 w w' := by
 have H := h
 unfold bits_OnesCount64.f at H
 clear h
 obtain rfl := Option.some.inj H
 go_enter Tryz.func99, Tryz.ntmps99
 go_wp2
 go_ret
 exact ⟨by first | rfl | (simp; done) | (simp [*]; done), dS⟩
def bits_OnesCount.f (a0 : Int) : Option (Int) := (bits_OnesCount64.f a0).bind fun t101 => (some t101)
theorem bits_OnesCount.calls (a0 : Int) (r : Int) (w : World) (h : bits_OnesCount.f a0 = some r) :
  Calls Tryz.prog 84 #[.int .u64 a0] w fun e w' => e = .returned (.int .i64 r) ∧ Drawn0 w w' := by
 have H := h
 unfold bits_OnesCount.f at H
 clear h
 replace H := oB H
 obtain ⟨t101, A20, H⟩ := H
 replace H : (some t101) = some r := H
 have A2 := Aside0.mk A20
 clear A20
 obtain rfl := Option.some.inj H
 go_enter Tryz.func84, Tryz.ntmps84
 go_wp2_with (first | ((with_reducible refine gate_callee (f := 99) rfl ?_); refine gL 7 Tryz.func99 #[.int .u64 a0] ?_; (with_reducible refine (bits_OnesCount64.calls a0 t101 _ A2.out).mono ?_); rintro e w' ⟨rfl, ⟨nd, rfl⟩⟩; refine ⟨_, rfl, ?_⟩))
 go_ret
 exact ⟨by first | rfl | (simp; done) | (simp [*]; done), dS⟩
def impl_count.f (a0 : Int) : Option (Int) := (bits_OnesCount.f (IntKind.u64.wrap (a0))).bind fun t101 => (some t101)
theorem impl_count.calls (a0 : Int) (r : Int) (w : World) (h : impl_count.f a0 = some r) :
  Calls Tryz.prog 59 #[.int .i64 a0] w fun e w' => e = .returned (.int .i64 r) ∧ Drawn0 w w' := by
 have H := h
 unfold impl_count.f at H
 clear h
 replace H := oB H
 obtain ⟨t101, A20, H⟩ := H
 replace H : (some t101) = some r := H
 have A2 := Aside0.mk A20
 clear A20
 obtain rfl := Option.some.inj H
 go_enter Tryz.func59, Tryz.ntmps59
 go_wp2_with (first | ((with_reducible refine gate_callee (f := 84) rfl ?_); refine gL 5 Tryz.func84 #[.int .u64 (IntKind.u64.wrap (a0))] ?_; (with_reducible refine (bits_OnesCount.calls (IntKind.u64.wrap (a0)) t101 _ A2.out).mono ?_); rintro e w' ⟨rfl, ⟨nd, rfl⟩⟩; refine ⟨_, rfl, ?_⟩))
 go_ret
 exact ⟨by first | rfl | (simp; done) | (simp [*]; done), dS⟩
def impl_maskOf.l0 : Nat → Int → List Int → Int → Int → Option (Int)
 | 0, _, _, _, _ => none
 | k + 1, x3, x6, x7, x8 => if x8 < x7 then (if 0 ≤ x8 then (if x8 < (x6.length : Int) then (if 0 ≤ (rd x6 x8) then (impl_maskOf.l0 k (Go.bits .or .i64 x3 (shl .i64 1 (rd x6 x8))) x6 x7 (wrap64 (x8 + 1))) else (none)) else (none)) else (none)) else (some x3)
def impl_maskOf.f (k : Nat) (l0 : List Int) : Option (Int) := impl_maskOf.l0 k 0 l0 (l0.length : Int) 0
theorem impl_maskOf.calls (k : Nat) (A0 : Option Addr) (c0 : Nat) (l0 : List Int) (r : Int) (w : World) (hr0 : Kd.C (Kd.int .i64) w A0 l0.length l0) (hc0 : l0.length ≤ c0) (h : impl_maskOf.f k l0 = some r) :
  Calls Tryz.prog 60 #[.slice A0 l0.length c0] w fun e w' => e = .returned (.int .i64 r) ∧ Drawn0 w w' := by
 have HR0 := Aside0.mk hr0
 have HC0 := Aside0.mk hc0
 clear hr0 hc0
 have H := h
 unfold impl_maskOf.f at H
 clear h
 have H' := Aside0.mk H
 clear H
 go_enter Tryz.func60, Tryz.ntmps60
 go_wp2
 go_loopg [3, 8] k (fun kq v3 v8 w' => ∃ (x3_1 : Int) (x8_1 : Int), v3 = .int .i64 x3_1 ∧ v8 = .int .i64 x8_1 ∧ Aside0 (impl_maskOf.l0 kq x3_1 l0 (l0.length : Int) x8_1 = some r) ∧ Aside0 (kq ≤ k) ∧ Drawn0 w w')
 case atStart => exact ⟨(0), (0), gR, gR, H', ⟨Nat.le_refl _⟩, dS⟩
 case round =>
  clear H'
  obtain ⟨x3_1, x8_1, rfl, rfl, HA, HK1, ⟨m1, rfl⟩⟩ := hrel
  cases gk with
  | zero => exact absurd HA.out (by simp [impl_maskOf.l0])
  | succ k1 =>
   have H := HA.out
   clear HA
   simp only [impl_maskOf.l0] at H
   by_cases c2 : x8_1 < (l0.length : Int)
   rotate_left
   ·rw [if_neg c2] at H
    have c2b0 : decide (x8_1 < (l0.length : Int)) = false := decide_eq_false c2
    clear c2
    obtain rfl := Option.some.inj H
    go_wp2
    go_ret
    exact ⟨by first | rfl | (simp; done) | (simp [*]; done), dS⟩
   rw [if_pos c2] at H
   have c2b0 := decide_eq_true c2
   clear c2
   by_cases c3 : 0 ≤ x8_1
   rotate_left
   ·rw [if_neg c3] at H
    exact absurd H (by simp)
   rw [if_pos c3] at H
   have c3b0 := decide_eq_true c3
   clear c3
   by_cases c4 : x8_1 < (l0.length : Int)
   rotate_left
   ·rw [if_neg c4] at H
    exact absurd H (by simp)
   rw [if_pos c4] at H
   have c4b0 := decide_eq_true c4
   clear c4
   by_cases c5 : 0 ≤ (rd l0 x8_1)
   rotate_left
   ·rw [if_neg c5] at H
    exact absurd H (by simp)
   rw [if_pos c5] at H
   have c5b0 := eq_true c5
   have c5b1 := decide_eq_true c5
   clear c5
   obtain ⟨ji6, hji6⟩ : ∃ j_ : Int, (shl .i64 1 (rd l0 x8_1)) = j_ := ⟨_, rfl⟩
   replace H : (impl_maskOf.l0 k1 (Go.bits .or .i64 x3_1 (ji6)) l0 (l0.length : Int) (wrap64 (x8_1 + 1))) = some r := by first | (rw [hji6] at H; exact H) | (simp only [hji6] at H ⊢; exact H)
   have hji6_ : (IntKind.i64.wrap (1 * 2 ^ min (rd l0 x8_1).toNat 64)) = ji6 := hji6
   have hji6z : (rd l0 x8_1) ≤ 64 → (IntKind.i64.wrap (1 * 2 ^ (rd l0 x8_1).toNat)) = ji6 := shl_small hji6
   have hji6u : (IntKind.i64.wrap (2 ^ min (rd l0 x8_1).toNat 64)) = ji6 := by have h_ := hji6_; rw [Int.one_mul] at h_; exact h_
   have hji6v : (rd l0 x8_1) ≤ 64 → (IntKind.i64.wrap (2 ^ (rd l0 x8_1).toNat)) = ji6 := fun hle_ => by have h_ := hji6z hle_; rw [Int.one_mul] at h_; exact h_
   have hji6y : (wrap64 (1 * 2 ^ min (rd l0 x8_1).toNat 64)) = ji6 := (i64_w _).symm.trans hji6_
   have hji6x : (rd l0 x8_1) ≤ 64 → (wrap64 (1 * 2 ^ (rd l0 x8_1).toNat)) = ji6 := fun h_ => (i64_w _).symm.trans (hji6z h_)
   have H' := Aside0.mk H
   clear H
   have p101 : 0 ≤ (x8_1 : Int) := oD
   have q101 : x8_1 < (l0.length : Int) := oD
   obtain ⟨ad101, e101, hx101_0⟩ := Kd.at_int HR0.out x8_1 p101 q101
   cases e101
   replace p101 := eq_true p101
   replace q101 := eq_true q101
   go_wp2
   go_roundg k1
   case measure => have := HK1.out; omega
   case rel => exact ⟨(Go.bits .or .i64 x3_1 (ji6)), (wrap64 (x8_1 + 1)), (by first | rfl | (simp; done) | (simp only [← hji6] <;> (first | rfl | simp)) | (simp [*]; done)), gR, H', ⟨by have := HK1.out; omega⟩, dS⟩
def impl_isOrder.f (k : Nat) (l0 : List Int) (a1 : Int) : Option (Bool) := if (l0.length : Int) = a1 then ((impl_areIn.f l0 0 (wrap64 (a1 - 1))).bind fun t101 => (if t101 = true then ((impl_maskOf.f k l0).bind fun t102 => ((impl_count.f t102).bind fun t103 => (some (t103 == a1)))) else (some false))) else (some false)
theorem impl_isOrder.calls (k : Nat) (A0 : Option Addr) (c0 : Nat) (l0 : List Int) (a1 : Int) (r : Bool) (w : World) (hr0 : Kd.C (Kd.int .i64) w A0 l0.length l0) (hc0 : l0.length ≤ c0) (h : impl_isOrder.f k l0 a1 = some r) :
  Calls Tryz.prog 27 #[.slice A0 l0.length c0, .int .i64 a1] w fun e w' => e = .returned (.bool r) ∧ Below w.heap.size w w' := by
 have HR0 := Aside0.mk hr0
 have HC0 := Aside0.mk hc0
 clear hr0 hc0
 have HB := Aside0.mk (Below.refl w.heap.size w)
 have H := h
 unfold impl_isOrder.f at H
 clear h
 by_cases c3 : (l0.length : Int) = a1
 rotate_left
 ·rw [if_neg c3] at H
  have c3b0 : ((l0.length : Int) == a1) = false := beq_eq_false_iff_ne.mpr c3
  have c3b1 : ((l0.length : Int) != a1) = true := bne_iff_ne.mpr c3
  obtain rfl := Option.some.inj H
  go_enter Tryz.func27, Tryz.ntmps27
  go_wp2
  go_ret
  exact ⟨fR, wB⟩
 rw [if_pos c3] at H
 have c3b0 : ((l0.length : Int) == a1) = true := beq_iff_eq.mpr c3
 have c3b1 : ((l0.length : Int) != a1) = false := bne_eq_false_iff_eq.mpr c3
 clear c3
 replace H := oB H
 obtain ⟨t101, A40, H⟩ := H
 replace H : (if t101 = true then ((impl_maskOf.f k l0).bind fun t102 => ((impl_count.f t102).bind fun t103 => (some (t103 == a1)))) else (some false)) = some r := H
 have A4 := Aside0.mk A40
 clear A40
 by_cases c5 : t101 = true
 rotate_left
 ·replace c5 := Bool.eq_false_iff.mpr c5
  subst c5
  replace H := iF H
  obtain rfl := Option.some.inj H
  go_enter Tryz.func27, Tryz.ntmps27
  go_wp2_with (first | (go_at_call 48; (with_reducible refine (impl_areIn.calls _ _ l0 0 (wrap64 (a1 - 1)) false _ ?side1 ?side2 A4.out).mono ?_); (case side1 => have hx_ := HR0.out; exact cC); (case side2 => exact HC0.out); rintro e w9 ⟨rfl, hb⟩; have n0_ := sQ hb; clear HB; have HB := n0_; clear n0_; (try clear hb); (try clear hb2); (try clear hk); (try clear hi)))
  go_ret
  exact ⟨fR, wB⟩
 subst c5
 replace H := iT H
 replace H := oB H
 obtain ⟨t102, A60, H⟩ := H
 replace H : ((impl_count.f t102).bind fun t103 => (some (t103 == a1))) = some r := H
 have A6 := Aside0.mk A60
 clear A60
 replace H := oB H
 obtain ⟨t103, A70, H⟩ := H
 replace H : (some (t103 == a1)) = some r := H
 have A7 := Aside0.mk A70
 clear A70
 obtain rfl := Option.some.inj H
 go_enter Tryz.func27, Tryz.ntmps27
 go_wp2_with (first | (go_at_call 48; (with_reducible refine (impl_areIn.calls _ _ l0 0 (wrap64 (a1 - 1)) true _ ?side1 ?side2 A4.out).mono ?_); (case side1 => have hx_ := HR0.out; exact cC); (case side2 => exact HC0.out); rintro e w8 ⟨rfl, hb⟩; have n0_ := sQ hb; clear HB; have HB := n0_; clear n0_; (try clear hb); (try clear hb2); (try clear hk); (try clear hi)) | (go_at_call 60; (with_reducible refine (impl_maskOf.calls k _ _ l0 t102 _ ?side1 ?side2 A6.out).mono ?_); (case side1 => have hx_ := (Kd.C_below HR0.out HB.out); exact cC); (case side2 => exact HC0.out); rintro e w' ⟨rfl, ⟨nd, rfl⟩⟩) | (go_at_call 59; (with_reducible refine (impl_count.calls t102 t103 _ A7.out).mono ?_); rintro e w' ⟨rfl, ⟨nd, rfl⟩⟩))
 go_ret
 exact ⟨fR, wB⟩
end Go.Proofs.YtaambkdiokbdgacGreatDoor.Q
namespace Go.Proofs.YtaambkdiokbdgacGreatDoor.Q
open Go.RowKit Go.Proofs.YtaambkdiokbdgacGreatDoorX Go.Proofs.YtaambkdiokbdgacGreatDoorY Go.Proofs.YtaambkdiokbdgacGreatDoorX Go.Proofs.YtaambkdiokbdgacGreatDoorW.PrintWords Go.Proofs.YtaambkdiokbdgacGreatDoorW.PrintLast Go.Proofs.YtaambkdiokbdgacGreatDoorW.PrintMore
attribute [local go_sem] max2_int min2_int max_two min_two max_three min_three max_four min_four   -- for this text's walks alone
set_option linter.unusedVariables false
set_option linter.unusedSimpArgs false
mutual
def impl_RenameCommittee.j0 : Nat → List Int → Bool → Int → List Int → Option (Int × List Int × Bool)
 | 0, _, _, _, _ => none
 | k + 1, x1, x19, x102000, x102001 => if x19 = true then (some (0, ([] : List Int), false)) else (impl_RenameCommittee.l0 k x1 (x1.length : Int) 0 x102000 x102001 x102000 ([] : List Int))
def impl_RenameCommittee.l0 : Nat → List Int → Int → Int → Int → List Int → Int → List Int → Option (Int × List Int × Bool)
 | 0, _, _, _, _, _, _, _ => none
 | k + 1, x24, x25, x26, x102000, x102001, x106000, x106001 => if x26 < x25 then (if 0 ≤ x26 then (if x26 < (x24.length : Int) then (if 0 ≤ (rd x24 x26) then (if (rd x24 x26) < (x102001.length : Int) then (if x106001.length < 17592186044416 then (impl_RenameCommittee.l0 k x24 x25 (wrap64 (x26 + 1)) x102000 x102001 x106000 (x106001 ++ [rd x102001 (rd x24 x26)])) else (none)) else (none)) else (none)) else (none)) else (none)) else (some (x106000, x106001, true))
end
def impl_RenameCommittee.f (k : Nat) (a0_0 : Int) (l0_1 : List Int) (l1 : List Int) : Option (Int × List Int × Bool) := (impl_IsCommittee.f k a0_0 l0_1).bind fun t103 => (if t103 = true then ((impl_isOrder.f k l1 (l0_1.length : Int)).bind fun t104 => (impl_RenameCommittee.j0 k l1 (!t104) a0_0 l0_1)) else (impl_RenameCommittee.j0 k l1 true a0_0 l0_1))
def impl_RenameCommittee.T7 : Bool × List (List Nat × List Nat) := (true, [([], []), ([0], [0]), ([], []), ([2], [2]), ([], []), ([3, 4], [3, 4]), ([5], [5]), ([6], [6]), ([1, 7], [1, 7]), ([0, 1, 2, 3, 4, 5, 6, 7, 8], []), ([9, 8, 8, 0, 1, 2, 3, 4, 5, 6, 7, 8], [8, 9])])
def impl_RenameCommittee.B7 : List Nat := [0, 1, 0, 4, 0, 28, 60, 124, 255, 511, 1023]
theorem impl_RenameCommittee.tab7 : rtab .any (opsOf Tryz.f5 7) = impl_RenameCommittee.T7 := by kernel_rfl
theorem impl_RenameCommittee.bits7 : waitsOk impl_RenameCommittee.T7.2 impl_RenameCommittee.B7 = true := by kernel_rfl
theorem impl_RenameCommittee.calls (k : Nat) (a0_0 : Int) (A0_1 : Option Addr) (c0_1 : Nat) (l0_1 : List Int) (A1 : Option Addr) (c1 : Nat) (l1 : List Int) (r1 : Int) (r2 : List Int) (r3 : Bool) (w : World) (hr0_1 : Kd.C (Kd.int .i64) w A0_1 l0_1.length l0_1) (hc0_1 : l0_1.length ≤ c0_1) (hr1 : Kd.C (Kd.int .i64) w A1 l1.length l1) (hc1 : l1.length ≤ c1) (h : impl_RenameCommittee.f k a0_0 l0_1 l1 = some (r1, r2, r3)) :
  Calls Tryz.prog 5 #[.agg #[.int .i64 a0_0, .slice A0_1 l0_1.length c0_1], .slice A1 l1.length c1] w fun e w' => ∃ v1_ : Value, e = .returned (.tuple #[.agg #[.int .i64 r1, v1_], .bool r3]) ∧ Kd.R (Kd.int .i64) 3 w' w.heap.size (fun _ => True) v1_ r2 ∧ Below w.heap.size w w' := by
 have hu24 := Tryz.underlying24
 have HR0_1 := Aside0.mk hr0_1
 have HC0_1 := Aside0.mk hc0_1
 clear hr0_1 hc0_1
 have HR1 := Aside0.mk hr1
 have HC1 := Aside0.mk hc1
 clear hr1 hc1
 have HB := Aside0.mk (Below.refl w.heap.size w)
 have H := h
 unfold impl_RenameCommittee.f at H
 clear h
 have HC3 := Aside0.mk H
 clear H
 go_enter Tryz.func5, Tryz.ntmps5
 go_upto_region 1 with (first | ((with_reducible refine gate_dst (N := 2) rfl ?_); (try (refine gate_guard (by rfl) ?_; dsimp only)); refine xE (N := 2) (cs := #[.int .i64 a0_0, .slice A0_1 l0_1.length c0_1]) (t := 24) ?_; intro gb101 hg w4 BK101 hb; have GW101 := gS hg HB; have GE101 := gS hg HB; replace HB := sB HB hb; clear hb hg) | ((with_reducible refine gate_dst (N := 4) rfl ?_); (try (refine gate_guard (by rfl) ?_; dsimp only)); refine xE (N := 4) (cs := #[.int .i64 0, .slice none 0 0]) (t := 24) ?_; intro gb102 hg w5 BK102 hb; have GW102 := gS hg HB; have GE102 := gS hg HB; have NB101_102 := nL hg (blk_lt BK101.out); have NB102_101 := nG hg (blk_lt BK101.out); replace BK101 := bB BK101 hb; replace HB := sB HB hb; clear hb hg))
 (try simp only [Act.put, sA, sZ, sS])
 go_cut [19] (fun v19 wc => ∃ (kq : Nat) (x19_2 : Bool), v19 = .bool x19_2 ∧ Aside0 (impl_RenameCommittee.j0 kq l1 x19_2 a0_0 l0_1 = some (r1, r2, r3)) ∧ Aside0 (kq ≤ k) ∧ Aside0 (wc.heap[gb101]? = some (.cells #[.int .i64 a0_0, (.slice A0_1 l0_1.length c0_1)] 24 (0, 0))) ∧ Aside0 (wc.heap[gb102]? = some (.cells #[.int .i64 0, (.slice none 0 0)] 24 (0, 0))) ∧ Aside0 (Below w.heap.size w wc))
 case first =>
  have H := HC3.out
  clear HC3
  replace H := oA H
  obtain ⟨t103, A6, H⟩ := H
  (try dsimp only at H)
  by_cases c7 : t103 = true
  rotate_left
  ·replace c7 := Bool.eq_false_iff.mpr c7
   subst c7
   replace H := iF H
   have H' := Aside0.mk H
   clear H
   have hnb14 := NB101_102.out
   have hnc14 := NB102_101.out
   (try clear hcz12_0 hcz12_1 hfz12_0 hfz12_1)
   obtain ⟨hcz15_0, hcz15_1, hfz15_0, hfz15_1⟩ := zZ BK101
   go_wp2_with (first | ((with_reducible refine gate_callee (f := 17) rfl ?_); refine gL 10 Tryz.func17 #[.agg #[.int .i64 a0_0, .slice A0_1 l0_1.length c0_1]] ?_; (with_reducible refine (impl_IsCommittee.calls k a0_0 _ _ l0_1 false _ (Kd.C_below HR0_1.out HB.out) HC0_1.out A6.out).mono ?_); rintro e w16 ⟨rfl, hb⟩; refine ⟨_, rfl, ?_⟩; replace BK101 := bB BK101 hb; replace BK102 := bB BK102 hb; replace HB := sB HB hb; (try clear hb)))
   go_meet
   case rel => exact ⟨_, (true), gR, H', ⟨by first | omega | exact Nat.le_refl _⟩, ⟨by exact BK101.out⟩, ⟨by exact BK102.out⟩, ⟨wB⟩⟩
  subst c7
  replace H := iT H
  replace H := oA H
  obtain ⟨t104, A8, H⟩ := H
  (try dsimp only at H)
  have H' := Aside0.mk H
  clear H
  have hnb9 := NB101_102.out
  have hnc9 := NB102_101.out
  obtain ⟨hcz10_0, hcz10_1, hfz10_0, hfz10_1⟩ := zZ BK101
  go_wp2_with (first | ((with_reducible refine gate_callee (f := 17) rfl ?_); refine gL 10 Tryz.func17 #[.agg #[.int .i64 a0_0, .slice A0_1 l0_1.length c0_1]] ?_; (with_reducible refine (impl_IsCommittee.calls k a0_0 _ _ l0_1 true _ (Kd.C_below HR0_1.out HB.out) HC0_1.out A6.out).mono ?_); rintro e w11 ⟨rfl, hb⟩; refine ⟨_, rfl, ?_⟩; replace BK101 := bB BK101 hb; replace BK102 := bB BK102 hb; replace HB := sB HB hb; (try clear hb); (try clear hcz10_0 hcz10_1 hfz10_0 hfz10_1); obtain ⟨hcz12_0, hcz12_1, hfz12_0, hfz12_1⟩ := zZ BK101) | (go_at_call 27; (with_reducible refine (impl_isOrder.calls k _ _ l1 (l0_1.length : Int) t104 _ (Kd.C_below HR1.out HB.out) HC1.out A8.out).mono ?_); rintro e w13 ⟨rfl, hb⟩; replace BK101 := bB BK101 hb; replace BK102 := bB BK102 hb; replace HB := sB HB hb; (try clear hb)))
  go_meet
  case rel => exact ⟨_, (!t104), gR, H', ⟨by first | omega | exact Nat.le_refl _⟩, ⟨by exact BK101.out⟩, ⟨by exact BK102.out⟩, ⟨wB⟩⟩
 case rest =>
  clear HC3
  (try clear c1); (try clear p2); (try clear c5); (try clear c7); (try clear c9); (try clear c14); (try clear hcz15_0); (try clear hcz15_1); (try clear hfz15_0); (try clear hfz15_1)
  obtain ⟨kq, x19_2, rfl, HA, HJ2, BK101, BK102, HB⟩ := hcut
  cases kq with
  | zero => exact absurd HA.out (by simp [impl_RenameCommittee.j0])
  | succ kj2 =>
   have H := HA.out
   clear HA
   simp only [impl_RenameCommittee.j0] at H
   by_cases c17 : x19_2 = true
   ·subst c17
    replace H := iT H
    simp only [Option.some.injEq, Prod.mk.injEq] at H
    obtain ⟨rfl, rfl, rfl⟩ := H
    have hnb18 := NB102_101.out
    have hnc18 := NB101_102.out
    obtain ⟨hcz19_0, hcz19_1, hfz19_0, hfz19_1⟩ := zZ BK102
    go_wp2
    refine bodyPost_ret (results_ct rfl _ _ gb102 24 #[.int .i64 0, .slice none 0 0] (0, 0) _ rfl (by refine blk_put (cs := #[.int .i64 0, .slice none 0 0]) ?_ 1 _ rfl; refine blk_put (cs := #[.int .i64 0, .slice none 0 0]) ?_ 0 _ rfl; exact BK102.out) Tryz.underlying24 rfl (by kernel_rfl)) rfl ?_
    exact ⟨_, fR, by first | exact Kd.R_nil _ _ _ _ _ | exact Kd.N_nil _ _ _ _ _ | exact Kd.V_nil _ _ _ _ _ | exact Kd.Q_nil _ _ _ _ _ | exact Kd.S_nil _ _ _ _ _, wB⟩
   replace c17 := Bool.eq_false_iff.mpr c17
   subst c17
   replace H := iF H
   have H' := Aside0.mk H
   clear H
   have hnb20 := NB101_102.out
   have hnc20 := NB102_101.out
   obtain ⟨hcz21_0, hcz21_1, hfz21_0, hfz21_1⟩ := zZ BK101
   go_wp2_with (first | ((with_reducible refine gate_dst (N := 6) rfl ?_); (try (refine gate_guard (by rfl) ?_; dsimp only)); refine xE (N := 6) (cs := #[.int .i64 0, .slice none 0 0]) (t := 24) ?_; intro gb105 hg w22 BK105 hb; have GW105 := gS hg HB; have GE105 := gS hg HB; have NB101_105 := nL hg (blk_lt BK101.out); have NB105_101 := nG hg (blk_lt BK101.out); have NB102_105 := nL hg (blk_lt BK102.out); have NB105_102 := nG hg (blk_lt BK102.out); replace BK101 := bB BK101 hb; replace BK102 := bB BK102 hb; replace HB := sB HB hb; clear hb hg; have hnb23 := NB105_101.out; have hnc23 := NB101_105.out; have hnb24 := NB105_102.out; have hnc24 := NB102_105.out; (try clear hcz19_0 hcz19_1 hfz19_0 hfz19_1 hcz21_0 hcz21_1 hfz21_0 hfz21_1); obtain ⟨hcz25_0, hcz25_1, hfz25_0, hfz25_1⟩ := zZ BK105))
   go_loopg [26] kj2 (fun kq v26 w' => ∃ (x26_2 : Int) (x106001_2 : List Int) (u106001 : Value), v26 = .int .i64 x26_2 ∧ Aside0 (impl_RenameCommittee.l0 kq l1 (l1.length : Int) x26_2 a0_0 l0_1 a0_0 x106001_2 = some (r1, r2, r3)) ∧ Aside0 (kq ≤ kj2) ∧ Aside0 (Kd.R (Kd.int .i64) 3 w' w.heap.size (fun _ => True) u106001 x106001_2) ∧ Aside0 (w'.heap[gb101]? = some (.cells #[.int .i64 a0_0, (.slice A0_1 l0_1.length c0_1)] 24 (0, 0))) ∧ Aside0 (w'.heap[gb102]? = some (.cells #[.int .i64 0, (.slice none 0 0)] 24 (0, 0))) ∧ Aside0 (w'.heap[gb105]? = some (.cells #[.int .i64 a0_0, u106001] 24 (0, 0))) ∧ Aside0 (Below w.heap.size w w'))
   case atStart => exact ⟨(0), (([] : List Int)), (.slice none 0 0), gR, H', ⟨Nat.le_refl _⟩, ⟨by first | exact Kd.R_nil _ _ _ _ _ | exact Kd.N_nil _ _ _ _ _ | exact Kd.V_nil _ _ _ _ _ | exact Kd.Q_nil _ _ _ _ _ | exact Kd.S_nil _ _ _ _ _⟩, ⟨by refine blk_far ?_ NB101_105.out _; refine blk_far ?_ NB101_105.out _; exact BK101.out⟩, ⟨by refine blk_far ?_ NB102_105.out _; refine blk_far ?_ NB102_105.out _; exact BK102.out⟩, ⟨by refine blk_put (cs := #[.int .i64 a0_0, .slice none 0 0]) ?_ 1 _ rfl; refine blk_put (cs := #[.int .i64 0, .slice none 0 0]) ?_ 0 _ rfl; exact BK105.out⟩, ⟨wB⟩⟩
   case round =>
    clear H'
    (try clear c1); (try clear c2); (try clear p2); (try clear c5); (try clear c7); (try clear c9); (try clear c14); (try clear c17); (try clear c18); (try clear c20); (try clear c23); (try clear c24); (try clear hcz15_0); (try clear hcz15_1); (try clear hcz25_0); (try clear hcz25_1); (try clear hfz15_0); (try clear hfz15_1); (try clear hfz25_0); (try clear hfz25_1); (try clear p2)
    obtain ⟨x26_2, x106001_2, u106001, rfl, HA, HK2, HO_106001, BK101, BK102, BK105, HB⟩ := hrel
    cases gk with
    | zero => exact absurd HA.out (by simp [impl_RenameCommittee.l0])
    | succ k2 =>
     have H := HA.out
     clear HA
     simp only [impl_RenameCommittee.l0] at H
     by_cases c26 : x26_2 < (l1.length : Int)
     rotate_left
     ·rw [if_neg c26] at H
      have c26b0 : decide (x26_2 < (l1.length : Int)) = false := decide_eq_false c26
      clear c26
      simp only [Option.some.injEq, Prod.mk.injEq] at H
      obtain ⟨rfl, rfl, rfl⟩ := H
      have hnb36 := NB105_101.out
      have hnc36 := NB101_105.out
      have hnb37 := NB105_102.out
      have hnc37 := NB102_105.out
      obtain ⟨hcz38_0, hcz38_1, hfz38_0, hfz38_1⟩ := zZ BK105
      have hnb39 := NB102_101.out
      have hnc39 := NB101_102.out
      obtain ⟨hcz40_0, hcz40_1, hfz40_0, hfz40_1⟩ := zZ BK102
      obtain ⟨Ao41, co41, eo41⟩ := Kd.R_slice HO_106001.out
      subst eo41
      go_wp2
      refine bodyPost_ret (results_ct rfl _ _ gb102 24 #[.int .i64 a0_0, .slice Ao41 x106001_2.length co41] (0, 0) _ rfl (by refine blk_put (cs := #[.int .i64 a0_0, .slice none 0 0]) ?_ 1 _ rfl; refine blk_put (cs := #[.int .i64 0, .slice none 0 0]) ?_ 0 _ rfl; exact BK102.out) Tryz.underlying24 rfl (by kernel_rfl)) rfl ?_
      exact ⟨_, fR, by exact Kd.R_mono (Kd.R_far (p := ⟨gb102, 1, none⟩) (Kd.R_far (p := ⟨gb102, 0, none⟩) (Kd.R_types HO_106001.out BK102.out (by decide)) (fun _ hk => hk.2) (.int .i64 a0_0)) (fun _ hk => hk.2) (.slice Ao41 x106001_2.length co41)) (fun _ hk => trivial), wB⟩
     rw [if_pos c26] at H
     have c26b0 := decide_eq_true c26
     clear c26
     by_cases c27 : 0 ≤ x26_2
     rotate_left
     ·rw [if_neg c27] at H
      exact absurd H (by simp)
     rw [if_pos c27] at H
     have c27b0 := decide_eq_true c27
     clear c27
     by_cases c28 : x26_2 < (l1.length : Int)
     rotate_left
     ·rw [if_neg c28] at H
      exact absurd H (by simp)
     rw [if_pos c28] at H
     have c28b0 := decide_eq_true c28
     clear c28
     by_cases c29 : 0 ≤ (rd l1 x26_2)
     rotate_left
     ·rw [if_neg c29] at H
      exact absurd H (by simp)
     rw [if_pos c29] at H
     have c29b0 := decide_eq_true c29
     clear c29
     by_cases c30 : (rd l1 x26_2) < (l0_1.length : Int)
     rotate_left
     ·rw [if_neg c30] at H
      exact absurd H (by simp)
     rw [if_pos c30] at H
     have c30b0 := decide_eq_true c30
     clear c30
     by_cases c31 : x106001_2.length < 17592186044416
     rotate_left
     ·rw [if_neg c31] at H
      exact absurd H (by simp)
     rw [if_pos c31] at H
     have LMc31 := Aside0.mk c31
     clear c31
     obtain ⟨y108, hy108⟩ : ∃ y_ : List Int, y_ = (x106001_2 ++ [rd l0_1 (rd l1 x26_2)]) := ⟨_, rfl⟩
     replace H : (impl_RenameCommittee.l0 k2 l1 (l1.length : Int) (wrap64 (x26_2 + 1)) a0_0 l0_1 a0_0 y108) = some (r1, r2, r3) := by first | (rw [hy108]; with_reducible exact H) | (have H2_ := (Option.bind_some _ _).symm.trans H; rw [hy108]; with_reducible exact H2_) | (have H2_ := (Option.bind_some _ _).symm.trans H; with_reducible exact H2_) | with_reducible exact H | (rw [hy108]; exact H) | exact H
     have Ny108 := Aside0.mk hy108
     clear hy108
     have H' := Aside0.mk H
     clear H
     have p106 : 0 ≤ (x26_2 : Int) := oD
     have q106 : x26_2 < (l1.length : Int) := oD
     obtain ⟨ad106, e106, hx106_0⟩ := Kd.at_int HR1.out x26_2 p106 q106
     cases e106
     replace hx106_0 := (HB.out.cell (World.block_lt_of_cell? w _ hx106_0)).trans hx106_0
     replace p106 := eq_true p106
     replace q106 := eq_true q106
     try go_wp2
     replace HO_106001 := rD HO_106001
     replace BK101 := bD BK101
     replace BK102 := bD BK102
     replace BK105 := bD BK105
     replace HB := Aside0.mk (below_drew1 HB.out)
     have p107 : 0 ≤ ((rd l1 x26_2) : Int) := oD
     have q107 : (rd l1 x26_2) < (l0_1.length : Int) := oD
     obtain ⟨ad107, e107, hx107_0⟩ := Kd.at_int HR0_1.out (rd l1 x26_2) p107 q107
     have hw107_0 := hx107_0
     cases e107
     replace hx107_0 := (HB.out.cell (World.block_lt_of_cell? w _ hx107_0)).trans hx107_0
     replace p107 := eq_true p107
     replace q107 := eq_true q107
     refine start_ (n := 11) (S := fun w' => w'.cell? ⟨gb105, 0, none⟩ = some (.int .i64 a0_0) ∧ w'.cell? ⟨gb105, 1, none⟩ = some (u106001) ∧ w'.cell? ⟨gb101, 0, none⟩ = some (.int .i64 a0_0) ∧ w'.cell? ⟨gb101, 1, none⟩ = some (.slice (some ad107) l0_1.length c0_1) ∧ w'.cell? (ad107.add ((rd l1 x26_2)).toNat) = some (.int .i64 (rd l0_1 (rd l1 x26_2)))) (ds := [10]) #[F,F,F,F,F,F,F,F,F,F,F] (by kernel_rfl) rfl rfl ⟨(blk_cell BK105.out 0).trans rfl, (blk_cell BK105.out 1).trans rfl, (blk_cell BK101.out 0).trans rfl, (blk_cell BK101.out 1).trans rfl, ((HB.out.cell (World.block_lt_of_cell? w _ hw107_0)).trans hw107_0)⟩ (fun hHeld => ?_); refine with_tabW impl_RenameCommittee.tab7 impl_RenameCommittee.bits7 (fun HT_ HW_ => ?_)
     generalize wr.drew = w32 at HO_106001 BK101 BK102 BK105 HB hx107_0 hHeld ⊢
     refine pU 0 HT_ ?_
     refine pU 2 HT_ ?_
     refine pU 4 HT_ ?_
     refine tK 1 HT_ HW_ hHeld (hy := by rintro w' ⟨s0, s1, s2, s3, s4⟩; go_simp; with_reducible rfl) ?_
     refine tK 3 HT_ HW_ hHeld (hy := by rintro w' ⟨s0, s1, s2, s3, s4⟩; go_simp; with_reducible rfl) ?_
     refine pU 5 HT_ ?_
     refine tK 6 HT_ HW_ hHeld (hy := by rintro w' ⟨s0, s1, s2, s3, s4⟩; go_simp; with_reducible rfl) ?_
     refine oN 7 HT_ (fun K hK => ?_)
     refine value_ (w1 := ?_) (v := ?_) (by rfl) rfl ?_ ?_
     rotate_left 2
     ·go_simp
      constructor
      ·rfl
      rfl
     refine hK.out _ _ ⟨(blk_cell (blk_alloc BK105.out _) 0).trans rfl, (blk_cell (blk_alloc BK105.out _) 1).trans rfl, (blk_cell (blk_alloc BK101.out _) 0).trans rfl, (blk_cell (blk_alloc BK101.out _) 1).trans rfl, (World.cell?_alloc_lt _ _ _ (World.block_lt_of_cell? _ _ (((HB.out.cell (World.block_lt_of_cell? w _ hw107_0)).trans hw107_0)))).trans (((HB.out.cell (World.block_lt_of_cell? w _ hw107_0)).trans hw107_0))⟩ (fun hHeld => ?_)
     clear hK K
     refine nM ?_
     refine oN 8 HT_ (fun K hK => ?_)
     refine Kd.R_append_step (Kd.int .i64) (w0 := w) w.heap.size (by rfl) (.tmp 31) (.tmp 37) 22 3 (.int .i64 0) 8 rfl Tryz.underlying22 info3 rfl (by decide) (by omega) u106001 x106001_2 (rd l0_1 (rd l1 x26_2)) [.int .i64 (rd l0_1 (rd l1 x26_2))] (fun _ => True) (fun _ => False) rfl rfl ?aP (fun _ hk => hk.elim) ?aF ?aO ?aB ?aS ?aL ?_
     (case aP => exact rfl)
     (case aB => exact HB.out)
     (case aF => exact (fun _ _ => trivial))
     (case aO => exact HO_106001.out)
     (case aS => exact (below_size HB.out))
     (case aL => have := LMc31.out; omega)
     intro v109 w33 ho hb hg hat
     rw [← Ny108.out] at ho
     have HO110 := Aside0.mk (ho)
     replace BK101 := Aside0.mk (blk_grown (g := gb101) (o := .cells #[.int .i64 a0_0, .slice (some ad107) l0_1.length c0_1] 24 (0, 0)) BK101.out hg (Kd.R_ne HO_106001.out BK101.out (by decide)))
     replace BK102 := Aside0.mk (blk_grown (g := gb102) (o := .cells #[.int .i64 0, .slice none 0 0] 24 (0, 0)) BK102.out hg (Kd.R_ne HO_106001.out BK102.out (by decide)))
     replace BK105 := Aside0.mk (blk_grown (g := gb105) (o := .cells #[.int .i64 a0_0, u106001] 24 (0, 0)) BK105.out hg (Kd.R_ne HO_106001.out BK105.out (by decide)))
     replace HB := Aside0.mk (hb)
     clear ho hb hg hat
     obtain ⟨Ao34, co34, eo34⟩ := Kd.R_slice HO110.out
     (first | subst eo34 | (injection eo34 with f1_ f2_ f3_; have f4_ := f1_.symm; have f5_ := f3_.symm; clear f1_ f2_ f3_; subst f4_; subst f5_))
     refine hK.out _ _ ⟨(blk_cell BK105.out 0).trans rfl, (blk_cell BK105.out 1).trans rfl, (blk_cell BK101.out 0).trans rfl, (blk_cell BK101.out 1).trans rfl, ((HB.out.cell (World.block_lt_of_cell? w _ hw107_0)).trans hw107_0)⟩ (fun hHeld => ?_)
     clear hK K
     refine nM ?_
     refine pU 9 HT_ ?_
     refine last_ (i := 10) (N := none) #[T,T,T,T,T,T,T,T,T,T,T] rfl rfl (one_of HT_.out (by kernel_rfl)) (by decide) (fun K hK => ?_)
     have hs35 : w33.cell? ⟨gb105, 1, none⟩ = some (u106001) := (blk_cell BK105.out 1).trans rfl
     have hfs35 := blk_frozen BK105.out 1
     have hns35_0 := NB101_105.out
     have hns35_1 := NB102_105.out
     have hms35_0 := NB105_101.out
     have hms35_1 := NB105_102.out
     refine skip_ (w1 := ?_) (by rfl) rfl ?_ ?_
     rotate_left
     ·go_simp
      rfl
     refine hK.out _ _ ?_
     clear hK K
     refine done_ (done_of HT_.out (by kernel_rfl)) ?_
     try go_wp2
     go_roundg k2
     case measure => have := HJ2.out; have := HK2.out; omega
     case rel => exact ⟨(wrap64 (x26_2 + 1)), (y108), (.slice Ao34 y108.length co34), gR, H', ⟨by have := HJ2.out; have := HK2.out; omega⟩, ⟨by exact Kd.R_mono (Kd.R_far (p := ⟨gb105, 1, none⟩) (Kd.R_types HO110.out BK105.out (by decide)) (fun _ hk => hk.2) (.slice Ao34 y108.length co34)) (fun _ hk => trivial)⟩, ⟨by refine blk_far ?_ NB101_105.out _; exact BK101.out⟩, ⟨by refine blk_far ?_ NB102_105.out _; exact BK102.out⟩, ⟨by refine blk_put (cs := #[.int .i64 a0_0, u106001]) ?_ 1 _ rfl; exact BK105.out⟩, ⟨wB⟩⟩
end Go.Proofs.YtaambkdiokbdgacGreatDoor.Q
namespace Go.Proofs.YtaambkdiokbdgacGreatDoor.Q
open Go.RowKit Go.Proofs.YtaambkdiokbdgacGreatDoorX Go.Proofs.YtaambkdiokbdgacGreatDoorY Go.Proofs.YtaambkdiokbdgacGreatDoorW.PrintWords Go.Proofs.YtaambkdiokbdgacGreatDoorW.PrintLast Go.Proofs.YtaambkdiokbdgacGreatDoorW.PrintMore
attribute [local go_sem] max2_int min2_int max_two min_two max_three min_three max_four min_four   -- for this text's walks alone
set_option linter.unusedVariables false
set_option linter.unusedSimpArgs false
def spec_l1In.f (a0 : Int) (a1 : Int) (a2 : Int) : Option (Bool) := if a0 ≥ a1 then (some (decide (a0 ≤ a2))) else (some false)
theorem spec_l1In.calls (a0 : Int) (a1 : Int) (a2 : Int) (r : Bool) (w : World) (h : spec_l1In.f a0 a1 a2 = some r) :
  Calls Tryz.prog 37 #[.int .i64 a0, .int .i64 a1, .int .i64 a2] w fun e w' => e = .returned (.bool r) ∧ Drawn0 w w' := by
 have H := h
 unfold spec_l1In.f at H
 clear h
 by_cases c4 : a0 ≥ a1
 ·rw [if_pos c4] at H
  have c4b0 : decide (a1 ≤ a0) = true := decide_eq_true c4
  clear c4
  obtain rfl := Option.some.inj H
  go_enter Tryz.func37, Tryz.ntmps37
  go_wp2
  go_ret
  exact ⟨by first | rfl | (simp; done) | (simp [*]; done), dS⟩
 rw [if_neg c4] at H
 have c4b0 : decide (a1 ≤ a0) = false := decide_eq_false c4
 clear c4
 obtain rfl := Option.some.inj H
 go_enter Tryz.func37, Tryz.ntmps37
 go_wp2
 go_ret
 exact ⟨by first | rfl | (simp; done) | (simp [*]; done), dS⟩
def spec_l1All.l0 : Nat → Int → Int → List Int → Int → Int → Option (Bool)
 | 0, _, _, _, _, _ => none
 | k + 1, x1, x2, x9, x10, x11 => if x11 < x10 then (if 0 ≤ x11 then (if x11 < (x9.length : Int) then ((spec_l1In.f (rd x9 x11) x1 x2).bind fun t102 => (if t102 = true then (spec_l1All.l0 k x1 x2 x9 x10 (wrap64 (x11 + 1))) else (some false))) else (none)) else (none)) else (some true)
def spec_l1All.f (k : Nat) (l0 : List Int) (a1 : Int) (a2 : Int) : Option (Bool) := spec_l1All.l0 k a1 a2 l0 (l0.length : Int) 0
theorem spec_l1All.calls (k : Nat) (A0 : Option Addr) (c0 : Nat) (l0 : List Int) (a1 : Int) (a2 : Int) (r : Bool) (w : World) (hr0 : Kd.C (Kd.int .i64) w A0 l0.length l0) (hc0 : l0.length ≤ c0) (h : spec_l1All.f k l0 a1 a2 = some r) :
  Calls Tryz.prog 61 #[.slice A0 l0.length c0, .int .i64 a1, .int .i64 a2] w fun e w' => e = .returned (.bool r) ∧ Drawn0 w w' := by
 have HR0 := Aside0.mk hr0
 have HC0 := Aside0.mk hc0
 clear hr0 hc0
 have H := h
 unfold spec_l1All.f at H
 clear h
 have H' := Aside0.mk H
 clear H
 go_enter Tryz.func61, Tryz.ntmps61
 go_wp2
 go_loopg [11] k (fun kq v11 w' => ∃ (x11_1 : Int), v11 = .int .i64 x11_1 ∧ Aside0 (spec_l1All.l0 kq a1 a2 l0 (l0.length : Int) x11_1 = some r) ∧ Aside0 (kq ≤ k) ∧ Drawn0 w w')
 case atStart => exact ⟨(0), gR, H', ⟨Nat.le_refl _⟩, dS⟩
 case round =>
  clear H'
  try clear p2
  obtain ⟨x11_1, rfl, HA, HK1, ⟨m1, rfl⟩⟩ := hrel
  cases gk with
  | zero => exact absurd HA.out (by simp [spec_l1All.l0])
  | succ k1 =>
   have H := HA.out
   clear HA
   simp only [spec_l1All.l0] at H
   by_cases c4 : x11_1 < (l0.length : Int)
   rotate_left
   ·rw [if_neg c4] at H
    have c4b0 : decide (x11_1 < (l0.length : Int)) = false := decide_eq_false c4
    clear c4
    obtain rfl := Option.some.inj H
    go_wp2
    go_ret
    exact ⟨by first | rfl | (simp; done) | (simp [*]; done), dS⟩
   rw [if_pos c4] at H
   have c4b0 := decide_eq_true c4
   clear c4
   by_cases c5 : 0 ≤ x11_1
   rotate_left
   ·rw [if_neg c5] at H
    exact absurd H (by simp)
   rw [if_pos c5] at H
   have c5b0 := decide_eq_true c5
   clear c5
   by_cases c6 : x11_1 < (l0.length : Int)
   rotate_left
   ·rw [if_neg c6] at H
    exact absurd H (by simp)
   rw [if_pos c6] at H
   have c6b0 := decide_eq_true c6
   clear c6
   replace H := oB H
   obtain ⟨t102, A70, H⟩ := H
   replace H : (if t102 = true then (spec_l1All.l0 k1 a1 a2 l0 (l0.length : Int) (wrap64 (x11_1 + 1))) else (some false)) = some r := H
   have A7 := Aside0.mk A70
   clear A70
   by_cases c8 : t102 = true
   rotate_left
   ·replace c8 := Bool.eq_false_iff.mpr c8
    subst c8
    replace H := iF H
    obtain rfl := Option.some.inj H
    have p101 : 0 ≤ (x11_1 : Int) := oD
    have q101 : x11_1 < (l0.length : Int) := oD
    obtain ⟨ad101, e101, hx101_0⟩ := Kd.at_int HR0.out x11_1 p101 q101
    cases e101
    replace p101 := eq_true p101
    replace q101 := eq_true q101
    go_wp2_with (first | ((with_reducible refine gate_callee (f := 37) rfl ?_); refine gL 18 Tryz.func37 #[.int .i64 (rd l0 x11_1), .int .i64 a1, .int .i64 a2] ?_; (with_reducible refine (spec_l1In.calls (rd l0 x11_1) a1 a2 false _ A7.out).mono ?_); rintro e w' ⟨rfl, ⟨nd, rfl⟩⟩; refine ⟨_, rfl, ?_⟩))
    go_ret
    exact ⟨by first | rfl | (simp; done) | (simp [*]; done), dS⟩
   subst c8
   replace H := iT H
   have H' := Aside0.mk H
   clear H
   have p101 : 0 ≤ (x11_1 : Int) := oD
   have q101 : x11_1 < (l0.length : Int) := oD
   obtain ⟨ad101, e101, hx101_0⟩ := Kd.at_int HR0.out x11_1 p101 q101
   cases e101
   replace p101 := eq_true p101
   replace q101 := eq_true q101
   go_wp2_with (first | ((with_reducible refine gate_callee (f := 37) rfl ?_); refine gL 18 Tryz.func37 #[.int .i64 (rd l0 x11_1), .int .i64 a1, .int .i64 a2] ?_; (with_reducible refine (spec_l1In.calls (rd l0 x11_1) a1 a2 true _ A7.out).mono ?_); rintro e w' ⟨rfl, ⟨nd, rfl⟩⟩; refine ⟨_, rfl, ?_⟩))
   go_roundg k1
   case measure => have := HK1.out; omega
   case rel => exact ⟨(wrap64 (x11_1 + 1)), gR, H', ⟨by have := HK1.out; omega⟩, dS⟩
def spec_voSum.l0 : Nat → Int → List Int → Int → Int → Option (Int)
 | 0, _, _, _, _ => none
 | k + 1, x3, x6, x7, x8 => if x8 < x7 then (if 0 ≤ x8 then (if x8 < (x6.length : Int) then (spec_voSum.l0 k (wrap64 (x3 + (rd x6 x8))) x6 x7 (wrap64 (x8 + 1))) else (none)) else (none)) else (some x3)
def spec_voSum.f (k : Nat) (l0 : List Int) : Option (Int) := spec_voSum.l0 k 0 l0 (l0.length : Int) 0
theorem spec_voSum.calls (k : Nat) (A0 : Option Addr) (c0 : Nat) (l0 : List Int) (r : Int) (w : World) (hr0 : Kd.C (Kd.int .i64) w A0 l0.length l0) (hc0 : l0.length ≤ c0) (h : spec_voSum.f k l0 = some r) :
  Calls Tryz.prog 62 #[.slice A0 l0.length c0] w fun e w' => e = .returned (.int .i64 r) ∧ Drawn0 w w' := by
 have HR0 := Aside0.mk hr0
 have HC0 := Aside0.mk hc0
 clear hr0 hc0
 have H := h
 unfold spec_voSum.f at H
 clear h
 have H' := Aside0.mk H
 clear H
 go_enter Tryz.func62, Tryz.ntmps62
 go_wp2
 go_loopg [3, 8] k (fun kq v3 v8 w' => ∃ (x3_1 : Int) (x8_1 : Int), v3 = .int .i64 x3_1 ∧ v8 = .int .i64 x8_1 ∧ Aside0 (spec_voSum.l0 kq x3_1 l0 (l0.length : Int) x8_1 = some r) ∧ Aside0 (kq ≤ k) ∧ Drawn0 w w')
 case atStart => exact ⟨(0), (0), gR, gR, H', ⟨Nat.le_refl _⟩, dS⟩
 case round =>
  clear H'
  obtain ⟨x3_1, x8_1, rfl, rfl, HA, HK1, ⟨m1, rfl⟩⟩ := hrel
  cases gk with
  | zero => exact absurd HA.out (by simp [spec_voSum.l0])
  | succ k1 =>
   have H := HA.out
   clear HA
   simp only [spec_voSum.l0] at H
   by_cases c2 : x8_1 < (l0.length : Int)
   rotate_left
   ·rw [if_neg c2] at H
    have c2b0 : decide (x8_1 < (l0.length : Int)) = false := decide_eq_false c2
    clear c2
    obtain rfl := Option.some.inj H
    go_wp2
    go_ret
    exact ⟨by first | rfl | (simp; done) | (simp [*]; done), dS⟩
   rw [if_pos c2] at H
   have c2b0 := decide_eq_true c2
   clear c2
   by_cases c3 : 0 ≤ x8_1
   rotate_left
   ·rw [if_neg c3] at H
    exact absurd H (by simp)
   rw [if_pos c3] at H
   have c3b0 := decide_eq_true c3
   clear c3
   by_cases c4 : x8_1 < (l0.length : Int)
   rotate_left
   ·rw [if_neg c4] at H
    exact absurd H (by simp)
   rw [if_pos c4] at H
   have c4b0 := decide_eq_true c4
   clear c4
   have H' := Aside0.mk H
   clear H
   have p101 : 0 ≤ (x8_1 : Int) := oD
   have q101 : x8_1 < (l0.length : Int) := oD
   obtain ⟨ad101, e101, hx101_0⟩ := Kd.at_int HR0.out x8_1 p101 q101
   cases e101
   replace p101 := eq_true p101
   replace q101 := eq_true q101
   go_wp2
   go_roundg k1
   case measure => have := HK1.out; omega
   case rel => exact ⟨(wrap64 (x3_1 + (rd l0 x8_1))), (wrap64 (x8_1 + 1)), gR, gR, H', ⟨by have := HK1.out; omega⟩, dS⟩
def spec_voGood.j0 : Nat → Bool → Int → List Int → Option (Bool)
 | 0, _, _, _ => none
 | k + 1, x13, x102000, x102001 => if x13 = true then (some false) else ((spec_voSum.f k x102001).bind fun t104 => ((spec_l1In.f x102000 1 t104).bind fun t105 => (some t105)))
def spec_voGood.f (k : Nat) (a0_0 : Int) (l0_1 : List Int) : Option (Bool) := (spec_l1In.f (l0_1.length : Int) 1 9).bind fun t102 => (if t102 = true then ((spec_l1All.f k l0_1 0 1000).bind fun t103 => (spec_voGood.j0 k (!t103) a0_0 l0_1)) else (spec_voGood.j0 k true a0_0 l0_1))
theorem spec_voGood.calls (k : Nat) (a0_0 : Int) (A0_1 : Option Addr) (c0_1 : Nat) (l0_1 : List Int) (r : Bool) (w : World) (hr0_1 : Kd.C (Kd.int .i64) w A0_1 l0_1.length l0_1) (hc0_1 : l0_1.length ≤ c0_1) (h : spec_voGood.f k a0_0 l0_1 = some r) :
  Calls Tryz.prog 28 #[.agg #[.int .i64 a0_0, .slice A0_1 l0_1.length c0_1]] w fun e w' => e = .returned (.bool r) ∧ Below w.heap.size w w' := by
 have hu24 := Tryz.underlying24
 have HR0_1 := Aside0.mk hr0_1
 have HC0_1 := Aside0.mk hc0_1
 clear hr0_1 hc0_1
 have HB := Aside0.mk (Below.refl w.heap.size w)
 have H := h
 unfold spec_voGood.f at H
 clear h
 have HC2 := Aside0.mk H
 clear H
 go_enter Tryz.func28, Tryz.ntmps28
 go_upto_region 1 with (first | ((with_reducible refine gate_dst (N := 1) rfl ?_); refine box_event ?hg (N := 1) ?hd (cs := #[.int .i64 a0_0, .slice A0_1 l0_1.length c0_1]) (t := 24) ?hr ?_; (case hd => rfl); (case hg => rfl); (case hr => first | (go_simp; done) | (go_simp; rfl)); intro gb101 hg w3 hbox hb; have n0_ := sQ hb; have n1_ := Aside0.mk (hbox); have n2_ := Aside0.mk ((by rw [hg]; exact (below_size (wB)) : w.heap.size ≤ gb101)); have n3_ := Aside0.mk ((by rw [hg]; exact (below_size (wB)) : w.heap.size ≤ gb101)); clear HB; have HB := n0_; have BK101 := n1_; have GW101 := n2_; have GE101 := n3_; clear n0_ n1_ n2_ n3_; clear hb hbox hg))
 repeat (go_quiet (first | ((with_reducible refine gate_dst (N := 1) rfl ?_); refine box_event ?hg (N := 1) ?hd (cs := #[.int .i64 a0_0, .slice A0_1 l0_1.length c0_1]) (t := 24) ?hr ?_; (case hd => rfl); (case hg => rfl); (case hr => first | (go_simp; done) | (go_simp; rfl)); intro gb101 hg w3 hbox hb; have n0_ := sQ hb; have n1_ := Aside0.mk (hbox); have n2_ := Aside0.mk ((by rw [hg]; exact (below_size (wB)) : w.heap.size ≤ gb101)); have n3_ := Aside0.mk ((by rw [hg]; exact (below_size (wB)) : w.heap.size ≤ gb101)); clear HB; have HB := n0_; have BK101 := n1_; have GW101 := n2_; have GE101 := n3_; clear n0_ n1_ n2_ n3_; clear hb hbox hg)); go_upto_region 1 with (first | ((with_reducible refine gate_dst (N := 1) rfl ?_); refine box_event ?hg (N := 1) ?hd (cs := #[.int .i64 a0_0, .slice A0_1 l0_1.length c0_1]) (t := 24) ?hr ?_; (case hd => rfl); (case hg => rfl); (case hr => first | (go_simp; done) | (go_simp; rfl)); intro gb101 hg w3 hbox hb; have n0_ := sQ hb; have n1_ := Aside0.mk (hbox); have n2_ := Aside0.mk ((by rw [hg]; exact (below_size (wB)) : w.heap.size ≤ gb101)); have n3_ := Aside0.mk ((by rw [hg]; exact (below_size (wB)) : w.heap.size ≤ gb101)); clear HB; have HB := n0_; have BK101 := n1_; have GW101 := n2_; have GE101 := n3_; clear n0_ n1_ n2_ n3_; clear hb hbox hg)))
 (try simp only [Act.put, sA, sZ, sS])
 go_cut [13] (fun v13 wc => ∃ (kq : Nat) (x13_1 : Bool), v13 = .bool x13_1 ∧ Aside0 (spec_voGood.j0 kq x13_1 a0_0 l0_1 = some r) ∧ Aside0 (kq ≤ k) ∧ Aside0 (wc.heap[gb101]? = some (.cells #[.int .i64 a0_0, (.slice A0_1 l0_1.length c0_1)] 24 (0, 0))) ∧ Aside0 (Below w.heap.size w wc))
 case first =>
  have H := HC2.out
  clear HC2
  replace H := oB H
  obtain ⟨t102, A40, H⟩ := H
  replace H : (if t102 = true then ((spec_l1All.f k l0_1 0 1000).bind fun t103 => (spec_voGood.j0 k (!t103) a0_0 l0_1)) else (spec_voGood.j0 k true a0_0 l0_1)) = some r := H
  have A4 := Aside0.mk A40
  clear A40
  by_cases c5 : t102 = true
  rotate_left
  ·replace c5 := Bool.eq_false_iff.mpr c5
   subst c5
   replace H := iF H
   have H' := Aside0.mk H
   clear H
   obtain ⟨hcz8_0, hcz8_1, hfz8_0, hfz8_1⟩ := zZ BK101
   go_wp2_with (first | (go_at_call 37; (with_reducible refine (spec_l1In.calls (l0_1.length : Int) 1 9 false _ A4.out).mono ?_); rintro e w' ⟨rfl, ⟨nd, rfl⟩⟩; (try exact dR)))
   repeat (go_quiet (first | (go_at_call 37; (with_reducible refine (spec_l1In.calls (l0_1.length : Int) 1 9 false _ A4.out).mono ?_); rintro e w' ⟨rfl, ⟨nd, rfl⟩⟩; (try exact dR))); try go_wp2_with (first | (go_at_call 37; (with_reducible refine (spec_l1In.calls (l0_1.length : Int) 1 9 false _ A4.out).mono ?_); rintro e w' ⟨rfl, ⟨nd, rfl⟩⟩; (try exact dR))))
   go_meet
   case rel => exact ⟨_, (true), gR, H', ⟨by first | omega | exact Nat.le_refl _⟩, ⟨bQ BK101⟩, ⟨wB⟩⟩
  subst c5
  replace H := iT H
  replace H := oB H
  obtain ⟨t103, A60, H⟩ := H
  replace H : (spec_voGood.j0 k (!t103) a0_0 l0_1) = some r := H
  have A6 := Aside0.mk A60
  clear A60
  have H' := Aside0.mk H
  clear H
  obtain ⟨hcz7_0, hcz7_1, hfz7_0, hfz7_1⟩ := zZ BK101
  go_wp2_with (first | (go_at_call 37; (with_reducible refine (spec_l1In.calls (l0_1.length : Int) 1 9 true _ A4.out).mono ?_); rintro e w' ⟨rfl, ⟨nd, rfl⟩⟩; (try exact dR)) | (go_at_call 61; (with_reducible refine (spec_l1All.calls k _ _ l0_1 0 1000 t103 _ ?side1 ?side2 A6.out).mono ?_); (case side1 => have hx_ := (Kd.C_below HR0_1.out (wB)); exact cC); (case side2 => exact HC0_1.out); rintro e w' ⟨rfl, ⟨nd, rfl⟩⟩; (try exact dR)))
  repeat (go_quiet (first | (go_at_call 37; (with_reducible refine (spec_l1In.calls (l0_1.length : Int) 1 9 true _ A4.out).mono ?_); rintro e w' ⟨rfl, ⟨nd, rfl⟩⟩; (try exact dR)) | (go_at_call 61; (with_reducible refine (spec_l1All.calls k _ _ l0_1 0 1000 t103 _ ?side1 ?side2 A6.out).mono ?_); (case side1 => have hx_ := (Kd.C_below HR0_1.out (wB)); exact cC); (case side2 => exact HC0_1.out); rintro e w' ⟨rfl, ⟨nd, rfl⟩⟩; (try exact dR))); try go_wp2_with (first | (go_at_call 37; (with_reducible refine (spec_l1In.calls (l0_1.length : Int) 1 9 true _ A4.out).mono ?_); rintro e w' ⟨rfl, ⟨nd, rfl⟩⟩; (try exact dR)) | (go_at_call 61; (with_reducible refine (spec_l1All.calls k _ _ l0_1 0 1000 t103 _ ?side1 ?side2 A6.out).mono ?_); (case side1 => have hx_ := (Kd.C_below HR0_1.out (wB)); exact cC); (case side2 => exact HC0_1.out); rintro e w' ⟨rfl, ⟨nd, rfl⟩⟩; (try exact dR))))
  go_meet
  case rel => exact ⟨_, (!t103), gR, H', ⟨by first | omega | exact Nat.le_refl _⟩, ⟨bQ BK101⟩, ⟨wB⟩⟩
 case rest =>
  clear HC2
  try clear c2
  try clear p2
  try clear c5
  try clear hcz7_0
  try clear hcz7_1
  try clear hcz8_0
  try clear hcz8_1
  try clear hfz7_0
  try clear hfz7_1
  try clear hfz8_0
  try clear hfz8_1
  obtain ⟨kq, x13_1, rfl, HA, HJ1, BK101, HB⟩ := hcut
  cases kq with
  | zero => exact absurd HA.out (by simp [spec_voGood.j0])
  | succ kj1 =>
   have H := HA.out
   clear HA
   simp only [spec_voGood.j0] at H
   by_cases c9 : x13_1 = true
   ·subst c9
    replace H := iT H
    obtain rfl := Option.some.inj H
    go_wp2
    repeat (go_quiet (fail); try go_wp2)
    go_ret
    exact ⟨fR, wB⟩
   replace c9 := Bool.eq_false_iff.mpr c9
   subst c9
   replace H := iF H
   replace H := oB H
   obtain ⟨t104, A100, H⟩ := H
   replace H : ((spec_l1In.f a0_0 1 t104).bind fun t105 => (some t105)) = some r := H
   have A10 := Aside0.mk A100
   clear A100
   replace H := oB H
   obtain ⟨t105, A110, H⟩ := H
   replace H : (some t105) = some r := H
   have A11 := Aside0.mk A110
   clear A110
   obtain rfl := Option.some.inj H
   obtain ⟨hcz12_0, hcz12_1, hfz12_0, hfz12_1⟩ := zZ BK101
   go_wp2_with (first | (go_at_call 62; (with_reducible refine (spec_voSum.calls kj1 _ _ l0_1 t104 _ ?side1 ?side2 A10.out).mono ?_); (case side1 => have hx_ := (Kd.C_below HR0_1.out HB.out); exact cC); (case side2 => exact HC0_1.out); rintro e w' ⟨rfl, ⟨nd, rfl⟩⟩; (try exact dR)) | (go_at_call 37; (with_reducible refine (spec_l1In.calls a0_0 1 t104 t105 _ A11.out).mono ?_); rintro e w' ⟨rfl, ⟨nd, rfl⟩⟩; (try exact dR)))
   repeat (go_quiet (first | (go_at_call 62; (with_reducible refine (spec_voSum.calls kj1 _ _ l0_1 t104 _ ?side1 ?side2 A10.out).mono ?_); (case side1 => have hx_ := (Kd.C_below HR0_1.out HB.out); exact cC); (case side2 => exact HC0_1.out); rintro e w' ⟨rfl, ⟨nd, rfl⟩⟩; (try exact dR)) | (go_at_call 37; (with_reducible refine (spec_l1In.calls a0_0 1 t104 t105 _ A11.out).mono ?_); rintro e w' ⟨rfl, ⟨nd, rfl⟩⟩; (try exact dR))); try go_wp2_with (first | (go_at_call 62; (with_reducible refine (spec_voSum.calls kj1 _ _ l0_1 t104 _ ?side1 ?side2 A10.out).mono ?_); (case side1 => have hx_ := (Kd.C_below HR0_1.out HB.out); exact cC); (case side2 => exact HC0_1.out); rintro e w' ⟨rfl, ⟨nd, rfl⟩⟩; (try exact dR)) | (go_at_call 37; (with_reducible refine (spec_l1In.calls a0_0 1 t104 t105 _ A11.out).mono ?_); rintro e w' ⟨rfl, ⟨nd, rfl⟩⟩; (try exact dR))))
   go_ret
   exact ⟨fR, wB⟩
def spec_l1Has.l0 : Nat → Int → List Int → Int → Int → Option (Bool)
 | 0, _, _, _, _ => none
 | k + 1, x1, x7, x8, x9 => if x9 < x8 then (if 0 ≤ x9 then (if x9 < (x7.length : Int) then (if (rd x7 x9) = x1 then (some true) else (spec_l1Has.l0 k x1 x7 x8 (wrap64 (x9 + 1)))) else (none)) else (none)) else (some false)
def spec_l1Has.f (k : Nat) (l0 : List Int) (a1 : Int) : Option (Bool) := spec_l1Has.l0 k a1 l0 (l0.length : Int) 0
theorem spec_l1Has.calls (k : Nat) (A0 : Option Addr) (c0 : Nat) (l0 : List Int) (a1 : Int) (r : Bool) (w : World) (hr0 : Kd.C (Kd.int .i64) w A0 l0.length l0) (hc0 : l0.length ≤ c0) (h : spec_l1Has.f k l0 a1 = some r) :
  Calls Tryz.prog 63 #[.slice A0 l0.length c0, .int .i64 a1] w fun e w' => e = .returned (.bool r) ∧ Drawn0 w w' := by
 have HR0 := Aside0.mk hr0
 have HC0 := Aside0.mk hc0
 clear hr0 hc0
 have H := h
 unfold spec_l1Has.f at H
 clear h
 have H' := Aside0.mk H
 clear H
 go_enter Tryz.func63, Tryz.ntmps63
 go_wp2
 go_loopg [9] k (fun kq v9 w' => ∃ (x9_1 : Int), v9 = .int .i64 x9_1 ∧ Aside0 (spec_l1Has.l0 kq a1 l0 (l0.length : Int) x9_1 = some r) ∧ Aside0 (kq ≤ k) ∧ Drawn0 w w')
 case atStart => exact ⟨(0), gR, H', ⟨Nat.le_refl _⟩, dS⟩
 case round =>
  clear H'
  try clear p2
  obtain ⟨x9_1, rfl, HA, HK1, ⟨m1, rfl⟩⟩ := hrel
  cases gk with
  | zero => exact absurd HA.out (by simp [spec_l1Has.l0])
  | succ k1 =>
   have H := HA.out
   clear HA
   simp only [spec_l1Has.l0] at H
   by_cases c3 : x9_1 < (l0.length : Int)
   rotate_left
   ·rw [if_neg c3] at H
    have c3b0 : decide (x9_1 < (l0.length : Int)) = false := decide_eq_false c3
    clear c3
    obtain rfl := Option.some.inj H
    go_wp2
    go_ret
    exact ⟨by first | rfl | (simp; done) | (simp [*]; done), dS⟩
   rw [if_pos c3] at H
   have c3b0 := decide_eq_true c3
   clear c3
   by_cases c4 : 0 ≤ x9_1
   rotate_left
   ·rw [if_neg c4] at H
    exact absurd H (by simp)
   rw [if_pos c4] at H
   have c4b0 := decide_eq_true c4
   clear c4
   by_cases c5 : x9_1 < (l0.length : Int)
   rotate_left
   ·rw [if_neg c5] at H
    exact absurd H (by simp)
   rw [if_pos c5] at H
   have c5b0 := decide_eq_true c5
   clear c5
   by_cases c6 : (rd l0 x9_1) = a1
   ·rw [if_pos c6] at H
    have c6b0 : ((rd l0 x9_1) == a1) = true := beq_iff_eq.mpr c6
    have c6b1 : ((rd l0 x9_1) != a1) = false := bne_eq_false_iff_eq.mpr c6
    clear c6
    obtain rfl := Option.some.inj H
    have p101 : 0 ≤ (x9_1 : Int) := oD
    have q101 : x9_1 < (l0.length : Int) := oD
    obtain ⟨ad101, e101, hx101_0⟩ := Kd.at_int HR0.out x9_1 p101 q101
    cases e101
    replace p101 := eq_true p101
    replace q101 := eq_true q101
    go_wp2
    go_ret
    exact ⟨by first | rfl | (simp; done) | (simp [*]; done), dS⟩
   rw [if_neg c6] at H
   have c6b0 : ((rd l0 x9_1) == a1) = false := beq_eq_false_iff_ne.mpr c6
   have c6b1 : ((rd l0 x9_1) != a1) = true := bne_iff_ne.mpr c6
   have H' := Aside0.mk H
   clear H
   have p101 : 0 ≤ (x9_1 : Int) := oD
   have q101 : x9_1 < (l0.length : Int) := oD
   obtain ⟨ad101, e101, hx101_0⟩ := Kd.at_int HR0.out x9_1 p101 q101
   cases e101
   replace p101 := eq_true p101
   replace q101 := eq_true q101
   go_wp2
   go_roundg k1
   case measure => have := HK1.out; omega
   case rel => exact ⟨(wrap64 (x9_1 + 1)), gR, H', ⟨by have := HK1.out; omega⟩, dS⟩
mutual
def spec_voOrder.j0 : Nat → List Int → Bool → Option (Bool)
 | 0, _, _ => none
 | k + 1, x1, x17 => if x17 = true then (some false) else (spec_voOrder.l0 k x1 x1 (x1.length : Int) 0)
def spec_voOrder.l0 : Nat → List Int → List Int → Int → Int → Option (Bool)
 | 0, _, _, _, _ => none
 | k + 1, x1, x18, x19, x20 => if x20 < x19 then (if 0 ≤ x20 then (if x20 < (x18.length : Int) then (if x20 ≤ (x1.length : Int) then ((spec_l1Has.f k (x1.take (x20 : Int).toNat) (rd x18 x20)).bind fun t104 => (if t104 = true then (some false) else (spec_voOrder.l0 k x1 x18 x19 (wrap64 (x20 + 1))))) else (none)) else (none)) else (none)) else (some true)
end
def spec_voOrder.f (k : Nat) (a0 : Int) (l1 : List Int) : Option (Bool) := if (l1.length : Int) = a0 then ((spec_l1All.f k l1 0 (wrap64 (a0 - 1))).bind fun t101 => (spec_voOrder.j0 k l1 (!t101))) else (spec_voOrder.j0 k l1 true)
theorem spec_voOrder.calls (k : Nat) (a0 : Int) (A1 : Option Addr) (c1 : Nat) (l1 : List Int) (r : Bool) (w : World) (hr1 : Kd.C (Kd.int .i64) w A1 l1.length l1) (hc1 : l1.length ≤ c1) (h : spec_voOrder.f k a0 l1 = some r) :
  Calls Tryz.prog 29 #[.int .i64 a0, .slice A1 l1.length c1] w fun e w' => e = .returned (.bool r) ∧ Drawn0 w w' := by
 have HR1 := Aside0.mk hr1
 have HC1 := Aside0.mk hc1
 clear hr1 hc1
 have H := h
 unfold spec_voOrder.f at H
 clear h
 have HC3 := Aside0.mk H
 clear H
 go_enter Tryz.func29, Tryz.ntmps29
 go_upto_region 1 with (fail)
 go_cut [17] (fun v17 wc => ∃ (kq : Nat) (x17_2 : Bool), v17 = .bool x17_2 ∧ Aside0 (spec_voOrder.j0 kq l1 x17_2 = some r) ∧ Aside0 (kq ≤ k) ∧ Drawn0 w wc)
 case first =>
  have H := HC3.out
  clear HC3
  by_cases c4 : (l1.length : Int) = a0
  rotate_left
  ·rw [if_neg c4] at H
   have c4b0 : ((l1.length : Int) == a0) = false := beq_eq_false_iff_ne.mpr c4
   have c4b1 : ((l1.length : Int) != a0) = true := bne_iff_ne.mpr c4
   (first | rw [c4b0] | (simp only [i64_w, i32_w]; rw [c4b0]) | skip)
   have H' := Aside0.mk H
   clear H
   go_wp2
   go_meet
   case rel => exact ⟨_, (true), gR, H', ⟨by first | omega | exact Nat.le_refl _⟩, dS⟩
  rw [if_pos c4] at H
  have c4b0 : ((l1.length : Int) == a0) = true := beq_iff_eq.mpr c4
  have c4b1 : ((l1.length : Int) != a0) = false := bne_eq_false_iff_eq.mpr c4
  clear c4
  (first | rw [c4b0] | (simp only [i64_w, i32_w]; rw [c4b0]) | skip)
  replace H := oB H
  obtain ⟨t101, A50, H⟩ := H
  replace H : (spec_voOrder.j0 k l1 (!t101)) = some r := H
  have A5 := Aside0.mk A50
  clear A50
  have H' := Aside0.mk H
  clear H
  go_wp2_with (first | (go_at_call 61; (with_reducible refine (spec_l1All.calls k _ _ l1 0 (wrap64 (a0 - 1)) t101 _ ?side1 ?side2 A5.out).mono ?_); (case side1 => have hx_ := HR1.out; exact cC); (case side2 => exact HC1.out); rintro e w' ⟨rfl, ⟨nd, rfl⟩⟩))
  go_meet
  case rel => exact ⟨_, (!t101), gR, H', ⟨by first | omega | exact Nat.le_refl _⟩, dS⟩
 case rest =>
  clear HC3
  try clear c1
  try clear c2
  try clear p2
  try clear c4
  try clear c4b0
  try clear c4b1
  obtain ⟨kq, x17_2, rfl, HA, HJ2, ⟨mc2, rfl⟩⟩ := hcut
  cases kq with
  | zero => exact absurd HA.out (by simp [spec_voOrder.j0])
  | succ kj2 =>
   have H := HA.out
   clear HA
   simp only [spec_voOrder.j0] at H
   by_cases c6 : x17_2 = true
   ·subst c6
    replace H := iT H
    obtain rfl := Option.some.inj H
    go_wp2
    go_ret
    exact ⟨by first | rfl | (simp; done) | (simp [*]; done), dS⟩
   replace c6 := Bool.eq_false_iff.mpr c6
   subst c6
   replace H := iF H
   have H' := Aside0.mk H
   clear H
   go_wp2
   go_loopg [20] kj2 (fun kq v20 w' => ∃ (x20_2 : Int), v20 = .int .i64 x20_2 ∧ Aside0 (spec_voOrder.l0 kq l1 l1 (l1.length : Int) x20_2 = some r) ∧ Aside0 (kq ≤ kj2) ∧ Drawn0 w w')
   case atStart => exact ⟨(0), gR, H', ⟨Nat.le_refl _⟩, dS⟩
   case round =>
    clear H'
    try clear c1
    try clear c2
    try clear p2
    try clear c4
    try clear c4b0
    try clear c4b1
    try clear c6
    try clear p6
    try clear p2
    obtain ⟨x20_2, rfl, HA, HK2, ⟨m2, rfl⟩⟩ := hrel
    cases gk with
    | zero => exact absurd HA.out (by simp [spec_voOrder.l0])
    | succ k2 =>
     have H := HA.out
     clear HA
     simp only [spec_voOrder.l0] at H
     by_cases c7 : x20_2 < (l1.length : Int)
     rotate_left
     ·rw [if_neg c7] at H
      have c7b0 : decide (x20_2 < (l1.length : Int)) = false := decide_eq_false c7
      clear c7
      obtain rfl := Option.some.inj H
      go_wp2
      go_ret
      exact ⟨by first | rfl | (simp; done) | (simp [*]; done), dS⟩
     rw [if_pos c7] at H
     have c7b0 := decide_eq_true c7
     clear c7
     by_cases c8 : 0 ≤ x20_2
     rotate_left
     ·rw [if_neg c8] at H
      exact absurd H (by simp)
     rw [if_pos c8] at H
     have c8b0 := decide_eq_true c8
     clear c8
     by_cases c9 : x20_2 < (l1.length : Int)
     rotate_left
     ·rw [if_neg c9] at H
      exact absurd H (by simp)
     rw [if_pos c9] at H
     have c9b0 := decide_eq_true c9
     clear c9
     have c10b0 := eq_true (oD : 0 ≤ x20_2)
     by_cases c11 : x20_2 ≤ (l1.length : Int)
     rotate_left
     ·rw [if_neg c11] at H
      exact absurd H (by simp)
     rw [if_pos c11] at H
     have c11b0 := eq_true c11
     have c11b1 := decide_eq_true c11
     clear c11
     replace H := oB H
     obtain ⟨t104, A120, H⟩ := H
     replace H : (if t104 = true then (some false) else (spec_voOrder.l0 k2 l1 l1 (l1.length : Int) (wrap64 (x20_2 + 1)))) = some r := H
     have A12 := Aside0.mk A120
     clear A120
     by_cases c13 : t104 = true
     ·subst c13
      replace H := iT H
      obtain rfl := Option.some.inj H
      have p102 : 0 ≤ (x20_2 : Int) := oD
      have q102 : x20_2 < (l1.length : Int) := oD
      obtain ⟨ad102, e102, hx102_0⟩ := Kd.at_int HR1.out x20_2 p102 q102
      cases e102
      replace p102 := eq_true p102
      replace q102 := eq_true q102
      obtain ⟨i014, hi014, _, hsz14, _⟩ := info_parts info3
      obtain ⟨hcut14, hA14, hC14⟩ := print_take_of (P := Tryz.prog) (Value.int .i64) 0 22 3 .i64 Tryz.underlying22 hi014 hsz14 (some ad102) c1 l1 x20_2 (oD) (oD) HC1.out
      have HR103 := Aside0.mk (Kd.C_of_reads (h1 := fun _ => rfl) (hA14 _ (Kd.reads_of_C HR1.out)))
      have HC103 := Aside0.mk hC14
      clear hA14 hC14 hi014 hsz14
      go_wp2_with (first | ((with_reducible refine gate_callee (f := 63) rfl ?_); refine goesL_ (some 29) rfl rfl Tryz.func63 (by kernel_rfl) rfl #[.slice (some ad102) (l1.take (x20_2 : Int).toNat).length c1, .int .i64 (rd l1 x20_2)] rfl (by (try simp only [mA, mC, mN]); first | done | (rw [show (l1.take (x20_2 : Int).toNat).length = x20_2.toNat from (by rw [List.length_take]; have h_ : (x20_2 : Int) ≤ (l1.length : Int) := oD; omega)] <;> rfl) | rfl | (simp only [List.length_drop, List.length_take]; rfl)) ?_; (with_reducible refine (spec_l1Has.calls k2 _ _ (l1.take (x20_2 : Int).toNat) (rd l1 x20_2) true _ ?side1 ?side2 A12.out).mono ?_); (case side1 => have hx_ := HR103.out; exact cC); (case side2 => exact HC103.out); rintro e w' ⟨rfl, ⟨nd, rfl⟩⟩; refine ⟨_, rfl, ?_⟩))
      go_ret
      exact ⟨by first | rfl | (simp; done) | (simp [*]; done), dS⟩
     replace c13 := Bool.eq_false_iff.mpr c13
     subst c13
     replace H := iF H
     have H' := Aside0.mk H
     clear H
     have p102 : 0 ≤ (x20_2 : Int) := oD
     have q102 : x20_2 < (l1.length : Int) := oD
     obtain ⟨ad102, e102, hx102_0⟩ := Kd.at_int HR1.out x20_2 p102 q102
     cases e102
     replace p102 := eq_true p102
     replace q102 := eq_true q102
     obtain ⟨i015, hi015, _, hsz15, _⟩ := info_parts info3
     obtain ⟨hcut15, hA15, hC15⟩ := print_take_of (P := Tryz.prog) (Value.int .i64) 0 22 3 .i64 Tryz.underlying22 hi015 hsz15 (some ad102) c1 l1 x20_2 (oD) (oD) HC1.out
     have HR103 := Aside0.mk (Kd.C_of_reads (h1 := fun _ => rfl) (hA15 _ (Kd.reads_of_C HR1.out)))
     have HC103 := Aside0.mk hC15
     clear hA15 hC15 hi015 hsz15
     go_wp2_with (first | ((with_reducible refine gate_callee (f := 63) rfl ?_); refine goesL_ (some 29) rfl rfl Tryz.func63 (by kernel_rfl) rfl #[.slice (some ad102) (l1.take (x20_2 : Int).toNat).length c1, .int .i64 (rd l1 x20_2)] rfl (by (try simp only [mA, mC, mN]); first | done | (rw [show (l1.take (x20_2 : Int).toNat).length = x20_2.toNat from (by rw [List.length_take]; have h_ : (x20_2 : Int) ≤ (l1.length : Int) := oD; omega)] <;> rfl) | rfl | (simp only [List.length_drop, List.length_take]; rfl)) ?_; (with_reducible refine (spec_l1Has.calls k2 _ _ (l1.take (x20_2 : Int).toNat) (rd l1 x20_2) false _ ?side1 ?side2 A12.out).mono ?_); (case side1 => have hx_ := HR103.out; exact cC); (case side2 => exact HC103.out); rintro e w' ⟨rfl, ⟨nd, rfl⟩⟩; refine ⟨_, rfl, ?_⟩))
     go_roundg k2
     case measure => have := HJ2.out; have := HK2.out; omega
     case rel => exact ⟨(wrap64 (x20_2 + 1)), gR, H', ⟨by have := HJ2.out; have := HK2.out; omega⟩, dS⟩
end Go.Proofs.YtaambkdiokbdgacGreatDoor.Q
namespace Go.Proofs.YtaambkdiokbdgacGreatDoor.Q
open Go.RowKit Go.Proofs.YtaambkdiokbdgacGreatDoorX Go.Proofs.YtaambkdiokbdgacGreatDoorY Go.Proofs.YtaambkdiokbdgacGreatDoorX Go.Proofs.YtaambkdiokbdgacGreatDoorW.PrintWords Go.Proofs.YtaambkdiokbdgacGreatDoorW.PrintLast Go.Proofs.YtaambkdiokbdgacGreatDoorW.PrintMore
attribute [local go_sem] max2_int min2_int max_two min_two max_three min_three max_four min_four   -- for this text's walks alone
set_option linter.unusedVariables false
set_option linter.unusedSimpArgs false
mutual
def spec_RenameCommittee.j0 : Nat → List Int → Bool → Int → List Int → Option (Int × List Int × Bool)
 | 0, _, _, _, _ => none
 | k + 1, x1, x19, x102000, x102001 => if x19 = true then (some (0, ([] : List Int), false)) else (spec_RenameCommittee.l0 k x1 (x1.length : Int) 0 x102000 x102001 x102000 ([] : List Int))
def spec_RenameCommittee.l0 : Nat → List Int → Int → Int → Int → List Int → Int → List Int → Option (Int × List Int × Bool)
 | 0, _, _, _, _, _, _, _ => none
 | k + 1, x24, x25, x26, x102000, x102001, x106000, x106001 => if x26 < x25 then (if 0 ≤ x26 then (if x26 < (x24.length : Int) then (if 0 ≤ (rd x24 x26) then (if (rd x24 x26) < (x102001.length : Int) then (if x106001.length < 17592186044416 then (spec_RenameCommittee.l0 k x24 x25 (wrap64 (x26 + 1)) x102000 x102001 x106000 (x106001 ++ [rd x102001 (rd x24 x26)])) else (none)) else (none)) else (none)) else (none)) else (none)) else (some (x106000, x106001, true))
end
def spec_RenameCommittee.f (k : Nat) (a0_0 : Int) (l0_1 : List Int) (l1 : List Int) : Option (Int × List Int × Bool) := (spec_voGood.f k a0_0 l0_1).bind fun t103 => (if t103 = true then ((spec_voOrder.f k (l0_1.length : Int) l1).bind fun t104 => (spec_RenameCommittee.j0 k l1 (!t104) a0_0 l0_1)) else (spec_RenameCommittee.j0 k l1 true a0_0 l0_1))
def spec_RenameCommittee.T7 : Bool × List (List Nat × List Nat) := (true, [([], []), ([0], [0]), ([], []), ([2], [2]), ([], []), ([3, 4], [3, 4]), ([5], [5]), ([6], [6]), ([1, 7], [1, 7]), ([0, 1, 2, 3, 4, 5, 6, 7, 8], []), ([9, 8, 8, 0, 1, 2, 3, 4, 5, 6, 7, 8], [8, 9])])
def spec_RenameCommittee.B7 : List Nat := [0, 1, 0, 4, 0, 28, 60, 124, 255, 511, 1023]
theorem spec_RenameCommittee.tab7 : rtab .any (opsOf Tryz.f6 7) = spec_RenameCommittee.T7 := by kernel_rfl
theorem spec_RenameCommittee.bits7 : waitsOk spec_RenameCommittee.T7.2 spec_RenameCommittee.B7 = true := by kernel_rfl
theorem spec_RenameCommittee.calls (k : Nat) (a0_0 : Int) (A0_1 : Option Addr) (c0_1 : Nat) (l0_1 : List Int) (A1 : Option Addr) (c1 : Nat) (l1 : List Int) (r1 : Int) (r2 : List Int) (r3 : Bool) (w : World) (hr0_1 : Kd.C (Kd.int .i64) w A0_1 l0_1.length l0_1) (hc0_1 : l0_1.length ≤ c0_1) (hr1 : Kd.C (Kd.int .i64) w A1 l1.length l1) (hc1 : l1.length ≤ c1) (h : spec_RenameCommittee.f k a0_0 l0_1 l1 = some (r1, r2, r3)) :
  Calls Tryz.prog 6 #[.agg #[.int .i64 a0_0, .slice A0_1 l0_1.length c0_1], .slice A1 l1.length c1] w fun e w' => ∃ v1_ : Value, e = .returned (.tuple #[.agg #[.int .i64 r1, v1_], .bool r3]) ∧ Kd.R (Kd.int .i64) 3 w' w.heap.size (fun _ => True) v1_ r2 ∧ Below w.heap.size w w' := by
 have hu24 := Tryz.underlying24
 have HR0_1 := Aside0.mk hr0_1
 have HC0_1 := Aside0.mk hc0_1
 clear hr0_1 hc0_1
 have HR1 := Aside0.mk hr1
 have HC1 := Aside0.mk hc1
 clear hr1 hc1
 have HB := Aside0.mk (Below.refl w.heap.size w)
 have H := h
 unfold spec_RenameCommittee.f at H
 clear h
 have HC3 := Aside0.mk H
 clear H
 go_enter Tryz.func6, Tryz.ntmps6
 go_upto_region 1 with (first | ((with_reducible refine gate_dst (N := 2) rfl ?_); (try (refine gate_guard (by rfl) ?_; dsimp only)); refine xE (N := 2) (cs := #[.int .i64 a0_0, .slice A0_1 l0_1.length c0_1]) (t := 24) ?_; intro gb101 hg w4 BK101 hb; have GW101 := gS hg HB; have GE101 := gS hg HB; replace HB := sB HB hb; clear hb hg) | ((with_reducible refine gate_dst (N := 4) rfl ?_); (try (refine gate_guard (by rfl) ?_; dsimp only)); refine xE (N := 4) (cs := #[.int .i64 0, .slice none 0 0]) (t := 24) ?_; intro gb102 hg w5 BK102 hb; have GW102 := gS hg HB; have GE102 := gS hg HB; have NB101_102 := nL hg (blk_lt BK101.out); have NB102_101 := nG hg (blk_lt BK101.out); replace BK101 := bB BK101 hb; replace HB := sB HB hb; clear hb hg))
 (try simp only [Act.put, sA, sZ, sS])
 go_cut [19] (fun v19 wc => ∃ (kq : Nat) (x19_2 : Bool), v19 = .bool x19_2 ∧ Aside0 (spec_RenameCommittee.j0 kq l1 x19_2 a0_0 l0_1 = some (r1, r2, r3)) ∧ Aside0 (kq ≤ k) ∧ Aside0 (wc.heap[gb101]? = some (.cells #[.int .i64 a0_0, (.slice A0_1 l0_1.length c0_1)] 24 (0, 0))) ∧ Aside0 (wc.heap[gb102]? = some (.cells #[.int .i64 0, (.slice none 0 0)] 24 (0, 0))) ∧ Aside0 (Below w.heap.size w wc))
 case first =>
  have H := HC3.out
  clear HC3
  replace H := oA H
  obtain ⟨t103, A6, H⟩ := H
  (try dsimp only at H)
  by_cases c7 : t103 = true
  rotate_left
  ·replace c7 := Bool.eq_false_iff.mpr c7
   subst c7
   replace H := iF H
   have H' := Aside0.mk H
   clear H
   have hnb13 := NB101_102.out
   have hnc13 := NB102_101.out
   (try clear hcz12_0 hcz12_1 hfz12_0 hfz12_1)
   obtain ⟨hcz14_0, hcz14_1, hfz14_0, hfz14_1⟩ := zZ BK101
   go_wp2_with (first | ((with_reducible refine gate_callee (f := 28) rfl ?_); refine gL 10 Tryz.func28 #[.agg #[.int .i64 a0_0, .slice A0_1 l0_1.length c0_1]] ?_; (with_reducible refine (spec_voGood.calls k a0_0 _ _ l0_1 false _ ?side1 ?side2 A6.out).mono ?_); (case side1 => have hx_ := (Kd.C_below HR0_1.out HB.out); exact cC); (case side2 => exact HC0_1.out); rintro e w15 ⟨rfl, hb⟩; refine ⟨_, rfl, ?_⟩; replace BK101 := bP BK101 hb; replace BK102 := bP BK102 hb; replace HB := sQ hb; (try clear hb)))
   go_meet
   case rel => exact ⟨_, (true), gR, H', ⟨by first | omega | exact Nat.le_refl _⟩, ⟨bQ BK101⟩, ⟨bQ BK102⟩, ⟨wB⟩⟩
  subst c7
  replace H := iT H
  replace H := oA H
  obtain ⟨t104, A8, H⟩ := H
  (try dsimp only at H)
  have H' := Aside0.mk H
  clear H
  have hnb9 := NB101_102.out
  have hnc9 := NB102_101.out
  obtain ⟨hcz10_0, hcz10_1, hfz10_0, hfz10_1⟩ := zZ BK101
  go_wp2_with (first | ((with_reducible refine gate_callee (f := 28) rfl ?_); refine gL 10 Tryz.func28 #[.agg #[.int .i64 a0_0, .slice A0_1 l0_1.length c0_1]] ?_; (with_reducible refine (spec_voGood.calls k a0_0 _ _ l0_1 true _ (Kd.C_below HR0_1.out HB.out) HC0_1.out A6.out).mono ?_); rintro e w11 ⟨rfl, hb⟩; refine ⟨_, rfl, ?_⟩; replace BK101 := bB BK101 hb; replace BK102 := bB BK102 hb; replace HB := sB HB hb; (try clear hb); (try clear hcz10_0 hcz10_1 hfz10_0 hfz10_1); obtain ⟨hcz12_0, hcz12_1, hfz12_0, hfz12_1⟩ := zZ BK101) | (go_at_call 29; (with_reducible refine (spec_voOrder.calls k (l0_1.length : Int) _ _ l1 t104 _ (Kd.C_below HR1.out HB.out) HC1.out A8.out).mono ?_); rintro e w' ⟨rfl, ⟨nd, rfl⟩⟩))
  go_meet
  case rel => exact ⟨_, (!t104), gR, H', ⟨by first | omega | exact Nat.le_refl _⟩, ⟨bQ BK101⟩, ⟨bQ BK102⟩, ⟨wB⟩⟩
 case rest =>
  clear HC3
  (try clear c1); (try clear c2); (try clear p2); (try clear c6); (try clear c7); (try clear c9); (try clear c13); (try clear hcz14_0); (try clear hcz14_1); (try clear hfz14_0); (try clear hfz14_1)
  obtain ⟨kq, x19_2, rfl, HA, HJ2, BK101, BK102, HB⟩ := hcut
  cases kq with
  | zero => exact absurd HA.out (by simp [spec_RenameCommittee.j0])
  | succ kj2 =>
   have H := HA.out
   clear HA
   simp only [spec_RenameCommittee.j0] at H
   by_cases c16 : x19_2 = true
   ·subst c16
    replace H := iT H
    simp only [Option.some.injEq, Prod.mk.injEq] at H
    obtain ⟨rfl, rfl, rfl⟩ := H
    have hnb17 := NB102_101.out
    have hnc17 := NB101_102.out
    obtain ⟨hcz18_0, hcz18_1, hfz18_0, hfz18_1⟩ := zZ BK102
    go_wp2
    refine bodyPost_ret (results_ct rfl _ _ gb102 24 #[.int .i64 0, .slice none 0 0] (0, 0) _ rfl (by refine blk_put (cs := #[.int .i64 0, .slice none 0 0]) ?_ 1 _ rfl; refine blk_put (cs := #[.int .i64 0, .slice none 0 0]) ?_ 0 _ rfl; exact BK102.out) Tryz.underlying24 rfl (by kernel_rfl)) rfl ?_
    exact ⟨_, fR, by first | exact Kd.R_nil _ _ _ _ _ | exact Kd.N_nil _ _ _ _ _ | exact Kd.V_nil _ _ _ _ _ | exact Kd.Q_nil _ _ _ _ _ | exact Kd.S_nil _ _ _ _ _, wB⟩
   replace c16 := Bool.eq_false_iff.mpr c16
   subst c16
   replace H := iF H
   have H' := Aside0.mk H
   clear H
   have hnb19 := NB101_102.out
   have hnc19 := NB102_101.out
   obtain ⟨hcz20_0, hcz20_1, hfz20_0, hfz20_1⟩ := zZ BK101
   go_wp2_with (first | ((with_reducible refine gate_dst (N := 6) rfl ?_); (try (refine gate_guard (by rfl) ?_; dsimp only)); refine xE (N := 6) (cs := #[.int .i64 0, .slice none 0 0]) (t := 24) ?_; intro gb105 hg w21 BK105 hb; have GW105 := gS hg HB; have GE105 := gS hg HB; have NB101_105 := nL hg (blk_lt BK101.out); have NB105_101 := nG hg (blk_lt BK101.out); have NB102_105 := nL hg (blk_lt BK102.out); have NB105_102 := nG hg (blk_lt BK102.out); replace BK101 := bB BK101 hb; replace BK102 := bB BK102 hb; replace HB := sB HB hb; clear hb hg; have hnb22 := NB105_101.out; have hnc22 := NB101_105.out; have hnb23 := NB105_102.out; have hnc23 := NB102_105.out; (try clear hcz18_0 hcz18_1 hfz18_0 hfz18_1 hcz20_0 hcz20_1 hfz20_0 hfz20_1); obtain ⟨hcz24_0, hcz24_1, hfz24_0, hfz24_1⟩ := zZ BK105))
   go_loopg [26] kj2 (fun kq v26 w' => ∃ (x26_2 : Int) (x106001_2 : List Int) (u106001 : Value), v26 = .int .i64 x26_2 ∧ Aside0 (spec_RenameCommittee.l0 kq l1 (l1.length : Int) x26_2 a0_0 l0_1 a0_0 x106001_2 = some (r1, r2, r3)) ∧ Aside0 (kq ≤ kj2) ∧ Aside0 (Kd.R (Kd.int .i64) 3 w' w.heap.size (fun _ => True) u106001 x106001_2) ∧ Aside0 (w'.heap[gb101]? = some (.cells #[.int .i64 a0_0, (.slice A0_1 l0_1.length c0_1)] 24 (0, 0))) ∧ Aside0 (w'.heap[gb102]? = some (.cells #[.int .i64 0, (.slice none 0 0)] 24 (0, 0))) ∧ Aside0 (w'.heap[gb105]? = some (.cells #[.int .i64 a0_0, u106001] 24 (0, 0))) ∧ Aside0 (Below w.heap.size w w'))
   case atStart => exact ⟨(0), (([] : List Int)), (.slice none 0 0), gR, H', ⟨Nat.le_refl _⟩, ⟨by first | exact Kd.R_nil _ _ _ _ _ | exact Kd.N_nil _ _ _ _ _ | exact Kd.V_nil _ _ _ _ _ | exact Kd.Q_nil _ _ _ _ _ | exact Kd.S_nil _ _ _ _ _⟩, ⟨by refine blk_far ?_ NB101_105.out _; refine blk_far ?_ NB101_105.out _; exact BK101.out⟩, ⟨by refine blk_far ?_ NB102_105.out _; refine blk_far ?_ NB102_105.out _; exact BK102.out⟩, ⟨by refine blk_put (cs := #[.int .i64 a0_0, .slice none 0 0]) ?_ 1 _ rfl; refine blk_put (cs := #[.int .i64 0, .slice none 0 0]) ?_ 0 _ rfl; exact BK105.out⟩, ⟨wB⟩⟩
   case round =>
    clear H'
    (try clear c1); (try clear c2); (try clear p2); (try clear c6); (try clear c7); (try clear c9); (try clear c13); (try clear c16); (try clear c17); (try clear c19); (try clear c22); (try clear c23); (try clear hcz14_0); (try clear hcz14_1); (try clear hcz24_0); (try clear hcz24_1); (try clear hfz14_0); (try clear hfz14_1); (try clear hfz24_0); (try clear hfz24_1); (try clear p2)
    obtain ⟨x26_2, x106001_2, u106001, rfl, HA, HK2, HO_106001, BK101, BK102, BK105, HB⟩ := hrel
    cases gk with
    | zero => exact absurd HA.out (by simp [spec_RenameCommittee.l0])
    | succ k2 =>
     have H := HA.out
     clear HA
     simp only [spec_RenameCommittee.l0] at H
     by_cases c25 : x26_2 < (l1.length : Int)
     rotate_left
     ·rw [if_neg c25] at H
      have c25b0 : decide (x26_2 < (l1.length : Int)) = false := decide_eq_false c25
      clear c25
      simp only [Option.some.injEq, Prod.mk.injEq] at H
      obtain ⟨rfl, rfl, rfl⟩ := H
      have hnb35 := NB105_101.out
      have hnc35 := NB101_105.out
      have hnb36 := NB105_102.out
      have hnc36 := NB102_105.out
      obtain ⟨hcz37_0, hcz37_1, hfz37_0, hfz37_1⟩ := zZ BK105
      have hnb38 := NB102_101.out
      have hnc38 := NB101_102.out
      obtain ⟨hcz39_0, hcz39_1, hfz39_0, hfz39_1⟩ := zZ BK102
      obtain ⟨Ao40, co40, eo40⟩ := Kd.R_slice HO_106001.out
      subst eo40
      go_wp2
      refine bodyPost_ret (results_ct rfl _ _ gb102 24 #[.int .i64 a0_0, .slice Ao40 x106001_2.length co40] (0, 0) _ rfl (by refine blk_put (cs := #[.int .i64 a0_0, .slice none 0 0]) ?_ 1 _ rfl; refine blk_put (cs := #[.int .i64 0, .slice none 0 0]) ?_ 0 _ rfl; exact BK102.out) Tryz.underlying24 rfl (by kernel_rfl)) rfl ?_
      exact ⟨_, fR, by exact Kd.R_mono (Kd.R_far (p := ⟨gb102, 1, none⟩) (Kd.R_far (p := ⟨gb102, 0, none⟩) (Kd.R_types HO_106001.out BK102.out (by decide)) (fun _ hk => hk.2) (.int .i64 a0_0)) (fun _ hk => hk.2) (.slice Ao40 x106001_2.length co40)) (fun _ hk => trivial), wB⟩
     rw [if_pos c25] at H
     have c25b0 := decide_eq_true c25
     clear c25
     by_cases c26 : 0 ≤ x26_2
     rotate_left
     ·rw [if_neg c26] at H
      exact absurd H (by simp)
     rw [if_pos c26] at H
     have c26b0 := decide_eq_true c26
     clear c26
     by_cases c27 : x26_2 < (l1.length : Int)
     rotate_left
     ·rw [if_neg c27] at H
      exact absurd H (by simp)
     rw [if_pos c27] at H
     have c27b0 := decide_eq_true c27
     clear c27
     by_cases c28 : 0 ≤ (rd l1 x26_2)
     rotate_left
     ·rw [if_neg c28] at H
      exact absurd H (by simp)
     rw [if_pos c28] at H
     have c28b0 := decide_eq_true c28
     clear c28
     by_cases c29 : (rd l1 x26_2) < (l0_1.length : Int)
     rotate_left
     ·rw [if_neg c29] at H
      exact absurd H (by simp)
     rw [if_pos c29] at H
     have c29b0 := decide_eq_true c29
     clear c29
     by_cases c30 : x106001_2.length < 17592186044416
     rotate_left
     ·rw [if_neg c30] at H
      exact absurd H (by simp)
     rw [if_pos c30] at H
     have LMc30 := Aside0.mk c30
     clear c30
     obtain ⟨y108, hy108⟩ : ∃ y_ : List Int, y_ = (x106001_2 ++ [rd l0_1 (rd l1 x26_2)]) := ⟨_, rfl⟩
     replace H : (spec_RenameCommittee.l0 k2 l1 (l1.length : Int) (wrap64 (x26_2 + 1)) a0_0 l0_1 a0_0 y108) = some (r1, r2, r3) := by first | (rw [hy108]; with_reducible exact H) | (have H2_ := (Option.bind_some _ _).symm.trans H; rw [hy108]; with_reducible exact H2_) | (have H2_ := (Option.bind_some _ _).symm.trans H; with_reducible exact H2_) | with_reducible exact H | (rw [hy108]; exact H) | exact H
     have Ny108 := Aside0.mk hy108
     clear hy108
     have H' := Aside0.mk H
     clear H
     have p106 : 0 ≤ (x26_2 : Int) := oD
     have q106 : x26_2 < (l1.length : Int) := oD
     obtain ⟨ad106, e106, hx106_0⟩ := Kd.at_int HR1.out x26_2 p106 q106
     cases e106
     replace hx106_0 := (HB.out.cell (World.block_lt_of_cell? w _ hx106_0)).trans hx106_0
     replace p106 := eq_true p106
     replace q106 := eq_true q106
     try go_wp2
     replace HO_106001 := rD HO_106001
     replace BK101 := bD BK101
     replace BK102 := bD BK102
     replace BK105 := bD BK105
     replace HB := Aside0.mk (below_drew1 HB.out)
     have p107 : 0 ≤ ((rd l1 x26_2) : Int) := oD
     have q107 : (rd l1 x26_2) < (l0_1.length : Int) := oD
     obtain ⟨ad107, e107, hx107_0⟩ := Kd.at_int HR0_1.out (rd l1 x26_2) p107 q107
     have hw107_0 := hx107_0
     cases e107
     replace hx107_0 := (HB.out.cell (World.block_lt_of_cell? w _ hx107_0)).trans hx107_0
     replace p107 := eq_true p107
     replace q107 := eq_true q107
     refine start_ (n := 11) (S := fun w' => w'.cell? ⟨gb105, 0, none⟩ = some (.int .i64 a0_0) ∧ w'.cell? ⟨gb105, 1, none⟩ = some (u106001) ∧ w'.cell? ⟨gb101, 0, none⟩ = some (.int .i64 a0_0) ∧ w'.cell? ⟨gb101, 1, none⟩ = some (.slice (some ad107) l0_1.length c0_1) ∧ w'.cell? (ad107.add ((rd l1 x26_2)).toNat) = some (.int .i64 (rd l0_1 (rd l1 x26_2)))) (ds := [10]) #[F,F,F,F,F,F,F,F,F,F,F] (by kernel_rfl) rfl rfl ⟨(blk_cell BK105.out 0).trans rfl, (blk_cell BK105.out 1).trans rfl, (blk_cell BK101.out 0).trans rfl, (blk_cell BK101.out 1).trans rfl, ((HB.out.cell (World.block_lt_of_cell? w _ hw107_0)).trans hw107_0)⟩ (fun hHeld => ?_); refine with_tabW spec_RenameCommittee.tab7 spec_RenameCommittee.bits7 (fun HT_ HW_ => ?_)
     generalize wr.drew = w31 at HO_106001 BK101 BK102 BK105 HB hx107_0 hHeld ⊢
     refine pU 0 HT_ ?_
     refine pU 2 HT_ ?_
     refine pU 4 HT_ ?_
     refine tK 1 HT_ HW_ hHeld (hy := by rintro w' ⟨s0, s1, s2, s3, s4⟩; go_simp; with_reducible rfl) ?_
     refine tK 3 HT_ HW_ hHeld (hy := by rintro w' ⟨s0, s1, s2, s3, s4⟩; go_simp; with_reducible rfl) ?_
     refine pU 5 HT_ ?_
     refine tK 6 HT_ HW_ hHeld (hy := by rintro w' ⟨s0, s1, s2, s3, s4⟩; go_simp; with_reducible rfl) ?_
     refine oN 7 HT_ (fun K hK => ?_)
     refine value_ (w1 := ?_) (v := ?_) (by rfl) rfl ?_ ?_
     rotate_left 2
     ·go_simp
      constructor
      ·rfl
      rfl
     refine hK.out _ _ ⟨(blk_cell (blk_alloc BK105.out _) 0).trans rfl, (blk_cell (blk_alloc BK105.out _) 1).trans rfl, (blk_cell (blk_alloc BK101.out _) 0).trans rfl, (blk_cell (blk_alloc BK101.out _) 1).trans rfl, (World.cell?_alloc_lt _ _ _ (World.block_lt_of_cell? _ _ (((HB.out.cell (World.block_lt_of_cell? w _ hw107_0)).trans hw107_0)))).trans (((HB.out.cell (World.block_lt_of_cell? w _ hw107_0)).trans hw107_0))⟩ (fun hHeld => ?_)
     clear hK K
     refine nM ?_
     refine oN 8 HT_ (fun K hK => ?_)
     refine Kd.R_append_step (Kd.int .i64) (w0 := w) w.heap.size (by rfl) (.tmp 31) (.tmp 37) 22 3 (.int .i64 0) 8 rfl Tryz.underlying22 info3 rfl (by decide) (by omega) u106001 x106001_2 (rd l0_1 (rd l1 x26_2)) [.int .i64 (rd l0_1 (rd l1 x26_2))] (fun _ => True) (fun _ => False) rfl rfl ?aP (fun _ hk => hk.elim) ?aF ?aO ?aB ?aS ?aL ?_
     (case aP => exact rfl)
     (case aB => exact HB.out)
     (case aF => exact (fun _ _ => trivial))
     (case aO => exact HO_106001.out)
     (case aS => exact (below_size HB.out))
     (case aL => have := LMc30.out; omega)
     intro v109 w32 ho hb hg hat
     rw [← Ny108.out] at ho
     have HO110 := Aside0.mk (ho)
     replace BK101 := Aside0.mk (blk_grown (g := gb101) (o := .cells #[.int .i64 a0_0, .slice (some ad107) l0_1.length c0_1] 24 (0, 0)) BK101.out hg (Kd.R_ne HO_106001.out BK101.out (by decide)))
     replace BK102 := Aside0.mk (blk_grown (g := gb102) (o := .cells #[.int .i64 0, .slice none 0 0] 24 (0, 0)) BK102.out hg (Kd.R_ne HO_106001.out BK102.out (by decide)))
     replace BK105 := Aside0.mk (blk_grown (g := gb105) (o := .cells #[.int .i64 a0_0, u106001] 24 (0, 0)) BK105.out hg (Kd.R_ne HO_106001.out BK105.out (by decide)))
     replace HB := Aside0.mk (hb)
     clear ho hb hg hat
     obtain ⟨Ao33, co33, eo33⟩ := Kd.R_slice HO110.out
     (first | subst eo33 | (injection eo33 with f1_ f2_ f3_; have f4_ := f1_.symm; have f5_ := f3_.symm; clear f1_ f2_ f3_; subst f4_; subst f5_))
     refine hK.out _ _ ⟨(blk_cell BK105.out 0).trans rfl, (blk_cell BK105.out 1).trans rfl, (blk_cell BK101.out 0).trans rfl, (blk_cell BK101.out 1).trans rfl, ((HB.out.cell (World.block_lt_of_cell? w _ hw107_0)).trans hw107_0)⟩ (fun hHeld => ?_)
     clear hK K
     refine nM ?_
     refine pU 9 HT_ ?_
     refine last_ (i := 10) (N := none) #[T,T,T,T,T,T,T,T,T,T,T] rfl rfl (one_of HT_.out (by kernel_rfl)) (by decide) (fun K hK => ?_)
     have hs34 : w32.cell? ⟨gb105, 1, none⟩ = some (u106001) := (blk_cell BK105.out 1).trans rfl
     have hfs34 := blk_frozen BK105.out 1
     have hns34_0 := NB101_105.out
     have hns34_1 := NB102_105.out
     have hms34_0 := NB105_101.out
     have hms34_1 := NB105_102.out
     refine skip_ (w1 := ?_) (by rfl) rfl ?_ ?_
     rotate_left
     ·go_simp
      rfl
     refine hK.out _ _ ?_
     clear hK K
     refine done_ (done_of HT_.out (by kernel_rfl)) ?_
     try go_wp2
     go_roundg k2
     case measure => have := HJ2.out; have := HK2.out; omega
     case rel => exact ⟨(wrap64 (x26_2 + 1)), (y108), (.slice Ao33 y108.length co33), gR, H', ⟨by have := HJ2.out; have := HK2.out; omega⟩, ⟨by exact Kd.R_mono (Kd.R_far (p := ⟨gb105, 1, none⟩) (Kd.R_types HO110.out BK105.out (by decide)) (fun _ hk => hk.2) (.slice Ao33 y108.length co33)) (fun _ hk => trivial)⟩, ⟨by refine blk_far ?_ NB101_105.out _; exact BK101.out⟩, ⟨by refine blk_far ?_ NB102_105.out _; exact BK102.out⟩, ⟨by refine blk_put (cs := #[.int .i64 a0_0, u106001]) ?_ 1 _ rfl; exact BK105.out⟩, ⟨wB⟩⟩
end Go.Proofs.YtaambkdiokbdgacGreatDoor.Q
namespace Go.Proofs.YtaambkdiokbdgacGreatDoor.Q
open Go.RowKit Go.Proofs.YtaambkdiokbdgacGreatDoorX Go.Proofs.YtaambkdiokbdgacGreatDoorY Go.Proofs.YtaambkdiokbdgacGreatDoorW.PrintWords Go.Proofs.YtaambkdiokbdgacGreatDoorW.PrintLast Go.Proofs.YtaambkdiokbdgacGreatDoorW.PrintMore
attribute [local go_sem] max2_int min2_int max_two min_two max_three min_three max_four min_four   -- for this text's walks alone
set_option linter.unusedVariables false
set_option linter.unusedSimpArgs false
def laws_mSame.l0 : Nat → List Int → List Int → Int → Int → Option (Bool)
 | 0, _, _, _, _ => none
 | k + 1, x0, x1, x12, x13 => if x13 < x12 then (if 0 ≤ x13 then (if x13 < (x0.length : Int) then (if x13 < (x1.length : Int) then (if (rd x0 x13) = (rd x1 x13) then (laws_mSame.l0 k x0 x1 x12 (wrap64 (x13 + 1))) else (some false)) else (none)) else (none)) else (none)) else (some true)
def laws_mSame.f (k : Nat) (l0 : List Int) (l1 : List Int) : Option (Bool) := if (l0.length : Int) = (l1.length : Int) then (laws_mSame.l0 k l0 l1 (l0.length : Int) 0) else (some false)
theorem laws_mSame.calls (k : Nat) (A0 : Option Addr) (c0 : Nat) (l0 : List Int) (A1 : Option Addr) (c1 : Nat) (l1 : List Int) (r : Bool) (w : World) (hr0 : Kd.C (Kd.int .i64) w A0 l0.length l0) (hc0 : l0.length ≤ c0) (hr1 : Kd.C (Kd.int .i64) w A1 l1.length l1) (hc1 : l1.length ≤ c1) (h : laws_mSame.f k l0 l1 = some r) :
  Calls Tryz.prog 30 #[.slice A0 l0.length c0, .slice A1 l1.length c1] w fun e w' => e = .returned (.bool r) ∧ Drawn0 w w' := by
 have HR0 := Aside0.mk hr0
 have HC0 := Aside0.mk hc0
 clear hr0 hc0
 have HR1 := Aside0.mk hr1
 have HC1 := Aside0.mk hc1
 clear hr1 hc1
 have H := h
 unfold laws_mSame.f at H
 clear h
 by_cases c3 : (l0.length : Int) = (l1.length : Int)
 rotate_left
 ·rw [if_neg c3] at H
  have c3b0 : ((l0.length : Int) == (l1.length : Int)) = false := beq_eq_false_iff_ne.mpr c3
  have c3b1 : ((l0.length : Int) != (l1.length : Int)) = true := bne_iff_ne.mpr c3
  have c3b2 : (l0.length == l1.length) = false := by first | simpa using c3 | (simp at c3 ⊢; omega)
  obtain rfl := Option.some.inj H
  go_enter Tryz.func30, Tryz.ntmps30
  go_wp2
  repeat (go_quiet (fail); try go_wp2)
  go_ret
  exact ⟨by first | rfl | (simp; done) | (simp [*]; done), dS⟩
 rw [if_pos c3] at H
 have c3b0 : ((l0.length : Int) == (l1.length : Int)) = true := beq_iff_eq.mpr c3
 have c3b1 : ((l0.length : Int) != (l1.length : Int)) = false := bne_eq_false_iff_eq.mpr c3
 have c3b2 : (l0.length == l1.length) = true := by first | simpa using c3 | (simp at c3 ⊢; omega)
 clear c3
 have H' := Aside0.mk H
 clear H
 go_enter Tryz.func30, Tryz.ntmps30
 go_wp2
 repeat (go_quiet (fail); try go_wp2)
 go_loopg [13] k (fun kq v13 w' => ∃ (x13_1 : Int), v13 = .int .i64 x13_1 ∧ Aside0 (laws_mSame.l0 kq l0 l1 (l0.length : Int) x13_1 = some r) ∧ Aside0 (kq ≤ k) ∧ Drawn0 w w')
 case atStart => exact ⟨(0), gR, H', ⟨Nat.le_refl _⟩, dS⟩
 case round =>
  clear H'
  try clear c1
  try clear p2
  try clear c3
  try clear c3b0
  try clear c3b1
  try clear c3b2
  obtain ⟨x13_1, rfl, HA, HK1, ⟨m1, rfl⟩⟩ := hrel
  cases gk with
  | zero => exact absurd HA.out (by simp [laws_mSame.l0])
  | succ k1 =>
   have H := HA.out
   clear HA
   simp only [laws_mSame.l0] at H
   by_cases c4 : x13_1 < (l0.length : Int)
   rotate_left
   ·rw [if_neg c4] at H
    have c4b0 : decide (x13_1 < (l0.length : Int)) = false := decide_eq_false c4
    clear c4
    obtain rfl := Option.some.inj H
    go_wp2
    repeat (go_quiet (fail); try go_wp2)
    go_ret
    exact ⟨by first | rfl | (simp; done) | (simp [*]; done), dS⟩
   rw [if_pos c4] at H
   have c4b0 := decide_eq_true c4
   clear c4
   by_cases c5 : 0 ≤ x13_1
   rotate_left
   ·rw [if_neg c5] at H
    exact absurd H (by simp)
   rw [if_pos c5] at H
   have c5b0 := decide_eq_true c5
   clear c5
   by_cases c6 : x13_1 < (l0.length : Int)
   rotate_left
   ·rw [if_neg c6] at H
    exact absurd H (by simp)
   rw [if_pos c6] at H
   have c6b0 := decide_eq_true c6
   clear c6
   by_cases c7 : x13_1 < (l1.length : Int)
   rotate_left
   ·rw [if_neg c7] at H
    exact absurd H (by simp)
   rw [if_pos c7] at H
   have c7b0 := decide_eq_true c7
   clear c7
   by_cases c8 : (rd l0 x13_1) = (rd l1 x13_1)
   rotate_left
   ·rw [if_neg c8] at H
    have c8b0 : ((rd l0 x13_1) == (rd l1 x13_1)) = false := beq_eq_false_iff_ne.mpr c8
    have c8b1 : ((rd l0 x13_1) != (rd l1 x13_1)) = true := bne_iff_ne.mpr c8
    obtain rfl := Option.some.inj H
    have p101 : 0 ≤ (x13_1 : Int) := oD
    have q101 : x13_1 < (l0.length : Int) := oD
    obtain ⟨ad101, e101, hx101_0⟩ := Kd.at_int HR0.out x13_1 p101 q101
    cases e101
    replace p101 := eq_true p101
    replace q101 := eq_true q101
    have p102 : 0 ≤ (x13_1 : Int) := oD
    have q102 : x13_1 < (l1.length : Int) := oD
    obtain ⟨ad102, e102, hx102_0⟩ := Kd.at_int HR1.out x13_1 p102 q102
    cases e102
    replace p102 := eq_true p102
    replace q102 := eq_true q102
    go_wp2
    repeat (go_quiet (fail); try go_wp2)
    go_ret
    exact ⟨by first | rfl | (simp; done) | (simp [*]; done), dS⟩
   rw [if_pos c8] at H
   have c8b0 : ((rd l0 x13_1) == (rd l1 x13_1)) = true := beq_iff_eq.mpr c8
   have c8b1 : ((rd l0 x13_1) != (rd l1 x13_1)) = false := bne_eq_false_iff_eq.mpr c8
   clear c8
   have H' := Aside0.mk H
   clear H
   have p101 : 0 ≤ (x13_1 : Int) := oD
   have q101 : x13_1 < (l0.length : Int) := oD
   obtain ⟨ad101, e101, hx101_0⟩ := Kd.at_int HR0.out x13_1 p101 q101
   cases e101
   replace p101 := eq_true p101
   replace q101 := eq_true q101
   have p102 : 0 ≤ (x13_1 : Int) := oD
   have q102 : x13_1 < (l1.length : Int) := oD
   obtain ⟨ad102, e102, hx102_0⟩ := Kd.at_int HR1.out x13_1 p102 q102
   cases e102
   replace p102 := eq_true p102
   replace q102 := eq_true q102
   go_wp2
   repeat (go_quiet (fail); try go_wp2)
   go_roundg k1
   case measure => have := HK1.out; omega
   case rel => exact ⟨(wrap64 (x13_1 + 1)), gR, H', ⟨by have := HK1.out; omega⟩, dS⟩
def laws_mCommittee.f (k : Nat) (a0_0 : Int) (l0_1 : List Int) (a1_0 : Int) (l1_1 : List Int) : Option (Bool) := if a0_0 = a1_0 then ((laws_mSame.f k l0_1 l1_1).bind fun t103 => (some t103)) else (some false)
theorem laws_mCommittee.calls (k : Nat) (a0_0 : Int) (A0_1 : Option Addr) (c0_1 : Nat) (l0_1 : List Int) (a1_0 : Int) (A1_1 : Option Addr) (c1_1 : Nat) (l1_1 : List Int) (r : Bool) (w : World) (hr0_1 : Kd.C (Kd.int .i64) w A0_1 l0_1.length l0_1) (hc0_1 : l0_1.length ≤ c0_1) (hr1_1 : Kd.C (Kd.int .i64) w A1_1 l1_1.length l1_1) (hc1_1 : l1_1.length ≤ c1_1) (h : laws_mCommittee.f k a0_0 l0_1 a1_0 l1_1 = some r) :
  Calls Tryz.prog 7 #[.agg #[.int .i64 a0_0, .slice A0_1 l0_1.length c0_1], .agg #[.int .i64 a1_0, .slice A1_1 l1_1.length c1_1]] w fun e w' => e = .returned (.bool r) ∧ Below w.heap.size w w' := by
 have hu24 := Tryz.underlying24
 have HR0_1 := Aside0.mk hr0_1
 have HC0_1 := Aside0.mk hc0_1
 clear hr0_1 hc0_1
 have HR1_1 := Aside0.mk hr1_1
 have HC1_1 := Aside0.mk hc1_1
 clear hr1_1 hc1_1
 have HB := Aside0.mk (Below.refl w.heap.size w)
 have H := h
 unfold laws_mCommittee.f at H
 clear h
 by_cases c3 : a0_0 = a1_0
 rotate_left
 ·rw [if_neg c3] at H
  have c3b0 : (a0_0 == a1_0) = false := beq_eq_false_iff_ne.mpr c3
  have c3b1 : (a0_0 != a1_0) = true := bne_iff_ne.mpr c3
  obtain rfl := Option.some.inj H
  go_enter Tryz.func7, Tryz.ntmps7
  go_wp2_with (first | ((with_reducible refine gate_dst (N := 2) rfl ?_); refine box_event ?hg (N := 2) ?hd (cs := #[.int .i64 a0_0, .slice A0_1 l0_1.length c0_1]) (t := 24) ?hr ?_; (case hd => rfl); (case hg => rfl); (case hr => first | (go_simp; done) | (go_simp; rfl)); intro gb101 hg w10 hbox hb; have n0_ := sQ hb; have n1_ := Aside0.mk (hbox); have n2_ := Aside0.mk ((by rw [hg]; exact (below_size (wB)) : w.heap.size ≤ gb101)); have n3_ := Aside0.mk ((by rw [hg]; exact (below_size (wB)) : w.heap.size ≤ gb101)); clear HB; have HB := n0_; have BK101 := n1_; have GW101 := n2_; have GE101 := n3_; clear n0_ n1_ n2_ n3_; clear hb hbox hg) | ((with_reducible refine gate_dst (N := 3) rfl ?_); refine box_event ?hg (N := 3) ?hd (cs := #[.int .i64 a1_0, .slice A1_1 l1_1.length c1_1]) (t := 24) ?hr ?_; (case hd => rfl); (case hg => rfl); (case hr => first | (go_simp; done) | (go_simp; rfl)); intro gb102 hg w11 hbox hb; have n0_ := bP BK101 hb; have n1_ := sQ hb; have n2_ := Aside0.mk (hbox); have n3_ := Aside0.mk ((by rw [hg]; exact (below_size (wB)) : w.heap.size ≤ gb102)); have n4_ := Aside0.mk ((by rw [hg]; exact (below_size (wB)) : w.heap.size ≤ gb102)); have n5_ := Aside0.mk ((by rw [hg]; exact Nat.ne_of_lt (blk_lt (g := gb101) (o := .cells #[.int .i64 a0_0, .slice A0_1 l0_1.length c0_1] 24 (0, 0)) (bQ BK101)) : gb101 ≠ gb102)); have n6_ := Aside0.mk ((by rw [hg]; exact Nat.ne_of_gt (blk_lt (g := gb101) (o := .cells #[.int .i64 a0_0, .slice A0_1 l0_1.length c0_1] 24 (0, 0)) (bQ BK101)) : gb102 ≠ gb101)); clear BK101; clear HB; have BK101 := n0_; have HB := n1_; have BK102 := n2_; have GW102 := n3_; have GE102 := n4_; have NB101_102 := n5_; have NB102_101 := n6_; clear n0_ n1_ n2_ n3_ n4_ n5_ n6_; clear hb hbox hg; have hnb12 := NB101_102.out; have hnc12 := NB102_101.out; obtain ⟨hcz13_0, hcz13_1, hfz13_0, hfz13_1⟩ := zZ BK101; obtain ⟨hcz14_0, hcz14_1, hfz14_0, hfz14_1⟩ := zZ BK102))
  go_ret
  exact ⟨fR, wB⟩
 rw [if_pos c3] at H
 have c3b0 : (a0_0 == a1_0) = true := beq_iff_eq.mpr c3
 have c3b1 : (a0_0 != a1_0) = false := bne_eq_false_iff_eq.mpr c3
 clear c3
 replace H := oB H
 obtain ⟨t103, A40, H⟩ := H
 replace H : (some t103) = some r := H
 have A4 := Aside0.mk A40
 clear A40
 obtain rfl := Option.some.inj H
 go_enter Tryz.func7, Tryz.ntmps7
 go_wp2_with (first | ((with_reducible refine gate_dst (N := 2) rfl ?_); refine box_event ?hg (N := 2) ?hd (cs := #[.int .i64 a0_0, .slice A0_1 l0_1.length c0_1]) (t := 24) ?hr ?_; (case hd => rfl); (case hg => rfl); (case hr => first | (go_simp; done) | (go_simp; rfl)); intro gb101 hg w5 hbox hb; have n0_ := sQ hb; have n1_ := Aside0.mk (hbox); have n2_ := Aside0.mk ((by rw [hg]; exact (below_size (wB)) : w.heap.size ≤ gb101)); have n3_ := Aside0.mk ((by rw [hg]; exact (below_size (wB)) : w.heap.size ≤ gb101)); clear HB; have HB := n0_; have BK101 := n1_; have GW101 := n2_; have GE101 := n3_; clear n0_ n1_ n2_ n3_; clear hb hbox hg) | ((with_reducible refine gate_dst (N := 3) rfl ?_); refine box_event ?hg (N := 3) ?hd (cs := #[.int .i64 a1_0, .slice A1_1 l1_1.length c1_1]) (t := 24) ?hr ?_; (case hd => rfl); (case hg => rfl); (case hr => first | (go_simp; done) | (go_simp; rfl)); intro gb102 hg w6 hbox hb; have n0_ := bP BK101 hb; have n1_ := sQ hb; have n2_ := Aside0.mk (hbox); have n3_ := Aside0.mk ((by rw [hg]; exact (below_size (wB)) : w.heap.size ≤ gb102)); have n4_ := Aside0.mk ((by rw [hg]; exact (below_size (wB)) : w.heap.size ≤ gb102)); have n5_ := Aside0.mk ((by rw [hg]; exact Nat.ne_of_lt (blk_lt (g := gb101) (o := .cells #[.int .i64 a0_0, .slice A0_1 l0_1.length c0_1] 24 (0, 0)) (bQ BK101)) : gb101 ≠ gb102)); have n6_ := Aside0.mk ((by rw [hg]; exact Nat.ne_of_gt (blk_lt (g := gb101) (o := .cells #[.int .i64 a0_0, .slice A0_1 l0_1.length c0_1] 24 (0, 0)) (bQ BK101)) : gb102 ≠ gb101)); clear BK101; clear HB; have BK101 := n0_; have HB := n1_; have BK102 := n2_; have GW102 := n3_; have GE102 := n4_; have NB101_102 := n5_; have NB102_101 := n6_; clear n0_ n1_ n2_ n3_ n4_ n5_ n6_; clear hb hbox hg; have hnb7 := NB101_102.out; have hnc7 := NB102_101.out; obtain ⟨hcz8_0, hcz8_1, hfz8_0, hfz8_1⟩ := zZ BK101; obtain ⟨hcz9_0, hcz9_1, hfz9_0, hfz9_1⟩ := zZ BK102) | (go_at_call 30; (with_reducible refine (laws_mSame.calls k _ _ l0_1 _ _ l1_1 t103 _ ?side1 ?side2 ?side3 ?side4 A4.out).mono ?_); (case side1 => have hx_ := (Kd.C_below HR0_1.out HB.out); exact cC); (case side2 => exact HC0_1.out); (case side3 => have hx_ := (Kd.C_below HR1_1.out HB.out); exact cC); (case side4 => exact HC1_1.out); rintro e w' ⟨rfl, ⟨nd, rfl⟩⟩))
 go_ret
 exact ⟨fR, wB⟩
def impl_has.f (a0 : Int) (a1 : Int) : Option (Bool) := if 0 ≤ a1 then (some ((Go.bits .and .i64 (shr .i64 a0 a1) 1) == 1)) else (none)
theorem impl_has.calls (a0 : Int) (a1 : Int) (r : Bool) (w : World) (h : impl_has.f a0 a1 = some r) :
  Calls Tryz.prog 85 #[.int .i64 a0, .int .i64 a1] w fun e w' => e = .returned (.bool r) ∧ Drawn0 w w' := by
 have H := h
 unfold impl_has.f at H
 clear h
 by_cases c3 : 0 ≤ a1
 rotate_left
 ·rw [if_neg c3] at H
  exact absurd H (by simp)
 rw [if_pos c3] at H
 have c3b0 := eq_true c3
 have c3b1 := decide_eq_true c3
 clear c3
 obtain ⟨ji4, hji4⟩ : ∃ j_ : Int, (shr .i64 a0 a1) = j_ := ⟨_, rfl⟩
 replace H : (some ((Go.bits .and .i64 (ji4) 1) == 1)) = some r := by first | (rw [hji4] at H; exact H) | (simp only [hji4] at H ⊢; exact H)
 have hji4_ : (a0 / 2 ^ min a1.toNat 64) = ji4 := hji4
 have hji4z : a1 ≤ 64 → (a0 / 2 ^ a1.toNat) = ji4 := shr_small hji4
 obtain rfl := Option.some.inj H
 go_enter Tryz.func85, Tryz.ntmps85
 go_wp2
 go_ret
 exact ⟨by first | rfl | (simp; done) | (simp only [← hji4] <;> (first | rfl | simp)) | (simp [*]; done), dS⟩
def impl_Committee_weight.l0 : Nat → Int → Int → List Int → Int → Int → Option (Int)
 | 0, _, _, _, _, _ => none
 | k + 1, x1, x5, x9, x10, x11 => if x11 < x10 then (if 0 ≤ x11 then (if x11 < (x9.length : Int) then ((impl_has.f x1 x11).bind fun t103 => (if t103 = true then (impl_Committee_weight.l0 k x1 (wrap64 (x5 + (rd x9 x11))) x9 x10 (wrap64 (x11 + 1))) else (impl_Committee_weight.l0 k x1 x5 x9 x10 (wrap64 (x11 + 1))))) else (none)) else (none)) else (some x5)
def impl_Committee_weight.f (k : Nat) (a0_0 : Int) (l0_1 : List Int) (a1 : Int) : Option (Int) := impl_Committee_weight.l0 k a1 0 l0_1 (l0_1.length : Int) 0
theorem impl_Committee_weight.calls (k : Nat) (a0_0 : Int) (A0_1 : Option Addr) (c0_1 : Nat) (l0_1 : List Int) (a1 : Int) (r : Int) (w : World) (hr0_1 : Kd.C (Kd.int .i64) w A0_1 l0_1.length l0_1) (hc0_1 : l0_1.length ≤ c0_1) (h : impl_Committee_weight.f k a0_0 l0_1 a1 = some r) :
  Calls Tryz.prog 66 #[.agg #[.int .i64 a0_0, .slice A0_1 l0_1.length c0_1], .int .i64 a1] w fun e w' => e = .returned (.int .i64 r) ∧ Below w.heap.size w w' := by
 have hu24 := Tryz.underlying24
 have HR0_1 := Aside0.mk hr0_1
 have HC0_1 := Aside0.mk hc0_1
 clear hr0_1 hc0_1
 have HB := Aside0.mk (Below.refl w.heap.size w)
 have H := h
 unfold impl_Committee_weight.f at H
 clear h
 have H' := Aside0.mk H
 clear H
 go_enter Tryz.func66, Tryz.ntmps66
 go_wp2_with (first | ((with_reducible refine gate_dst (N := 2) rfl ?_); refine box_event ?hg (N := 2) ?hd (cs := #[.int .i64 a0_0, .slice A0_1 l0_1.length c0_1]) (t := 24) ?hr ?_; (case hd => rfl); (case hg => rfl); (case hr => first | (go_simp; done) | (go_simp; rfl)); intro gb101 hg w3 hbox hb; have n0_ := sQ hb; have n1_ := Aside0.mk (hbox); have n2_ := Aside0.mk ((by rw [hg]; exact (below_size (wB)) : w.heap.size ≤ gb101)); have n3_ := Aside0.mk ((by rw [hg]; exact (below_size (wB)) : w.heap.size ≤ gb101)); clear HB; have HB := n0_; have BK101 := n1_; have GW101 := n2_; have GE101 := n3_; clear n0_ n1_ n2_ n3_; clear hb hbox hg; obtain ⟨hcz4_0, hcz4_1, hfz4_0, hfz4_1⟩ := zZ BK101))
 go_loopg [5, 11] k (fun kq v5 v11 w' => ∃ (x5_1 : Int) (x11_1 : Int), v5 = .int .i64 x5_1 ∧ v11 = .int .i64 x11_1 ∧ Aside0 (impl_Committee_weight.l0 kq a1 x5_1 l0_1 (l0_1.length : Int) x11_1 = some r) ∧ Aside0 (kq ≤ k) ∧ Aside0 (w'.heap[gb101]? = some (.cells #[.int .i64 a0_0, (.slice A0_1 l0_1.length c0_1)] 24 (0, 0))) ∧ Aside0 (Below w.heap.size w w'))
 case atStart => exact ⟨(0), (0), gR, gR, H', ⟨Nat.le_refl _⟩, ⟨bQ BK101⟩, ⟨wB⟩⟩
 case round =>
  clear H'
  try clear p2
  try clear hcz4_0
  try clear hcz4_1
  try clear hfz4_0
  try clear hfz4_1
  obtain ⟨x5_1, x11_1, rfl, rfl, HA, HK1, BK101, HB⟩ := hrel
  cases gk with
  | zero => exact absurd HA.out (by simp [impl_Committee_weight.l0])
  | succ k1 =>
   have H := HA.out
   clear HA
   simp only [impl_Committee_weight.l0] at H
   by_cases c5 : x11_1 < (l0_1.length : Int)
   rotate_left
   ·rw [if_neg c5] at H
    have c5b0 : decide (x11_1 < (l0_1.length : Int)) = false := decide_eq_false c5
    clear c5
    obtain rfl := Option.some.inj H
    go_wp2
    go_ret
    exact ⟨fR, wB⟩
   rw [if_pos c5] at H
   have c5b0 := decide_eq_true c5
   clear c5
   by_cases c6 : 0 ≤ x11_1
   rotate_left
   ·rw [if_neg c6] at H
    exact absurd H (by simp)
   rw [if_pos c6] at H
   have c6b0 := decide_eq_true c6
   clear c6
   by_cases c7 : x11_1 < (l0_1.length : Int)
   rotate_left
   ·rw [if_neg c7] at H
    exact absurd H (by simp)
   rw [if_pos c7] at H
   have c7b0 := decide_eq_true c7
   clear c7
   replace H := oB H
   obtain ⟨t103, A80, H⟩ := H
   replace H : (if t103 = true then (impl_Committee_weight.l0 k1 a1 (wrap64 (x5_1 + (rd l0_1 x11_1))) l0_1 (l0_1.length : Int) (wrap64 (x11_1 + 1))) else (impl_Committee_weight.l0 k1 a1 x5_1 l0_1 (l0_1.length : Int) (wrap64 (x11_1 + 1)))) = some r := H
   have A8 := Aside0.mk A80
   clear A80
   by_cases c9 : t103 = true
   ·subst c9
    replace H := iT H
    have H' := Aside0.mk H
    clear H
    have p102 : 0 ≤ (x11_1 : Int) := oD
    have q102 : x11_1 < (l0_1.length : Int) := oD
    obtain ⟨ad102, e102, hx102_0⟩ := Kd.at_int HR0_1.out x11_1 p102 q102
    cases e102
    replace hx102_0 := (HB.out.cell (World.block_lt_of_cell? w _ hx102_0)).trans hx102_0
    replace p102 := eq_true p102
    replace q102 := eq_true q102
    go_wp2_with (first | ((with_reducible refine gate_callee (f := 85) rfl ?_); refine gL 18 Tryz.func85 #[.int .i64 a1, .int .i64 x11_1] ?_; (with_reducible refine (impl_has.calls a1 x11_1 true _ A8.out).mono ?_); rintro e w' ⟨rfl, ⟨nd, rfl⟩⟩; refine ⟨_, rfl, ?_⟩))
    go_roundg k1
    case measure => have := HK1.out; omega
    case rel => exact ⟨(wrap64 (x5_1 + (rd l0_1 x11_1))), (wrap64 (x11_1 + 1)), gR, gR, H', ⟨by have := HK1.out; omega⟩, ⟨bQ BK101⟩, ⟨wB⟩⟩
   replace c9 := Bool.eq_false_iff.mpr c9
   subst c9
   replace H := iF H
   have H' := Aside0.mk H
   clear H
   have p102 : 0 ≤ (x11_1 : Int) := oD
   have q102 : x11_1 < (l0_1.length : Int) := oD
   obtain ⟨ad102, e102, hx102_0⟩ := Kd.at_int HR0_1.out x11_1 p102 q102
   cases e102
   replace hx102_0 := (HB.out.cell (World.block_lt_of_cell? w _ hx102_0)).trans hx102_0
   replace p102 := eq_true p102
   replace q102 := eq_true q102
   go_wp2_with (first | ((with_reducible refine gate_callee (f := 85) rfl ?_); refine gL 18 Tryz.func85 #[.int .i64 a1, .int .i64 x11_1] ?_; (with_reducible refine (impl_has.calls a1 x11_1 false _ A8.out).mono ?_); rintro e w' ⟨rfl, ⟨nd, rfl⟩⟩; refine ⟨_, rfl, ?_⟩))
   go_roundg k1
   case measure => have := HK1.out; omega
   case rel => exact ⟨(x5_1), (wrap64 (x11_1 + 1)), gR, gR, H', ⟨by have := HK1.out; omega⟩, ⟨bQ BK101⟩, ⟨wB⟩⟩
def impl_votesOf.l0 : Nat → (Int → Option Bool) → Int → Int → Int → List Bool → Option (Int × List Bool)
 | 0, _, _, _, _, _ => none
 | k + 1, x1, x14, x15, x106000, x106001 => if x15 < x14 then ((x1 x15).bind fun t106 => (if 0 ≤ x15 then (if x15 < (x106001.length : Int) then (impl_votesOf.l0 k x1 x14 (wrap64 (x15 + 1)) x106000 (x106001.set (x15 : Int).toNat t106)) else (none)) else (none))) else (some (x106000, x106001))
def impl_votesOf.f (k : Nat) (a0 : Int) (a1 : Int → Option Bool) : Option (Int × List Bool) := if 0 ≤ a0 then (if 0 ≤ (shl .i64 1 a0) then (if (shl .i64 1 a0 : Int).toNat ≤ 281474976710656 then ((some (List.replicate (shl .i64 1 a0 : Int).toNat false : List Bool)).bind fun y102 => (impl_votesOf.l0 k a1 (y102.length : Int) 0 a0 y102)) else (none)) else (none)) else (none)
def impl_votesOf.T5 : Bool × List (List Nat × List Nat) := (true, [([], []), ([0], [0]), ([], []), ([], []), ([], []), ([3, 4], [3, 4]), ([1, 2, 0, 1, 2, 3, 4, 5], [1, 2]), ([6, 5, 5, 0, 1, 2, 3, 4, 5], [5, 6])])
def impl_votesOf.B5 : List Nat := [0, 1, 0, 0, 0, 24, 63, 127]
theorem impl_votesOf.tab5 : rtab .any (opsOf Tryz.f64 5) = impl_votesOf.T5 := by kernel_rfl
theorem impl_votesOf.bits5 : waitsOk impl_votesOf.T5.2 impl_votesOf.B5 = true := by kernel_rfl
theorem impl_votesOf.hof (k : Nat) (a0 : Int) (a1 : Int → Option Bool) (g : Nat) (lb : Array Value) (r1 : Int) (r2 : List Bool) (w : World) (eg : ∀ args w, (callFunc g args).run Tryz.prog w = .ok (.enter g args) w)
  (hp : ∀ (W : World) (x : Int) (b : Bool), Below w.heap.size w W → a1 x = some b → Calls Tryz.prog g (#[.int .i64 x] ++ lb) W fun e W' => e = .returned (.bool b) ∧ Below W.heap.size W W') (h : impl_votesOf.f k a0 a1 = some (r1, r2)) :
  Calls Tryz.prog 64 #[.int .i64 a0, .func (.func g) #[] lb] w fun e w' => ∃ v1_ : Value, e = .returned (.agg #[.int .i64 r1, v1_]) ∧ Kd.R Kd.bool 4 w' w.heap.size (fun _ => True) v1_ r2 ∧ Below w.heap.size w w' := by
 have huV := Tryz.underlying58
 have HB := Aside0.mk (Below.refl w.heap.size w)
 have HP := Aside0.mk hp
 clear hp
 have H : (if 0 ≤ a0 then (if 0 ≤ (shl .i64 1 a0) then (if (shl .i64 1 a0 : Int).toNat ≤ 281474976710656 then ((some (List.replicate (shl .i64 1 a0 : Int).toNat false : List Bool)).bind fun y102 => (impl_votesOf.l0 k a1 (y102.length : Int) 0 a0 y102)) else (none)) else (none)) else (none)) = some (r1, r2) := h
 clear h
 by_cases c3 : 0 ≤ a0
 rotate_left
 ·rw [if_neg c3] at H
  exact absurd H (by simp)
 rw [if_pos c3] at H
 have c3b0 := eq_true c3
 have c3b1 := decide_eq_true c3
 clear c3
 obtain ⟨ji4, hji4⟩ : ∃ j_ : Int, (shl .i64 1 a0) = j_ := ⟨_, rfl⟩
 replace H : (if 0 ≤ (ji4) then (if (ji4 : Int).toNat ≤ 281474976710656 then ((some (List.replicate (ji4 : Int).toNat false : List Bool)).bind fun y102 => (impl_votesOf.l0 k a1 (y102.length : Int) 0 a0 y102)) else (none)) else (none)) = some (r1, r2) := by first | (rw [hji4] at H; exact H) | (simp only [hji4] at H ⊢; exact H)
 have hji4_ : (IntKind.i64.wrap (1 * 2 ^ min a0.toNat 64)) = ji4 := hji4
 have hji4z : a0 ≤ 64 → (IntKind.i64.wrap (1 * 2 ^ a0.toNat)) = ji4 := shl_small hji4
 have hji4u : (IntKind.i64.wrap (2 ^ min a0.toNat 64)) = ji4 := by have h_ := hji4_; rw [Int.one_mul] at h_; exact h_
 have hji4v : a0 ≤ 64 → (IntKind.i64.wrap (2 ^ a0.toNat)) = ji4 := fun hle_ => by have h_ := hji4z hle_; rw [Int.one_mul] at h_; exact h_
 have hji4y : (wrap64 (1 * 2 ^ min a0.toNat 64)) = ji4 := (i64_w _).symm.trans hji4_
 have hji4x : a0 ≤ 64 → (wrap64 (1 * 2 ^ a0.toNat)) = ji4 := fun h_ => (i64_w _).symm.trans (hji4z h_)
 by_cases c5 : 0 ≤ (ji4)
 rotate_left
 ·rw [if_neg c5] at H
  exact absurd H (by simp)
 rw [if_pos c5] at H
 have c5b0 := eq_true c5
 have c5b1 := decide_eq_true c5
 clear c5
 by_cases c6 : (ji4 : Int).toNat ≤ 281474976710656
 rotate_left
 ·rw [if_neg c6] at H
  exact absurd H (by simp)
 rw [if_pos c6] at H
 have c6b0 := eq_true c6
 have c6b1 := decide_eq_true c6
 clear c6
 obtain ⟨y102, hy102⟩ : ∃ y_ : List Bool, y_ = (List.replicate (ji4 : Int).toNat false) := ⟨_, rfl⟩
 replace H : (impl_votesOf.l0 k a1 (y102.length : Int) 0 a0 y102) = some (r1, r2) := by first | (rw [hy102]; with_reducible exact H) | (have H2_ := (Option.bind_some _ _).symm.trans H; rw [hy102]; with_reducible exact H2_) | (have H2_ := (Option.bind_some _ _).symm.trans H; with_reducible exact H2_) | with_reducible exact H | (rw [hy102]; exact H) | exact H
 have Ny102 := Aside0.mk hy102
 clear hy102
 have H' := Aside0.mk H
 clear H
 go_enter Tryz.func64, Tryz.ntmps64
 go_wp2_with (first | ((with_reducible refine gate_dst (N := 4) rfl ?_); refine box_event ?hg (N := 4) ?hd (cs := #[.int .i64 0, .slice none 0 0]) (t := 58) ?hr ?_; (case hd => rfl); (case hg => rfl); (case hr => first | (go_simp; done) | (go_simp; rfl)); intro gb101 hg w7 hbox hb; have n0_ := sQ hb; have n1_ := Aside0.mk (hbox); have n2_ := Aside0.mk ((by rw [hg]; exact (below_size (wB)) : w.heap.size ≤ gb101)); have n3_ := Aside0.mk ((by rw [hg]; exact (below_size (wB)) : w.heap.size ≤ gb101)); clear HB; have HB := n0_; have BK101 := n1_; have GW101 := n2_; have GE101 := n3_; clear n0_ n1_ n2_ n3_; clear hb hbox hg) | ((with_reducible refine gate_dst (N := 10) rfl ?_); refine Kd.R_make Kd.bool _ 4 rfl (N := 10) rfl 56 _ _ rfl ji4 rfl rfl Tryz.underlying56 (.bool false) 1 info4 rfl (by decide) (by omega) false (ok := fun _ => True) (okp := fun _ => True) rfl (fun _ hk => hk) trivial (oD) (Nat.le_trans (Nat.mul_le_mul_right _ (oD : ji4.toNat ≤ 281474976710656)) (by omega)) (Below.refl _ _) (Nat.le_refl _) ?_; intro v103 w8 ho9 hb hg_ hnew_; clear hg_ hnew_; (first | rw [← Ny102.out] at ho9 | (simp only [Int.reduceToNat] at ho9; rw [← Ny102.out] at ho9)); have n0_ := Aside0.mk (Kd.R_lower ho9 (below_size (wB))); have n1_ := bP BK101 hb; have n2_ := sQ hb; clear BK101; clear HB; have HO104 := n0_; have BK101 := n1_; have HB := n2_; clear n0_ n1_ n2_; clear hb ho9; obtain ⟨Ao10, co10, eo10⟩ := Kd.R_slice HO104.out; subst eo10) | ((with_reducible refine gate_dst (N := 5) rfl ?_); refine box_event ?hg (N := 5) ?hd (cs := #[.int .i64 0, .slice none 0 0]) (t := 58) ?hr ?_; (case hd => rfl); (case hg => rfl); (case hr => first | (go_simp; done) | (go_simp; rfl)); intro gb105 hg w11 hbox hb; have n0_ := rP HO104 hb; have n1_ := bP BK101 hb; have n2_ := sQ hb; have n3_ := Aside0.mk (hbox); have n4_ := Aside0.mk ((by rw [hg]; exact (below_size (wB)) : w.heap.size ≤ gb105)); have n5_ := Aside0.mk ((by rw [hg]; exact (below_size (wB)) : w.heap.size ≤ gb105)); have n6_ := Aside0.mk ((by rw [hg]; exact Nat.ne_of_lt (blk_lt (g := gb101) (o := .cells #[.int .i64 0, .slice none 0 0] 58 (0, 0)) (bQ BK101)) : gb101 ≠ gb105)); have n7_ := Aside0.mk ((by rw [hg]; exact Nat.ne_of_gt (blk_lt (g := gb101) (o := .cells #[.int .i64 0, .slice none 0 0] 58 (0, 0)) (bQ BK101)) : gb105 ≠ gb101)); clear HO104; clear BK101; clear HB; have HO104 := n0_; have BK101 := n1_; have HB := n2_; have BK105 := n3_; have GW105 := n4_; have GE105 := n5_; have NB101_105 := n6_; have NB105_101 := n7_; clear n0_ n1_ n2_ n3_ n4_ n5_ n6_ n7_; clear hb hbox hg; have hnb12 := NB105_101.out; have hnc12 := NB101_105.out; obtain ⟨hcz13_0, hcz13_1, hfz13_0, hfz13_1⟩ := zZ BK105))
 go_loopg [15] k (fun kq v15 w' => ∃ (x15_1 : Int) (x106001_1 : List Bool) (u106001 : Value), v15 = .int .i64 x15_1 ∧ Aside0 (impl_votesOf.l0 kq a1 (y102.length : Int) x15_1 a0 x106001_1 = some (r1, r2)) ∧ Aside0 (kq ≤ k) ∧ Aside0 (Kd.R Kd.bool 4 w' w.heap.size (fun _ => True) u106001 x106001_1) ∧ Aside0 (w'.heap[gb101]? = some (.cells #[.int .i64 0, (.slice none 0 0)] 58 (0, 0))) ∧ Aside0 (w'.heap[gb105]? = some (.cells #[.int .i64 a0, u106001] 58 (0, 0))) ∧ Aside0 (Below w.heap.size w w'))
 case atStart => exact ⟨(0), (y102), (.slice Ao10 y102.length co10), gR, H', ⟨Nat.le_refl _⟩, ⟨by (try refine rp ?_); exact Kd.R_mono (Kd.R_far (p := ⟨gb105, 1, none⟩) (Kd.R_far (p := ⟨gb105, 0, none⟩) (Kd.R_types HO104.out BK105.out (by decide)) (fun _ hk => hk.2) (.int .i64 a0)) (fun _ hk => hk.2) (.slice Ao10 y102.length co10)) (fun _ hk => trivial)⟩, ⟨by (try refine bp ?_); refine blk_far ?_ NB101_105.out _; (try refine bp ?_); refine blk_far ?_ NB101_105.out _; (first | exact bp BK101.out | exact BK101.out)⟩, ⟨by (try refine bp ?_); refine blk_put (cs := #[.int .i64 a0, .slice none 0 0]) ?_ 1 _ rfl; (try refine bp ?_); refine blk_put (cs := #[.int .i64 0, .slice none 0 0]) ?_ 0 _ rfl; (first | exact bp BK105.out | exact BK105.out)⟩, ⟨wB⟩⟩
 case round =>
  clear H'
  try clear c1
  try clear p2
  try clear c3
  try clear c3b0
  try clear c3b1
  try clear c5
  try clear c5b0
  try clear c5b1
  try clear c6
  try clear c6b0
  try clear c6b1
  try clear p6
  try clear c12
  try clear hcz13_0
  try clear hcz13_1
  try clear hfz13_0
  try clear hfz13_1
  obtain ⟨x15_1, x106001_1, u106001, rfl, HA, HK1, HO_106001, BK101, BK105, HB⟩ := hrel
  cases gk with
  | zero => exact absurd HA.out (by simp [impl_votesOf.l0])
  | succ k1 =>
   have H := HA.out
   clear HA
   simp only [impl_votesOf.l0] at H
   by_cases c14 : x15_1 < (y102.length : Int)
   rotate_left
   ·rw [if_neg c14] at H
    have c14b0 : decide (x15_1 < (y102.length : Int)) = false := decide_eq_false c14
    clear c14
    simp only [Option.some.injEq, Prod.mk.injEq] at H
    obtain ⟨rfl, rfl⟩ := H
    have hnb22 := NB105_101.out
    have hnc22 := NB101_105.out
    obtain ⟨hcz23_0, hcz23_1, hfz23_0, hfz23_1⟩ := zZ BK105
    obtain ⟨hcz24_0, hcz24_1, hfz24_0, hfz24_1⟩ := zZ BK101
    obtain ⟨Ao25, co25, eo25⟩ := Kd.R_slice HO_106001.out
    subst eo25
    go_wp2
    refine bodyPost_ret (results_cell_row rfl _ _ gb101 58 #[.int .i64 a0, .slice Ao25 x106001_1.length co25] (0, 0) _ rfl (by (try refine bp ?_); refine blk_put (cs := #[.int .i64 a0, .slice none 0 0]) ?_ 1 _ rfl; (try refine bp ?_); refine blk_put (cs := #[.int .i64 0, .slice none 0 0]) ?_ 0 _ rfl; (first | exact bp BK101.out | exact BK101.out)) Tryz.underlying58 rfl (by kernel_rfl)) rfl ?_
    exact ⟨_, by first | rfl | (simp <;> rfl) | (simp only [← hji4]; first | rfl | (simp <;> rfl)) | (simp [*] <;> rfl), by (try refine rp ?_); exact Kd.R_mono (Kd.R_far (p := ⟨gb101, 1, none⟩) (Kd.R_far (p := ⟨gb101, 0, none⟩) (Kd.R_types HO_106001.out BK101.out (by decide)) (fun _ hk => hk.2) (.int .i64 a0)) (fun _ hk => hk.2) (.slice Ao25 x106001_1.length co25)) (fun _ hk => trivial), wB⟩
   rw [if_pos c14] at H
   have c14b0 := decide_eq_true c14
   clear c14
   replace H := oB H
   obtain ⟨t106, A150, H⟩ := H
   replace H : (if 0 ≤ x15_1 then (if x15_1 < (x106001_1.length : Int) then (impl_votesOf.l0 k1 a1 (y102.length : Int) (wrap64 (x15_1 + 1)) a0 (x106001_1.set (x15_1 : Int).toNat t106)) else (none)) else (none)) = some (r1, r2) := H
   have A15 := Aside0.mk A150
   clear A150
   by_cases c16 : 0 ≤ x15_1
   rotate_left
   ·rw [if_neg c16] at H
    exact absurd H (by simp)
   rw [if_pos c16] at H
   have c16b0 := decide_eq_true c16
   clear c16
   by_cases c17 : x15_1 < (x106001_1.length : Int)
   rotate_left
   ·rw [if_neg c17] at H
    exact absurd H (by simp)
   rw [if_pos c17] at H
   have c17b0 := decide_eq_true c17
   clear c17
   obtain ⟨y107, hy107⟩ : ∃ y_ : List Bool, y_ = (x106001_1.set (x15_1 : Int).toNat t106) := ⟨_, rfl⟩
   replace H : (impl_votesOf.l0 k1 a1 (y102.length : Int) (wrap64 (x15_1 + 1)) a0 y107) = some (r1, r2) := by first | (rw [hy107]; with_reducible exact H) | (have H2_ := (Option.bind_some _ _).symm.trans H; rw [hy107]; with_reducible exact H2_) | (have H2_ := (Option.bind_some _ _).symm.trans H; with_reducible exact H2_) | with_reducible exact H | (rw [hy107]; exact H) | exact H
   have Ny107 := Aside0.mk hy107
   clear hy107
   have H' := Aside0.mk H
   clear H
   try go_wp2
   have n0_ := rD HO_106001
   have n1_ := bD BK101
   have n2_ := bD BK105
   have n3_ := Aside0.mk (below_drew1 HB.out)
   clear HO_106001
   clear BK101
   clear BK105
   clear HB
   have HO_106001 := n0_
   have BK101 := n1_
   have BK105 := n2_
   have HB := n3_
   clear n0_ n1_ n2_ n3_
   refine start_ (n := 8) (S := fun w' => w'.cell? ⟨gb105, 0, none⟩ = some (.int .i64 a0) ∧ w'.cell? ⟨gb105, 1, none⟩ = some (u106001)) (ds := [7]) #[false, false, false, false, false, false, false, false] (by kernel_rfl) rfl rfl ⟨(blk_cell BK105.out 0).trans rfl, (blk_cell BK105.out 1).trans rfl⟩ (fun hHeld => ?_); refine with_tabW impl_votesOf.tab5 impl_votesOf.bits5 (fun HT_ HW_ => ?_)
   generalize wr.drew = w19 at HO_106001 BK101 BK105 HB hHeld ⊢
   refine pU 0 HT_ ?_
   refine pU 2 HT_ ?_
   refine pU 3 HT_ ?_
   refine pU 4 HT_ ?_
   refine tK 1 HT_ HW_ hHeld (hy := by rintro w' ⟨s0, s1⟩; go_simp; with_reducible rfl) ?_
   refine oN 5 HT_ (fun K hK => ?_)
   refine Go.Proofs.YtaambkdiokbdgacGreatDoorX.goesF_ (g := g) (lb := lb) eg #[.int .i64 x15_1] (by rfl) rfl rfl rfl (by (try simp only [mA, mC, mN]); first | done | rfl | (simp only [List.length_drop, List.length_take]; rfl)) ?_
   refine (HP.out _ x15_1 t106 HB.out A15.out).mono ?_
   rintro e w20 ⟨rfl, hb⟩
   refine ⟨_, rfl, ?_⟩
   have n0_ := rP HO_106001 hb
   have n1_ := bP BK101 hb
   have n2_ := bP BK105 hb
   have n3_ := sQ hb
   clear HO_106001
   clear BK101
   clear BK105
   clear HB
   have HO_106001 := n0_
   have BK101 := n1_
   have BK105 := n2_
   have HB := n3_
   clear n0_ n1_ n2_ n3_
   (try clear hb)
   (try clear hb2)
   (try clear hk)
   (try clear hi)
   have p18 : 0 ≤ (x15_1 : Int) := oD
   have q18 : (x15_1 : Int) < ((x106001_1.length : Int) : Int) := oD
   obtain ⟨go18, co18, eo18, gb18, gl18, cl18, HG18⟩ := Kd.R_form HO_106001.out (by omega)
   (first | cases eo18 | (injection eo18 with ea_ en_ ec_; (first | subst ea_ | (injection ea_ with ea_; subst ea_)); subst ec_; clear en_))
   have GB18 := Aside0.mk gb18
   have GG18 := Aside0.mk HG18
   clear gb18 gl18 HG18
   obtain ⟨hx18_0, hf18_0⟩ := Kd.R_celln false HO_106001.out (x15_1 : Int) p18 q18
   replace p18 := eq_true p18
   replace q18 := eq_true q18
   have HP21 := Kd.R_putn HO_106001.out (x15_1 : Int) t106
   rw [← Ny107.out] at HP21
   have HQ21 := Aside0.mk HP21
   clear HP21
   refine hK.out _ _ ⟨(blk_cell BK105.out 0).trans rfl, (blk_cell BK105.out 1).trans rfl⟩ (fun hHeld => ?_)
   clear hK K
   refine nM ?_
   refine pU 6 HT_ ?_
   refine last_ (i := 7) (N := none) #[true, true, true, true, true, true, true, true] rfl rfl (one_of HT_.out (by kernel_rfl)) (by decide) (fun K hK => ?_)
   refine skip_ (w1 := ?_) (by rfl) rfl ?_ ?_
   rotate_left
   ·go_simp
    rfl
   refine hK.out _ _ ?_
   clear hK K
   refine done_ (done_of HT_.out (by kernel_rfl)) ?_
   try go_wp2
   go_roundg k1
   case measure => have := HK1.out; omega
   case rel => exact ⟨(wrap64 (x15_1 + 1)), (y107), (.slice (some ⟨go18, 0, none⟩) x106001_1.length co18), gR, H', ⟨by have := HK1.out; omega⟩, ⟨by (first | exact rp HQ21.out | exact HQ21.out)⟩, ⟨by (try refine bp ?_); refine blk_far ?_ (by have h_ := Kd.R_ne HO_106001.out BK101.out (by decide); intro e_; exact h_ (by rw [e_]; rfl)) _; (first | exact bp BK101.out | exact BK101.out)⟩, ⟨by (try refine bp ?_); refine blk_far ?_ (by have h_ := Kd.R_ne HO_106001.out BK105.out (by decide); intro e_; exact h_ (by rw [e_]; rfl)) _; (first | exact bp BK105.out | exact BK105.out)⟩, ⟨by repeat (first | (with_reducible first | exact HB.out | apply ba | apply bd | apply be | refine bs ?_ GB18.out | refine bs ?_ GE101.out | refine bs ?_ GE105.out) | exact HB.out)⟩⟩
def impl_Committee_votes_1.f (k : Nat) (a0 : Int) (l0 : List Int) (m : Int) : Option Bool := (impl_Committee_weight.f k a0 l0 m).bind fun s => some (decide (a0 ≤ s))
def impl_Committee_votes.f (k : Nat) (a0_0 : Int) (l0_1 : List Int) : Option (Int × List Bool) := impl_votesOf.f k (l0_1.length : Int) (impl_Committee_votes_1.f k a0_0 l0_1)
theorem impl_Committee_votes_1.clo (k : Nat) (m q : Int) (A : Option Addr) (c : Nat) (l : List Int) (B : Nat) (b : Bool) (W : World) (hlt : B < W.heap.size) (h0 : W.cell? ⟨B, 0, none⟩ = some (.int .i64 q)) (h1 : W.cell? ⟨B, 1, none⟩ = some (.slice A l.length c))
  (hr : Kd.C (Kd.int .i64) W A l.length l) (hc : l.length ≤ c) (h : impl_Committee_votes_1.f k q l m = some b) :
  Calls Tryz.prog 65 #[.int .i64 m, .pointer (some ⟨B, 0, none⟩)] W fun e W' => e = .returned (.bool b) ∧ Below W.heap.size W W' := by
 obtain ⟨s, hs, hb⟩ := oB h
 obtain rfl := Option.some.inj hb
 have HS := Aside0.mk hs
 have HR := Aside0.mk hr
 have HC := Aside0.mk hc
 have HLT := Aside0.mk hlt
 clear h hb hs hr hc hlt
 have hd0 : W.drew.cell? ⟨B, 0, none⟩ = some (.int .i64 q) := h0
 have hd1 : W.drew.cell? ⟨B, 1, none⟩ = some (.slice A l.length c) := h1
 have HD0 := Aside0.mk hd0
 have HD1 := Aside0.mk hd1
 clear hd0 hd1
 have HZ := Aside0.mk (show W.drew.heap.size = W.heap.size from rfl)
 go_enter Tryz.func65, Tryz.ntmps65
 go_wp2
 go_region_held3 (fun w' => w'.cell? ⟨B, 0, none⟩ = some (.int .i64 q) ∧ w'.cell? ⟨B, 1, none⟩ = some (.slice A l.length c)) (first | exact ⟨k0, k1⟩ | go_keep)
  (first | (go_at_call 66; refine (impl_Committee_weight.calls k q A c l m s _ (Kd.C_drew HR.out) HC.out HS.out).mono ?_; rintro e w' ⟨rfl, hb⟩; have k0 := (hb.cell (p := ⟨B, 0, none⟩) (by rw [HZ.out]; exact HLT.out)).trans HD0.out; have k1 := (hb.cell (p := ⟨B, 1, none⟩) (by rw [HZ.out]; exact HLT.out)).trans HD1.out; have HBN := Aside0.mk hb; clear hb))
 go_wp2
 go_ret
 exact ⟨rfl, (below_drew1 (Below.refl _ _)).trans (HBN.out.mono (by rw [HZ.out]; exact Nat.le_refl _))⟩
theorem impl_Committee_votes.calls (k : Nat) (a0_0 : Int) (A0_1 : Option Addr) (c0_1 : Nat) (l0_1 : List Int) (r1 : Int) (r2 : List Bool) (w : World) (hr0_1 : Kd.C (Kd.int .i64) w A0_1 l0_1.length l0_1) (hc0_1 : l0_1.length ≤ c0_1) (h : impl_Committee_votes.f k a0_0 l0_1 = some (r1, r2)) :
  Calls Tryz.prog 31 #[.agg #[.int .i64 a0_0, .slice A0_1 l0_1.length c0_1]] w fun e w' => ∃ v1_ : Value, e = .returned (.agg #[.int .i64 r1, v1_]) ∧ Kd.R Kd.bool 4 w' w.heap.size (fun _ => True) v1_ r2 ∧ Below w.heap.size w w' := by
 have eg : ∀ args w, (callFunc 65 args).run Tryz.prog w = .ok (.enter 65 args) w := enters_of Tryz.func65 (by kernel_rfl) rfl
 have hmf : ∀ (fn : Fn) (first cap : Array Value) (w : World), (Instr.makeFunc fn first cap).run Tryz.prog w = .ok (.func fn first cap) w := fun _ _ _ _ => rfl
 have huC := Tryz.underlying24
 have huV := Tryz.underlying58
 have HR := Aside0.mk hr0_1
 have HC := Aside0.mk hc0_1
 have H := Aside0.mk h
 clear hr0_1 hc0_1 h
 go_enter Tryz.func31, Tryz.ntmps31
 go_wp2_with fail
 have hB2 : Below w.heap.size w ((w.alloc (.cells #[.int .i64 a0_0, .slice A0_1 l0_1.length c0_1] 24)).alloc (.cells #[.int .i64 0, .slice none 0 0] 58)) := ((Below.refl _ _).alloc (Nat.le_refl _) _).alloc (by simp) _
 refine (impl_votesOf.hof k (l0_1.length : Int) (impl_Committee_votes_1.f k a0_0 l0_1) 65 #[.pointer (some ⟨w.heap.size, 0, none⟩)] r1 r2 _ eg ?_ H.out).mono ?_
 ·intro W x b hb hx
  have hlt : w.heap.size < W.heap.size := Nat.lt_of_lt_of_le (by simp; omega) hb.size
  refine impl_Committee_votes_1.clo k x a0_0 A0_1 c0_1 l0_1 w.heap.size b W hlt ?_ ?_ (Kd.C_below HR.out (hB2.trans (hb.mono hB2.size))) HC.out hx
  ·rw [hb.cell (p := ⟨w.heap.size, 0, none⟩) (by simp; omega)]
   simp [go_sem]
  rw [hb.cell (p := ⟨w.heap.size, 1, none⟩) (by simp; omega)]
  simp [go_sem]
 rintro e w' ⟨v1, rfl, hown, hb⟩
 obtain ⟨A1, c1, rfl⟩ := Kd.R_slice hown
 have HBN := Aside0.mk (hB2.trans (hb.mono hB2.size))
 have hsz : (w.alloc (.cells #[.int .i64 a0_0, .slice A0_1 l0_1.length c0_1] 24)).heap.size = w.heap.size + 1 := by simp
 have hw2 := blk_new (w.alloc (.cells #[.int .i64 a0_0, .slice A0_1 l0_1.length c0_1] 24)) (.cells #[.int .i64 0, .slice none 0 0] 58)
 rw [hsz] at hw2
 have BK := Aside0.mk (blk_below hw2 hb)
 have HO := Aside0.mk (Kd.R_lower hown hB2.size)
 have hc0 := (blk_cell BK.out 0).trans rfl
 have hc1 := (blk_cell BK.out 1).trans rfl
 have hf0 := blk_frozen BK.out 0
 have hf1 := blk_frozen BK.out 1
 clear hown hw2 hb hB2 hsz
 go_wp2
 refine bodyPost_ret (results_cell_row rfl _ _ (w.heap.size + 1) 58 #[.int .i64 r1, .slice A1 r2.length c1] (0, 0) _ rfl (by refine blk_put (cs := #[.int .i64 r1, .slice none 0 0]) ?_ 1 _ rfl; refine blk_put (cs := #[.int .i64 0, .slice none 0 0]) ?_ 0 _ rfl; exact BK.out) Tryz.underlying58 rfl (by kernel_rfl)) rfl ?_
 exact ⟨_, rfl, Kd.R_mono (Kd.R_far (p := ⟨w.heap.size + 1, 1, none⟩) (Kd.R_far (p := ⟨w.heap.size + 1, 0, none⟩) (Kd.R_types HO.out BK.out (by decide)) (fun _ hk => hk.2) (.int .i64 r1)) (fun _ hk => hk.2) (.slice A1 r2.length c1)) (fun _ _ => trivial), below_set (below_set HBN.out (Nat.le_succ _)) (Nat.le_succ _)⟩
def impl_votes_countWins.l0 : Nat → Int → List Bool → Int → Int → Option (Int)
 | 0, _, _, _, _ => none
 | k + 1, x3, x7, x8, x9 => if x9 < x8 then (if 0 ≤ x9 then (if x9 < (x7.length : Int) then (if rdOf false x7 x9 = true then (impl_votes_countWins.l0 k (wrap64 (x3 + 1)) x7 x8 (wrap64 (x9 + 1))) else (impl_votes_countWins.l0 k x3 x7 x8 (wrap64 (x9 + 1)))) else (none)) else (none)) else (some x3)
def impl_votes_countWins.f (k : Nat) (a0_0 : Int) (l0_1 : List Bool) : Option (Int) := impl_votes_countWins.l0 k 0 l0_1 (l0_1.length : Int) 0
theorem impl_votes_countWins.calls (k : Nat) (a0_0 : Int) (A0_1 : Option Addr) (c0_1 : Nat) (l0_1 : List Bool) (r : Int) (w : World) (hr0_1 : Kd.C Kd.bool w A0_1 l0_1.length l0_1) (hc0_1 : l0_1.length ≤ c0_1) (h : impl_votes_countWins.f k a0_0 l0_1 = some r) :
  Calls Tryz.prog 32 #[.agg #[.int .i64 a0_0, .slice A0_1 l0_1.length c0_1]] w fun e w' => e = .returned (.int .i64 r) ∧ Below w.heap.size w w' := by
 have hu58 := Tryz.underlying58
 have HR0_1 := Aside0.mk hr0_1
 have HC0_1 := Aside0.mk hc0_1
 clear hr0_1 hc0_1
 have HB := Aside0.mk (Below.refl w.heap.size w)
 have H := h
 unfold impl_votes_countWins.f at H
 clear h
 have H' := Aside0.mk H
 clear H
 go_enter Tryz.func32, Tryz.ntmps32
 go_wp2_with (first | ((with_reducible refine gate_dst (N := 1) rfl ?_); refine box_event ?hg (N := 1) ?hd (cs := #[.int .i64 a0_0, .slice A0_1 l0_1.length c0_1]) (t := 58) ?hr ?_; (case hd => rfl); (case hg => rfl); (case hr => first | (go_simp; done) | (go_simp; rfl)); intro gb101 hg w2 hbox hb; have n0_ := sQ hb; have n1_ := Aside0.mk (hbox); have n2_ := Aside0.mk ((by rw [hg]; exact (below_size (wB)) : w.heap.size ≤ gb101)); have n3_ := Aside0.mk ((by rw [hg]; exact (below_size (wB)) : w.heap.size ≤ gb101)); clear HB; have HB := n0_; have BK101 := n1_; have GW101 := n2_; have GE101 := n3_; clear n0_ n1_ n2_ n3_; clear hb hbox hg; obtain ⟨hcz3_0, hcz3_1, hfz3_0, hfz3_1⟩ := zZ BK101))
 go_loopg [3, 9] k (fun kq v3 v9 w' => ∃ (x3_1 : Int) (x9_1 : Int), v3 = .int .i64 x3_1 ∧ v9 = .int .i64 x9_1 ∧ Aside0 (impl_votes_countWins.l0 kq x3_1 l0_1 (l0_1.length : Int) x9_1 = some r) ∧ Aside0 (kq ≤ k) ∧ Aside0 (w'.heap[gb101]? = some (.cells #[.int .i64 a0_0, (.slice A0_1 l0_1.length c0_1)] 58 (0, 0))) ∧ Aside0 (Below w.heap.size w w'))
 case atStart => exact ⟨(0), (0), gR, gR, H', ⟨Nat.le_refl _⟩, ⟨bQ BK101⟩, ⟨wB⟩⟩
 case round =>
  clear H'
  try clear p2
  try clear c3
  try clear hcz3_0
  try clear hcz3_1
  try clear hfz3_0
  try clear hfz3_1
  obtain ⟨x3_1, x9_1, rfl, rfl, HA, HK1, BK101, HB⟩ := hrel
  cases gk with
  | zero => exact absurd HA.out (by simp [impl_votes_countWins.l0])
  | succ k1 =>
   have H := HA.out
   clear HA
   simp only [impl_votes_countWins.l0] at H
   by_cases c4 : x9_1 < (l0_1.length : Int)
   rotate_left
   ·rw [if_neg c4] at H
    have c4b0 : decide (x9_1 < (l0_1.length : Int)) = false := decide_eq_false c4
    clear c4
    obtain rfl := Option.some.inj H
    go_wp2
    go_ret
    exact ⟨fR, wB⟩
   rw [if_pos c4] at H
   have c4b0 := decide_eq_true c4
   clear c4
   by_cases c5 : 0 ≤ x9_1
   rotate_left
   ·rw [if_neg c5] at H
    exact absurd H (by simp)
   rw [if_pos c5] at H
   have c5b0 := decide_eq_true c5
   clear c5
   by_cases c6 : x9_1 < (l0_1.length : Int)
   rotate_left
   ·rw [if_neg c6] at H
    exact absurd H (by simp)
   rw [if_pos c6] at H
   have c6b0 := decide_eq_true c6
   clear c6
   obtain ⟨bq7, hbq7⟩ : ∃ b_ : Bool, b_ = (rdOf false l0_1 x9_1) := ⟨_, rfl⟩
   replace H : (if bq7 = true then (impl_votes_countWins.l0 k1 (wrap64 (x3_1 + 1)) l0_1 (l0_1.length : Int) (wrap64 (x9_1 + 1))) else (impl_votes_countWins.l0 k1 x3_1 l0_1 (l0_1.length : Int) (wrap64 (x9_1 + 1)))) = some r := by rw [← hbq7] at H; exact H
   have Nbq7 := Aside0.mk hbq7
   clear hbq7
   by_cases c8 : bq7 = true
   ·subst c8
    replace H := iT H
    have H' := Aside0.mk H
    clear H
    have p102 : 0 ≤ (x9_1 : Int) := oD
    have q102 : x9_1 < (l0_1.length : Int) := oD
    obtain ⟨ad102, e102, hx102_0⟩ := Kd.at_bool HR0_1.out x9_1 p102 q102
    (try rw [← Nbq7.out] at hx102_0)
    cases e102
    replace hx102_0 := (HB.out.cell (World.block_lt_of_cell? w _ hx102_0)).trans hx102_0
    replace p102 := eq_true p102
    replace q102 := eq_true q102
    go_wp2
    go_roundg k1
    case measure => have := HK1.out; omega
    case rel => exact ⟨(wrap64 (x3_1 + 1)), (wrap64 (x9_1 + 1)), gR, gR, H', ⟨by have := HK1.out; omega⟩, ⟨bQ BK101⟩, ⟨wB⟩⟩
   replace c8 := Bool.eq_false_iff.mpr c8
   subst c8
   replace H := iF H
   have H' := Aside0.mk H
   clear H
   have p102 : 0 ≤ (x9_1 : Int) := oD
   have q102 : x9_1 < (l0_1.length : Int) := oD
   obtain ⟨ad102, e102, hx102_0⟩ := Kd.at_bool HR0_1.out x9_1 p102 q102
   (try rw [← Nbq7.out] at hx102_0)
   cases e102
   replace hx102_0 := (HB.out.cell (World.block_lt_of_cell? w _ hx102_0)).trans hx102_0
   replace p102 := eq_true p102
   replace q102 := eq_true q102
   go_wp2
   go_roundg k1
   case measure => have := HK1.out; omega
   case rel => exact ⟨(x3_1), (wrap64 (x9_1 + 1)), gR, gR, H', ⟨by have := HK1.out; omega⟩, ⟨bQ BK101⟩, ⟨wB⟩⟩
def impl_CountWinning.f (k : Nat) (a0_0 : Int) (l0_1 : List Int) : Option (Int × Bool) := (impl_IsCommittee.f k a0_0 l0_1).bind fun t102 => (if t102 = true then ((impl_Committee_votes.f k a0_0 l0_1).bind fun bt103 => ((impl_votes_countWins.f k bt103.1 bt103.2).bind fun t107 => (some (t107, true)))) else (some (0, false)))
theorem impl_CountWinning.calls (k : Nat) (a0_0 : Int) (A0_1 : Option Addr) (c0_1 : Nat) (l0_1 : List Int) (r1 : Int) (r2 : Bool) (w : World) (hr0_1 : Kd.C (Kd.int .i64) w A0_1 l0_1.length l0_1) (hc0_1 : l0_1.length ≤ c0_1) (h : impl_CountWinning.f k a0_0 l0_1 = some (r1, r2)) :
  Calls Tryz.prog 8 #[.agg #[.int .i64 a0_0, .slice A0_1 l0_1.length c0_1]] w fun e w' => e = .returned (.tuple #[.int .i64 r1, .bool r2]) ∧ Below w.heap.size w w' := by
 have hu24 := Tryz.underlying24
 have HR0_1 := Aside0.mk hr0_1
 have HC0_1 := Aside0.mk hc0_1
 clear hr0_1 hc0_1
 have HB := Aside0.mk (Below.refl w.heap.size w)
 have H := h
 unfold impl_CountWinning.f at H
 clear h
 replace H := oB H
 obtain ⟨t102, A20, H⟩ := H
 replace H : (if t102 = true then ((impl_Committee_votes.f k a0_0 l0_1).bind fun bt103 => ((impl_votes_countWins.f k bt103.1 bt103.2).bind fun t107 => (some (t107, true)))) else (some (0, false))) = some (r1, r2) := H
 have A2 := Aside0.mk A20
 clear A20
 by_cases c3 : t102 = true
 rotate_left
 ·replace c3 := Bool.eq_false_iff.mpr c3
  subst c3
  replace H := iF H
  simp only [Option.some.injEq, Prod.mk.injEq] at H
  obtain ⟨rfl, rfl⟩ := H
  go_enter Tryz.func8, Tryz.ntmps8
  go_wp2_with (first | ((with_reducible refine gate_dst (N := 1) rfl ?_); refine box_event ?hg (N := 1) ?hd (cs := #[.int .i64 a0_0, .slice A0_1 l0_1.length c0_1]) (t := 24) ?hr ?_; (case hd => rfl); (case hg => rfl); (case hr => first | (go_simp; done) | (go_simp; rfl)); intro gb101 hg w13 hbox hb; have n0_ := sQ hb; have n1_ := Aside0.mk (hbox); have n2_ := Aside0.mk ((by rw [hg]; exact (below_size (wB)) : w.heap.size ≤ gb101)); have n3_ := Aside0.mk ((by rw [hg]; exact (below_size (wB)) : w.heap.size ≤ gb101)); clear HB; have HB := n0_; have BK101 := n1_; have GW101 := n2_; have GE101 := n3_; clear n0_ n1_ n2_ n3_; clear hb hbox hg; obtain ⟨hcz14_0, hcz14_1, hfz14_0, hfz14_1⟩ := zZ BK101) | ((with_reducible refine gate_callee (f := 17) rfl ?_); refine gL 5 Tryz.func17 #[.agg #[.int .i64 a0_0, .slice A0_1 l0_1.length c0_1]] ?_; (with_reducible refine (impl_IsCommittee.calls k a0_0 _ _ l0_1 false _ ?side1 ?side2 A2.out).mono ?_); (case side1 => have hx_ := (Kd.C_below HR0_1.out HB.out); exact cC); (case side2 => exact HC0_1.out); rintro e w15 ⟨rfl, hb⟩; refine ⟨_, rfl, ?_⟩; have n0_ := bP BK101 hb; have n1_ := sQ hb; clear BK101; clear HB; have BK101 := n0_; have HB := n1_; clear n0_ n1_; (try clear hb); (try clear hb2); (try clear hk); (try clear hi)))
  go_ret2
  exact ⟨fR, wB⟩
 subst c3
 replace H := iT H
 replace H := oB H
 obtain ⟨⟨t103, t104⟩, A40, H⟩ := H
 replace H : ((impl_votes_countWins.f k t103 t104).bind fun t107 => (some (t107, true))) = some (r1, r2) := H
 have A4 := Aside0.mk A40
 clear A40
 replace H := oB H
 obtain ⟨t107, A50, H⟩ := H
 replace H : (some (t107, true)) = some (r1, r2) := H
 have A5 := Aside0.mk A50
 clear A50
 simp only [Option.some.injEq, Prod.mk.injEq] at H
 obtain ⟨rfl, rfl⟩ := H
 go_enter Tryz.func8, Tryz.ntmps8
 go_wp2_with (first | ((with_reducible refine gate_dst (N := 1) rfl ?_); refine box_event ?hg (N := 1) ?hd (cs := #[.int .i64 a0_0, .slice A0_1 l0_1.length c0_1]) (t := 24) ?hr ?_; (case hd => rfl); (case hg => rfl); (case hr => first | (go_simp; done) | (go_simp; rfl)); intro gb101 hg w6 hbox hb; have n0_ := sQ hb; have n1_ := Aside0.mk (hbox); have n2_ := Aside0.mk ((by rw [hg]; exact (below_size (wB)) : w.heap.size ≤ gb101)); have n3_ := Aside0.mk ((by rw [hg]; exact (below_size (wB)) : w.heap.size ≤ gb101)); clear HB; have HB := n0_; have BK101 := n1_; have GW101 := n2_; have GE101 := n3_; clear n0_ n1_ n2_ n3_; clear hb hbox hg; obtain ⟨hcz7_0, hcz7_1, hfz7_0, hfz7_1⟩ := zZ BK101) | ((with_reducible refine gate_callee (f := 17) rfl ?_); refine gL 5 Tryz.func17 #[.agg #[.int .i64 a0_0, .slice A0_1 l0_1.length c0_1]] ?_; (with_reducible refine (impl_IsCommittee.calls k a0_0 _ _ l0_1 true _ ?side1 ?side2 A2.out).mono ?_); (case side1 => have hx_ := (Kd.C_below HR0_1.out HB.out); exact cC); (case side2 => exact HC0_1.out); rintro e w8 ⟨rfl, hb⟩; refine ⟨_, rfl, ?_⟩; have n0_ := bP BK101 hb; have n1_ := sQ hb; clear BK101; clear HB; have BK101 := n0_; have HB := n1_; clear n0_ n1_; (try clear hb); (try clear hb2); (try clear hk); (try clear hi); obtain ⟨hcz9_0, hcz9_1, hfz9_0, hfz9_1⟩ := zZ BK101) | ((with_reducible refine gate_callee (f := 31) rfl ?_); refine gL 8 Tryz.func31 #[.agg #[.int .i64 a0_0, .slice A0_1 l0_1.length c0_1]] ?_; (with_reducible refine (impl_Committee_votes.calls k a0_0 _ _ l0_1 t103 t104 _ ?side1 ?side2 A4.out).mono ?_); (case side1 => have hx_ := (Kd.C_below HR0_1.out HB.out); exact cC); (case side2 => exact HC0_1.out); rintro e w10 ⟨v105, rfl, ho0, hb⟩; refine ⟨_, rfl, ?_⟩; have n0_ := Aside0.mk (Kd.R_lower ho0 (below_size (wB))); have n1_ := bP BK101 hb; have n2_ := sQ hb; clear BK101; clear HB; have HO106 := n0_; have BK101 := n1_; have HB := n2_; clear n0_ n1_ n2_; (try clear hb); (try clear hb2); (try clear hk); (try clear hi); (try clear ho0); obtain ⟨Ao11, co11, eo11⟩ := Kd.R_slice HO106.out; subst eo11) | ((with_reducible refine gate_callee (f := 32) rfl ?_); refine gL 9 Tryz.func32 #[.agg #[.int .i64 t103, .slice Ao11 t104.length co11]] ?_; (with_reducible refine (impl_votes_countWins.calls k t103 _ _ t104 t107 _ ?side1 ?side2 A5.out).mono ?_); (case side1 => have hx_ := (Kd.R_reads' HO106.out).2.2; exact cC); (case side2 => exact (Kd.R_reads' HO106.out).2.1); rintro e w12 ⟨rfl, hb⟩; refine ⟨_, rfl, ?_⟩; have n0_ := rP HO106 hb; have n1_ := bP BK101 hb; have n2_ := sQ hb; clear HO106; clear BK101; clear HB; have HO106 := n0_; have BK101 := n1_; have HB := n2_; clear n0_ n1_ n2_; (try clear hb); (try clear hb2); (try clear hk); (try clear hi)))
 go_ret2
 exact ⟨fR, wB⟩
def impl_isMember.f (k : Nat) (a0_0 : Int) (l0_1 : List Int) (a1 : Int) : Option (Bool) := (impl_IsCommittee.f k a0_0 l0_1).bind fun t102 => (if t102 = true then ((impl_within.f a1 0 (wrap64 ((l0_1.length : Int) - 1))).bind fun t103 => (some t103)) else (some false))
theorem impl_isMember.calls (k : Nat) (a0_0 : Int) (A0_1 : Option Addr) (c0_1 : Nat) (l0_1 : List Int) (a1 : Int) (r : Bool) (w : World) (hr0_1 : Kd.C (Kd.int .i64) w A0_1 l0_1.length l0_1) (hc0_1 : l0_1.length ≤ c0_1) (h : impl_isMember.f k a0_0 l0_1 a1 = some r) :
  Calls Tryz.prog 33 #[.agg #[.int .i64 a0_0, .slice A0_1 l0_1.length c0_1], .int .i64 a1] w fun e w' => e = .returned (.bool r) ∧ Below w.heap.size w w' := by
 have hu24 := Tryz.underlying24
 have HR0_1 := Aside0.mk hr0_1
 have HC0_1 := Aside0.mk hc0_1
 clear hr0_1 hc0_1
 have HB := Aside0.mk (Below.refl w.heap.size w)
 have H := h
 unfold impl_isMember.f at H
 clear h
 replace H := oB H
 obtain ⟨t102, A30, H⟩ := H
 replace H : (if t102 = true then ((impl_within.f a1 0 (wrap64 ((l0_1.length : Int) - 1))).bind fun t103 => (some t103)) else (some false)) = some r := H
 have A3 := Aside0.mk A30
 clear A30
 by_cases c4 : t102 = true
 rotate_left
 ·replace c4 := Bool.eq_false_iff.mpr c4
  subst c4
  replace H := iF H
  obtain rfl := Option.some.inj H
  go_enter Tryz.func33, Tryz.ntmps33
  go_wp2_with (first | ((with_reducible refine gate_dst (N := 2) rfl ?_); (try (refine gate_guard (by rfl) ?_; dsimp only)); refine box_event ?hg (N := 2) ?hd (cs := #[.int .i64 a0_0, .slice A0_1 l0_1.length c0_1]) (t := 24) ?hr ?_; (case hd => rfl); (case hg => rfl); (case hr => first | (go_simp; done) | (go_simp; rfl)); intro gb101 hg w10 hbox hb; have n0_ := sQ hb; have n1_ := Aside0.mk (hbox); have n2_ := Aside0.mk ((by rw [hg]; exact (below_size (wB)) : w.heap.size ≤ gb101)); have n3_ := Aside0.mk ((by rw [hg]; exact (below_size (wB)) : w.heap.size ≤ gb101)); clear HB; have HB := n0_; have BK101 := n1_; have GW101 := n2_; have GE101 := n3_; clear n0_ n1_ n2_ n3_; clear hb hbox hg; obtain ⟨hcz11_0, hcz11_1, hfz11_0, hfz11_1⟩ := zZ BK101) | ((with_reducible refine gate_callee (f := 17) rfl ?_); refine gL 6 Tryz.func17 #[.agg #[.int .i64 a0_0, .slice A0_1 l0_1.length c0_1]] ?_; (with_reducible refine (impl_IsCommittee.calls k a0_0 _ _ l0_1 false _ ?side1 ?side2 A3.out).mono ?_); (case side1 => have hx_ := (Kd.C_below HR0_1.out HB.out); exact cC); (case side2 => exact HC0_1.out); rintro e w12 ⟨rfl, hb⟩; refine ⟨_, rfl, ?_⟩; have n0_ := bP BK101 hb; have n1_ := sQ hb; clear BK101; clear HB; have BK101 := n0_; have HB := n1_; clear n0_ n1_; (try clear hb); (try clear hb2); (try clear hk); (try clear hi)))
  go_ret
  exact ⟨fR, wB⟩
 subst c4
 replace H := iT H
 replace H := oB H
 obtain ⟨t103, A50, H⟩ := H
 replace H : (some t103) = some r := H
 have A5 := Aside0.mk A50
 clear A50
 obtain rfl := Option.some.inj H
 go_enter Tryz.func33, Tryz.ntmps33
 go_wp2_with (first | ((with_reducible refine gate_dst (N := 2) rfl ?_); (try (refine gate_guard (by rfl) ?_; dsimp only)); refine box_event ?hg (N := 2) ?hd (cs := #[.int .i64 a0_0, .slice A0_1 l0_1.length c0_1]) (t := 24) ?hr ?_; (case hd => rfl); (case hg => rfl); (case hr => first | (go_simp; done) | (go_simp; rfl)); intro gb101 hg w6 hbox hb; have n0_ := sQ hb; have n1_ := Aside0.mk (hbox); have n2_ := Aside0.mk ((by rw [hg]; exact (below_size (wB)) : w.heap.size ≤ gb101)); have n3_ := Aside0.mk ((by rw [hg]; exact (below_size (wB)) : w.heap.size ≤ gb101)); clear HB; have HB := n0_; have BK101 := n1_; have GW101 := n2_; have GE101 := n3_; clear n0_ n1_ n2_ n3_; clear hb hbox hg; obtain ⟨hcz7_0, hcz7_1, hfz7_0, hfz7_1⟩ := zZ BK101) | ((with_reducible refine gate_callee (f := 17) rfl ?_); refine gL 6 Tryz.func17 #[.agg #[.int .i64 a0_0, .slice A0_1 l0_1.length c0_1]] ?_; (with_reducible refine (impl_IsCommittee.calls k a0_0 _ _ l0_1 true _ ?side1 ?side2 A3.out).mono ?_); (case side1 => have hx_ := (Kd.C_below HR0_1.out HB.out); exact cC); (case side2 => exact HC0_1.out); rintro e w8 ⟨rfl, hb⟩; refine ⟨_, rfl, ?_⟩; have n0_ := bP BK101 hb; have n1_ := sQ hb; clear BK101; clear HB; have BK101 := n0_; have HB := n1_; clear n0_ n1_; (try clear hb); (try clear hb2); (try clear hk); (try clear hi); obtain ⟨hcz9_0, hcz9_1, hfz9_0, hfz9_1⟩ := zZ BK101) | (go_at_call 49; (with_reducible refine (impl_within.calls a1 0 (wrap64 ((l0_1.length : Int) - 1)) t103 _ A5.out).mono ?_); rintro e w' ⟨rfl, ⟨nd, rfl⟩⟩))
 go_ret
 exact ⟨fR, wB⟩
def impl_ifCommittee.f (k : Nat) (a0_0 : Int) (l0_1 : List Int) : Option (Int × List Int × Bool) := (impl_IsCommittee.f k a0_0 l0_1).bind fun t103 => (if t103 = true then (some (a0_0, l0_1, true)) else (some (0, ([] : List Int), false)))
theorem wHK_impl_ifCommittee {p : Prop} (h : p := by repeat (first | (with_reducible first | exact HK.out | apply Kept.alloc | apply Kept.drewN | apply Kept.drew | refine Kept.setCell ?_ (.inr GW101.out) _ | refine Kept.setCell ?_ (.inr GW102.out) _) | exact HK.out)) : p := h
theorem impl_ifCommittee.calls (k : Nat) (a0_0 : Int) (P0_1_ : Nat → Prop) (u9000_ : Value) (l0_1 : List Int) (r1 : Int) (r2 : List Int) (r3 : Bool) (w0 w : World) (hB : Below w0.heap.size w0 w) (ho0_1 : Kd.R (Kd.int .i64) 3 w w0.heap.size P0_1_ u9000_ l0_1) (h : impl_ifCommittee.f k a0_0 l0_1 = some (r1, r2, r3)) :
  Calls Tryz.prog 34 #[.agg #[.int .i64 a0_0, u9000_]] w fun e w' => ∃ v1_ : Value, e = .returned (.tuple #[.agg #[.int .i64 r1, v1_], .bool r3]) ∧ Kd.R (Kd.int .i64) 3 w' w0.heap.size (fun k_ => (P0_1_ k_ ∨ w.heap.size ≤ k_)) v1_ r2 ∧ Below w0.heap.size w0 w' ∧ Kept w w' (fun k_ => P0_1_ k_) := by
 have hu24 := Tryz.underlying24
 have HO0_1 := Aside0.mk (show Kd.R (Kd.int .i64) 3 w w0.heap.size (fun k_ => (P0_1_ k_ ∨ w.heap.size ≤ k_)) u9000_ l0_1 from Kd.R_mono ho0_1 (fun k_ hk => (.inl hk)))
 have HK := Aside0.mk (Kept.refl w (fun k_ => P0_1_ k_))
 have HW0 := Aside0.mk hB.size
 have HB := Aside0.mk hB
 clear hB
 have H := h
 unfold impl_ifCommittee.f at H
 clear h
 replace H := oB H
 obtain ⟨t103, A20, H⟩ := H
 replace H : (if t103 = true then (some (a0_0, l0_1, true)) else (some (0, ([] : List Int), false))) = some (r1, r2, r3) := H
 have A2 := Aside0.mk A20
 clear A20
 by_cases c3 : t103 = true
 rotate_left
 ·replace c3 := Bool.eq_false_iff.mpr c3
  subst c3
  replace H := iF H
  simp only [Option.some.injEq, Prod.mk.injEq] at H
  obtain ⟨rfl, rfl, rfl⟩ := H
  obtain ⟨Ao12, co12, eo12⟩ := Kd.R_slice HO0_1.out
  subst eo12
  go_enter Tryz.func34, Tryz.ntmps34
  go_wp2_with (first | ((with_reducible refine gate_dst (N := 1) rfl ?_); refine box_event ?hg (N := 1) ?hd (cs := #[.int .i64 a0_0, .slice Ao12 l0_1.length co12]) (t := 24) ?hr ?_; (case hd => rfl); (case hg => rfl); (case hr => first | (go_simp; done) | (go_simp; rfl)); intro gb101 hg w13 hbox hb; have n0_ := rP HO0_1 hb; have n1_ := Aside0.mk (Kept.below (S := (fun k_ => P0_1_ k_)) (wHK_impl_ifCommittee) hb); have n2_ := sQ hb; have n3_ := Aside0.mk (hbox); have n4_ := Aside0.mk ((by rw [hg]; exact (by first | exact HK.out.1 | exact (show Kept w _ (fun k_ => P0_1_ k_) from wHK_impl_ifCommittee).1) : w.heap.size ≤ gb101)); have n5_ := Aside0.mk ((by rw [hg]; exact (below_size (wB)) : w0.heap.size ≤ gb101)); clear HO0_1; clear HK; clear HB; have HO0_1 := n0_; have HK := n1_; have HB := n2_; have BK101 := n3_; have GW101 := n4_; have GE101 := n5_; clear n0_ n1_ n2_ n3_ n4_ n5_; clear hb hbox hg) | ((with_reducible refine gate_dst (N := 2) rfl ?_); refine box_event ?hg (N := 2) ?hd (cs := #[.int .i64 0, .slice none 0 0]) (t := 24) ?hr ?_; (case hd => rfl); (case hg => rfl); (case hr => first | (go_simp; done) | (go_simp; rfl)); intro gb102 hg w14 hbox hb; have n0_ := rP HO0_1 hb; have n1_ := bP BK101 hb; have n2_ := Aside0.mk (Kept.below (S := (fun k_ => P0_1_ k_)) (wHK_impl_ifCommittee) hb); have n3_ := sQ hb; have n4_ := Aside0.mk (hbox); have n5_ := Aside0.mk ((by rw [hg]; exact (by first | exact HK.out.1 | exact (show Kept w _ (fun k_ => P0_1_ k_) from wHK_impl_ifCommittee).1) : w.heap.size ≤ gb102)); have n6_ := Aside0.mk ((by rw [hg]; exact (below_size (wB)) : w0.heap.size ≤ gb102)); have n7_ := Aside0.mk ((by rw [hg]; exact Nat.ne_of_lt (blk_lt (g := gb101) (o := .cells #[.int .i64 a0_0, .slice Ao12 l0_1.length co12] 24 (0, 0)) (bQ BK101)) : gb101 ≠ gb102)); have n8_ := Aside0.mk ((by rw [hg]; exact Nat.ne_of_gt (blk_lt (g := gb101) (o := .cells #[.int .i64 a0_0, .slice Ao12 l0_1.length co12] 24 (0, 0)) (bQ BK101)) : gb102 ≠ gb101)); clear HO0_1; clear BK101; clear HK; clear HB; have HO0_1 := n0_; have BK101 := n1_; have HK := n2_; have HB := n3_; have BK102 := n4_; have GW102 := n5_; have GE102 := n6_; have NB101_102 := n7_; have NB102_101 := n8_; clear n0_ n1_ n2_ n3_ n4_ n5_ n6_ n7_ n8_; clear hb hbox hg; have hnb15 := NB101_102.out; have hnc15 := NB102_101.out; obtain ⟨hcz16_0, hcz16_1, hfz16_0, hfz16_1⟩ := zZ BK101) | ((with_reducible refine gate_callee (f := 17) rfl ?_); refine gL 5 Tryz.func17 #[.agg #[.int .i64 a0_0, .slice Ao12 l0_1.length co12]] ?_; (with_reducible refine (impl_IsCommittee.calls k a0_0 _ _ l0_1 false _ ?side1 ?side2 A2.out).mono ?_); (case side1 => have hx_ := (Kd.R_reads' HO0_1.out).2.2; exact cC); (case side2 => exact (Kd.R_reads' HO0_1.out).2.1); rintro e w17 ⟨rfl, hb⟩; refine ⟨_, rfl, ?_⟩; have n0_ := rP HO0_1 hb; have n1_ := bP BK101 hb; have n2_ := bP BK102 hb; have n3_ := Aside0.mk (Kept.below (S := (fun k_ => P0_1_ k_)) (wHK_impl_ifCommittee) hb); have n4_ := sQ hb; clear HO0_1; clear BK101; clear BK102; clear HK; clear HB; have HO0_1 := n0_; have BK101 := n1_; have BK102 := n2_; have HK := n3_; have HB := n4_; clear n0_ n1_ n2_ n3_ n4_; (try clear hb); (try clear hb2); (try clear hk); (try clear hi); obtain ⟨hcz18_0, hcz18_1, hfz18_0, hfz18_1⟩ := zZ BK102))
  refine bodyPost_ret (results_ct rfl _ _ gb102 24 #[.int .i64 0, .slice none 0 0] (0, 0) _ rfl (by (try refine bp ?_); refine blk_put (cs := #[.int .i64 0, .slice none 0 0]) ?_ 1 _ rfl; (try refine bp ?_); refine blk_put (cs := #[.int .i64 0, .slice none 0 0]) ?_ 0 _ rfl; (first | exact bp BK102.out | exact BK102.out)) Tryz.underlying24 rfl (by kernel_rfl)) rfl ?_
  exact ⟨_, fR, by first | exact Kd.R_nil _ _ _ _ _ | exact Kd.N_nil _ _ _ _ _ | exact Kd.V_nil _ _ _ _ _ | exact Kd.Q_nil _ _ _ _ _ | exact Kd.S_nil _ _ _ _ _, wB, wHK_impl_ifCommittee⟩
 subst c3
 replace H := iT H
 simp only [Option.some.injEq, Prod.mk.injEq] at H
 obtain ⟨rfl, rfl, rfl⟩ := H
 obtain ⟨Ao4, co4, eo4⟩ := Kd.R_slice HO0_1.out
 subst eo4
 go_enter Tryz.func34, Tryz.ntmps34
 go_wp2_with (first | ((with_reducible refine gate_dst (N := 1) rfl ?_); refine box_event ?hg (N := 1) ?hd (cs := #[.int .i64 a0_0, .slice Ao4 l0_1.length co4]) (t := 24) ?hr ?_; (case hd => rfl); (case hg => rfl); (case hr => first | (go_simp; done) | (go_simp; rfl)); intro gb101 hg w5 hbox hb; have n0_ := rP HO0_1 hb; have n1_ := Aside0.mk (Kept.below (S := (fun k_ => P0_1_ k_)) (wHK_impl_ifCommittee) hb); have n2_ := sQ hb; have n3_ := Aside0.mk (hbox); have n4_ := Aside0.mk ((by rw [hg]; exact (by first | exact HK.out.1 | exact (show Kept w _ (fun k_ => P0_1_ k_) from wHK_impl_ifCommittee).1) : w.heap.size ≤ gb101)); have n5_ := Aside0.mk ((by rw [hg]; exact (below_size (wB)) : w0.heap.size ≤ gb101)); clear HO0_1; clear HK; clear HB; have HO0_1 := n0_; have HK := n1_; have HB := n2_; have BK101 := n3_; have GW101 := n4_; have GE101 := n5_; clear n0_ n1_ n2_ n3_ n4_ n5_; clear hb hbox hg) | ((with_reducible refine gate_dst (N := 2) rfl ?_); refine box_event ?hg (N := 2) ?hd (cs := #[.int .i64 0, .slice none 0 0]) (t := 24) ?hr ?_; (case hd => rfl); (case hg => rfl); (case hr => first | (go_simp; done) | (go_simp; rfl)); intro gb102 hg w6 hbox hb; have n0_ := rP HO0_1 hb; have n1_ := bP BK101 hb; have n2_ := Aside0.mk (Kept.below (S := (fun k_ => P0_1_ k_)) (wHK_impl_ifCommittee) hb); have n3_ := sQ hb; have n4_ := Aside0.mk (hbox); have n5_ := Aside0.mk ((by rw [hg]; exact (by first | exact HK.out.1 | exact (show Kept w _ (fun k_ => P0_1_ k_) from wHK_impl_ifCommittee).1) : w.heap.size ≤ gb102)); have n6_ := Aside0.mk ((by rw [hg]; exact (below_size (wB)) : w0.heap.size ≤ gb102)); have n7_ := Aside0.mk ((by rw [hg]; exact Nat.ne_of_lt (blk_lt (g := gb101) (o := .cells #[.int .i64 a0_0, .slice Ao4 l0_1.length co4] 24 (0, 0)) (bQ BK101)) : gb101 ≠ gb102)); have n8_ := Aside0.mk ((by rw [hg]; exact Nat.ne_of_gt (blk_lt (g := gb101) (o := .cells #[.int .i64 a0_0, .slice Ao4 l0_1.length co4] 24 (0, 0)) (bQ BK101)) : gb102 ≠ gb101)); clear HO0_1; clear BK101; clear HK; clear HB; have HO0_1 := n0_; have BK101 := n1_; have HK := n2_; have HB := n3_; have BK102 := n4_; have GW102 := n5_; have GE102 := n6_; have NB101_102 := n7_; have NB102_101 := n8_; clear n0_ n1_ n2_ n3_ n4_ n5_ n6_ n7_ n8_; clear hb hbox hg; have hnb7 := NB101_102.out; have hnc7 := NB102_101.out; obtain ⟨hcz8_0, hcz8_1, hfz8_0, hfz8_1⟩ := zZ BK101) | ((with_reducible refine gate_callee (f := 17) rfl ?_); refine gL 5 Tryz.func17 #[.agg #[.int .i64 a0_0, .slice Ao4 l0_1.length co4]] ?_; (with_reducible refine (impl_IsCommittee.calls k a0_0 _ _ l0_1 true _ ?side1 ?side2 A2.out).mono ?_); (case side1 => have hx_ := (Kd.R_reads' HO0_1.out).2.2; exact cC); (case side2 => exact (Kd.R_reads' HO0_1.out).2.1); rintro e w9 ⟨rfl, hb⟩; refine ⟨_, rfl, ?_⟩; have n0_ := rP HO0_1 hb; have n1_ := bP BK101 hb; have n2_ := bP BK102 hb; have n3_ := Aside0.mk (Kept.below (S := (fun k_ => P0_1_ k_)) (wHK_impl_ifCommittee) hb); have n4_ := sQ hb; clear HO0_1; clear BK101; clear BK102; clear HK; clear HB; have HO0_1 := n0_; have BK101 := n1_; have BK102 := n2_; have HK := n3_; have HB := n4_; clear n0_ n1_ n2_ n3_ n4_; (try clear hb); (try clear hb2); (try clear hk); (try clear hi); obtain ⟨hcz10_0, hcz10_1, hfz10_0, hfz10_1⟩ := zZ BK101; obtain ⟨hcz11_0, hcz11_1, hfz11_0, hfz11_1⟩ := zZ BK102))
 refine bodyPost_ret (results_ct rfl _ _ gb102 24 #[.int .i64 a0_0, .slice Ao4 l0_1.length co4] (0, 0) _ rfl (by (try refine bp ?_); refine blk_put (cs := #[.int .i64 a0_0, .slice none 0 0]) ?_ 1 _ rfl; (try refine bp ?_); refine blk_put (cs := #[.int .i64 0, .slice none 0 0]) ?_ 0 _ rfl; (first | exact bp BK102.out | exact BK102.out)) Tryz.underlying24 rfl (by kernel_rfl)) rfl ?_
 exact ⟨_, fR, by (try refine rp ?_); exact Kd.R_mono (Kd.R_far (p := ⟨gb102, 1, none⟩) (Kd.R_far (p := ⟨gb102, 0, none⟩) (Kd.R_types HO0_1.out BK102.out (by decide)) (fun _ hk => hk.2) (.int .i64 a0_0)) (fun _ hk => hk.2) (.slice Ao4 l0_1.length co4)) (fun _ hk => hk.1), wB, wHK_impl_ifCommittee⟩
def slices_Delete_int_int.f (l0 : List Int) (a1 : Int) (a2 : Int) : Option (List Int) := if 0 < l0.length ∧ 0 ≤ a1 ∧ a1 ≤ a2 ∧ a2 ≤ (l0.length : Int) then some (l0.take a1.toNat ++ l0.drop a2.toNat) else none
theorem slices_Delete_int_int.calls (P0_ : Nat → Prop) (u9000_ : Value) (l0 : List Int) (a1 : Int) (a2 : Int) (r : List Int) (w0 w : World) (hB : Below w0.heap.size w0 w) (ho0 : Kd.R (Kd.int .i64) 3 w w0.heap.size P0_ u9000_ l0) (h : slices_Delete_int_int.f l0 a1 a2 = some r) :
  Calls Tryz.prog 35 #[u9000_, .int .i64 a1, .int .i64 a2] w fun e w' => ∃ v0_ : Value, e = .returned (v0_) ∧ Kd.R (Kd.int .i64) 3 w' w0.heap.size (fun k_ => (P0_ k_ ∨ w.heap.size ≤ k_)) v0_ r ∧ Below w0.heap.size w0 w' ∧ Kept w w' (fun k_ => P0_ k_) := by
 unfold slices_Delete_int_int.f at h
 by_cases hl : 0 < l0.length ∧ 0 ≤ a1 ∧ a1 ≤ a2 ∧ a2 ≤ (l0.length : Int)
 case neg => rw [if_neg hl] at h; cases h
 rw [if_pos hl] at h
 obtain rfl := Option.some.inj h
 obtain ⟨hl0, h1, h2, h3⟩ := hl
 obtain ⟨i, rfl⟩ := Int.eq_ofNat_of_zero_le h1
 obtain ⟨j, rfl⟩ := Int.eq_ofNat_of_zero_le (show 0 ≤ a2 by omega)
 have hij : i ≤ j := by omega
 have hj : j ≤ l0.length := by omega
 rw [Int.toNat_natCast, Int.toNat_natCast]
 obtain ⟨gb, cap, cur, rfl, hok, hbase, hh, hnc, hmax, hcs, hH⟩ := Go.Proofs.YtaambkdiokbdgacGreatDoorR.row_open ho0 hl0
 have hmx : cap ≤ 9223372036854775807 := Nat.le_trans hmax (by decide)
 have hc := Go.Proofs.AnyG.slices_Delete_int Go.Proofs.YtaambkdiokbdgacGreatDoorL.delI gb 0 cap i j l0 w hH hnc hmx hij hj
 change Calls Tryz.prog 35 _ _ _ at hc
 refine hc.mono ?_
 rintro e w' ⟨rfl, n, rfl⟩
 have hlen : (l0.take i ++ l0.drop j).length = l0.length - (j - i) := by rw [List.length_append, List.length_take, List.length_drop]; omega
 have hw := Go.Proofs.YtaambkdiokbdgacGreatDoorR.row_wrote (zs := l0.take i ++ l0.drop j ++ List.replicate (j - i) 0) (l0.take i ++ l0.drop j).length n #[] hB hok hbase hh hmax hcs (by rw [List.length_append, hlen, List.length_replicate]; omega) (by have h_ := @List.length_append _ (l0.take i ++ l0.drop j) (List.replicate (j - i) (0 : Int)); omega)
 rw [List.take_left] at hw
 have e1 : Go.Proofs.sortWorld (Value.int .i64) w gb 0 n (l0.take i ++ l0.drop j ++ List.replicate (j - i) 0).toArray #[] = Go.Sort.putRow (Value.int .i64) (Go.Sort.ahead w n) gb 0 (l0.take i ++ l0.drop j ++ List.replicate (j - i) 0).toArray := Go.Sort.grow_empty _
 rw [e1, hlen] at hw
 exact ⟨_, rfl, hw⟩
end Go.Proofs.YtaambkdiokbdgacGreatDoor.Q
