/- Printed functions, their contracts and plain facts on them: X; Y; L; M; S; O; Q0; QEq1; QImplSumOf; QSlicesIndexFuncIntInt172; QSlicesContainsFuncIntInt199; QImplWithin; QImplAreIn; QImplIsCommittee; QLawsBig; QImplHas; . Conditions: as each theorem states. -/
import Derived.Test.YtamfpkefnhcngaaGreatProg
import Derived.Deep.Cut
import Derived.Deep.LoopGhost
import Derived.KernelRfl
import Derived.Tactics
import Derived.WalkKit
import Derived.RowKit3
import Derived.Shelf.SlSortCmp.NoneTotal
import Derived.Laws.BitsLemmas
import Derived.Deep.Slices
import Derived.Lib.SmallJoins
import Derived.OpenShut
import Derived.ShutString
import Derived.ChangeArms
import Derived.ChangeOld
import Derived.Below
import Derived.Deep.Draws
import Derived.Deep.AppendLies
import Derived.Maps.AppendAt
import Derived.OwnWalk
import Derived.Laws.BytesArg
import Derived.Laws.MakeOwn
import Derived.Laws.OwnMore
import Derived.Deep.OwnRows
import Derived.Lib.ConvBytes
import Derived.Laws.Slices
import Derived.Deep.QuietTactic
import Derived.BigQuiet
import Derived.WideLaws
import Derived.Deep.DeepCutAuto
import Derived.Deep.CutBlock
import Derived.Deep.RegionHeld3
import Derived.Laws.Rows
import Derived.Lib.AppendStr
import Derived.ArgAppend
import Derived.Laws.IdiomCopy
import Derived.OrdersHeld
import Derived.RowKit
import Derived.Shelf.Abstract
import Derived.WalkSpells
import Derived.Test.YtamfpkefnhcngaaGreatGSwingsToldx0
set_option maxHeartbeats 40000000
set_option maxRecDepth 100000
namespace Go.Proofs.YtamfpkefnhcngaaGreatX
open Go.RowKit Go.Proofs.YtamfpkefnhcngaaGreatW.PrintWords Go.Proofs.YtamfpkefnhcngaaGreatW.PrintLast
section
variable {P : Program} {ops : Array Oper} {Q : Exit → Act → World → Prop}
theorem goesF_ {oi : Oper} {N : Option Tmp} {a : Act} {w : World} {K : Act → World → Prop} {o : Operand} {g : FuncId} {lb : Array Value} {xs_ : Array Operand} {ts : Array TypeId} (eg : ∀ args w, (callFunc g args).run P w = .ok (.enter g args) w) (args : Array Value)
    (hw : Region.wanted oi (yielded ops a.tmps) = true) (hN : oi.dst = N) (hop : oi.op = .call { callee := .value o, args := xs_, argTypes := ts }) (ho : a.eval o = .func (.func g) #[] lb) (hargs : xs_.map a.eval = args)
    (h : Calls P g (args ++ lb) w fun e w' => ∃ v, e = .returned v ∧ K (a.put N v) w') : if Region.wanted oi (yielded ops a.tmps) = true then Oper.wp P oi a w K Q else K (a.put N undef) w := by
  refine call_ g (args ++ lb) hw hN ?_ h
  unfold execOp
  simp [hop, resolve, Deferred.ofValue, invoke, ho, hargs, eg]
end
theorem ba {w W : World} (h : Below w.heap.size w W) (o : Obj) : Below w.heap.size w (W.alloc o) := below_alloc h o
theorem bd {B : Nat} {w W : World} (h : Below B w W) (n : Nat) : Below B w (W.drewN n) := pw_below_drewN h n
theorem be {base : Nat} {w W : World} (h : Below base w W) : Below base w W.drew := below_drew1 h
theorem bs {w W : World} {g j : Nat} {v : Value} (h : Below w.heap.size w W) (hg : w.heap.size ≤ g) : Below w.heap.size w (W.setCell ⟨g, j, none⟩ v) := below_set h hg
/-- w' stands some plain steps (draws, new blocks) behind w. -/
class Peel (w' : World) (w : outParam World) : Prop where
  same : ∀ k, k < w.heap.size → w'.heap[k]? = w.heap[k]?
  le : w.heap.size ≤ w'.heap.size
instance (priority := 100) peel_refl (w : World) : Peel w w := ⟨fun _ _ => rfl, Nat.le_refl _⟩
instance peel_drewN (w' w : World) (n : Nat) [h : Peel w' w] : Peel (w'.drewN n) w := ⟨h.same, h.le⟩
instance peel_drew (w' w : World) [h : Peel w' w] : Peel w'.drew w := ⟨h.same, h.le⟩
instance peel_alloc (w' w : World) (o : Obj) [h : Peel w' w] : Peel (w'.alloc o) w :=
  ⟨fun k hk => (Below.heap_alloc w' o k (Nat.lt_of_lt_of_le hk h.le)).trans (h.same k hk), Nat.le_trans h.le (by simp)⟩
theorem bp {w' w : World} {g : Nat} {o : Obj} [p : Peel w' w] (h : w.heap[g]? = some o) : w'.heap[g]? = some o := (p.same g (blk_lt h)).trans h
theorem rp {α : Type} {d : Kd α} {e : Nat} {w' w : World} {base : Nat} {ok : Nat → Prop} {v : Value} {xs : List α} [p : Peel w' w] (h : d.R e w base ok v xs) : d.R e w' base ok v xs := Kd.R_step h (fun k _ hk => p.same k hk)
theorem kA {w : World} {g : Nat} {o : Obj} (h : w.heap[g]? = some o) (o' : Obj) : (w.alloc o').heap[g]? = some o := blk_alloc h o'
theorem kD {w : World} {g : Nat} {o : Obj} (h : w.heap[g]? = some o) : w.drew.heap[g]? = some o := h
theorem kN {w : World} {g : Nat} {o : Obj} (h : w.heap[g]? = some o) (n : Nat) : (w.drewN n).heap[g]? = some o := h
section
variable {α : Type} {d : Kd α} {e : Nat} {w : World} {base : Nat} {ok : Nat → Prop} {v : Value} {xs : List α}
theorem qA (h : d.R e w base ok v xs) (o : Obj) : d.R e (w.alloc o) base ok v xs := Kd.R_alloc h o
theorem qD (h : d.R e w base ok v xs) : d.R e w.drew base ok v xs := Kd.R_drew h
theorem qN (h : d.R e w base ok v xs) (m : Nat) : d.R e (w.drewN m) base ok v xs := Kd.R_drewN h m
end
theorem sA {α : Type} (l : List α) (i : Nat) (a : α) : l.toArray.setIfInBounds i a = (l.set i a).toArray := List.setIfInBounds_toArray ..
theorem sZ {α : Type} (x : α) (xs : List α) (a : α) : (x :: xs).set 0 a = a :: xs := rfl
theorem sS {α : Type} (x : α) (xs : List α) (n : Nat) (a : α) : (x :: xs).set (n + 1) a = x :: xs.set n a := rfl
theorem oB {α β : Type} {x : Option α} {f : α → Option β} {b : β} (h : x.bind f = some b) : ∃ a, x = some a ∧ f a = some b := Option.bind_eq_some_iff.mp h
theorem mA {α β : Type} {f : α → β} {l : List α} : l.toArray.map f = (l.map f).toArray := List.map_toArray ..
theorem mC {α β : Type} {f : α → β} {a : α} {l : List α} : (a :: l).map f = f a :: l.map f := rfl
theorem mN {α β : Type} {f : α → β} : ([] : List α).map f = [] := rfl
abbrev T : Bool := true
abbrev F : Bool := false
def putM (T : Nat → Value) : Nat → List Bool → List Value → List Value
  | _, [], t => t
  | _, _ :: _, [] => []
  | i, true :: m, _ :: t => T i :: putM T (i + 1) m t
  | i, false :: m, v :: t => v :: putM T (i + 1) m t
def putT (m : List Bool) (T : Nat → Value) (tm : Array Value) : Array Value := (putM T 0 m tm.toList).toArray
theorem cutT_ {P : Program} {s : Code} {K : Act → World → Prop} {Q' : Exit → Act → World → Prop} {tm : Array Value} {df : List Deferred} {w : World} (m : List Bool) (rel : (Nat → Value) → World → Prop)
    (rest : ∀ T wc, rel T wc → K ⟨putT m T tm, df⟩ wc)
    (first : ∀ J K' : Act → World → Prop, (∀ T a' w', a' = ⟨putT m T tm, df⟩ → rel T w' → J a' w') → (∀ a' w', Met J a' w' → K' a' w') → s.wp P (Exit.then K' Q') ⟨tm, df⟩ w) : s.wp P (Exit.then K Q') ⟨tm, df⟩ w :=
  wp_cut (fun a' w' => ∃ T, a' = ⟨putT m T tm, df⟩ ∧ rel T w') (fun _ w' h => by obtain ⟨T, e, h⟩ := h; subst e; exact rest T w' h) fun J K' hJ hM => first J K' (fun T a' w' e h => hJ a' w' ⟨T, e, h⟩) hM
theorem meetT_ {J : Act → World → Prop} {m : List Bool} {tm : Array Value} {df : List Deferred} {rel : (Nat → Value) → World → Prop} {a' : Act} {w' : World} (hJ : ∀ T a' w', a' = ⟨putT m T tm, df⟩ → rel T w' → J a' w')
    (e : a' = ⟨putT m (fun n => a'.tmps.getD n undef) tm, df⟩) (h : rel (fun n => a'.tmps.getD n undef) w') : Met J a' w' := hJ _ _ _ e h
theorem loopT_ {P : Program} {Q : Exit → Act → World → Prop} {tm : Array Value} {df : List Deferred} {w : World} {c : Code} (m : List Bool) (k0 : Nat) (rel : Nat → (Nat → Value) → World → Prop)
    (e0 : (⟨tm, df⟩ : Act) = ⟨putT m (fun n => tm.getD n undef) tm, df⟩) (atStart : rel k0 (fun n => tm.getD n undef) w)
    (round : ∀ gk T wr, rel gk T wr → ∀ (J : Nat → Act → World → Prop) (K : Act → World → Prop), (∀ k T a' w', a' = ⟨putT m T tm, df⟩ → rel k T w' → J k a' w') → (∀ a' w', Handed J gk a' w' → K a' w') → c.wp P (Exit.then K Q) ⟨putT m T tm, df⟩ wr) : (Code.loop c).wp P Q ⟨tm, df⟩ w :=
  wp_loop_ghost_k (fun k a' w' => ∃ T, a' = ⟨putT m T tm, df⟩ ∧ rel k T w') k0 ⟨_, e0, atStart⟩ fun n a w h J K hJ hM => by
    obtain ⟨T, e, h⟩ := h
    subst e
    exact round n T w h J K (fun k T a' w' e h => hJ k a' w' ⟨T, e, h⟩) hM
theorem roundT_ {J : Nat → Act → World → Prop} {m : List Bool} {tm : Array Value} {df : List Deferred} {rel : Nat → (Nat → Value) → World → Prop} {gk : Nat} {a' : Act} {w' : World} (k : Nat) (h1 : k < gk) (hJ : ∀ k T a' w', a' = ⟨putT m T tm, df⟩ → rel k T w' → J k a' w')
    (e : a' = ⟨putT m (fun n => a'.tmps.getD n undef) tm, df⟩) (h : rel k (fun n => a'.tmps.getD n undef) w') : Handed J gk a' w' := Handed.intro k h1 (hJ k _ _ _ e h)
theorem ite_yes {α : Type} {c : Prop} [Decidable c] {x : Option α} {r : α} (h : (if c then x else none) = some r) : c ∧ x = some r := by
  by_cases hc : c
  · rw [if_pos hc] at h; exact ⟨hc, h⟩
  · rw [if_neg hc] at h; cases h
theorem ite_no {α : Type} {c : Prop} [Decidable c] {x : Option α} {r : α} (h : (if c then none else x) = some r) : ¬ c ∧ x = some r := by
  by_cases hc : c
  · rw [if_pos hc] at h; cases h
  · rw [if_neg hc] at h; exact ⟨hc, h⟩
theorem of_nbne {a b : Bool} (h : ¬ (a != b) = true) : a = b := by cases a <;> cases b <;> first | rfl | exact absurd rfl h
end Go.Proofs.YtamfpkefnhcngaaGreatX
namespace Go.Proofs.YtamfpkefnhcngaaGreatY
open Go.RowKit Go.Proofs.YtamfpkefnhcngaaGreatW.PrintWords Go.Proofs.YtamfpkefnhcngaaGreatW.PrintLast Go.Proofs.YtamfpkefnhcngaaGreatX
section
variable {P : Program} {ops : Array Oper} {Q : Exit → Act → World → Prop} {md : Region.Mode} {S : World → Prop} {ds : List Nat} {T : Bool × List (List Nat × List Nat)}
theorem pU (i : Nat) {N : Tmp} {oi : Oper} {v : Value} {fuel : Nat} {l l' : Array Bool} {a a' : Act} {w : World} (hT : Aside0 (rtab md ops = T)) (h : wpAnyLast P md ops Q S ds fuel l' a' w)
    (hi : ops[i]? = some oi := by rfl) (hN : oi.dst = some N := by rfl) (hl : l.setIfInBounds i true = l' := by simp only [sA, sZ, sS]; rfl) (hc : anyT T l.toList l'.toList i = true := by kernel_rfl)
    (hw : Region.wanted oi (yielded ops a.tmps) = true := by rfl) (hy : ∀ w', (execOp a.eval oi).run P w' = .ok (.value v) w' := by (intro w'; go_simp; with_reducible rfl))
    (ha : a.put (some N) v = a' := by simp only [Act.put, sA, sZ, sS, i64_w, i32_w]; rfl) (hQ : ∀ c a w, Q (.panic c) (a.put (some N) v) w → Q (.panic c) a w := by exact fun _ _ _ h => h) : wpAnyLast P md ops Q S ds (fuel + 1) l a w := by
  subst hl
  exact pure_ _ hi hN (any_of hT.out hc) (fun c a w => by rw [hN]; exact hQ c a w) (Or.inl ⟨hw, hy⟩) ha h
theorem pV (i : Nat) {N : Tmp} {oi : Oper} {fuel : Nat} {l l' : Array Bool} {a a' : Act} {w : World} (hT : Aside0 (rtab md ops = T)) (h : wpAnyLast P md ops Q S ds fuel l' a' w)
    (hi : ops[i]? = some oi := by rfl) (hN : oi.dst = some N := by rfl) (hl : l.setIfInBounds i true = l' := by simp only [sA, sZ, sS]; rfl) (hc : anyT T l.toList l'.toList i = true := by kernel_rfl)
    (hw : Region.wanted oi (yielded ops a.tmps) = false := by rfl)
    (ha : a.put (some N) undef = a' := by simp only [Act.put, sA, sZ, sS, i64_w, i32_w]; rfl) (hQ : ∀ c a w, Q (.panic c) (a.put (some N) undef) w → Q (.panic c) a w := by exact fun _ _ _ h => h) : wpAnyLast P md ops Q S ds (fuel + 1) l a w := by
  subst hl
  exact pure_ _ hi hN (any_of hT.out hc) (fun c a w => by rw [hN]; exact hQ c a w) (Or.inr ⟨hw, rfl⟩) ha h
theorem tK (i : Nat) {N : Tmp} {oi : Oper} {v : Value} {fuel : Nat} {l l' : Array Bool} {a a' : Act} {w : World} {B : List Nat} (hT : Aside0 (rtab md ops = T)) (hB : Aside0 (waitsOk T.2 B = true)) (hS : S w) (h : wpAnyLast P md ops Q S ds fuel l' a' w)
    (hi : ops[i]? = some oi := by rfl) (hN : oi.dst = some N := by rfl) (hl : l.setIfInBounds i true = l' := by simp only [sA, sZ, sS]; rfl) (hc : takeW T B ds l.toList l'.toList i = true := by kernel_rfl)
    (hw : Region.wanted oi (yielded ops a.tmps) = true := by rfl) (hy : ∀ w', S w' → (execOp a.eval oi).run P w' = .ok (.value v) w')
    (ha : a.put (some N) v = a' := by simp only [Act.put, sA, sZ, sS, i64_w, i32_w]; rfl) (hQ : ∀ c a w, Q (.panic c) (a.put (some N) v) w → Q (.panic c) a w := by exact fun _ _ _ h => h) : wpAnyLast P md ops Q S ds (fuel + 1) l a w := by
  subst hl
  exact take_ _ hi hN (take_ofW hT.out hB.out hc) (fun c a w => by rw [hN]; exact hQ c a w) (Or.inl ⟨hw, hy⟩) hS ha h
theorem oN (i : Nat) {N : Option Tmp} {oi : Oper} {fuel : Nat} {l l' : Array Bool} {a : Act} {w : World} (hT : Aside0 (rtab md ops = T))
    (h : ∀ K : Act → World → Prop, Shut (∀ a' w', S w' → (S w' → wpAnyLast P md ops Q S ds fuel l' a' w') → K a' w') → if Region.wanted oi (yielded ops a.tmps) = true then Oper.wp P oi a w K Q else K (a.put N undef) w)
    (hi : ops[i]? = some oi := by rfl) (hN : oi.dst = N := by rfl) (hl : l.setIfInBounds i true = l' := by simp only [sA, sZ, sS]; rfl) (hc : (readyT T.2 l.toList == [i] && l.toList.set i true == l'.toList) = true := by kernel_rfl) (hd : i ∉ ds := by decide) : wpAnyLast P md ops Q S ds (fuel + 1) l a w := by
  subst hl
  exact one_ _ hi hN (one_of hT.out hc) hd h
theorem nM {fuel : Nat} {l : Array Bool} {a a' : Act} {N : Tmp} {v : Value} {w : World} (h : wpAnyLast P md ops Q S ds fuel l a' w) (ha : Act.put a (some N) v = a' := by simp only [Act.put, sA, sZ, sS, i64_w, i32_w]; rfl) : wpAnyLast P md ops Q S ds fuel l (a.put (some N) v) w := norm_ ha h
theorem gE {oi : Oper} {N : Option Tmp} {a : Act} {w : World} {K : Act → World → Prop} {f : FuncId} {fn : Func} {as_ : Array Operand} {ts : Array TypeId} (hf : P.funcs[f]? = some fn) (args : Array Value)
    (h : Calls P f args w fun e w' => ∃ v, e = .returned v ∧ K (a.put N v) w') (hname : (fn.name == "runtime.NumGoroutine") = false := by kernel_rfl) (hb : fn.body.isSome = true := by rfl)
    (hw : Region.wanted oi (yielded ops a.tmps) = true := by rfl) (hN : oi.dst = N := by rfl) (hop : oi.op = .call { callee := .value (.func f), args := as_, argTypes := ts } := by rfl)
    (hargs : as_.map a.eval = args := by (try simp only [mA, mC, mN]); first | done | rfl | (simp only [List.length_drop, List.length_take]; rfl)) : if Region.wanted oi (yielded ops a.tmps) = true then Oper.wp P oi a w K Q else K (a.put N undef) w := goes_ hf hname hb args hw hN hop hargs h
theorem gL {rest : List Oper} {oi : Oper} {a : Act} {w : World} (N : Tmp) {f : FuncId} {fn : Func} {as_ : Array Operand} {ts : Array TypeId} (hf : P.funcs[f]? = some fn) (args : Array Value)
    (h : Calls P f args w fun e w' => ∃ v, e = .returned v ∧ wpList P ops Q rest (a.put (some N) v) w') (hd : oi.dst = some N := by rfl) (hg : oi.guard = none := by rfl) (hname : (fn.name == "runtime.NumGoroutine") = false := by kernel_rfl) (hb : fn.body.isSome = true := by rfl)
    (hop : oi.op = .call { callee := .value (.func f), args := as_, argTypes := ts } := by rfl)
    (hargs : as_.map a.eval = args := by (try simp only [mA, mC, mN]); first | done | rfl | (simp only [List.length_drop, List.length_take]; rfl)) : wpList P ops Q (oi :: rest) a w := goesL_ (some N) hd hg hf hname hb args hop hargs h
theorem xE {o : Oper} {a : Act} {rest : List Oper} {W : World} {N : Tmp} {cs : Array Value} {t : TypeId}
    (h : ∀ g, g = W.heap.size → ∀ w1, Aside0 (w1.heap[g]? = some (.cells cs t (0, 0))) → Below W.heap.size W w1 → wpList P ops Q rest (a.put (some N) (.pointer (some ⟨g, 0, none⟩))) w1)
    (hd : o.dst = some N := by rfl) (hgd : o.guard = none := by rfl) (hrun : (execOp a.eval o).run P W = .ok (.value (.pointer (some ⟨W.heap.size, 0, none⟩))) (W.alloc (.cells cs t (0, 0))) := by first | (go_simp; done) | (go_simp; rfl)) : wpList P ops Q (o :: rest) a W :=
  box_event hgd hd hrun (fun g hg w1 hb hB => by rw [hd]; exact h g hg w1 ⟨hb⟩ hB)
end
theorem oD {p : Prop} [Decidable p] (h : decide p = true := by first | (with_reducible assumption) | assumption) : p := of_decide_eq_true h
theorem oA {α β : Type} {o : Option α} {f : α → Option β} {r : β} (h : o.bind f = some r) : ∃ t, Aside0 (o = some t) ∧ f t = some r := by
  obtain ⟨t, h1, h2⟩ := Option.bind_eq_some_iff.mp h
  exact ⟨t, ⟨h1⟩, h2⟩
theorem iT {α : Type} {a b r : α} {d : Decidable (true = true)} (h : @ite α (true = true) d a b = r) : a = r := by rwa [if_pos rfl] at h
theorem iF {α : Type} {a b r : α} {d : Decidable (false = true)} (h : @ite α (false = true) d a b = r) : b = r := by rwa [if_neg (fun h => nomatch h)] at h
theorem bB {w w1 : World} {g : Nat} {o : Obj} (h : Aside0 (w.heap[g]? = some o)) (hb : Below w.heap.size w w1) : Aside0 (w1.heap[g]? = some o) := ⟨blk_below h.out hb⟩
theorem sB {w W w2 : World} (h : Aside0 (Below w.heap.size w W)) (k : Below W.heap.size W w2) : Aside0 (Below w.heap.size w w2) := ⟨below_step h.out k⟩
theorem gS {w W : World} {g : Nat} (hg : g = W.heap.size) (h : Aside0 (Below w.heap.size w W)) : Aside0 (w.heap.size ≤ g) := ⟨by rw [hg]; exact below_size h.out⟩
theorem cZ {w : World} {g : Nat} {t : TypeId} {cs : Array Value} (h : Aside0 (w.heap[g]? = some (.cells cs t (0, 0)))) (i : Nat) {v : Value} (e : cs[i]? = some v := by rfl) : w.cell? ⟨g, i, none⟩ = some v := (blk_cell h.out i).trans e
theorem fZ {w : World} {g : Nat} {t : TypeId} {cs : Array Value} (h : Aside0 (w.heap[g]? = some (.cells cs t (0, 0)))) (i : Nat) : w.frozen? ⟨g, i, none⟩ = false := blk_frozen h.out i
theorem nL {a b c : Nat} (hg : b = c) (h : a < c) : Aside0 (a ≠ b) := ⟨by omega⟩
theorem nG {a b c : Nat} (hg : b = c) (h : a < c) : Aside0 (b ≠ a) := ⟨by omega⟩
theorem aS {p : Prop} (h : p) : Aside0 p := ⟨h⟩
theorem rB {α : Type} {d : Kd α} {e : Nat} {w w1 : World} {base : Nat} {ok : Nat → Prop} {v : Value} {xs : List α} (h : Aside0 (d.R e w base ok v xs)) (hb : Below w.heap.size w w1) : Aside0 (d.R e w1 base ok v xs) := ⟨Kd.R_below h.out hb⟩
theorem tB {α : Type} {d : Kd α} {e : Nat} {w w1 : World} {base : Nat} {ok : Nat → Prop} {v : Value} {xs : List α} (h : Aside0 (Kd.S d e w base ok v xs)) (hb : Below w.heap.size w w1) : Aside0 (Kd.S d e w1 base ok v xs) := ⟨Kd.S_below h.out hb⟩
theorem bP {w W w1 : World} {g : Nat} {o : Obj} (h : Aside0 (w.heap[g]? = some o)) (hb : Below W.heap.size W w1) (hp : w.heap[g]? = some o → W.heap[g]? = some o := by intro hz_; (with_reducible repeat (first | refine kN ?_ _ | refine kD ?_ | refine kA ?_ _)); exact hz_) : Aside0 (w1.heap[g]? = some o) := ⟨blk_below (hp h.out) hb⟩
theorem rP {α : Type} {d : Kd α} {e : Nat} {w W w1 : World} {base : Nat} {ok : Nat → Prop} {v : Value} {xs : List α} (h : Aside0 (d.R e w base ok v xs)) (hb : Below W.heap.size W w1) (hp : d.R e w base ok v xs → d.R e W base ok v xs := by intro hz_; (with_reducible repeat (first | apply qA | apply qN | apply qD)); exact hz_) : Aside0 (d.R e w1 base ok v xs) := ⟨Kd.R_below (hp h.out) hb⟩
theorem sQ {w W w2 : World} (k : Below W.heap.size W w2) (hp : Below w.heap.size w W := by repeat (first | exact HB.out | apply ba | apply bd | apply be | refine bs ?_ (Aside0.out (by assumption)))) : Aside0 (Below w.heap.size w w2) := ⟨below_step hp k⟩
theorem wB {p : Prop} (h : p := by repeat (first | (with_reducible first | exact HB.out | apply ba | apply bd | apply be | refine bs ?_ (Aside0.out (by assumption))) | exact HB.out)) : p := h
theorem fR {p : Prop} (h : p := by first | rfl | (simp <;> rfl) | (simp [*] <;> rfl)) : p := h
theorem gR {p : Prop} (h : p := by first | rfl | (simp; done) | (simp [*]; done)) : p := h
theorem dR {p : Prop} (h : p := by first | exact ⟨rfl, _, World.drewN_drewN _ _ _⟩ | exact ⟨rfl, _, Eq.trans (World.drewN_drewN _ _ _) (congrArg (World.drewN _) (Nat.add_assoc _ _ _))⟩) : p := h
theorem dS {p : Prop} (h : p := by repeat (first | exact Drawn0.refl _ | apply Drawn0.step)) : p := h
theorem cC {p : Prop} (h : p := by repeat (first | exact hx_ | (with_reducible refine Kd.C_alloc ?_ _) | (with_reducible refine Kd.C_drewN ?_ _) | (with_reducible refine Kd.C_drew ?_))) : p := h
theorem oN' {p : Prop} (h : p := by have := HK1.out; first | omega | exact Nat.le_refl _) : p := h
theorem sE {P : Program} {ops : Array Oper} {Q : Exit → Act → World → Prop} {rest : List Oper} {o : Oper} {a : Act} {W w1 : World} {t : TypeId} {p : Tmp} {v : Operand} (h : ∀ w', w' = w1 → wpList P ops Q rest a w')
    (hgd : o.guard = none := by rfl) (ho : o.op = .store t (.tmp p) v := by rfl) (hN : o.dst = none := by rfl) (hrun : (execOp a.eval o).run P W = .ok .skip w1 := by first | (go_simp; done) | (go_simp; rfl)) : wpList P ops Q (o :: rest) a W := store_event hgd ho hN hrun h
abbrev nb (v : Value) (k : Nat) : Prop := some k ≠ v.ownBlock
theorem rQ {α : Type} {d : Kd α} {e : Nat} {w : World} {base : Nat} {ok : Nat → Prop} {v : Value} {xs : List α} {p : Prop} (h : Aside0 (d.R e w base ok v xs)) (hp : d.R e w base ok v xs → p := by intro hz_; (with_reducible repeat (first | apply qA | apply qN | apply qD)); exact hz_) : p := hp h.out
theorem bQ {w : World} {g : Nat} {o : Obj} {p : Prop} (h : Aside0 (w.heap[g]? = some o)) (hp : w.heap[g]? = some o → p := by intro hz_; (with_reducible repeat (first | refine kN ?_ _ | refine kD ?_ | refine kA ?_ _)); exact hz_) : p := hp h.out
theorem rE {α : Type} {d : Kd α} {e : Nat} {w W w1 : World} {base : Nat} {ok : Nat → Prop} {u v : Value} {xs : List α} (h : Aside0 (d.R e w base ok u xs)) (hbase : ∀ k, v.ownBlock = some k → W.heap.size ≤ k) (hb : Below W.heap.size W w1) (hp : d.R e w base ok u xs → d.R e W base ok u xs := by intro hz_; (with_reducible repeat (first | apply qA | apply qN | apply qD)); exact hz_) : Aside0 (d.R e w1 base (fun k => ok k ∧ some k ≠ v.ownBlock) u xs) := ⟨Kd.R_elder' (hp h.out) hbase hb⟩
theorem tE {α : Type} {d : Kd α} {e : Nat} {w W w1 : World} {base : Nat} {ok : Nat → Prop} {u v : Value} {xs : List α} (h : Aside0 (Kd.S d e w base ok u xs)) (hbase : ∀ k, v.ownBlock = some k → W.heap.size ≤ k) (hb : Below W.heap.size W w1) (hp : Kd.S d e w base ok u xs → Kd.S d e W base ok u xs := by intro hz_; (with_reducible repeat (first | apply Kd.S_alloc | apply Kd.S_drewN | apply Kd.S_drew)); exact hz_) : Aside0 (Kd.S d e w1 base (fun k => ok k ∧ some k ≠ v.ownBlock) u xs) := ⟨Kd.S_elder' (hp h.out) hbase hb⟩
theorem rD {α : Type} {d : Kd α} {e : Nat} {w : World} {base : Nat} {ok : Nat → Prop} {v : Value} {xs : List α} (h : Aside0 (d.R e w base ok v xs)) : Aside0 (d.R e w.drew base ok v xs) := ⟨Kd.R_drew h.out⟩
theorem bD {w : World} {g : Nat} {o : Obj} (h : Aside0 (w.heap[g]? = some o)) : Aside0 (w.drew.heap[g]? = some o) := ⟨blk_drew h.out⟩
theorem aP {p q : Nat → Prop} (h : ∀ k, p k → q k := by intro _ hk; simp [hk]) : ∀ k, p k → q k := h
theorem gT {w W : World} {g : Nat} (hg : g = W.heap.size) (h : Below w.heap.size w W := by repeat (first | exact HB.out | apply ba | apply bd | apply be)) : Aside0 (w.heap.size ≤ g) := ⟨by rw [hg]; exact below_size h⟩
theorem zZ {w : World} {g : Nat} {t : TypeId} {a b : Value} (h : Aside0 (w.heap[g]? = some (.cells #[a, b] t (0, 0)))) : w.cell? ⟨g, 0, none⟩ = some a ∧ w.cell? ⟨g, 1, none⟩ = some b ∧ w.frozen? ⟨g, 0, none⟩ = false ∧ w.frozen? ⟨g, 1, none⟩ = false := ⟨cZ h 0, cZ h 1, fZ h 0, fZ h 1⟩
end Go.Proofs.YtamfpkefnhcngaaGreatY
namespace Go.Proofs.YtamfpkefnhcngaaGreatL
open Go.Shelf
def sortLL_ren : Go.Shelf.Ren := ⟨fun | 6 => 210 | 15 => 228 | 14 => 227 | 28 => 241 | 29 => 242 | 20 => 233 | 21 => 234 | 22 => 235 | 23 => 236 | 24 => 237 | 25 => 238 | 26 => 239 | 27 => 240 | 46 => 243 | 47 => 244 | 48 => 245 | 49 => 246 | 50 => 247 | 57 => 248 | n => n, fun | 22 => 45 | 24 => 24 | 25 => 120 | 3 => 3 | 39 => 122 | 0 => 0 | 53 => 126 | 55 => 80 | 4 => 4 | 46 => 131 | 45 => 130 | 50 => 31 | 5 => 5 | 9 => 9 | 66 => 136 | 70 => 140 | 76 => 142 | 77 => 143 | n => n, fun | n => n⟩
theorem sortLL : Go.Proofs.SlLaysF.n6 Tryz.prog sortLL_ren := {
  mixed := by kernel_rfl
  f6 := ⟨Tryz.f210.name, by decide, Tryz.func210.trans (congrArg some (by kernel_rfl))⟩
  f14 := ⟨Tryz.f227.name, by decide, Tryz.func227.trans (congrArg some (by kernel_rfl))⟩
  f15 := Tryz.func228.trans (congrArg some (by kernel_rfl))
  f20 := ⟨Tryz.f233.name, by decide, Tryz.func233.trans (congrArg some (by kernel_rfl))⟩
  f21 := ⟨Tryz.f234.name, by decide, Tryz.func234.trans (congrArg some (by kernel_rfl))⟩
  f22 := ⟨Tryz.f235.name, by decide, Tryz.func235.trans (congrArg some (by kernel_rfl))⟩
  f23 := ⟨Tryz.f236.name, by decide, Tryz.func236.trans (congrArg some (by kernel_rfl))⟩
  f24 := ⟨Tryz.f237.name, by decide, Tryz.func237.trans (congrArg some (by kernel_rfl))⟩
  f25 := ⟨Tryz.f238.name, by decide, Tryz.func238.trans (congrArg some (by kernel_rfl))⟩
  f26 := ⟨Tryz.f239.name, by decide, Tryz.func239.trans (congrArg some (by kernel_rfl))⟩
  f27 := ⟨Tryz.f240.name, by decide, Tryz.func240.trans (congrArg some (by kernel_rfl))⟩
  f28 := Tryz.func241.trans (congrArg some (by kernel_rfl))
  f29 := Tryz.func242.trans (congrArg some (by kernel_rfl))
  f46 := ⟨Tryz.f243.name, by decide, Tryz.func243.trans (congrArg some (by kernel_rfl))⟩
  f47 := Tryz.func244.trans (congrArg some (by kernel_rfl))
  f48 := Tryz.func245.trans (congrArg some (by kernel_rfl))
  f49 := ⟨Tryz.f246.name, by decide, Tryz.func246.trans (congrArg some (by kernel_rfl))⟩
  f50 := ⟨Tryz.f247.name, by decide, Tryz.func247.trans (congrArg some (by kernel_rfl))⟩
  f57 := ⟨Tryz.f248.name, by decide, Tryz.func248.trans (congrArg some (by kernel_rfl))⟩
  t0 := Tryz.underlying0
  a0 := Tryz.isAgg0
  z0 := Tryz.sizeOf0
  v0 := Tryz.zeroValue0
  t3 := Tryz.underlying3
  a3 := Tryz.isAgg3
  z3 := Tryz.sizeOf3
  v3 := Tryz.zeroValue3
  t4 := Tryz.underlying4
  a4 := Tryz.isAgg4
  z4 := Tryz.sizeOf4
  v4 := Tryz.zeroValue4
  t5 := Tryz.underlying5
  a5 := Tryz.isAgg5
  z5 := Tryz.sizeOf5
  v5 := Tryz.zeroValue5
  t9 := Tryz.underlying9
  a9 := Tryz.isAgg9
  z9 := Tryz.sizeOf9
  v9 := Tryz.zeroValue9
  t22 := Tryz.underlying45
  a22 := Tryz.isAgg45
  z22 := Tryz.sizeOf45
  v22 := Tryz.zeroValue45
  a24 := Tryz.isAgg24
  z24 := Tryz.sizeOf24
  t25 := Tryz.underlying120
  a25 := Tryz.isAgg120
  z25 := Tryz.sizeOf120
  v25 := Tryz.zeroValue120
  t39 := Tryz.underlying122
  a39 := Tryz.isAgg122
  z39 := Tryz.sizeOf122
  v39 := Tryz.zeroValue122
  t45 := Tryz.underlying130
  a45 := Tryz.isAgg130
  z45 := Tryz.sizeOf130
  v45 := Tryz.zeroValue130
  t46 := Tryz.underlying131
  a46 := Tryz.isAgg131
  z46 := Tryz.sizeOf131
  v46 := Tryz.zeroValue131
  t50 := Tryz.underlying31
  a50 := Tryz.isAgg31
  z50 := Tryz.sizeOf31
  v50 := Tryz.zeroValue31
  t53 := Tryz.underlying126
  a53 := Tryz.isAgg126
  z53 := Tryz.sizeOf126
  v53 := Tryz.zeroValue126
  t55 := Tryz.underlying80
  a55 := Tryz.isAgg80
  z55 := Tryz.sizeOf80
  v55 := Tryz.zeroValue80
  t66 := Tryz.underlying136
  a66 := Tryz.isAgg136
  z66 := Tryz.sizeOf136
  v66 := Tryz.zeroValue136
  t70 := Tryz.underlying140
  a70 := Tryz.isAgg140
  z70 := Tryz.sizeOf140
  v70 := Tryz.zeroValue140
  t76 := Tryz.underlying142
  a76 := Tryz.isAgg142
  z76 := Tryz.sizeOf142
  v76 := Tryz.zeroValue142
  t77 := Tryz.underlying143
  a77 := Tryz.isAgg143
  z77 := Tryz.sizeOf143
  v77 := Tryz.zeroValue143 }
end Go.Proofs.YtamfpkefnhcngaaGreatL
namespace Go.Proofs.YtamfpkefnhcngaaGreatM
open Go.RowKit Go.Proofs.YtamfpkefnhcngaaGreatW.PrintWords Go.Proofs.YtamfpkefnhcngaaGreatW.PrintMore
theorem ev_pos {α : Type} {c : Prop} [Decidable c] {g f : Nat → Option α} {r : α} (h : c) : Ev (fun k => if c then g k else f k) r ↔ Ev g r := by simp only [if_pos h]
theorem ev_neg {α : Type} {c : Prop} [Decidable c] {g f : Nat → Option α} {r : α} (h : ¬ c) : Ev (fun k => if c then g k else f k) r ↔ Ev f r := by simp only [if_neg h]
theorem ev_bind {α β : Type} {g : Nat → Option α} {f : Nat → α → Option β} {a : α} {r : β} (h : Ev g a) : Ev (fun n => (g n).bind (f n)) r ↔ Ev (fun n => f n a) r := by
  refine ⟨fun hb => ?_, fun k => Ev.bind h k⟩
  obtain ⟨K, h⟩ := h
  obtain ⟨K', hb⟩ := hb
  refine ⟨max K K', fun n hn => ?_⟩
  have h1 := h n (by omega)
  have h2 := hb n (by omega)
  simpa only [h1, Option.bind_some] using h2
theorem ev_now {α : Type} {a r : α} : Ev (fun _ => some a) r ↔ a = r := by
  refine ⟨fun ⟨K, h⟩ => Option.some.inj (h K (Nat.le_refl _)), fun h => h ▸ Ev.now a⟩
theorem ev_of {α : Type} {a : Option α} {r : α} (h : a = some r) : Ev (fun _ => a) r := ⟨0, fun _ _ => h⟩
theorem ev_step {α : Type} {g : Nat → Option α} {r : α} (k : Ev (fun n => g (n + 1)) r) : Ev g r := Ev.step (fun _ => rfl) k
theorem ev_all {α : Type} (N : Nat) (g : Nat → Nat → Option α) (p : Nat → α) (h : ∀ m, m < N → Ev (fun k => g k m) (p m)) : ∃ K, ∀ k, K ≤ k → ∀ m, m < N → g k m = some (p m) := by
  induction N with
  | zero => exact ⟨0, fun _ _ m hm => absurd hm (Nat.not_lt_zero m)⟩
  | succ N ih =>
    obtain ⟨K, hK⟩ := ih (fun m hm => h m (by omega))
    obtain ⟨K', hK'⟩ := h N (by omega)
    refine ⟨max K K', fun k hk m hm => ?_⟩
    by_cases e : m = N
    · subst e
      exact hK' k (by omega)
    · exact hK k (by omega) m (by omega)
theorem w64 {x : Int} (h0 : -9223372036854775808 ≤ x) (h1 : x ≤ 9223372036854775807) : wrap64 x = x := by unfold wrap64; omega
theorem w64i {i : Int} {n : Nat} (h0 : 0 ≤ i) (h : i < (n : Int)) (hn : n ≤ 9223372036854775807) : wrap64 (i + 1) = i + 1 := by unfold wrap64; omega
theorem rd_lt (l : List Int) (i : Nat) (h : i < l.length) : rd l (i : Int) = l[i] := by simp [rd, h]
theorem rdOf_nat {α : Type} (d : α) (l : List α) (i : Nat) : rdOf d l (i : Int) = l.getD i d := by simp [rdOf]
theorem rdOf_lt {α : Type} (d : α) (l : List α) (i : Nat) (h : i < l.length) : rdOf d l (i : Int) = l[i] := by simp [rdOf, h]
def wfold (l : List Int) (s : Int) : Int := l.foldl (fun s x => wrap64 (s + x)) s
theorem wfold_sum (l : List Int) : ∀ s : Int, (∀ x ∈ l, 0 ≤ x ∧ x ≤ 1000000) → 0 ≤ s → s + 1000000 * (l.length : Int) ≤ 9000000000000000000 → wfold l s = s + l.sum := by
  induction l with
  | nil => intro s _ _ _; simp [wfold]
  | cons a l ih =>
    intro s h h0 h1
    have ha := h a (by simp)
    simp only [List.length_cons] at h1
    have e : wrap64 (s + a) = s + a := w64 (by omega) (by omega)
    show wfold l (wrap64 (s + a)) = _
    rw [e, ih (s + a) (fun x hx => h x (by simp [hx])) (by omega) (by omega), List.sum_cons, Int.add_assoc]
theorem wfold_take (l : List Int) (i : Nat) (h : i < l.length) (s : Int) : wfold (l.drop i) s = wfold (l.drop (i + 1)) (wrap64 (s + l[i])) := by
  rw [List.drop_eq_getElem_cons h]
  rfl
def goodB (q : Int) (l : List Int) : Bool := decide (1 ≤ l.length) && decide (l.length ≤ 9) && (l.all fun x => decide (0 ≤ x) && decide (x ≤ 1000)) && (decide (1 ≤ q) && decide (q ≤ l.sum))
theorem wfold_w (l : List Int) (h : l.length ≤ 9) (hb : (l.all fun x => decide (0 ≤ x) && decide (x ≤ 1000)) = true) : wfold l 0 = l.sum := by
  rw [wfold_sum l 0 (fun x hx => ?_) (by omega) (by omega), Int.zero_add]
  have := List.all_eq_true.1 hb x hx
  simp at this
  omega
structure GoodC (q : Int) (l : List Int) : Prop where
  l1 : 1 ≤ l.length
  l9 : l.length ≤ 9
  w : ∀ x ∈ l, 0 ≤ x ∧ x ≤ 1000
  q1 : 1 ≤ q
  qs : q ≤ l.sum
theorem good_iff (q : Int) (l : List Int) : goodB q l = true ↔ GoodC q l := by
  unfold goodB
  simp only [Bool.and_eq_true, decide_eq_true_eq, List.all_eq_true]
  exact ⟨fun ⟨⟨⟨a, b⟩, c⟩, d, e⟩ => ⟨a, b, c, d, e⟩, fun h => ⟨⟨⟨h.l1, h.l9⟩, h.w⟩, h.q1, h.qs⟩⟩
theorem sum_bounds (l : List Int) (c : Int) (h : ∀ x ∈ l, 0 ≤ x ∧ x ≤ c) : 0 ≤ l.sum ∧ l.sum ≤ c * l.length := by
  induction l with
  | nil => simp
  | cons a l ih =>
    have h1 := h a (by simp)
    have h2 := ih (fun x hx => h x (by simp [hx]))
    rw [List.sum_cons, List.length_cons]
    have : c * ((l.length + 1 : Nat) : Int) = c * l.length + c := by rw [Int.natCast_add, Int.mul_add]; simp
    omega
theorem GoodC.sum {q : Int} {l : List Int} (h : GoodC q l) : 1 ≤ l.sum ∧ l.sum ≤ 9000 := by
  have h1 := sum_bounds l 1000 h.w
  have h2 := h.q1
  have h3 := h.qs
  have h4 := h.l9
  omega
def OkI (n : Int) : Prop := (Lit.int .i64 n).wf = true
def OkB (n : Int) : Prop := (Lit.int .u8 n).wf = true
def OkBL (l : List Int) : Prop := l.length ≤ maxLen ∧ ∀ x ∈ l, OkB x
theorem OkI.range {n : Int} (h : OkI n) : -9223372036854775808 ≤ n ∧ n ≤ 9223372036854775807 := by
  simp [OkI, Lit.wf, IntKind.min, IntKind.max, IntKind.bits, IntKind.signed] at h
  omega
def wsum : List Int → Nat → Int
  | [], _ => 0
  | w :: ws, m => (if m % 2 = 1 then w else 0) + wsum ws (m / 2)
theorem wsum_bounds (ws : List Int) (h : ∀ x ∈ ws, 0 ≤ x) : ∀ m, 0 ≤ wsum ws m ∧ wsum ws m ≤ ws.sum := by
  induction ws with
  | nil => intro m; simp [wsum]
  | cons a l ih =>
    intro m
    have h1 := ih (fun x hx => h x (by simp [hx])) (m / 2)
    have h2 := h a (by simp)
    rw [List.sum_cons]
    simp only [wsum]
    split <;> omega
theorem div_pow_succ (m i : Nat) : m / 2 / 2 ^ i = m / 2 ^ (i + 1) := by rw [Nat.div_div_eq_div_mul, Nat.pow_succ, Nat.mul_comm]
theorem wsum_drop (ws : List Int) (i m : Nat) (h : i < ws.length) : wsum (ws.drop i) m = (if m % 2 = 1 then ws[i] else 0) + wsum (ws.drop (i + 1)) (m / 2) := by
  rw [List.drop_eq_getElem_cons h]
  rfl
theorem wsum_full (ws : List Int) : wsum ws (2 ^ ws.length - 1) = ws.sum := by
  induction ws with
  | nil => simp [wsum]
  | cons a l ih =>
    have hp : 2 ^ (l.length + 1) = 2 * 2 ^ l.length := by rw [Nat.pow_succ, Nat.mul_comm]
    have h0 : 0 < 2 ^ l.length := Nat.two_pow_pos _
    simp only [wsum, List.length_cons, List.sum_cons]
    rw [if_pos (by omega), show (2 ^ (l.length + 1) - 1) / 2 = 2 ^ l.length - 1 by omega, ih]
theorem wsum_zero (ws : List Int) : wsum ws 0 = 0 := by
  induction ws with
  | nil => rfl
  | cons a l ih => simp [wsum, ih]
theorem shr_nat (m i : Nat) (hi : i ≤ 64) : shr .i64 (m : Int) (i : Int) = ((m / 2 ^ i : Nat) : Int) := by
  unfold shr
  rw [Int.toNat_natCast, show IntKind.i64.bits = 64 from rfl, Nat.min_eq_left hi]
  simp
theorem i64_wrap {x : Int} (h0 : -9223372036854775808 ≤ x) (h1 : x ≤ 9223372036854775807) : IntKind.i64.wrap x = x := by rw [IntKind.wrap_i64]; omega
theorem shl_one (i : Nat) (hi : i ≤ 62) : shl .i64 1 (i : Int) = ((2 ^ i : Nat) : Int) := by
  unfold shl
  rw [Int.toNat_natCast, show IntKind.i64.bits = 64 from rfl, Nat.min_eq_left (by omega), Int.one_mul]
  have h : 2 ^ i ≤ 2 ^ 62 := Nat.pow_le_pow_right (by omega) hi
  have h' : (2 : Int) ^ i = ((2 ^ i : Nat) : Int) := by simp
  have h0 : 0 < 2 ^ i := Nat.two_pow_pos i
  rw [h', i64_wrap (by omega) (by omega)]
theorem wraps_i64 (n : Int) (h0 : 0 ≤ n) (h1 : n < 2 ^ 62) : IntKind.i64.wrap n = n := i64_wrap (by omega) (by omega)
theorem and_one (a : Nat) (h : a < 2 ^ 62) : Go.bits .and .i64 (a : Int) 1 = ((a % 2 : Nat) : Int) := by
  have := Go.bits_mask .i64 62 (by decide) wraps_i64 1 (by decide) (a : Int) (by omega) (by omega)
  simpa using this
theorem or_nat (a b : Nat) (ha : a < 2 ^ 62) (hb : b < 2 ^ 62) : Go.bits .or .i64 (a : Int) (b : Int) = ((a ||| b : Nat) : Int) := (Go.bits_nat .i64 62 (by decide) wraps_i64 a b ha hb).2
theorem or_pow : ∀ (i m : Nat), m / 2 ^ i % 2 = 0 → m ||| 2 ^ i = m + 2 ^ i := by
  intro i
  induction i with
  | zero =>
    intro m h
    have h1 := Nat.or_div_two (a := m) (b := 1)
    have h2 := Nat.or_mod_two_eq_one (a := m) (b := 1)
    simp only [Nat.pow_zero, Nat.div_one] at h ⊢
    have h3 : (m ||| 1) % 2 = 1 := h2.2 (.inr rfl)
    have h4 : (m ||| 1) / 2 = m / 2 := by rw [h1]; simp
    omega
  | succ i ih =>
    intro m h
    have hp : 2 ^ (i + 1) = 2 * 2 ^ i := by rw [Nat.pow_succ, Nat.mul_comm]
    have h1 := Nat.or_div_two (a := m) (b := 2 ^ (i + 1))
    have h2 := Nat.or_mod_two_eq_one (a := m) (b := 2 ^ (i + 1))
    have h3 : 2 ^ (i + 1) / 2 = 2 ^ i := by omega
    rw [h3, ih (m / 2) (by rw [div_pow_succ]; exact h)] at h1
    have h5 : 2 ^ (i + 1) % 2 = 0 := by omega
    have h6 : (m ||| 2 ^ (i + 1)) % 2 = m % 2 := by
      by_cases e : m % 2 = 1
      · rw [h2.2 (.inl e), e]
      · have : ¬ (m ||| 2 ^ (i + 1)) % 2 = 1 := fun hh => by
          rcases h2.1 hh with h | h
          · exact e h
          · omega
        omega
    omega
def winsL (q : Int) (ws : List Int) : List Bool := (List.range (2 ^ ws.length)).map fun m => decide (q ≤ wsum ws m)
theorem winsL_length (q : Int) (ws : List Int) : (winsL q ws).length = 2 ^ ws.length := by simp [winsL]
theorem winsL_get (q : Int) (ws : List Int) (m : Nat) (h : m < (winsL q ws).length) : (winsL q ws)[m] = decide (q ≤ wsum ws m) := by simp [winsL]
theorem winsL_getD (q : Int) (ws : List Int) (m : Nat) (h : m < 2 ^ ws.length) : (winsL q ws).getD m false = decide (q ≤ wsum ws m) := by
  rw [List.getD_eq_getElem?_getD, List.getElem?_eq_getElem (by rw [winsL_length]; exact h), winsL_get]
  rfl
theorem GoodC.w0 {q : Int} {ws : List Int} (h : GoodC q ws) : ∀ x ∈ ws, 0 ≤ x := fun x hx => (h.w x hx).1
theorem GoodC.wb {q : Int} {ws : List Int} (h : GoodC q ws) : ∀ x ∈ ws, 0 ≤ x ∧ x ≤ 1000000000 := fun x hx => by have := h.w x hx; omega
theorem GoodC.pow {q : Int} {ws : List Int} (h : GoodC q ws) : 2 ≤ 2 ^ ws.length ∧ 2 ^ ws.length ≤ 512 := by
  have h1 : 2 ^ 1 ≤ 2 ^ ws.length := Nat.pow_le_pow_right (by omega) h.l1
  have h2 : 2 ^ ws.length ≤ 2 ^ 9 := Nat.pow_le_pow_right (by omega) h.l9
  omega
def cmpL : List Int → List Int → Int
  | [], [] => 0
  | [], _ :: _ => -1
  | _ :: _, [] => 1
  | a :: ar, b :: bs => if a < b then -1 else if b < a then 1 else cmpL ar bs
theorem cmpL_self : ∀ a : List Int, cmpL a a = 0
  | [] => rfl
  | a :: ar => by
    rw [cmpL, if_neg (Int.lt_irrefl a), if_neg (Int.lt_irrefl a)]
    exact cmpL_self ar
theorem cmpL_swap : ∀ a b : List Int, cmpL b a = - cmpL a b
  | [], [] => rfl
  | [], _ :: _ => rfl
  | _ :: _, [] => rfl
  | a :: ar, b :: bs => by
    have ih := cmpL_swap ar bs
    simp only [cmpL]
    by_cases h1 : a < b
    · rw [if_neg (by omega), if_pos h1, if_pos h1]; rfl
    · by_cases h2 : b < a
      · rw [if_pos h2, if_neg h1, if_pos h2]
      · rw [if_neg h2, if_neg h1, if_neg h1, if_neg h2]; exact ih
theorem cmpL_zero : ∀ a b : List Int, cmpL a b = 0 → a = b
  | [], [], _ => rfl
  | [], _ :: _, h => by simp [cmpL] at h
  | _ :: _, [], h => by simp [cmpL] at h
  | a :: ar, b :: bs, h => by
    simp only [cmpL] at h
    by_cases h1 : a < b
    · rw [if_pos h1] at h; omega
    · by_cases h2 : b < a
      · rw [if_neg h1, if_pos h2] at h; omega
      · rw [if_neg h1, if_neg h2] at h
        rw [cmpL_zero ar bs h, show a = b by omega]
theorem cmpL_le_trans : ∀ a b c : List Int, cmpL a b ≤ 0 → cmpL b c ≤ 0 → cmpL a c ≤ 0
  | [], _, [], _, _ => by simp [cmpL]
  | [], _, _ :: _, _, _ => by simp [cmpL]
  | _ :: _, [], _, h, _ => by simp [cmpL] at h
  | _ :: _, _ :: _, [], _, h => by simp [cmpL] at h
  | a :: ar, b :: bs, c :: cs, h1, h2 => by
    have ih := cmpL_le_trans ar bs cs
    simp only [cmpL] at h1 h2 ⊢
    (repeat' split at h1) <;> (repeat' split at h2) <;> (repeat' split) <;> first | omega | (exact ih h1 h2)
end Go.Proofs.YtamfpkefnhcngaaGreatM
namespace Go.Proofs.YtamfpkefnhcngaaGreatS
open Go.RowKit Go.Shelf Go.Proofs.YtamfpkefnhcngaaGreatW.PrintWords
section
variable {P : Program} {ρ : Ren} {α β : Type}
theorem heap_sortWorld [Inhabited β] (enc : β → Value) (w : World) (blk off n : Nat) (d : Array β) (os : Array Obj) (k : Nat) (hk : k < w.heap.size) (hne : k ≠ blk) : (sortWorld enc w blk off n d os).heap[k]? = w.heap[k]? := by
  unfold sortWorld
  rw [Go.Sort.heap_grow_old _ _ (by rw [Go.Proofs.size_putRow]; exact hk)]
  unfold Go.Sort.putRow Go.Sort.mapBlock
  show (w.heap.modify blk _)[k]? = _
  rw [Array.getElem?_modify, if_neg (fun e => hne e.symm)]
theorem row_sortWorld [Inhabited β] (enc : β → Value) (w : World) (blk off n : Nat) (d : Array β) (os : Array Obj) {c : Array Value} {e : TypeId} {fr : Nat × Nat} (hb : w.heap[blk]? = some (.cells c e fr)) : (sortWorld enc w blk off n d os).heap[blk]? = some (.cells (Go.Sort.putCells enc off d c) e fr) := by
  have hk : blk < w.heap.size := (Array.getElem?_eq_some_iff.1 hb).1
  unfold sortWorld
  rw [Go.Sort.heap_grow_old _ _ (by rw [Go.Proofs.size_putRow]; exact hk)]
  unfold Go.Sort.putRow Go.Sort.mapBlock
  show (w.heap.modify blk _)[blk]? = _
  rw [Array.getElem?_modify, if_pos rfl, hb]
  rfl
theorem size_sortWorld [Inhabited β] (enc : β → Value) (w : World) (blk off n : Nat) (d : Array β) (os : Array Obj) : w.heap.size ≤ (sortWorld enc w blk off n d os).heap.size := by
  unfold sortWorld
  rw [Go.Sort.size_grow, Go.Proofs.size_putRow]
  show w.heap.size ≤ w.heap.size + _
  omega
theorem swo_pull {cf : α → α → Int} (hO : Go.Sort.SWO (ltOf cf)) (f : β → α) : Go.Sort.SWO (ltOf fun i j => cf (f i) (f j)) where
  irrefl x := hO.irrefl (f x)
  trans x y z := hO.trans (f x) (f y) (f z)
  ntrans x y z := hO.ntrans (f x) (f y) (f z)
theorem drop_take_one (l : List Value) (j : Nat) (h : j < l.length) : (l.drop (j * 1)).take 1 = [l[j]] := by
  rw [Nat.mul_one, List.drop_eq_getElem_cons h]
  rfl
set_option maxHeartbeats 1000000 in
theorem sort_rows (L : SlLaysF.n6 P ρ) (d : Kd α) (hd : d.sz = 1) (cf : α → α → Int) (hO : Go.Sort.SWO (ltOf cf)) (g : Nat) (eg : ∀ args w, (callFunc g args).run P w = .ok (.enter g args) w)
    {e : Nat} {w : World} {base : Nat} {ok : Nat → Prop} {A : Option Addr} {c : Nat} {xs : List α} (hS : Kd.S d e w base ok (.slice A xs.length c) xs) (hmx : xs.length < 4611686018427387904)
    (hcmp : ∀ (W : World) (x y : α) (u v : Value), x ∈ xs → y ∈ xs → d.K W x [u] → d.K W y [v] → Calls P g #[u, v] W fun e W' => e = .returned (.int .i64 (cf x y)) ∧ ∃ q, W' = W.drewN q) :
    Calls P (ρ.f 6) #[.slice A xs.length c, .func (.func g) #[] #[]] w fun e' W' => e' = .returned (.tuple #[]) ∧ ∃ ys : List α, ys.Perm xs ∧ ys.Pairwise (fun a b => ltOf cf b a = false) ∧ Kd.S d e W' base ok (.slice A xs.length c) ys ∧ w.grownBy W' (Value.slice A xs.length c).ownBlock := by
  by_cases hn : xs = []
  · subst hn
    refine (AnyF.slices_SortFunc_none (P := P) (ρ := ρ) { L with } A c _ w).mono ?_
    rintro e' W' ⟨rfl, rfl⟩
    exact ⟨rfl, [], List.Perm.refl _, List.Pairwise.nil, hS, ⟨rfl, rfl, rfl, Nat.le_refl _, fun _ _ _ => rfl⟩⟩
  have hpos : 0 < xs.length := List.length_pos_iff.2 hn
  obtain ⟨f, h0, inner, ho, hr⟩ := hS
  have hsz : ∀ f, (Kd.tag f d).sz = 1 := fun _ => hd
  rw [hsz, List.length_zipIdx] at ho
  rw [hsz] at hr
  obtain ⟨hlen, ⟨_, h00⟩ | ⟨gb, cap, cur, hv, hbase, hheap, hnc, hmax, hcs, htake⟩⟩ := ho
  · omega
  injection hv with hA _ hc
  subst hA
  subst hc
  rw [Nat.mul_one] at hlen hcs htake
  have hil : ∀ i : Fin xs.length, i.1 < inner.length := fun i => by rw [hlen]; exact i.2
  have hcur : ∀ j, j < xs.length → cur[j]? = inner[j]? := fun j hj => by
    rw [← htake, List.getElem?_take, if_pos hj, Array.getElem?_toList]
  haveI : Inhabited (Fin xs.length) := ⟨⟨0, hpos⟩⟩
  have hM : ∀ i : Fin xs.length, d.M w base (fun k => (ok k ∧ some k ≠ some gb) ∧ f k = i.1) xs[i] [inner[i.1]'(hil i)] := fun i => by
    have h := hr.2 i.1 (xs[i], i.1) (Kd.zip_at (List.getElem?_eq_getElem i.2))
    rw [drop_take_one inner i.1 (hil i)] at h
    exact h
  let enc : Fin xs.length → Value := fun i => inner[i.1]'(hil i)
  let da : Array (Fin xs.length) := Array.ofFn (n := xs.length) id
  have hdas : da.size = xs.length := Array.size_ofFn
  have hdag : ∀ j (h : j < xs.length), da[j]! = ⟨j, h⟩ := fun j h => by
    rw [getElem!_pos da j (by rw [hdas]; exact h)]
    simp [da]
  have hH : Go.Sort.Holds enc w gb 0 da := fun j hj => by
    rw [hdas] at hj
    rw [hdag j hj, Nat.zero_add]
    refine ⟨?_, ?_⟩
    · simp only [World.cell?, hheap]
      rw [if_neg (by simp), hcur j hj, List.getElem?_eq_getElem (hil ⟨j, hj⟩)]
    · simp [World.frozen?, hheap]
  have h1 : OneCell enc := fun i => d.K_one (d.K_of_M (hM i)) _ (List.mem_singleton.2 rfl)
  have hblk : gb < w.heap.size := (Array.getElem?_eq_some_iff.1 hheap).1
  have hcmp1 : CmpLays1 P g #[] enc (fun i j => cf xs[i] xs[j]) gb 0 da.size w := fun m os dk _ x y => by
    have hK : ∀ i : Fin xs.length, d.K (sortWorld enc w gb 0 m dk os) xs[i] [enc i] := fun i =>
      d.K_of_M (Kd.M_step (hM i) (fun k hk hlt => heap_sortWorld enc w gb 0 m dk os k hlt (fun e => hk.1.2 (by rw [e]))))
    refine (hcmp _ xs[x] xs[y] (enc x) (enc y) (List.getElem_mem _) (List.getElem_mem _) (hK x) (hK y)).mono ?_
    rintro e' W' ⟨rfl, q, rfl⟩
    exact ⟨rfl, q, #[], by rw [Go.Sort.grow_empty]⟩
  have hcall := Any.slices_SortFunc L enc h1 (fun i j => cf xs[i] xs[j]) (swo_pull hO (fun i : Fin xs.length => xs[i])) g #[] gb 0 c da w eg hcmp1 hH hblk (by rw [hdas]; exact hmx)
  rw [hdas] at hcall
  refine hcall.mono ?_
  rintro e' W' ⟨rfl, d', m, os, hp, hs, rfl⟩
  obtain ⟨hps, _, hpp⟩ := hp
  rw [hdas] at hps
  have hd'l : d'.toList.length = xs.length := by simpa using hps
  have hpp' : d'.toList.Perm da.toList := by
    have e1 : d'.extract 0 xs.length = d' := by
      have h_ := Array.extract_size (xs := d')
      rwa [hps] at h_
    have e2 : da.extract 0 xs.length = da := by
      have h_ := Array.extract_size (xs := da)
      rwa [hdas] at h_
    rw [e1, e2] at hpp
    exact hpp
  have hda : da.toList.map (fun i => xs[i]) = xs := by
    show (Array.ofFn (n := xs.length) id).toList.map _ = xs
    rw [Array.toList_ofFn]
    refine List.ext_getElem (by simp) (fun i h1 h2 => ?_)
    simp
  have hnd : d'.toList.Nodup := hpp'.nodup_iff.2 (by
    show (Array.ofFn (n := xs.length) id).toList.Nodup
    rw [Array.toList_ofFn, List.Nodup, List.pairwise_iff_getElem]
    intro i j hi hj hij heq
    simp at heq
    omega)
  refine ⟨rfl, d'.toList.map (fun i => xs[i]), ?_, ?_, ?_, ?_⟩
  · exact (hpp'.map _).trans (by rw [hda])
  · rw [List.pairwise_iff_getElem]
    intro i j hi hj hij
    rw [List.length_map, hd'l] at hi hj
    have h := hs i j (Nat.zero_le _) hij hj
    rw [getElem!_pos d' i (by omega), getElem!_pos d' j (by omega)] at h
    have h2 : ltOf cf xs[d'[j]'(by omega)] xs[d'[i]'(by omega)] = false := h
    simpa using h2
  · have hgd : ∀ j (h : j < xs.length), d'[j]! = d'[j]'(by omega) := fun j h => getElem!_pos d' j (by omega)
    refine ⟨fun k => if h : f k < xs.length then d'.toList.idxOf ⟨f k, h⟩ else 0, h0, d'.toList.map enc, ⟨?_, .inr ⟨gb, c, Go.Sort.putCells enc 0 d' cur, ?_, hbase, row_sortWorld enc w gb 0 m d' os hheap, ?_, hmax, ?_, ?_⟩⟩, ?_, ?_⟩
    · rw [hsz, List.length_zipIdx, List.length_map, List.length_map, Nat.mul_one]
    · rw [List.length_zipIdx, List.length_map, hd'l]
    · rw [List.length_zipIdx, List.length_map, hd'l]; exact hnc
    · rw [hsz, Nat.mul_one]
      simp [Go.Sort.putCells, hcs]
    · rw [hsz, List.length_zipIdx, List.length_map, hd'l, Nat.mul_one]
      refine List.ext_getElem? (fun j => ?_)
      rw [List.getElem?_take]
      by_cases hj : j < xs.length
      · rw [if_pos hj, Array.getElem?_toList, List.getElem?_map, Array.getElem?_toList, Array.getElem?_eq_getElem (by omega : j < d'.size)]
        simp only [Go.Sort.putCells, Array.getElem?_mapIdx, hcur j hj, List.getElem?_eq_getElem (hil ⟨j, hj⟩), Option.map_some]
        rw [if_pos ⟨Nat.zero_le _, by omega⟩, Nat.sub_zero, hgd j hj]
      · rw [if_neg hj, List.getElem?_eq_none (by rw [List.length_map, hd'l]; omega)]
    · rw [hsz, List.length_zipIdx, List.length_map, List.length_map, Nat.mul_one]
    · intro j p hj
      rw [hsz]
      rw [List.getElem?_zipIdx] at hj
      obtain ⟨y, hy, rfl⟩ := Option.map_eq_some_iff.1 hj
      have hjl : j < xs.length := by
        have := (List.getElem?_eq_some_iff.1 hy).1
        rw [List.length_map, hd'l] at this
        exact this
      rw [List.getElem?_map, Array.getElem?_toList, Array.getElem?_eq_getElem (by omega : j < d'.size)] at hy
      obtain rfl := Option.some.inj hy
      rw [drop_take_one (d'.toList.map enc) j (by rw [List.length_map, hd'l]; exact hjl)]
      have hg : (d'.toList.map enc)[j]'(by rw [List.length_map, hd'l]; exact hjl) = inner[(d'[j]'(by omega)).1]'(hil _) := by simp [enc]
      rw [hg]
      refine d.M_mono (fun k hk => ⟨hk.1, ?_⟩) (Kd.M_step (hM (d'[j]'(by omega))) (fun k hk hlt => heap_sortWorld enc w gb 0 m d' os k hlt (fun e => hk.1.2 (by rw [e]))))
      have hfk : f k < xs.length := by rw [hk.2]; exact (d'[j]'(by omega)).2
      have hfe : (⟨f k, hfk⟩ : Fin xs.length) = d'.toList[j]'(by omega) := Fin.ext (by rw [Array.getElem_toList]; exact hk.2)
      simp only [dif_pos hfk]
      rw [hfe, List.Nodup.idxOf_getElem hnd, Nat.zero_add]
  · refine ⟨rfl, rfl, rfl, size_sortWorld _ _ _ _ _ _ _, fun k hk hne => heap_sortWorld _ _ _ _ _ _ _ k hk (fun e => hne ?_)⟩
    rw [e]
    rfl
theorem S_open {d : Kd α} (hd : d.sz = 1) {e : Nat} {w : World} {base : Nat} {v : Value} {xs : List α} (h : Kd.S d e w base (fun _ => True) v xs) :
    ∃ (enc : Fin xs.length → Value) (h1 : ∀ i, (enc i).oneCell' = true), (Kd.scalar enc h1).R e w base (fun _ => True) v (List.finRange xs.length) ∧ (∀ i, d.K w xs[i] [enc i]) ∧
      ∀ (W : World) (v' : Value) (ys : List (Fin xs.length)), Below w.heap.size w W → ys.Perm (List.finRange xs.length) → base ≤ w.heap.size → (Kd.scalar enc h1).R e W w.heap.size (fun _ => True) v' ys → Kd.S d e W base (fun _ => True) v' (ys.map fun i => xs[i]) := by
  obtain ⟨f, h0, inner, ho, hr⟩ := h
  have hsz : ∀ f, (Kd.tag f d).sz = 1 := fun _ => hd
  rw [hsz, List.length_zipIdx] at ho
  rw [hsz] at hr
  have hlen : inner.length = xs.length := by have := hr.1; rw [List.length_zipIdx, Nat.mul_one] at this; exact this
  have hil : ∀ i : Fin xs.length, i.1 < inner.length := fun i => by rw [hlen]; exact i.2
  have hM : ∀ i : Fin xs.length, d.M w base (fun k => (True ∧ some k ≠ v.ownBlock) ∧ f k = i.1) xs[i] [inner[i.1]'(hil i)] := fun i => by
    have h := hr.2 i.1 (xs[i], i.1) (Kd.zip_at (List.getElem?_eq_getElem i.2))
    rw [drop_take_one inner i.1 (hil i)] at h
    exact h
  refine ⟨fun i => inner[i.1]'(hil i), fun i => d.K_one (d.K_of_M (hM i)) _ (List.mem_singleton.2 rfl), ?_, fun i => d.K_of_M (hM i), ?_⟩
  · refine ⟨h0, inner, ?_, ?_, ?_⟩
    · rw [List.length_finRange]; exact ho
    · show inner.length = (List.finRange xs.length).length * 1
      rw [List.length_finRange, Nat.mul_one]; exact hlen
    · intro j p hj
      have hjl : j < xs.length := by
        have := (List.getElem?_eq_some_iff.1 hj).1
        rw [List.length_finRange] at this
        exact this
      have hp : p = ⟨j, hjl⟩ := by
        rw [List.getElem?_eq_getElem (by rw [List.length_finRange]; exact hjl)] at hj
        have := Option.some.inj hj
        rw [← this]
        simp
      show (inner.drop (j * 1)).take 1 = [inner[p.1]'(hil p)]
      rw [drop_take_one inner j (by rw [hlen]; exact hjl)]
      subst hp
      rfl
  · intro W v' ys hb hperm hbase hR
    obtain ⟨h0', inner', ho', hr'⟩ := hR
    have hsc : (Kd.scalar (fun i : Fin xs.length => inner[i.1]'(hil i)) (fun i => d.K_one (d.K_of_M (hM i)) _ (List.mem_singleton.2 rfl))).sz = 1 := rfl
    rw [hsc] at ho' hr'
    have hyl : ys.length = xs.length := by rw [hperm.length_eq, List.length_finRange]
    have hnd : ys.Nodup := hperm.nodup_iff.2 (List.nodup_finRange _)
    have hi'l : inner'.length = ys.length := by have := hr'.1; rw [Nat.mul_one] at this; exact this
    refine ⟨fun k => if h : f k < xs.length then ys.idxOf ⟨f k, h⟩ else 0, fun _ _ => trivial, inner', ?_, ?_, ?_⟩
    · rw [hsz, List.length_zipIdx, List.length_map]
      exact own_weaken ho' hbase
    · rw [hsz, List.length_zipIdx, List.length_map]
      exact hr'.1
    · intro j p hj
      rw [hsz]
      rw [List.getElem?_zipIdx] at hj
      obtain ⟨y, hy, rfl⟩ := Option.map_eq_some_iff.1 hj
      rw [List.getElem?_map] at hy
      obtain ⟨i, hi, rfl⟩ := Option.map_eq_some_iff.1 hy
      have hjl : j < ys.length := (List.getElem?_eq_some_iff.1 hi).1
      have hij : ys[j] = i := (List.getElem?_eq_some_iff.1 hi).2
      have he : (inner'.drop (j * 1)).take 1 = [inner[i.1]'(hil i)] := hr'.2 j i hi
      rw [he]
      refine d.M_mono (fun k hk => ?_) (Kd.M_step (d.M_bound (hM i)) (fun k _ hlt => hb.block k hlt))
      have hfk : f k < xs.length := by rw [hk.1.2]; exact i.2
      have hfe : (⟨f k, hfk⟩ : Fin xs.length) = ys[j] := by rw [hij]; exact Fin.ext hk.1.2
      refine ⟨⟨trivial, fun he => ?_⟩, ?_⟩
      · have h1 := own_base ho' k he.symm
        have h2 := hk.2.2.1
        omega
      · show (if h : f k < xs.length then ys.idxOf ⟨f k, h⟩ else 0) = 0 + j
        rw [Nat.zero_add, dif_pos hfk, hfe, List.Nodup.idxOf_getElem hnd]
end
open Go.Proofs.YtamfpkefnhcngaaGreatM
theorem swoL : Go.Sort.SWO (ltOf cmpL) where
  irrefl x := by simp [ltOf, cmpL_self]
  trans x y z h1 h2 := by
    simp only [ltOf, decide_eq_true_eq] at *
    have h3 := cmpL_le_trans x y z (by omega) (by omega)
    rcases Int.lt_or_eq_of_le h3 with h | h
    · exact h
    · obtain rfl := cmpL_zero x z h
      have := cmpL_swap x y
      omega
  ntrans x y z h1 h2 := by
    simp only [ltOf, decide_eq_false_iff_not] at *
    have e1 := cmpL_swap x y
    have e2 := cmpL_swap y z
    have e3 := cmpL_swap x z
    have := cmpL_le_trans z y x (by omega) (by omega)
    omega
def sortL (xs : List (List Int)) : List (List Int) := xs.mergeSort fun a b => !ltOf cmpL b a
theorem sortL_of {xs ys : List (List Int)} (hp : ys.Perm xs) (hs : ys.Pairwise fun a b => ltOf cmpL b a = false) : ys = sortL xs := by
  refine List.Perm.eq_of_pairwise (le := fun x y => (!ltOf cmpL y x) = true) ?_ ?_ ?_ (hp.trans (List.mergeSort_perm _ _).symm)
  · intro a b _ _ h1 h2
    simp only [Bool.not_eq_true', ltOf, decide_eq_false_iff_not] at h1 h2
    have := cmpL_swap a b
    exact cmpL_zero a b (by omega)
  · exact hs.imp (fun h => by simpa using h)
  · refine List.pairwise_mergeSort (fun a b c h1 h2 => ?_) (fun a b => ?_) xs
    · simp only [Bool.not_eq_true'] at h1 h2 ⊢
      exact swoL.ntrans c b a h2 h1
    · simp only [Bool.or_eq_true, Bool.not_eq_true', ltOf, decide_eq_false_iff_not]
      have := cmpL_swap a b
      omega
theorem sortL_perm (xs : List (List Int)) : (sortL xs).Perm xs := List.mergeSort_perm _ _
end Go.Proofs.YtamfpkefnhcngaaGreatS
namespace Go.Proofs.YtamfpkefnhcngaaGreatO
open Go.RowKit Go.ChangeShapes Go.WideShapes Go.ChangeAt Go.Proofs.YtamfpkefnhcngaaGreatW.PrintWords Go.Proofs.YtamfpkefnhcngaaGreatM
section
variable {H : Type} {enc : TypeId × Value → H} {P : Program} {w : World} {α : Type}
def Reads1 (enc : TypeId × Value → H) (P : Program) (w : World) (t : TypeId) (d : Kd α) (ok : α → Prop) : Prop :=
  ∀ fuel v x, DataW.trod enc P w 0 (fun _ => true) true fuel t [v] = some x → ∃ a, d.K w a [v] ∧ ok a
theorem reads_int {t : TypeId} {k : IntKind} (hu : P.underlying t = some (.int k)) : Reads1 enc P w t (Kd.int k) (fun n => (Lit.int k n).wf = true) := by
  intro fuel v x h
  obtain ⟨n, e, _, hw⟩ := DataW.trod_int hu h
  exact ⟨n, e, hw⟩
theorem reads_slice {t e : TypeId} {d : Kd α} {ok : α → Prop} (hu : P.underlying t = some (.slice e)) (hc : P.cellsOf e = 1) (hs : d.sz = 1) (he : Reads1 enc P w e d ok) :
    Reads1 enc P w t (Kd.slice e d) (fun l => l.length ≤ maxLen ∧ ∀ x ∈ l, ok x) := by
  intro fuel v x h
  rcases Go.Deep.open_slice1 hu hc h with ⟨hcs, _⟩ | ⟨a, len, cap, m, n, V, D, Pl, hcs, _, hl, hm, hmm, _, hx⟩
  · obtain rfl : v = .slice none 0 0 := by simpa using hcs
    refine ⟨[], ⟨none, 0, rfl, Nat.le_refl _, rfl, Nat.zero_le _, fun h => absurd h (Nat.lt_irrefl _)⟩, Nat.zero_le _, fun _ h => by cases h⟩
  · obtain rfl : v = .slice (some a) len cap := by simpa using hcs
    have hlm : len ≤ m := by rw [hmm]; simpa using hl
    have hall : ∀ i, i < len → ∃ b, d.K w b [V i] ∧ ok b := fun i hi => he n (V i) _ (hx i (by omega)).2
    have key : ∀ j, j ≤ len → ∃ l : List α, l.length = j ∧ (∀ i b, l[i]? = some b → d.K w b [V i] ∧ ok b) := by
      intro j
      induction j with
      | zero => exact fun _ => ⟨[], rfl, fun i b h => by simp at h⟩
      | succ j ih =>
        intro hj
        obtain ⟨l, hl1, hl2⟩ := ih (by omega)
        obtain ⟨b, hb⟩ := hall j (by omega)
        refine ⟨l ++ [b], by simp [hl1], fun i c h => ?_⟩
        rcases Nat.lt_or_ge i l.length with hi | hi
        · rw [List.getElem?_append_left hi] at h
          exact hl2 i c h
        · have e : i = l.length := by
            have := (List.getElem?_eq_some_iff.1 h).1
            rw [List.length_append, List.length_singleton] at this
            omega
          subst e
          obtain rfl : b = c := by simpa using h
          rw [hl1]
          exact hb
    obtain ⟨l, hl1, hl2⟩ := key len (Nat.le_refl _)
    subst hl1
    refine ⟨l, ⟨some a, cap, rfl, hl, rfl, by unfold maxLen at hm; omega, fun _ => ⟨a, rfl, fun j p hj => ⟨[V j], by rw [hs]; rfl, (hl2 j p hj).1, fun i u hi => ?_⟩⟩⟩, Nat.le_trans hl hm, fun x hxm => ?_⟩
    · match i, hi with
      | 0, hi =>
        obtain rfl : V j = u := by simpa using hi
        have hj' := (List.getElem?_eq_some_iff.1 hj).1
        rw [hs, Nat.mul_one, Nat.add_zero]
        exact (hx j (by omega)).1
      | i + 1, hi => simp at hi
    · obtain ⟨i, hi, rfl⟩ := List.mem_iff_getElem.1 hxm
      exact (hl2 i _ (List.getElem?_eq_getElem hi)).2
theorem open_slice_arg {r : Reach} {b0 : Nat} {t e : TypeId} {d : Kd α} {ok' : List α → Prop} {v : Value} {dd : DataW H} {ps : List MemPlace} (hu : P.underlying t = some (.slice e)) (hr : Reads1 enc P w t (Kd.slice e d) ok') (hv : Value.okWide P w r b0 t v)
    (h : DataW.Trod enc P w 0 (fun _ => true) true t v dd ps) : ∃ (A : Option Addr) (c : Nat) (l : List α), v = .slice A l.length c ∧ l.length ≤ c ∧ d.C w A l.length l ∧ ok' l := by
  obtain ⟨a, len, cap, rfl⟩ := okWide_slice hu hv
  obtain ⟨fuel, hf⟩ := h
  obtain ⟨l, ⟨A, c, hcs, hlc, hC⟩, ho⟩ := hr fuel _ _ hf
  exact ⟨A, c, l, by simpa using hcs, hlc, hC, ho⟩
end
end Go.Proofs.YtamfpkefnhcngaaGreatO
namespace Go.Proofs.YtamfpkefnhcngaaGreat.Q
open Go.RowKit Go.Proofs.YtamfpkefnhcngaaGreatW.PrintWords Go.Proofs.YtamfpkefnhcngaaGreatW.PrintLast Go.Proofs.YtamfpkefnhcngaaGreatW.PrintMore
attribute [local go_sem] max2_int min2_int max_two min_two max_three min_three max_four min_four   -- for this text's walks alone
set_option linter.unusedVariables false
set_option linter.unusedSimpArgs false
theorem info3 : (Tryz.prog.info? 3).map (fun i => (i.zero, i.size, i.bytes)) = some (some (.int .i64 0), 1, 8) := by kernel_rfl
theorem info4 : (Tryz.prog.info? 4).map (fun i => (i.zero, i.size, i.bytes)) = some (some (.bool false), 1, 1) := by kernel_rfl
theorem info24 : (Tryz.prog.info? 24).map (fun i => (i.zero, i.size, i.bytes)) = some (some (.slice none 0 0), 1, 24) := by kernel_rfl
theorem info60 : (Tryz.prog.info? 60).map (fun i => (i.zero, i.size, i.bytes)) = some (some (.agg #[(.int .i64 0), (.int .i64 0)]), 2, 16) := by kernel_rfl
-- the values' own types
def rd_L2 (xs : List (List Int)) (i : Int) : (List Int) := xs.getD i.toNat ([] : List Int)
theorem at_L2 {w : World} {A : Option Addr} {n : Nat} {xs : List (List Int)} (h : Kd.C (Kd.slice 3 (Kd.int .i64)) w A n xs) (i : Int) (h0 : 0 ≤ i) (h1 : i < n) : ∃ ad A0 c0, A = some ad ∧ w.cell? (ad.add i.toNat) = some (.slice A0 (rd_L2 xs i).length c0) ∧ (rd_L2 xs i).length ≤ c0 ∧ (Kd.int .i64).C w A0 (rd_L2 xs i).length (rd_L2 xs i) := by
  obtain ⟨ad, c, e, _, hK, hc0⟩ := Kd.C_get h ([] : List Int) i h0 h1
  have hc : ∀ j u, c[j]? = some u → w.cell? (ad.add (i.toNat * 1 + j)) = some u := hc0
  obtain ⟨A0, c0, rfl, l0, g0⟩ := hK
  exact ⟨ad, A0, c0, e, by have hq := hc 0 _ rfl; rwa [Nat.mul_one, Nat.add_zero] at hq, l0, g0⟩
structure S60 where
  f0 : Int
  f1 : Int
def z60 : S60 := ⟨(0 : Int), (0 : Int)⟩
def k60 : Kd S60 := Kd.iso (Kd.pair (Kd.int .i64) (Kd.int .i64)) (fun x : S60 => (x.f0, x.f1))
theorem k60_open {w : World} {x : S60} {cs : List Value} (h : k60.K w x cs) : cs = [.int .i64 x.f0, .int .i64 x.f1] := by
  obtain ⟨_, _, rfl, rfl, rfl⟩ := h
  exact rfl
theorem k60_mkM (w : World) (base : Nat) (ok : Nat → Prop) (x : S60)  : k60.M w base ok x [.int .i64 x.f0, .int .i64 x.f1] := ⟨[.int .i64 x.f0], [.int .i64 x.f1], rfl, rfl, rfl⟩
def rd_T60 (xs : List S60) (i : Int) : S60 := xs.getD i.toNat z60
theorem at_T60 {w : World} {A : Option Addr} {n : Nat} {xs : List S60} (h : Kd.C k60 w A n xs) (i : Int) (h0 : 0 ≤ i) (h1 : i < n) : ∃ ad , A = some ad ∧ w.cell? (ad.add (i.toNat * 2)) = some (.int .i64 (rd_T60 xs i).f0) ∧ w.cell? ⟨(ad.add (i.toNat * 2)).block, (ad.add (i.toNat * 2)).off + 1, none⟩ = some (.int .i64 (rd_T60 xs i).f1) := by
  obtain ⟨ad, c, e, _, hK, hc0⟩ := Kd.C_get h z60 i h0 h1
  have hc : ∀ j u, c[j]? = some u → w.cell? (ad.add (i.toNat * 2 + j)) = some u := hc0
  obtain rfl := k60_open hK
  exact ⟨ad, e, hc 0 _ rfl, by rw [← add_field _ _ 1 (by omega)]; exact hc 1 _ rfl⟩
theorem eqA60 (d : Nat) (w : World) (x0 y0 : Int) (x1 y1 : Int) :
    (Op.equalIn (d + 2) 60 (.agg #[.int .i64 x0, .int .i64 x1]) (.agg #[.int .i64 y0, .int .i64 y1])).run Tryz.prog w = .ok (x0 == y0 && (x1 == y1)) w := by
  refine eqA_of Tryz.underlying60 (by kernel_rfl) ?_
  refine eqf_cons (by rfl) (by go_simp; rfl) (by go_simp; rfl) (by go_simp) ?_
  exact eqf_last (by rfl) (by go_simp; rfl) (by go_simp; rfl) (by go_simp)
end Go.Proofs.YtamfpkefnhcngaaGreat.Q
namespace Go.Proofs.YtamfpkefnhcngaaGreat.Q
open Go.RowKit Go.Proofs.YtamfpkefnhcngaaGreatX Go.Proofs.YtamfpkefnhcngaaGreatY Go.Proofs.YtamfpkefnhcngaaGreatX Go.Proofs.YtamfpkefnhcngaaGreatW.PrintWords Go.Proofs.YtamfpkefnhcngaaGreatW.PrintLast Go.Proofs.YtamfpkefnhcngaaGreatW.PrintMore
attribute [local go_sem] max2_int min2_int max_two min_two max_three min_three max_four min_four   -- for this text's walks alone
set_option linter.unusedVariables false
set_option linter.unusedSimpArgs false
def impl_sumOf.l0 : Nat → Int → List Int → Int → Int → Option (Int)
 | 0, _, _, _, _ => none
 | k + 1, x3, x6, x7, x8 => if x8 < x7 then (if 0 ≤ x8 then (if x8 < (x6.length : Int) then (impl_sumOf.l0 k (wrap64 (x3 + (rd x6 x8))) x6 x7 (wrap64 (x8 + 1))) else (none)) else (none)) else (some x3)
def impl_sumOf.f (k : Nat) (l0 : List Int) : Option (Int) := impl_sumOf.l0 k 0 l0 (l0.length : Int) 0
theorem impl_sumOf.calls (k : Nat) (A0 : Option Addr) (c0 : Nat) (l0 : List Int) (r : Int) (w : World) (hr0 : Kd.C (Kd.int .i64) w A0 l0.length l0) (hc0 : l0.length ≤ c0) (h : impl_sumOf.f k l0 = some r) :
  Calls Tryz.prog 127 #[.slice A0 l0.length c0] w fun e w' => e = .returned (.int .i64 r) ∧ Drawn0 w w' := by
 have HR0 := Aside0.mk hr0
 have HC0 := Aside0.mk hc0
 clear hr0 hc0
 have H := h
 unfold impl_sumOf.f at H
 clear h
 have H' := Aside0.mk H
 clear H
 go_enter Tryz.func127, Tryz.ntmps127
 go_wp2
 go_loopg [3, 8] k (fun kq v3 v8 w' => ∃ (x3_1 : Int) (x8_1 : Int), v3 = .int .i64 x3_1 ∧ v8 = .int .i64 x8_1 ∧ Aside0 (impl_sumOf.l0 kq x3_1 l0 (l0.length : Int) x8_1 = some r) ∧ Aside0 (kq ≤ k) ∧ Drawn0 w w')
 case atStart => exact ⟨(0), (0), gR, gR, H', ⟨Nat.le_refl _⟩, dS⟩
 case round =>
  clear H'
  (try clear c1)
  obtain ⟨x3_1, x8_1, rfl, rfl, HA, HK1, ⟨m1, rfl⟩⟩ := hrel
  cases gk with
  | zero => exact absurd HA.out (by simp [impl_sumOf.l0])
  | succ k1 =>
   have H := HA.out
   clear HA
   simp only [impl_sumOf.l0] at H
   by_cases c2 : x8_1 < (l0.length : Int)
   rotate_left
   ·rw [if_neg c2] at H
    have c2b0 : decide (x8_1 < (l0.length : Int)) = false := decide_eq_false c2
    clear c2
    obtain rfl := Option.some.inj H
    go_wp2
    go_ret
    exact ⟨by first | rfl | (simp; done) | (simp [*]; done), dS⟩
   rw [if_pos c2] at H
   have c2b0 := decide_eq_true c2
   clear c2
   by_cases c3 : 0 ≤ x8_1
   rotate_left
   ·rw [if_neg c3] at H
    exact absurd H (by simp)
   rw [if_pos c3] at H
   have c3b0 := decide_eq_true c3
   clear c3
   by_cases c4 : x8_1 < (l0.length : Int)
   rotate_left
   ·rw [if_neg c4] at H
    exact absurd H (by simp)
   rw [if_pos c4] at H
   have c4b0 := decide_eq_true c4
   clear c4
   have H' := Aside0.mk H
   clear H
   have p101 : 0 ≤ (x8_1 : Int) := oD
   have q101 : x8_1 < (l0.length : Int) := oD
   obtain ⟨ad101, e101, hx101_0⟩ := Kd.at_int HR0.out x8_1 p101 q101
   cases e101
   replace p101 := eq_true p101
   replace q101 := eq_true q101
   go_wp2
   go_roundg k1
   case measure => have := HK1.out; omega
   case rel => exact ⟨(wrap64 (x3_1 + (rd l0 x8_1))), (wrap64 (x8_1 + 1)), gR, gR, H', ⟨by have := HK1.out; omega⟩, dS⟩
def idxOf (p : Int → Bool) (l : List Int) : Int := match l.findIdx? p with
 | some i => (i : Int)
 | none => -1
theorem idxOf_hit (p : Int → Bool) (l : List Int) (x : Int) (h0 : 0 ≤ x) (h1 : x < (l.length : Int)) (hp : p (rd l x) = true) (hb : ∀ j : Nat, (j : Int) < x → p (l.getD j 0) = false) : idxOf p l = x := by
 obtain ⟨k, rfl⟩ := Int.eq_ofNat_of_zero_le h0
 have hk : k < l.length := by omega
 have : l.findIdx? p = some k := by
  rw [List.findIdx?_eq_some_iff_getElem]
  refine ⟨hk, ?_, fun j hj => ?_⟩
  ·simpa [rd, List.getD_eq_getElem?_getD, List.getElem?_eq_getElem hk] using hp
  have := hb j (by omega)
  have hjl : j < l.length := by omega
  simpa [List.getD_eq_getElem?_getD, List.getElem?_eq_getElem hjl] using this
 simp [idxOf, this]
theorem idxOf_miss (p : Int → Bool) (l : List Int) (hb : ∀ j : Nat, (j : Int) < (l.length : Int) → p (l.getD j 0) = false) : idxOf p l = -1 := by
 have : l.findIdx? p = none := by
  rw [List.findIdx?_eq_none_iff]
  intro x hx
  obtain ⟨j, hj, rfl⟩ := List.mem_iff_getElem.1 hx
  have := hb j (by omega)
  simpa [List.getD_eq_getElem?_getD, List.getElem?_eq_getElem hj] using this
 simp [idxOf, this]
theorem idxOf_any (p : Int → Bool) (l : List Int) : decide (0 ≤ idxOf p l) = l.any p := by
 unfold idxOf
 cases h : l.findIdx? p with
 | none =>
  rw [List.findIdx?_eq_none_iff] at h
  have : l.any p = false := by simpa using h
  simp [this]
 | some i =>
  rw [List.findIdx?_eq_some_iff_getElem] at h
  obtain ⟨hi, hp, _⟩ := h
  have : l.any p = true := by simpa using ⟨_, List.getElem_mem hi, hp⟩
  simp [this]
theorem wrap64_succ {x : Int} {n : Nat} (h0 : 0 ≤ x) (h1 : x < (n : Int)) (hn : n ≤ 9223372036854775807) : wrap64 (x + 1) = x + 1 := by
 unfold wrap64
 omega
theorem slices_IndexFunc_int.hof (A0 : Option Addr) (c0 : Nat) (l0 : List Int) (g : Nat) (lb : Array Value) (p : Int → Bool) (w : World) (hr0 : Kd.C (Kd.int .i64) w A0 l0.length l0)
  (eg : ∀ args w, (callFunc g args).run Tryz.prog w = .ok (.enter g args) w)
  (hp : ∀ (W : World) (x : Int), x ∈ l0 → Below w.heap.size w W → Calls Tryz.prog g (#[.int .i64 x] ++ lb) W fun e W' => e = .returned (.bool (p x)) ∧ Below W.heap.size W W') :
  Calls Tryz.prog 172 #[.slice A0 l0.length c0, .func (.func g) #[] lb] w fun e w' => e = .returned (.int .i64 (idxOf p l0)) ∧ Below w.heap.size w w' := by
 have hn := hr0.2.1
 have HP := Aside0.mk hp
 have HR := Aside0.mk hr0
 clear hp hr0
 go_enter Tryz.func172, Tryz.ntmps172
 go_wp2
 go_loopg [5, 8] l0.length (fun gg _ s8 wr => ∃ x : Int, s8 = .int .i64 x ∧ Aside0 (0 ≤ x ∧ x ≤ (l0.length : Int) ∧ (l0.length : Int) - x ≤ (gg : Int)) ∧ Aside0 (Below w.heap.size w wr) ∧ Aside0 (∀ j : Nat, (j : Int) < x → p (l0.getD j 0) = false))
 case atStart => exact ⟨0, rfl, ⟨by omega⟩, ⟨Below.refl _ _⟩, ⟨fun j hj => by omega⟩⟩
 case round =>
  obtain ⟨x, rfl, HX, HB, HA⟩ := hrel
  have h0 : 0 ≤ x := HX.out.1
  by_cases hlt : x < (l0.length : Int)
  ·obtain ⟨ad, ea, hcell⟩ := Kd.at_int (Kd.C_below HR.out HB.out) x h0 hlt
   cases ea
   have hw1 := wrap64_succ h0 hlt hn
   have HW1 := Aside0.mk hw1
   clear hw1
   have c4b0 : decide (x < (l0.length : Int)) = true := decide_eq_true hlt
   have HLT := Aside0.mk hlt
   have H0 := Aside0.mk h0
   have hmem : rd l0 x ∈ l0 := by
    have hk : x.toNat < l0.length := by omega
    simp only [rd, List.getD_eq_getElem?_getD, List.getElem?_eq_getElem hk, Option.getD_some]
    exact List.getElem_mem hk
   have hcall := HP.out wr (rd l0 x) hmem HB.out
   have HC := Aside0.mk hcall
   clear hcall hmem
   have p5 := eq_true h0
   have q5 := eq_true hlt
   clear h0 hlt hn
   cases hq : p (rd l0 x) with
   | true =>
    have HQ := Aside0.mk hq
    have HCT := Aside0.mk (show Calls Tryz.prog g (#[.int .i64 (rd l0 x)] ++ lb) wr fun e W' => e = .returned (.bool true) ∧ Below wr.heap.size wr W' from by have := HC.out; rwa [hq] at this)
    clear hq HC
    go_wp2_with fail
    refine (HCT.out).mono ?_
    rintro e w' ⟨rfl, hb⟩
    have HBN := Aside0.mk (HB.out.trans (hb.mono HB.out.size))
    clear hb
    go_wp2
    go_ret
    exact ⟨by rw [idxOf_hit p l0 x H0.out HLT.out HQ.out HA.out]; first | rfl | (simp; done), HBN.out⟩
   | false =>
    have HQ := Aside0.mk hq
    have HCT := Aside0.mk (show Calls Tryz.prog g (#[.int .i64 (rd l0 x)] ++ lb) wr fun e W' => e = .returned (.bool false) ∧ Below wr.heap.size wr W' from by have := HC.out; rwa [hq] at this)
    clear hq HC
    go_wp2_with fail
    refine (HCT.out).mono ?_
    rintro e w' ⟨rfl, hb⟩
    have HBN := Aside0.mk (HB.out.trans (hb.mono HB.out.size))
    clear hb
    go_wp2
    go_roundg (gk - 1)
    case measure => have := HX.out; have := HLT.out; omega
    case rel =>
     refine ⟨x + 1, by rw [HW1.out], ⟨by have := HX.out; have := HLT.out; omega⟩, ⟨HBN.out⟩, ⟨fun j hj => ?_⟩⟩
     by_cases e : (j : Int) = x
     ·subst e
      exact HQ.out
     exact HA.out j (by omega)
  have c4b0 : decide (x < (l0.length : Int)) = false := decide_eq_false hlt
  have HLT := Aside0.mk hlt
  clear hlt hn
  go_wp2
  go_ret
  exact ⟨by rw [idxOf_miss p l0 (fun j hj => HA.out j (by have := HX.out; have := HLT.out; omega))]; first | rfl | (simp; done), HB.out⟩
theorem slices_ContainsFunc_int.hof (A0 : Option Addr) (c0 : Nat) (l0 : List Int) (g : Nat) (lb : Array Value) (p : Int → Bool) (w : World) (hr0 : Kd.C (Kd.int .i64) w A0 l0.length l0)
  (eg : ∀ args w, (callFunc g args).run Tryz.prog w = .ok (.enter g args) w)
  (hp : ∀ (W : World) (x : Int), x ∈ l0 → Below w.heap.size w W → Calls Tryz.prog g (#[.int .i64 x] ++ lb) W fun e W' => e = .returned (.bool (p x)) ∧ Below W.heap.size W W') :
  Calls Tryz.prog 199 #[.slice A0 l0.length c0, .func (.func g) #[] lb] w fun e w' => e = .returned (.bool (l0.any p)) ∧ Below w.heap.size w w' := by
 have HI := Aside0.mk (slices_IndexFunc_int.hof A0 c0 l0 g lb p w hr0 eg hp)
 clear hp hr0
 go_enter Tryz.func199, Tryz.ntmps199
 go_wp2_with (go_at_call 172; refine (HI.out).mono ?_; rintro e w' ⟨rfl, hb⟩)
 go_ret
 exact ⟨by rw [← idxOf_any]; first | rfl | (simp; done), hb⟩
def impl_within.f (a0 : Int) (a1 : Int) (a2 : Int) : Option (Bool) := if a0 ≥ a1 then (some (decide (a0 ≤ a2))) else (some false)
theorem impl_within.calls (a0 : Int) (a1 : Int) (a2 : Int) (r : Bool) (w : World) (h : impl_within.f a0 a1 a2 = some r) :
  Calls Tryz.prog 131 #[.int .i64 a0, .int .i64 a1, .int .i64 a2] w fun e w' => e = .returned (.bool r) ∧ Drawn0 w w' := by
 have H := h
 unfold impl_within.f at H
 clear h
 by_cases c4 : a0 ≥ a1
 ·rw [if_pos c4] at H
  have c4b0 : decide (a1 ≤ a0) = true := decide_eq_true c4
  clear c4
  obtain rfl := Option.some.inj H
  go_enter Tryz.func131, Tryz.ntmps131
  go_wp2
  go_ret
  exact ⟨by first | rfl | (simp; done) | (simp [*]; done), dS⟩
 rw [if_neg c4] at H
 have c4b0 : decide (a1 ≤ a0) = false := decide_eq_false c4
 clear c4
 obtain rfl := Option.some.inj H
 go_enter Tryz.func131, Tryz.ntmps131
 go_wp2
 go_ret
 exact ⟨by first | rfl | (simp; done) | (simp [*]; done), dS⟩
def impl_areIn.f (l0 : List Int) (a1 : Int) (a2 : Int) : Option (Bool) := some (l0.all fun x => decide (a1 ≤ x) && decide (x ≤ a2))
theorem impl_areIn_1.clo (n lo hi : Int) (B1 B2 : Nat) (W : World) (h1 : W.cell? ⟨B1, 0, none⟩ = some (.int .i64 lo)) (h2 : W.cell? ⟨B2, 0, none⟩ = some (.int .i64 hi)) :
  Calls Tryz.prog 200 #[.int .i64 n, .pointer (some ⟨B1, 0, none⟩), .pointer (some ⟨B2, 0, none⟩)] W fun e W' => e = .returned (.bool (!(decide (lo ≤ n) && decide (n ≤ hi)))) ∧ Below W.heap.size W W' := by
 have hv : ∃ b, impl_within.f n lo hi = some b ∧ b = (decide (lo ≤ n) && decide (n ≤ hi)) := by
  unfold impl_within.f
  by_cases h : n ≥ lo
  ·exact ⟨_, by rw [if_pos h], by simp [show lo ≤ n from h]⟩
  exact ⟨_, by rw [if_neg h], by simp [show ¬ lo ≤ n from h]⟩
 obtain ⟨b, hb, eb⟩ := hv
 have HV := Aside0.mk hb
 clear hb
 rw [← eb]
 clear eb
 go_enter Tryz.func200, Tryz.ntmps200
 go_wp2_with (go_at_call 131; refine (impl_within.calls n lo hi b _ HV.out).mono ?_; rintro e w' ⟨rfl, ⟨nd, rfl⟩⟩)
 go_ret
 exact ⟨rfl, pw_below_drewN (Below.refl _ _) _⟩
theorem impl_areIn.calls (A0 : Option Addr) (c0 : Nat) (l0 : List Int) (a1 : Int) (a2 : Int) (r : Bool) (w : World) (hr0 : Kd.C (Kd.int .i64) w A0 l0.length l0) (hc0 : l0.length ≤ c0) (h : impl_areIn.f l0 a1 a2 = some r) :
  Calls Tryz.prog 130 #[.slice A0 l0.length c0, .int .i64 a1, .int .i64 a2] w fun e w' => e = .returned (.bool r) ∧ Below w.heap.size w w' := by
 have eg : ∀ args w, (callFunc 200 args).run Tryz.prog w = .ok (.enter 200 args) w := enters_of Tryz.func200 (by kernel_rfl) rfl
 have hmf : ∀ (fn : Fn) (first cap : Array Value) (w : World), (Instr.makeFunc fn first cap).run Tryz.prog w = .ok (.func fn first cap) w := fun _ _ _ _ => rfl
 have HR := Aside0.mk hr0
 have hres : r = !(l0.any fun x => !(decide (a1 ≤ x) && decide (x ≤ a2))) := by
  have := Option.some.inj h
  rw [← this]
  simp [List.all_eq_not_any_not]
 have HRES := Aside0.mk hres
 clear hr0 hres h
 go_enter Tryz.func130, Tryz.ntmps130
 go_wp2_with fail
 refine (slices_ContainsFunc_int.hof A0 c0 l0 200 #[.pointer (some ⟨w.heap.size, 0, none⟩), .pointer (some ⟨w.heap.size + 1, 0, none⟩)] (fun x => !(decide (a1 ≤ x) && decide (x ≤ a2))) _ ?_ eg ?_).mono ?_
 ·exact Kd.C_below HR.out (((Below.refl _ _).alloc (Nat.le_refl _) _).alloc (by simp) _)
 ·intro W x _ hb
  refine impl_areIn_1.clo x a1 a2 w.heap.size (w.heap.size + 1) W ?_ ?_
  ·rw [hb.cell (p := ⟨w.heap.size, 0, none⟩) (by simp; omega)]
   simp [go_sem]
  rw [hb.cell (p := ⟨w.heap.size + 1, 0, none⟩) (by simp)]
  simp [go_sem]
 rintro e w' ⟨rfl, hb⟩
 go_wp2
 go_ret
 exact ⟨by rw [HRES.out]; first | rfl | (simp; done), (((Below.refl _ _).alloc (Nat.le_refl _) _).alloc (by simp) _).trans (hb.mono (by simp; omega))⟩
def impl_IsCommittee.f (k : Nat) (a0_0 : Int) (l0_1 : List Int) : Option (Bool) := if (l0_1.length : Int) ≥ 1 then (if (l0_1.length : Int) ≤ 9 then ((impl_areIn.f l0_1 0 1000).bind fun t102 => (if t102 = true then ((impl_sumOf.f k l0_1).bind fun t103 => ((impl_within.f a0_0 1 t103).bind fun t104 => (some t104))) else (some false))) else (some false)) else (some false)
def impl_IsCommittee.T1 : Bool × List (List Nat × List Nat) := (true, [([], []), ([0], [0]), ([1], [1]), ([2], [2]), ([3], [3]), ([4], [4]), ([5, 4], [4, 5]), ([6, 4], [4, 6]), ([7, 4], [4, 7]), ([4, 8], [4, 8]), ([9, 4], [9]), ([10], [10]), ([11, 10], [10, 11]), ([12, 10, 10], [10, 12]), ([10, 13], [10, 13]), ([14, 13], [14]), ([15], [15]), ([16, 15], [15, 16]), ([15], [15]), ([18, 15], [15, 18]), ([19, 15, 15], [15, 19]), ([17, 20, 20, 15], [15, 17, 20]), ([15, 21], [15, 21]), ([22, 21, 0, 1, 2, 3, 4, 5, 6, 7, 8, 9, 10, 11, 12, 13, 14, 15, 16, 17, 18, 19, 20, 21, 22], [22])])
def impl_IsCommittee.B1 : List Nat := [0, 1, 3, 7, 15, 31, 63, 127, 255, 511, 1023, 2047, 4095, 8191, 16383, 32767, 65535, 131071, 65535, 327679, 851967, 2097151, 4194303, 8388607]
theorem impl_IsCommittee.tab1 : rtab .any (opsOf Tryz.f20 1) = impl_IsCommittee.T1 := by kernel_rfl
theorem impl_IsCommittee.bits1 : waitsOk impl_IsCommittee.T1.2 impl_IsCommittee.B1 = true := by kernel_rfl
theorem impl_IsCommittee.calls (k : Nat) (a0_0 : Int) (A0_1 : Option Addr) (c0_1 : Nat) (l0_1 : List Int) (r : Bool) (w : World) (hr0_1 : Kd.C (Kd.int .i64) w A0_1 l0_1.length l0_1) (hc0_1 : l0_1.length ≤ c0_1) (h : impl_IsCommittee.f k a0_0 l0_1 = some r) :
  Calls Tryz.prog 20 #[.agg #[.int .i64 a0_0, .slice A0_1 l0_1.length c0_1]] w fun e w' => e = .returned (.bool r) ∧ Below w.heap.size w w' := by
 have hu26 := Tryz.underlying26
 have HR0_1 := Aside0.mk hr0_1
 have HC0_1 := Aside0.mk hc0_1
 clear hr0_1 hc0_1
 have HB := Aside0.mk (Below.refl w.heap.size w)
 have H := h
 unfold impl_IsCommittee.f at H
 clear h
 by_cases c2 : (l0_1.length : Int) ≥ 1
 rotate_left
 ·rw [if_neg c2] at H
  have c2b0 : decide (1 ≤ (l0_1.length : Int)) = false := decide_eq_false c2
  have c2b1 : decide (1 ≤ l0_1.length) = false := decide_eq_false (by omega)
  clear c2
  obtain rfl := Option.some.inj H
  go_enter Tryz.func20, Tryz.ntmps20
  try go_wp2_with (first | ((with_reducible refine gate_dst (N := 1) rfl ?_); (try (refine gate_guard (by rfl) ?_; dsimp only)); refine xE (N := 1) (cs := #[.int .i64 a0_0, .slice A0_1 l0_1.length c0_1]) (t := 26) ?_; intro gb101 hg w16 BK101 hb; have GW101 : Aside0 (w.heap.size ≤ gb101) := gT hg; have GE101 : Aside0 (w.heap.size ≤ gb101) := gT hg; replace HB := sQ hb; clear hb hg))
  replace BK101 := bD BK101
  replace HB := Aside0.mk (below_drew1 HB.out)
  refine start_ (n := 24) (S := fun w' => w'.cell? ⟨gb101, 0, none⟩ = some (.int .i64 a0_0) ∧ w'.cell? ⟨gb101, 1, none⟩ = some (.slice A0_1 l0_1.length c0_1)) (ds := []) #[F,F,F,F,F,F,F,F,F,F,F,F,F,F,F,F,F,F,F,F,F,F,F,F] (by kernel_rfl) rfl rfl ⟨(blk_cell BK101.out 0).trans rfl, (blk_cell BK101.out 1).trans rfl⟩ (fun hHeld => ?_); refine with_tabW impl_IsCommittee.tab1 impl_IsCommittee.bits1 (fun HT_ HW_ => ?_)
  generalize w16.drew = w17 at BK101 HB hHeld ⊢
  refine pU 0 HT_ ?_
  refine tK 1 HT_ HW_ hHeld (hy := by rintro w' ⟨s0, s1⟩; go_simp; with_reducible rfl) ?_
  refine pU 2 HT_ ?_
  refine pU 3 HT_ ?_
  refine pU 4 HT_ ?_
  refine pV 5 HT_ ?_
  refine pV 6 HT_ ?_
  refine pV 7 HT_ ?_
  refine pV 8 HT_ ?_
  refine pU 9 HT_ ?_
  refine pU 10 HT_ ?_
  refine pV 11 HT_ ?_
  refine pV 12 HT_ ?_
  refine pV 13 HT_ ?_
  refine pU 14 HT_ ?_
  refine pU 15 HT_ ?_
  refine pV 16 HT_ ?_
  refine pV 17 HT_ ?_
  refine pV 18 HT_ ?_
  refine pV 19 HT_ ?_
  refine pV 20 HT_ ?_
  refine pV 21 HT_ ?_
  refine pU 22 HT_ ?_
  refine pU 23 HT_ ?_
  refine done_ (done_of HT_.out (by kernel_rfl)) ?_
  try go_wp2
  go_ret
  exact ⟨fR, wB⟩
 rw [if_pos c2] at H
 have c2b0 : decide (1 ≤ (l0_1.length : Int)) = true := decide_eq_true c2
 have c2b1 : decide (1 ≤ l0_1.length) = true := decide_eq_true (by omega)
 clear c2
 by_cases c3 : (l0_1.length : Int) ≤ 9
 rotate_left
 ·rw [if_neg c3] at H
  have c3b0 : decide ((l0_1.length : Int) ≤ 9) = false := decide_eq_false c3
  have c3b1 : decide (l0_1.length ≤ 9) = false := decide_eq_false (by omega)
  clear c3
  obtain rfl := Option.some.inj H
  go_enter Tryz.func20, Tryz.ntmps20
  try go_wp2_with (first | ((with_reducible refine gate_dst (N := 1) rfl ?_); (try (refine gate_guard (by rfl) ?_; dsimp only)); refine xE (N := 1) (cs := #[.int .i64 a0_0, .slice A0_1 l0_1.length c0_1]) (t := 26) ?_; intro gb101 hg w14 BK101 hb; have GW101 : Aside0 (w.heap.size ≤ gb101) := gT hg; have GE101 : Aside0 (w.heap.size ≤ gb101) := gT hg; replace HB := sQ hb; clear hb hg))
  replace BK101 := bD BK101
  replace HB := Aside0.mk (below_drew1 HB.out)
  refine start_ (n := 24) (S := fun w' => w'.cell? ⟨gb101, 0, none⟩ = some (.int .i64 a0_0) ∧ w'.cell? ⟨gb101, 1, none⟩ = some (.slice A0_1 l0_1.length c0_1)) (ds := []) #[F,F,F,F,F,F,F,F,F,F,F,F,F,F,F,F,F,F,F,F,F,F,F,F] (by kernel_rfl) rfl rfl ⟨(blk_cell BK101.out 0).trans rfl, (blk_cell BK101.out 1).trans rfl⟩ (fun hHeld => ?_); refine with_tabW impl_IsCommittee.tab1 impl_IsCommittee.bits1 (fun HT_ HW_ => ?_)
  generalize w14.drew = w15 at BK101 HB hHeld ⊢
  refine pU 0 HT_ ?_
  refine tK 1 HT_ HW_ hHeld (hy := by rintro w' ⟨s0, s1⟩; go_simp; with_reducible rfl) ?_
  refine pU 2 HT_ ?_
  refine pU 3 HT_ ?_
  refine pU 4 HT_ ?_
  refine pU 5 HT_ ?_
  refine tK 6 HT_ HW_ hHeld (hy := by rintro w' ⟨s0, s1⟩; go_simp; with_reducible rfl) ?_
  refine pU 7 HT_ ?_
  refine pU 8 HT_ ?_
  refine pU 9 HT_ ?_
  refine pU 10 HT_ ?_
  refine pV 11 HT_ ?_
  refine pV 12 HT_ ?_
  refine pV 13 HT_ ?_
  refine pU 14 HT_ ?_
  refine pU 15 HT_ ?_
  refine pV 16 HT_ ?_
  refine pV 17 HT_ ?_
  refine pV 18 HT_ ?_
  refine pV 19 HT_ ?_
  refine pV 20 HT_ ?_
  refine pV 21 HT_ ?_
  refine pU 22 HT_ ?_
  refine pU 23 HT_ ?_
  refine done_ (done_of HT_.out (by kernel_rfl)) ?_
  try go_wp2
  go_ret
  exact ⟨fR, wB⟩
 rw [if_pos c3] at H
 have c3b0 := decide_eq_true c3
 have c3b1 : decide (l0_1.length ≤ 9) = true := decide_eq_true (by omega)
 clear c3
 replace H := oA H
 obtain ⟨t102, A4, H⟩ := H
 (try dsimp only at H)
 by_cases c5 : t102 = true
 rotate_left
 ·replace c5 := Bool.eq_false_iff.mpr c5
  subst c5
  replace H := iF H
  obtain rfl := Option.some.inj H
  go_enter Tryz.func20, Tryz.ntmps20
  try go_wp2_with (first | ((with_reducible refine gate_dst (N := 1) rfl ?_); (try (refine gate_guard (by rfl) ?_; dsimp only)); refine xE (N := 1) (cs := #[.int .i64 a0_0, .slice A0_1 l0_1.length c0_1]) (t := 26) ?_; intro gb101 hg w11 BK101 hb; have GW101 : Aside0 (w.heap.size ≤ gb101) := gT hg; have GE101 : Aside0 (w.heap.size ≤ gb101) := gT hg; replace HB := sQ hb; clear hb hg))
  replace BK101 := bD BK101
  replace HB := Aside0.mk (below_drew1 HB.out)
  refine start_ (n := 24) (S := fun w' => w'.cell? ⟨gb101, 0, none⟩ = some (.int .i64 a0_0) ∧ w'.cell? ⟨gb101, 1, none⟩ = some (.slice A0_1 l0_1.length c0_1)) (ds := []) #[F,F,F,F,F,F,F,F,F,F,F,F,F,F,F,F,F,F,F,F,F,F,F,F] (by kernel_rfl) rfl rfl ⟨(blk_cell BK101.out 0).trans rfl, (blk_cell BK101.out 1).trans rfl⟩ (fun hHeld => ?_); refine with_tabW impl_IsCommittee.tab1 impl_IsCommittee.bits1 (fun HT_ HW_ => ?_)
  generalize w11.drew = w12 at BK101 HB hHeld ⊢
  refine pU 0 HT_ ?_
  refine tK 1 HT_ HW_ hHeld (hy := by rintro w' ⟨s0, s1⟩; go_simp; with_reducible rfl) ?_
  refine pU 2 HT_ ?_
  refine pU 3 HT_ ?_
  refine pU 4 HT_ ?_
  refine pU 5 HT_ ?_
  refine tK 6 HT_ HW_ hHeld (hy := by rintro w' ⟨s0, s1⟩; go_simp; with_reducible rfl) ?_
  refine pU 7 HT_ ?_
  refine pU 8 HT_ ?_
  refine pU 9 HT_ ?_
  refine pU 10 HT_ ?_
  refine pU 11 HT_ ?_
  refine tK 12 HT_ HW_ hHeld (hy := by rintro w' ⟨s0, s1⟩; go_simp; with_reducible rfl) ?_
  refine oN 13 HT_ (fun K hK => ?_)
  refine gE Tryz.func130 #[.slice A0_1 l0_1.length c0_1, .int .i64 0, .int .i64 1000] ?_
  with_reducible refine (impl_areIn.calls _ _ l0_1 0 1000 false _ ?side1 ?side2 A4.out).mono ?_
  (case side1 => have hx_ := (Kd.C_below HR0_1.out HB.out); exact cC)
  (case side2 => exact HC0_1.out)
  rintro e w13 ⟨rfl, hb⟩
  refine ⟨_, rfl, ?_⟩
  replace BK101 := bP BK101 hb
  replace HB := sQ hb
  (try clear hb)
  (try clear hb2)
  (try clear hk)
  (try clear hi)
  refine hK.out _ _ ⟨(blk_cell BK101.out 0).trans rfl, (blk_cell BK101.out 1).trans rfl⟩ (fun hHeld => ?_)
  clear hK K
  refine nM ?_
  refine pU 14 HT_ ?_
  refine pU 15 HT_ ?_
  refine pV 16 HT_ ?_
  refine pV 17 HT_ ?_
  refine pV 18 HT_ ?_
  refine pV 19 HT_ ?_
  refine pV 20 HT_ ?_
  refine pV 21 HT_ ?_
  refine pU 22 HT_ ?_
  refine pU 23 HT_ ?_
  refine done_ (done_of HT_.out (by kernel_rfl)) ?_
  try go_wp2
  go_ret
  exact ⟨fR, wB⟩
 subst c5
 replace H := iT H
 replace H := oA H
 obtain ⟨t103, A6, H⟩ := H
 (try dsimp only at H)
 replace H := oA H
 obtain ⟨t104, A7, H⟩ := H
 (try dsimp only at H)
 obtain rfl := Option.some.inj H
 go_enter Tryz.func20, Tryz.ntmps20
 try go_wp2_with (first | ((with_reducible refine gate_dst (N := 1) rfl ?_); (try (refine gate_guard (by rfl) ?_; dsimp only)); refine xE (N := 1) (cs := #[.int .i64 a0_0, .slice A0_1 l0_1.length c0_1]) (t := 26) ?_; intro gb101 hg w8 BK101 hb; have GW101 := gS hg HB; have GE101 := gS hg HB; replace HB := sB HB hb; clear hb hg))
 replace BK101 := bD BK101
 replace HB := Aside0.mk (below_drew1 HB.out)
 refine start_ (n := 24) (S := fun w' => w'.cell? ⟨gb101, 0, none⟩ = some (.int .i64 a0_0) ∧ w'.cell? ⟨gb101, 1, none⟩ = some (.slice A0_1 l0_1.length c0_1)) (ds := []) #[F,F,F,F,F,F,F,F,F,F,F,F,F,F,F,F,F,F,F,F,F,F,F,F] (by kernel_rfl) rfl rfl ⟨(blk_cell BK101.out 0).trans rfl, (blk_cell BK101.out 1).trans rfl⟩ (fun hHeld => ?_); refine with_tabW impl_IsCommittee.tab1 impl_IsCommittee.bits1 (fun HT_ HW_ => ?_)
 generalize w8.drew = w9 at BK101 HB hHeld ⊢
 refine pU 0 HT_ ?_
 refine tK 1 HT_ HW_ hHeld (hy := by rintro w' ⟨s0, s1⟩; go_simp; with_reducible rfl) ?_
 refine pU 2 HT_ ?_
 refine pU 3 HT_ ?_
 refine pU 4 HT_ ?_
 refine pU 5 HT_ ?_
 refine tK 6 HT_ HW_ hHeld (hy := by rintro w' ⟨s0, s1⟩; go_simp; with_reducible rfl) ?_
 refine pU 7 HT_ ?_
 refine pU 8 HT_ ?_
 refine pU 9 HT_ ?_
 refine pU 10 HT_ ?_
 refine pU 11 HT_ ?_
 refine tK 12 HT_ HW_ hHeld (hy := by rintro w' ⟨s0, s1⟩; go_simp; with_reducible rfl) ?_
 refine oN 13 HT_ (fun K hK => ?_)
 refine gE Tryz.func130 #[.slice A0_1 l0_1.length c0_1, .int .i64 0, .int .i64 1000] ?_
 with_reducible refine (impl_areIn.calls _ _ l0_1 0 1000 true _ (Kd.C_below HR0_1.out HB.out) HC0_1.out A4.out).mono ?_
 rintro e w10 ⟨rfl, hb⟩
 refine ⟨_, rfl, ?_⟩
 replace BK101 := bB BK101 hb
 replace HB := sB HB hb
 (try clear hb)
 (try clear hb2)
 (try clear hk)
 (try clear hi)
 refine hK.out _ _ ⟨(blk_cell BK101.out 0).trans rfl, (blk_cell BK101.out 1).trans rfl⟩ (fun hHeld => ?_)
 clear hK K
 refine nM ?_
 refine pU 14 HT_ ?_
 refine pU 15 HT_ ?_
 refine pU 16 HT_ ?_
 refine pU 18 HT_ ?_
 refine tK 17 HT_ HW_ hHeld (hy := by rintro w' ⟨s0, s1⟩; go_simp; with_reducible rfl) ?_
 refine tK 19 HT_ HW_ hHeld (hy := by rintro w' ⟨s0, s1⟩; go_simp; with_reducible rfl) ?_
 refine oN 20 HT_ (fun K hK => ?_)
 refine gE Tryz.func127 #[.slice A0_1 l0_1.length c0_1] ?_
 with_reducible refine (impl_sumOf.calls k _ _ l0_1 t103 _ (Kd.C_below HR0_1.out HB.out) HC0_1.out A6.out).mono ?_
 rintro e w' ⟨rfl, ⟨nd, rfl⟩⟩
 refine ⟨_, rfl, ?_⟩
 refine hK.out _ _ ⟨(blk_cell BK101.out 0).trans rfl, (blk_cell BK101.out 1).trans rfl⟩ (fun hHeld => ?_)
 clear hK K
 refine nM ?_
 refine oN 21 HT_ (fun K hK => ?_)
 refine gE Tryz.func131 #[.int .i64 a0_0, .int .i64 1, .int .i64 t103] ?_
 with_reducible refine (impl_within.calls a0_0 1 t103 t104 _ A7.out).mono ?_
 rintro e w' ⟨rfl, ⟨nd, rfl⟩⟩
 refine ⟨_, rfl, ?_⟩
 refine hK.out _ _ ⟨(blk_cell BK101.out 0).trans rfl, (blk_cell BK101.out 1).trans rfl⟩ (fun hHeld => ?_)
 clear hK K
 refine nM ?_
 refine pU 22 HT_ ?_
 refine pU 23 HT_ ?_
 refine done_ (done_of HT_.out (by kernel_rfl)) ?_
 try go_wp2
 go_ret
 exact ⟨fR, wB⟩
def laws_big.f (l0 : List Int) (l1 : List Int) : Option (Bool) := if (l0.length : Int) > 1048576 then (some true) else (some (decide ((l1.length : Int) > (wrap64 (1048576 - (l0.length : Int))))))
theorem laws_big.calls (A0 : Option Addr) (c0 : Nat) (l0 : List Int) (A1 : Option Addr) (c1 : Nat) (l1 : List Int) (r : Bool) (w : World) (hr0 : Kd.C (Kd.int .u8) w A0 l0.length l0) (hc0 : l0.length ≤ c0) (hr1 : Kd.C (Kd.int .u8) w A1 l1.length l1) (hc1 : l1.length ≤ c1) (h : laws_big.f l0 l1 = some r) :
  Calls Tryz.prog 10 #[.slice A0 l0.length c0, .slice A1 l1.length c1] w fun e w' => e = .returned (.bool r) ∧ Drawn0 w w' := by
 have HR0 := Aside0.mk hr0
 have HC0 := Aside0.mk hc0
 clear hr0 hc0
 have HR1 := Aside0.mk hr1
 have HC1 := Aside0.mk hc1
 clear hr1 hc1
 have H := h
 unfold laws_big.f at H
 clear h
 by_cases c3 : (l0.length : Int) > 1048576
 ·rw [if_pos c3] at H
  have c3b0 : decide (1048576 < (l0.length : Int)) = true := decide_eq_true c3
  have c3b1 : decide (1048576 < l0.length) = true := decide_eq_true (by omega)
  clear c3
  obtain rfl := Option.some.inj H
  go_enter Tryz.func10, Tryz.ntmps10
  go_wp2
  go_ret
  exact ⟨by first | rfl | (simp; done) | (simp [*]; done), dS⟩
 rw [if_neg c3] at H
 have c3b0 : decide (1048576 < (l0.length : Int)) = false := decide_eq_false c3
 have c3b1 : decide (1048576 < l0.length) = false := decide_eq_false (by omega)
 clear c3
 obtain rfl := Option.some.inj H
 go_enter Tryz.func10, Tryz.ntmps10
 go_wp2
 go_ret
 exact ⟨by first | rfl | (simp; done) | (simp [*]; done), dS⟩
def impl_has.f (a0 : Int) (a1 : Int) : Option (Bool) := if 0 ≤ a1 then (some ((Go.bits .and .i64 (shr .i64 a0 a1) 1) == 1)) else (none)
theorem impl_has.calls (a0 : Int) (a1 : Int) (r : Bool) (w : World) (h : impl_has.f a0 a1 = some r) :
  Calls Tryz.prog 164 #[.int .i64 a0, .int .i64 a1] w fun e w' => e = .returned (.bool r) ∧ Drawn0 w w' := by
 have H := h
 unfold impl_has.f at H
 clear h
 by_cases c3 : 0 ≤ a1
 rotate_left
 ·rw [if_neg c3] at H
  exact absurd H (by simp)
 rw [if_pos c3] at H
 have c3b0 := eq_true c3
 have c3b1 := decide_eq_true c3
 clear c3
 obtain ⟨ji4, hji4⟩ : ∃ j_ : Int, (shr .i64 a0 a1) = j_ := ⟨_, rfl⟩
 replace H : (some ((Go.bits .and .i64 (ji4) 1) == 1)) = some r := by first | (rw [hji4] at H; exact H) | (simp only [hji4] at H ⊢; exact H)
 have hji4_ : (a0 / 2 ^ min a1.toNat 64) = ji4 := hji4
 have hji4z : a1 ≤ 64 → (a0 / 2 ^ a1.toNat) = ji4 := shr_small hji4
 obtain rfl := Option.some.inj H
 go_enter Tryz.func164, Tryz.ntmps164
 go_wp2
 go_ret
 exact ⟨by first | rfl | (simp; done) | (simp only [← hji4] <;> (first | rfl | simp)) | (simp [*]; done), dS⟩
def impl_Committee_weight.l0 : Nat → Int → Int → List Int → Int → Int → Option (Int)
 | 0, _, _, _, _, _ => none
 | k + 1, x1, x5, x9, x10, x11 => if x11 < x10 then (if 0 ≤ x11 then (if x11 < (x9.length : Int) then ((impl_has.f x1 x11).bind fun t103 => (if t103 = true then (impl_Committee_weight.l0 k x1 (wrap64 (x5 + (rd x9 x11))) x9 x10 (wrap64 (x11 + 1))) else (impl_Committee_weight.l0 k x1 x5 x9 x10 (wrap64 (x11 + 1))))) else (none)) else (none)) else (some x5)
def impl_Committee_weight.f (k : Nat) (a0_0 : Int) (l0_1 : List Int) (a1 : Int) : Option (Int) := impl_Committee_weight.l0 k a1 0 l0_1 (l0_1.length : Int) 0
theorem impl_Committee_weight.calls (k : Nat) (a0_0 : Int) (A0_1 : Option Addr) (c0_1 : Nat) (l0_1 : List Int) (a1 : Int) (r : Int) (w : World) (hr0_1 : Kd.C (Kd.int .i64) w A0_1 l0_1.length l0_1) (hc0_1 : l0_1.length ≤ c0_1) (h : impl_Committee_weight.f k a0_0 l0_1 a1 = some r) :
  Calls Tryz.prog 122 #[.agg #[.int .i64 a0_0, .slice A0_1 l0_1.length c0_1], .int .i64 a1] w fun e w' => e = .returned (.int .i64 r) ∧ Below w.heap.size w w' := by
 have hu26 := Tryz.underlying26
 have HR0_1 := Aside0.mk hr0_1
 have HC0_1 := Aside0.mk hc0_1
 clear hr0_1 hc0_1
 have HB := Aside0.mk (Below.refl w.heap.size w)
 have H := h
 unfold impl_Committee_weight.f at H
 clear h
 have H' := Aside0.mk H
 clear H
 go_enter Tryz.func122, Tryz.ntmps122
 go_wp2_with (first | ((with_reducible refine gate_dst (N := 2) rfl ?_); refine xE (N := 2) (cs := #[.int .i64 a0_0, .slice A0_1 l0_1.length c0_1]) (t := 26) ?_; intro gb101 hg w3 BK101 hb; have GW101 := gS hg HB; have GE101 := gS hg HB; replace HB := sB HB hb; clear hb hg; obtain ⟨hcz4_0, hcz4_1, hfz4_0, hfz4_1⟩ := zZ BK101))
 go_loopg [5, 11] k (fun kq v5 v11 w' => ∃ (x5_1 : Int) (x11_1 : Int), v5 = .int .i64 x5_1 ∧ v11 = .int .i64 x11_1 ∧ Aside0 (impl_Committee_weight.l0 kq a1 x5_1 l0_1 (l0_1.length : Int) x11_1 = some r) ∧ Aside0 (kq ≤ k) ∧ Aside0 (w'.heap[gb101]? = some (.cells #[.int .i64 a0_0, (.slice A0_1 l0_1.length c0_1)] 26 (0, 0))) ∧ Aside0 (Below w.heap.size w w'))
 case atStart => exact ⟨(0), (0), gR, gR, H', ⟨Nat.le_refl _⟩, ⟨by exact BK101.out⟩, ⟨wB⟩⟩
 case round =>
  clear H'
  (try clear c1); (try clear p2); (try clear hcz4_0); (try clear hcz4_1); (try clear hfz4_0); (try clear hfz4_1)
  obtain ⟨x5_1, x11_1, rfl, rfl, HA, HK1, BK101, HB⟩ := hrel
  cases gk with
  | zero => exact absurd HA.out (by simp [impl_Committee_weight.l0])
  | succ k1 =>
   have H := HA.out
   clear HA
   simp only [impl_Committee_weight.l0] at H
   by_cases c5 : x11_1 < (l0_1.length : Int)
   rotate_left
   ·rw [if_neg c5] at H
    have c5b0 : decide (x11_1 < (l0_1.length : Int)) = false := decide_eq_false c5
    clear c5
    obtain rfl := Option.some.inj H
    go_wp2
    go_ret
    exact ⟨fR, wB⟩
   rw [if_pos c5] at H
   have c5b0 := decide_eq_true c5
   clear c5
   by_cases c6 : 0 ≤ x11_1
   rotate_left
   ·rw [if_neg c6] at H
    exact absurd H (by simp)
   rw [if_pos c6] at H
   have c6b0 := decide_eq_true c6
   clear c6
   by_cases c7 : x11_1 < (l0_1.length : Int)
   rotate_left
   ·rw [if_neg c7] at H
    exact absurd H (by simp)
   rw [if_pos c7] at H
   have c7b0 := decide_eq_true c7
   clear c7
   replace H := oA H
   obtain ⟨t103, A8, H⟩ := H
   (try dsimp only at H)
   by_cases c9 : t103 = true
   ·subst c9
    replace H := iT H
    have H' := Aside0.mk H
    clear H
    have p102 : 0 ≤ (x11_1 : Int) := oD
    have q102 : x11_1 < (l0_1.length : Int) := oD
    obtain ⟨ad102, e102, hx102_0⟩ := Kd.at_int HR0_1.out x11_1 p102 q102
    cases e102
    replace hx102_0 := (HB.out.cell (World.block_lt_of_cell? w _ hx102_0)).trans hx102_0
    replace p102 := eq_true p102
    replace q102 := eq_true q102
    go_wp2_with (first | ((with_reducible refine gate_callee (f := 164) rfl ?_); refine gL 18 Tryz.func164 #[.int .i64 a1, .int .i64 x11_1] ?_; (with_reducible refine (impl_has.calls a1 x11_1 true _ A8.out).mono ?_); rintro e w' ⟨rfl, ⟨nd, rfl⟩⟩; refine ⟨_, rfl, ?_⟩))
    go_roundg k1
    case measure => have := HK1.out; omega
    case rel => exact ⟨(wrap64 (x5_1 + (rd l0_1 x11_1))), (wrap64 (x11_1 + 1)), gR, gR, H', ⟨by have := HK1.out; omega⟩, ⟨bQ BK101⟩, ⟨wB⟩⟩
   replace c9 := Bool.eq_false_iff.mpr c9
   subst c9
   replace H := iF H
   have H' := Aside0.mk H
   clear H
   have p102 : 0 ≤ (x11_1 : Int) := oD
   have q102 : x11_1 < (l0_1.length : Int) := oD
   obtain ⟨ad102, e102, hx102_0⟩ := Kd.at_int HR0_1.out x11_1 p102 q102
   cases e102
   replace hx102_0 := (HB.out.cell (World.block_lt_of_cell? w _ hx102_0)).trans hx102_0
   replace p102 := eq_true p102
   replace q102 := eq_true q102
   go_wp2_with (first | ((with_reducible refine gate_callee (f := 164) rfl ?_); refine gL 18 Tryz.func164 #[.int .i64 a1, .int .i64 x11_1] ?_; (with_reducible refine (impl_has.calls a1 x11_1 false _ A8.out).mono ?_); rintro e w' ⟨rfl, ⟨nd, rfl⟩⟩; refine ⟨_, rfl, ?_⟩))
   go_roundg k1
   case measure => have := HK1.out; omega
   case rel => exact ⟨(x5_1), (wrap64 (x11_1 + 1)), gR, gR, H', ⟨by have := HK1.out; omega⟩, ⟨bQ BK101⟩, ⟨wB⟩⟩
def impl_isIncreasing.l0 : Nat → List Int → Int → Int → Option (Bool)
 | 0, _, _, _ => none
 | k + 1, x0, x5, x6 => if x6 < x5 then (if x6 > 0 then (if 0 ≤ x6 then (if x6 < (x0.length : Int) then (if 0 ≤ (wrap64 (x6 - 1)) then (if (wrap64 (x6 - 1)) < (x0.length : Int) then (if (rd x0 x6) ≤ (rd x0 (wrap64 (x6 - 1))) then (some false) else (impl_isIncreasing.l0 k x0 x5 (wrap64 (x6 + 1)))) else (none)) else (none)) else (none)) else (none)) else (impl_isIncreasing.l0 k x0 x5 (wrap64 (x6 + 1)))) else (some true)
def impl_isIncreasing.f (k : Nat) (l0 : List Int) : Option (Bool) := impl_isIncreasing.l0 k l0 (l0.length : Int) 0
theorem impl_isIncreasing.calls (k : Nat) (A0 : Option Addr) (c0 : Nat) (l0 : List Int) (r : Bool) (w : World) (hr0 : Kd.C (Kd.int .i64) w A0 l0.length l0) (hc0 : l0.length ≤ c0) (h : impl_isIncreasing.f k l0 = some r) :
  Calls Tryz.prog 223 #[.slice A0 l0.length c0] w fun e w' => e = .returned (.bool r) ∧ Drawn0 w w' := by
 have HR0 := Aside0.mk hr0
 have HC0 := Aside0.mk hc0
 clear hr0 hc0
 have H := h
 unfold impl_isIncreasing.f at H
 clear h
 have H' := Aside0.mk H
 clear H
 go_enter Tryz.func223, Tryz.ntmps223
 go_wp2
 repeat (go_quiet (fail); try go_wp2)
 go_loopg [6] k (fun kq v6 w' => ∃ (x6_1 : Int), v6 = .int .i64 x6_1 ∧ Aside0 (impl_isIncreasing.l0 kq l0 (l0.length : Int) x6_1 = some r) ∧ Aside0 (kq ≤ k) ∧ Drawn0 w w')
 case atStart => exact ⟨(0), gR, H', ⟨Nat.le_refl _⟩, dS⟩
 case round =>
  clear H'
  obtain ⟨x6_1, rfl, HA, HK1, ⟨m1, rfl⟩⟩ := hrel
  cases gk with
  | zero => exact absurd HA.out (by simp [impl_isIncreasing.l0])
  | succ k1 =>
   have H := HA.out
   clear HA
   simp only [impl_isIncreasing.l0] at H
   by_cases c2 : x6_1 < (l0.length : Int)
   rotate_left
   ·rw [if_neg c2] at H
    have c2b0 : decide (x6_1 < (l0.length : Int)) = false := decide_eq_false c2
    clear c2
    obtain rfl := Option.some.inj H
    go_wp2
    repeat (go_quiet (fail); try go_wp2)
    go_ret
    exact ⟨by first | rfl | (simp; done) | (simp [*]; done), dS⟩
   rw [if_pos c2] at H
   have c2b0 := decide_eq_true c2
   clear c2
   by_cases c3 : x6_1 > 0
   rotate_left
   ·rw [if_neg c3] at H
    have c3b0 : decide (0 < x6_1) = false := decide_eq_false c3
    clear c3
    have H' := Aside0.mk H
    clear H
    go_wp2
    repeat (go_quiet (fail); try go_wp2)
    go_roundg k1
    case measure => have := HK1.out; omega
    case rel => exact ⟨(wrap64 (x6_1 + 1)), gR, H', ⟨by have := HK1.out; omega⟩, dS⟩
   rw [if_pos c3] at H
   have c3b0 : decide (0 < x6_1) = true := decide_eq_true c3
   clear c3
   by_cases c4 : 0 ≤ x6_1
   rotate_left
   ·rw [if_neg c4] at H
    exact absurd H (by simp)
   rw [if_pos c4] at H
   have c4b0 := decide_eq_true c4
   clear c4
   by_cases c5 : x6_1 < (l0.length : Int)
   rotate_left
   ·rw [if_neg c5] at H
    exact absurd H (by simp)
   rw [if_pos c5] at H
   have c5b0 := decide_eq_true c5
   clear c5
   obtain ⟨ji6, hji6⟩ : ∃ j_ : Int, (wrap64 (x6_1 - 1)) = j_ := ⟨_, rfl⟩
   replace H : (if 0 ≤ (ji6) then (if (ji6) < (l0.length : Int) then (if (rd l0 x6_1) ≤ (rd l0 (ji6)) then (some false) else (impl_isIncreasing.l0 k1 l0 (l0.length : Int) (wrap64 (x6_1 + 1)))) else (none)) else (none)) = some r := by first | (rw [hji6] at H; exact H) | (simp only [hji6] at H ⊢; exact H)
   have hji6w : (IntKind.i64.wrap (x6_1 - 1)) = ji6 := (i64_w _).trans hji6
   by_cases c7 : 0 ≤ (ji6)
   rotate_left
   ·rw [if_neg c7] at H
    exact absurd H (by simp)
   rw [if_pos c7] at H
   have c7b0 := decide_eq_true c7
   clear c7
   by_cases c8 : (ji6) < (l0.length : Int)
   rotate_left
   ·rw [if_neg c8] at H
    exact absurd H (by simp)
   rw [if_pos c8] at H
   have c8b0 := decide_eq_true c8
   clear c8
   by_cases c9 : (rd l0 x6_1) ≤ (rd l0 (ji6))
   ·rw [if_pos c9] at H
    have c9b0 := decide_eq_true c9
    clear c9
    obtain rfl := Option.some.inj H
    have p101 : 0 ≤ (x6_1 : Int) := oD
    have q101 : x6_1 < (l0.length : Int) := oD
    obtain ⟨ad101, e101, hx101_0⟩ := Kd.at_int HR0.out x6_1 p101 q101
    cases e101
    replace p101 := eq_true p101
    replace q101 := eq_true q101
    have p102 : 0 ≤ ((ji6) : Int) := oD
    have q102 : (ji6) < (l0.length : Int) := oD
    obtain ⟨ad102, e102, hx102_0⟩ := Kd.at_int HR0.out (ji6) p102 q102
    obtain rfl : ad101 = ad102 := (by injection e102)
    replace p102 := eq_true p102
    replace q102 := eq_true q102
    go_wp2
    repeat (go_quiet (fail); try go_wp2)
    go_ret
    exact ⟨by first | rfl | (simp; done) | (simp only [← hji6] <;> (first | rfl | simp)) | (simp [*]; done), dS⟩
   rw [if_neg c9] at H
   have c9b0 : decide ((rd l0 x6_1) ≤ (rd l0 (ji6))) = false := decide_eq_false c9
   clear c9
   have H' := Aside0.mk H
   clear H
   have p101 : 0 ≤ (x6_1 : Int) := oD
   have q101 : x6_1 < (l0.length : Int) := oD
   obtain ⟨ad101, e101, hx101_0⟩ := Kd.at_int HR0.out x6_1 p101 q101
   cases e101
   replace p101 := eq_true p101
   replace q101 := eq_true q101
   have p102 : 0 ≤ ((ji6) : Int) := oD
   have q102 : (ji6) < (l0.length : Int) := oD
   obtain ⟨ad102, e102, hx102_0⟩ := Kd.at_int HR0.out (ji6) p102 q102
   obtain rfl : ad101 = ad102 := (by injection e102)
   replace p102 := eq_true p102
   replace q102 := eq_true q102
   go_wp2
   repeat (go_quiet (fail); try go_wp2)
   go_roundg k1
   case measure => have := HK1.out; omega
   case rel => exact ⟨(wrap64 (x6_1 + 1)), gR, H', ⟨by have := HK1.out; omega⟩, dS⟩
def impl_isSet.f (k : Nat) (l0 : List Int) (a1 : Int) : Option (Bool) := (impl_areIn.f l0 0 (wrap64 (a1 - 1))).bind fun t101 => (if t101 = true then ((impl_isIncreasing.f k l0).bind fun t102 => (some t102)) else (some false))
theorem impl_isSet.calls (k : Nat) (A0 : Option Addr) (c0 : Nat) (l0 : List Int) (a1 : Int) (r : Bool) (w : World) (hr0 : Kd.C (Kd.int .i64) w A0 l0.length l0) (hc0 : l0.length ≤ c0) (h : impl_isSet.f k l0 a1 = some r) :
  Calls Tryz.prog 196 #[.slice A0 l0.length c0, .int .i64 a1] w fun e w' => e = .returned (.bool r) ∧ Below w.heap.size w w' := by
 have HR0 := Aside0.mk hr0
 have HC0 := Aside0.mk hc0
 clear hr0 hc0
 have HB := Aside0.mk (Below.refl w.heap.size w)
 have H := h
 unfold impl_isSet.f at H
 clear h
 replace H := oA H
 obtain ⟨t101, A3, H⟩ := H
 (try dsimp only at H)
 by_cases c4 : t101 = true
 rotate_left
 ·replace c4 := Bool.eq_false_iff.mpr c4
  subst c4
  replace H := iF H
  obtain rfl := Option.some.inj H
  go_enter Tryz.func196, Tryz.ntmps196
  go_wp2_with (first | ((with_reducible refine gate_callee (f := 130) rfl ?_); refine gL 8 Tryz.func130 #[.slice A0 l0.length c0, .int .i64 0, .int .i64 (wrap64 (a1 - 1))] ?_; (with_reducible refine (impl_areIn.calls _ _ l0 0 (wrap64 (a1 - 1)) false _ ?side1 ?side2 A3.out).mono ?_); (case side1 => have hx_ := HR0.out; exact cC); (case side2 => exact HC0.out); rintro e w7 ⟨rfl, hb⟩; refine ⟨_, rfl, ?_⟩; replace HB := sQ hb; (try clear hb)))
  go_ret
  exact ⟨fR, wB⟩
 subst c4
 replace H := iT H
 replace H := oA H
 obtain ⟨t102, A5, H⟩ := H
 (try dsimp only at H)
 obtain rfl := Option.some.inj H
 go_enter Tryz.func196, Tryz.ntmps196
 go_wp2_with (first | ((with_reducible refine gate_callee (f := 130) rfl ?_); refine gL 8 Tryz.func130 #[.slice A0 l0.length c0, .int .i64 0, .int .i64 (wrap64 (a1 - 1))] ?_; (with_reducible refine (impl_areIn.calls _ _ l0 0 (wrap64 (a1 - 1)) true _ HR0.out HC0.out A3.out).mono ?_); rintro e w6 ⟨rfl, hb⟩; refine ⟨_, rfl, ?_⟩; replace HB := sB HB hb; (try clear hb)) | (go_at_call 223; (with_reducible refine (impl_isIncreasing.calls k _ _ l0 t102 _ (Kd.C_below HR0.out HB.out) HC0.out A5.out).mono ?_); rintro e w' ⟨rfl, ⟨nd, rfl⟩⟩))
 go_ret
 exact ⟨fR, wB⟩
def impl_isSetOf.f (k : Nat) (a0_0 : Int) (l0_1 : List Int) (l1 : List Int) : Option (Bool) := (impl_IsCommittee.f k a0_0 l0_1).bind fun t102 => (if t102 = true then ((impl_isSet.f k l1 (l0_1.length : Int)).bind fun t103 => (some t103)) else (some false))
theorem impl_isSetOf.calls (k : Nat) (a0_0 : Int) (A0_1 : Option Addr) (c0_1 : Nat) (l0_1 : List Int) (A1 : Option Addr) (c1 : Nat) (l1 : List Int) (r : Bool) (w : World) (hr0_1 : Kd.C (Kd.int .i64) w A0_1 l0_1.length l0_1) (hc0_1 : l0_1.length ≤ c0_1) (hr1 : Kd.C (Kd.int .i64) w A1 l1.length l1) (hc1 : l1.length ≤ c1) (h : impl_isSetOf.f k a0_0 l0_1 l1 = some r) :
  Calls Tryz.prog 121 #[.agg #[.int .i64 a0_0, .slice A0_1 l0_1.length c0_1], .slice A1 l1.length c1] w fun e w' => e = .returned (.bool r) ∧ Below w.heap.size w w' := by
 have hu26 := Tryz.underlying26
 have HR0_1 := Aside0.mk hr0_1
 have HC0_1 := Aside0.mk hc0_1
 clear hr0_1 hc0_1
 have HR1 := Aside0.mk hr1
 have HC1 := Aside0.mk hc1
 clear hr1 hc1
 have HB := Aside0.mk (Below.refl w.heap.size w)
 have H := h
 unfold impl_isSetOf.f at H
 clear h
 replace H := oA H
 obtain ⟨t102, A3, H⟩ := H
 (try dsimp only at H)
 by_cases c4 : t102 = true
 rotate_left
 ·replace c4 := Bool.eq_false_iff.mpr c4
  subst c4
  replace H := iF H
  obtain rfl := Option.some.inj H
  go_enter Tryz.func121, Tryz.ntmps121
  go_wp2_with (first | ((with_reducible refine gate_dst (N := 2) rfl ?_); (try (refine gate_guard (by rfl) ?_; dsimp only)); refine xE (N := 2) (cs := #[.int .i64 a0_0, .slice A0_1 l0_1.length c0_1]) (t := 26) ?_; intro gb101 hg w11 BK101 hb; have GW101 := gS hg HB; have GE101 := gS hg HB; replace HB := sB HB hb; clear hb hg; (try clear hcz9_0 hcz9_1 hfz9_0 hfz9_1); obtain ⟨hcz12_0, hcz12_1, hfz12_0, hfz12_1⟩ := zZ BK101) | ((with_reducible refine gate_callee (f := 20) rfl ?_); refine gL 6 Tryz.func20 #[.agg #[.int .i64 a0_0, .slice A0_1 l0_1.length c0_1]] ?_; (with_reducible refine (impl_IsCommittee.calls k a0_0 _ _ l0_1 false _ (Kd.C_below HR0_1.out HB.out) HC0_1.out A3.out).mono ?_); rintro e w13 ⟨rfl, hb⟩; refine ⟨_, rfl, ?_⟩; replace BK101 := bB BK101 hb; replace HB := sB HB hb; (try clear hb)))
  go_ret
  exact ⟨fR, wB⟩
 subst c4
 replace H := iT H
 replace H := oA H
 obtain ⟨t103, A5, H⟩ := H
 (try dsimp only at H)
 obtain rfl := Option.some.inj H
 go_enter Tryz.func121, Tryz.ntmps121
 go_wp2_with (first | ((with_reducible refine gate_dst (N := 2) rfl ?_); (try (refine gate_guard (by rfl) ?_; dsimp only)); refine xE (N := 2) (cs := #[.int .i64 a0_0, .slice A0_1 l0_1.length c0_1]) (t := 26) ?_; intro gb101 hg w6 BK101 hb; have GW101 := gS hg HB; have GE101 := gS hg HB; replace HB := sB HB hb; clear hb hg; obtain ⟨hcz7_0, hcz7_1, hfz7_0, hfz7_1⟩ := zZ BK101) | ((with_reducible refine gate_callee (f := 20) rfl ?_); refine gL 6 Tryz.func20 #[.agg #[.int .i64 a0_0, .slice A0_1 l0_1.length c0_1]] ?_; (with_reducible refine (impl_IsCommittee.calls k a0_0 _ _ l0_1 true _ (Kd.C_below HR0_1.out HB.out) HC0_1.out A3.out).mono ?_); rintro e w8 ⟨rfl, hb⟩; refine ⟨_, rfl, ?_⟩; replace BK101 := bB BK101 hb; replace HB := sB HB hb; (try clear hb); (try clear hcz7_0 hcz7_1 hfz7_0 hfz7_1); obtain ⟨hcz9_0, hcz9_1, hfz9_0, hfz9_1⟩ := zZ BK101) | (go_at_call 196; (with_reducible refine (impl_isSet.calls k _ _ l1 (l0_1.length : Int) t103 _ (Kd.C_below HR1.out HB.out) HC1.out A5.out).mono ?_); rintro e w10 ⟨rfl, hb⟩; replace BK101 := bB BK101 hb; replace HB := sB HB hb; (try clear hb)))
 go_ret
 exact ⟨fR, wB⟩
def impl_maskOf.l0 : Nat → Int → List Int → Int → Int → Option (Int)
 | 0, _, _, _, _ => none
 | k + 1, x3, x6, x7, x8 => if x8 < x7 then (if 0 ≤ x8 then (if x8 < (x6.length : Int) then (if 0 ≤ (rd x6 x8) then (impl_maskOf.l0 k (Go.bits .or .i64 x3 (shl .i64 1 (rd x6 x8))) x6 x7 (wrap64 (x8 + 1))) else (none)) else (none)) else (none)) else (some x3)
def impl_maskOf.f (k : Nat) (l0 : List Int) : Option (Int) := impl_maskOf.l0 k 0 l0 (l0.length : Int) 0
theorem impl_maskOf.calls (k : Nat) (A0 : Option Addr) (c0 : Nat) (l0 : List Int) (r : Int) (w : World) (hr0 : Kd.C (Kd.int .i64) w A0 l0.length l0) (hc0 : l0.length ≤ c0) (h : impl_maskOf.f k l0 = some r) :
  Calls Tryz.prog 123 #[.slice A0 l0.length c0] w fun e w' => e = .returned (.int .i64 r) ∧ Drawn0 w w' := by
 have HR0 := Aside0.mk hr0
 have HC0 := Aside0.mk hc0
 clear hr0 hc0
 have H := h
 unfold impl_maskOf.f at H
 clear h
 have H' := Aside0.mk H
 clear H
 go_enter Tryz.func123, Tryz.ntmps123
 go_wp2
 go_loopg [3, 8] k (fun kq v3 v8 w' => ∃ (x3_1 : Int) (x8_1 : Int), v3 = .int .i64 x3_1 ∧ v8 = .int .i64 x8_1 ∧ Aside0 (impl_maskOf.l0 kq x3_1 l0 (l0.length : Int) x8_1 = some r) ∧ Aside0 (kq ≤ k) ∧ Drawn0 w w')
 case atStart => exact ⟨(0), (0), gR, gR, H', ⟨Nat.le_refl _⟩, dS⟩
 case round =>
  clear H'
  (try clear c1)
  obtain ⟨x3_1, x8_1, rfl, rfl, HA, HK1, ⟨m1, rfl⟩⟩ := hrel
  cases gk with
  | zero => exact absurd HA.out (by simp [impl_maskOf.l0])
  | succ k1 =>
   have H := HA.out
   clear HA
   simp only [impl_maskOf.l0] at H
   by_cases c2 : x8_1 < (l0.length : Int)
   rotate_left
   ·rw [if_neg c2] at H
    have c2b0 : decide (x8_1 < (l0.length : Int)) = false := decide_eq_false c2
    clear c2
    obtain rfl := Option.some.inj H
    go_wp2
    go_ret
    exact ⟨by first | rfl | (simp; done) | (simp [*]; done), dS⟩
   rw [if_pos c2] at H
   have c2b0 := decide_eq_true c2
   clear c2
   by_cases c3 : 0 ≤ x8_1
   rotate_left
   ·rw [if_neg c3] at H
    exact absurd H (by simp)
   rw [if_pos c3] at H
   have c3b0 := decide_eq_true c3
   clear c3
   by_cases c4 : x8_1 < (l0.length : Int)
   rotate_left
   ·rw [if_neg c4] at H
    exact absurd H (by simp)
   rw [if_pos c4] at H
   have c4b0 := decide_eq_true c4
   clear c4
   by_cases c5 : 0 ≤ (rd l0 x8_1)
   rotate_left
   ·rw [if_neg c5] at H
    exact absurd H (by simp)
   rw [if_pos c5] at H
   have c5b0 := eq_true c5
   have c5b1 := decide_eq_true c5
   clear c5
   obtain ⟨ji6, hji6⟩ : ∃ j_ : Int, (shl .i64 1 (rd l0 x8_1)) = j_ := ⟨_, rfl⟩
   replace H : (impl_maskOf.l0 k1 (Go.bits .or .i64 x3_1 (ji6)) l0 (l0.length : Int) (wrap64 (x8_1 + 1))) = some r := by first | (rw [hji6] at H; exact H) | (simp only [hji6] at H ⊢; exact H)
   have hji6_ : (IntKind.i64.wrap (1 * 2 ^ min (rd l0 x8_1).toNat 64)) = ji6 := hji6
   have hji6z : (rd l0 x8_1) ≤ 64 → (IntKind.i64.wrap (1 * 2 ^ (rd l0 x8_1).toNat)) = ji6 := shl_small hji6
   have hji6u : (IntKind.i64.wrap (2 ^ min (rd l0 x8_1).toNat 64)) = ji6 := by have h_ := hji6_; rw [Int.one_mul] at h_; exact h_
   have hji6v : (rd l0 x8_1) ≤ 64 → (IntKind.i64.wrap (2 ^ (rd l0 x8_1).toNat)) = ji6 := fun hle_ => by have h_ := hji6z hle_; rw [Int.one_mul] at h_; exact h_
   have hji6y : (wrap64 (1 * 2 ^ min (rd l0 x8_1).toNat 64)) = ji6 := (i64_w _).symm.trans hji6_
   have hji6x : (rd l0 x8_1) ≤ 64 → (wrap64 (1 * 2 ^ (rd l0 x8_1).toNat)) = ji6 := fun h_ => (i64_w _).symm.trans (hji6z h_)
   have H' := Aside0.mk H
   clear H
   have p101 : 0 ≤ (x8_1 : Int) := oD
   have q101 : x8_1 < (l0.length : Int) := oD
   obtain ⟨ad101, e101, hx101_0⟩ := Kd.at_int HR0.out x8_1 p101 q101
   cases e101
   replace p101 := eq_true p101
   replace q101 := eq_true q101
   go_wp2
   go_roundg k1
   case measure => have := HK1.out; omega
   case rel => exact ⟨(Go.bits .or .i64 x3_1 (ji6)), (wrap64 (x8_1 + 1)), (by first | rfl | (simp; done) | (simp only [← hji6] <;> (first | rfl | simp)) | (simp [*]; done)), gR, H', ⟨by have := HK1.out; omega⟩, dS⟩
def impl_IsWinning.f (k : Nat) (a0_0 : Int) (l0_1 : List Int) (l1 : List Int) : Option (Bool × Bool) := (impl_isSetOf.f k a0_0 l0_1 l1).bind fun t102 => (if t102 = true then ((impl_maskOf.f k l1).bind fun t103 => ((impl_Committee_weight.f k a0_0 l0_1 t103).bind fun t104 => (some (decide (t104 ≥ a0_0), true)))) else (some (false, false)))
def impl_IsWinning.T3 : Bool × List (List Nat × List Nat) := (true, [([], []), ([], []), ([1], [1]), ([0, 2, 2], [0, 2]), ([], []), ([4], [4]), ([3, 5], [3, 5]), ([6, 3, 0, 1, 2, 3, 4, 5, 6], [6]), ([7, 0, 1, 2, 3, 4, 5, 6, 7], [])])
def impl_IsWinning.B3 : List Nat := [0, 0, 2, 7, 0, 16, 63, 127, 255]
theorem impl_IsWinning.tab3 : rtab .any (opsOf Tryz.f12 3) = impl_IsWinning.T3 := by kernel_rfl
theorem impl_IsWinning.bits3 : waitsOk impl_IsWinning.T3.2 impl_IsWinning.B3 = true := by kernel_rfl
theorem impl_IsWinning.calls (k : Nat) (a0_0 : Int) (A0_1 : Option Addr) (c0_1 : Nat) (l0_1 : List Int) (A1 : Option Addr) (c1 : Nat) (l1 : List Int) (r1 : Bool) (r2 : Bool) (w : World) (hr0_1 : Kd.C (Kd.int .i64) w A0_1 l0_1.length l0_1) (hc0_1 : l0_1.length ≤ c0_1) (hr1 : Kd.C (Kd.int .i64) w A1 l1.length l1) (hc1 : l1.length ≤ c1) (h : impl_IsWinning.f k a0_0 l0_1 l1 = some (r1, r2)) :
  Calls Tryz.prog 12 #[.agg #[.int .i64 a0_0, .slice A0_1 l0_1.length c0_1], .slice A1 l1.length c1] w fun e w' => e = .returned (.tuple #[.bool r1, .bool r2]) ∧ Below w.heap.size w w' := by
 have hu26 := Tryz.underlying26
 have HR0_1 := Aside0.mk hr0_1
 have HC0_1 := Aside0.mk hc0_1
 clear hr0_1 hc0_1
 have HR1 := Aside0.mk hr1
 have HC1 := Aside0.mk hc1
 clear hr1 hc1
 have HB := Aside0.mk (Below.refl w.heap.size w)
 have H := h
 unfold impl_IsWinning.f at H
 clear h
 replace H := oA H
 obtain ⟨t102, A3, H⟩ := H
 (try dsimp only at H)
 by_cases c4 : t102 = true
 rotate_left
 ·replace c4 := Bool.eq_false_iff.mpr c4
  subst c4
  replace H := iF H
  simp only [Option.some.injEq, Prod.mk.injEq] at H
  obtain ⟨rfl, rfl⟩ := H
  go_enter Tryz.func12, Tryz.ntmps12
  go_wp2_with (first | ((with_reducible refine gate_dst (N := 2) rfl ?_); refine xE (N := 2) (cs := #[.int .i64 a0_0, .slice A0_1 l0_1.length c0_1]) (t := 26) ?_; intro gb101 hg w12 BK101 hb; have GW101 : Aside0 (w.heap.size ≤ gb101) := gT hg; have GE101 : Aside0 (w.heap.size ≤ gb101) := gT hg; replace HB := sQ hb; clear hb hg; obtain ⟨hcz13_0, hcz13_1, hfz13_0, hfz13_1⟩ := zZ BK101) | ((with_reducible refine gate_callee (f := 121) rfl ?_); refine gL 8 Tryz.func121 #[.agg #[.int .i64 a0_0, .slice A0_1 l0_1.length c0_1], .slice A1 l1.length c1] ?_; (with_reducible refine (impl_isSetOf.calls k a0_0 _ _ l0_1 _ _ l1 false _ ?side1 ?side2 ?side3 ?side4 A3.out).mono ?_); (case side1 => have hx_ := (Kd.C_below HR0_1.out HB.out); exact cC); (case side2 => exact HC0_1.out); (case side3 => have hx_ := (Kd.C_below HR1.out HB.out); exact cC); (case side4 => exact HC1.out); rintro e w14 ⟨rfl, hb⟩; refine ⟨_, rfl, ?_⟩; replace BK101 := bP BK101 hb; replace HB := sQ hb; (try clear hb)))
  go_ret2
  exact ⟨fR, wB⟩
 subst c4
 replace H := iT H
 replace H := oA H
 obtain ⟨t103, A5, H⟩ := H
 (try dsimp only at H)
 replace H := oA H
 obtain ⟨t104, A6, H⟩ := H
 (try dsimp only at H)
 simp only [Option.some.injEq, Prod.mk.injEq] at H
 obtain ⟨rfl, rfl⟩ := H
 go_enter Tryz.func12, Tryz.ntmps12
 try go_wp2_with (first | ((with_reducible refine gate_dst (N := 2) rfl ?_); refine xE (N := 2) (cs := #[.int .i64 a0_0, .slice A0_1 l0_1.length c0_1]) (t := 26) ?_; intro gb101 hg w7 BK101 hb; have GW101 := gS hg HB; have GE101 := gS hg HB; replace HB := sB HB hb; clear hb hg; obtain ⟨hcz8_0, hcz8_1, hfz8_0, hfz8_1⟩ := zZ BK101) | ((with_reducible refine gate_callee (f := 121) rfl ?_); refine gL 8 Tryz.func121 #[.agg #[.int .i64 a0_0, .slice A0_1 l0_1.length c0_1], .slice A1 l1.length c1] ?_; (with_reducible refine (impl_isSetOf.calls k a0_0 _ _ l0_1 _ _ l1 true _ (Kd.C_below HR0_1.out HB.out) HC0_1.out (Kd.C_below HR1.out HB.out) HC1.out A3.out).mono ?_); rintro e w9 ⟨rfl, hb⟩; refine ⟨_, rfl, ?_⟩; replace BK101 := bB BK101 hb; replace HB := sB HB hb; (try clear hb)))
 replace BK101 := bD BK101
 replace HB := Aside0.mk (below_drew1 HB.out)
 refine start_ (n := 9) (S := fun w' => w'.cell? ⟨gb101, 0, none⟩ = some (.int .i64 a0_0) ∧ w'.cell? ⟨gb101, 1, none⟩ = some (.slice A0_1 l0_1.length c0_1)) (ds := []) #[F,F,F,F,F,F,F,F,F] (by kernel_rfl) rfl rfl ⟨(blk_cell BK101.out 0).trans rfl, (blk_cell BK101.out 1).trans rfl⟩ (fun hHeld => ?_); refine with_tabW impl_IsWinning.tab3 impl_IsWinning.bits3 (fun HT_ HW_ => ?_)
 (try clear hcz8_0 hcz8_1 hfz8_0 hfz8_1)
 generalize w9.drew = w10 at BK101 HB hHeld ⊢
 refine pU 1 HT_ ?_
 refine pU 4 HT_ ?_
 refine tK 0 HT_ HW_ hHeld (hy := by rintro w' ⟨s0, s1⟩; go_simp; with_reducible rfl) ?_
 refine tK 5 HT_ HW_ hHeld (hy := by rintro w' ⟨s0, s1⟩; go_simp; with_reducible rfl) ?_
 refine oN 2 HT_ (fun K hK => ?_)
 refine gE Tryz.func123 #[.slice A1 l1.length c1] ?_
 with_reducible refine (impl_maskOf.calls k _ _ l1 t103 _ (Kd.C_below HR1.out HB.out) HC1.out A5.out).mono ?_
 rintro e w' ⟨rfl, ⟨nd, rfl⟩⟩
 refine ⟨_, rfl, ?_⟩
 refine hK.out _ _ ⟨(blk_cell BK101.out 0).trans rfl, (blk_cell BK101.out 1).trans rfl⟩ (fun hHeld => ?_)
 clear hK K
 refine nM ?_
 refine oN 3 HT_ (fun K hK => ?_)
 refine gE Tryz.func122 #[.agg #[.int .i64 a0_0, .slice A0_1 l0_1.length c0_1], .int .i64 t103] ?_
 with_reducible refine (impl_Committee_weight.calls k a0_0 _ _ l0_1 t103 t104 _ ?side1 ?side2 A6.out).mono ?_
 (case side1 =>  repeat (first | exact (Kd.C_below HR0_1.out (by repeat (first | exact HB.out | apply ba | apply bd | apply be | refine bs ?_ GE101.out))) | (with_reducible refine Kd.C_alloc ?_ _) | (with_reducible refine Kd.C_drewN ?_ _) | (with_reducible refine Kd.C_drew ?_)))
 (case side2 => exact HC0_1.out)
 rintro e w11 ⟨rfl, hb⟩
 refine ⟨_, rfl, ?_⟩
 replace BK101 := bP BK101 hb
 replace HB := sQ hb
 (try clear hb)
 (try clear hb2)
 (try clear hk)
 (try clear hi)
 refine hK.out _ _ ⟨(blk_cell BK101.out 0).trans rfl, (blk_cell BK101.out 1).trans rfl⟩ (fun hHeld => ?_)
 clear hK K
 refine nM ?_
 refine pU 6 HT_ ?_
 refine pU 7 HT_ ?_
 refine pU 8 HT_ ?_
 refine done_ (done_of HT_.out (by kernel_rfl)) ?_
 try go_wp2
 go_ret2
 exact ⟨fR, wB⟩
def impl_votesOf.l0 : Nat → (Int → Option Bool) → Int → Int → Int → List Bool → Option (Int × List Bool)
 | 0, _, _, _, _, _ => none
 | k + 1, x1, x14, x15, x106000, x106001 => if x15 < x14 then ((x1 x15).bind fun t106 => (if 0 ≤ x15 then (if x15 < (x106001.length : Int) then (impl_votesOf.l0 k x1 x14 (wrap64 (x15 + 1)) x106000 (x106001.set (x15 : Int).toNat t106)) else (none)) else (none))) else (some (x106000, x106001))
def impl_votesOf.f (k : Nat) (a0 : Int) (a1 : Int → Option Bool) : Option (Int × List Bool) := if 0 ≤ a0 then (if 0 ≤ (shl .i64 1 a0) then (if (shl .i64 1 a0 : Int).toNat ≤ 281474976710656 then ((some (List.replicate (shl .i64 1 a0 : Int).toNat false : List Bool)).bind fun y102 => (impl_votesOf.l0 k a1 (y102.length : Int) 0 a0 y102)) else (none)) else (none)) else (none)
def impl_votesOf.T5 : Bool × List (List Nat × List Nat) := (true, [([], []), ([0], [0]), ([], []), ([], []), ([], []), ([3, 4], [3, 4]), ([1, 2, 0, 1, 2, 3, 4, 5], [1, 2]), ([6, 5, 5, 0, 1, 2, 3, 4, 5], [5, 6])])
def impl_votesOf.B5 : List Nat := [0, 1, 0, 0, 0, 24, 63, 127]
theorem impl_votesOf.tab5 : rtab .any (opsOf Tryz.f203 5) = impl_votesOf.T5 := by kernel_rfl
theorem impl_votesOf.bits5 : waitsOk impl_votesOf.T5.2 impl_votesOf.B5 = true := by kernel_rfl
theorem impl_votesOf.hof (k : Nat) (a0 : Int) (a1 : Int → Option Bool) (g : Nat) (lb : Array Value) (r1 : Int) (r2 : List Bool) (w : World) (eg : ∀ args w, (callFunc g args).run Tryz.prog w = .ok (.enter g args) w)
  (hp : ∀ (W : World) (x : Int) (b : Bool), Below w.heap.size w W → a1 x = some b → Calls Tryz.prog g (#[.int .i64 x] ++ lb) W fun e W' => e = .returned (.bool b) ∧ Below W.heap.size W W') (h : impl_votesOf.f k a0 a1 = some (r1, r2)) :
  Calls Tryz.prog 203 #[.int .i64 a0, .func (.func g) #[] lb] w fun e w' => ∃ v1_ : Value, e = .returned (.agg #[.int .i64 r1, v1_]) ∧ Kd.R Kd.bool 4 w' w.heap.size (fun _ => True) v1_ r2 ∧ Below w.heap.size w w' := by
 have huV := Tryz.underlying87
 have HB := Aside0.mk (Below.refl w.heap.size w)
 have HP := Aside0.mk hp
 clear hp
 have H : (if 0 ≤ a0 then (if 0 ≤ (shl .i64 1 a0) then (if (shl .i64 1 a0 : Int).toNat ≤ 281474976710656 then ((some (List.replicate (shl .i64 1 a0 : Int).toNat false : List Bool)).bind fun y102 => (impl_votesOf.l0 k a1 (y102.length : Int) 0 a0 y102)) else (none)) else (none)) else (none)) = some (r1, r2) := h
 clear h
 by_cases c3 : 0 ≤ a0
 rotate_left
 ·rw [if_neg c3] at H
  exact absurd H (by simp)
 rw [if_pos c3] at H
 have c3b0 := eq_true c3
 have c3b1 := decide_eq_true c3
 clear c3
 obtain ⟨ji4, hji4⟩ : ∃ j_ : Int, (shl .i64 1 a0) = j_ := ⟨_, rfl⟩
 replace H : (if 0 ≤ (ji4) then (if (ji4 : Int).toNat ≤ 281474976710656 then ((some (List.replicate (ji4 : Int).toNat false : List Bool)).bind fun y102 => (impl_votesOf.l0 k a1 (y102.length : Int) 0 a0 y102)) else (none)) else (none)) = some (r1, r2) := by first | (rw [hji4] at H; exact H) | (simp only [hji4] at H ⊢; exact H)
 have hji4_ : (IntKind.i64.wrap (1 * 2 ^ min a0.toNat 64)) = ji4 := hji4
 have hji4z : a0 ≤ 64 → (IntKind.i64.wrap (1 * 2 ^ a0.toNat)) = ji4 := shl_small hji4
 have hji4u : (IntKind.i64.wrap (2 ^ min a0.toNat 64)) = ji4 := by have h_ := hji4_; rw [Int.one_mul] at h_; exact h_
 have hji4v : a0 ≤ 64 → (IntKind.i64.wrap (2 ^ a0.toNat)) = ji4 := fun hle_ => by have h_ := hji4z hle_; rw [Int.one_mul] at h_; exact h_
 have hji4y : (wrap64 (1 * 2 ^ min a0.toNat 64)) = ji4 := (i64_w _).symm.trans hji4_
 have hji4x : a0 ≤ 64 → (wrap64 (1 * 2 ^ a0.toNat)) = ji4 := fun h_ => (i64_w _).symm.trans (hji4z h_)
 by_cases c5 : 0 ≤ (ji4)
 rotate_left
 ·rw [if_neg c5] at H
  exact absurd H (by simp)
 rw [if_pos c5] at H
 have c5b0 := eq_true c5
 have c5b1 := decide_eq_true c5
 clear c5
 by_cases c6 : (ji4 : Int).toNat ≤ 281474976710656
 rotate_left
 ·rw [if_neg c6] at H
  exact absurd H (by simp)
 rw [if_pos c6] at H
 have c6b0 := eq_true c6
 have c6b1 := decide_eq_true c6
 clear c6
 obtain ⟨y102, hy102⟩ : ∃ y_ : List Bool, y_ = (List.replicate (ji4 : Int).toNat false) := ⟨_, rfl⟩
 replace H : (impl_votesOf.l0 k a1 (y102.length : Int) 0 a0 y102) = some (r1, r2) := by first | (rw [hy102]; with_reducible exact H) | (have H2_ := (Option.bind_some _ _).symm.trans H; rw [hy102]; with_reducible exact H2_) | (have H2_ := (Option.bind_some _ _).symm.trans H; with_reducible exact H2_) | with_reducible exact H | (rw [hy102]; exact H) | exact H
 have Ny102 := Aside0.mk hy102
 clear hy102
 have H' := Aside0.mk H
 clear H
 go_enter Tryz.func203, Tryz.ntmps203
 go_wp2_with (first | ((with_reducible refine gate_dst (N := 4) rfl ?_); refine xE (N := 4) (cs := #[.int .i64 0, .slice none 0 0]) (t := 87) ?_; intro gb101 hg w7 BK101 hb; have GW101 := gS hg HB; have GE101 := gS hg HB; replace HB := sB HB hb; clear hb hg) | ((with_reducible refine gate_dst (N := 10) rfl ?_); refine Kd.R_make Kd.bool _ 4 rfl (N := 10) rfl 85 _ _ rfl ji4 rfl rfl Tryz.underlying85 (.bool false) 1 info4 rfl (by decide) (by omega) false (ok := fun _ => True) (okp := fun _ => True) rfl (fun _ hk => hk) trivial (oD) (Nat.le_trans (Nat.mul_le_mul_right _ (oD : ji4.toNat ≤ 281474976710656)) (by omega)) (Below.refl _ _) (Nat.le_refl _) ?_; intro v103 w8 ho9 hb hg_ hnew_; clear hg_ hnew_; (first | rw [← Ny102.out] at ho9 | (simp only [Int.reduceToNat] at ho9; rw [← Ny102.out] at ho9)); have HO104 := Aside0.mk (Kd.R_lower ho9 (below_size HB.out)); replace BK101 := bB BK101 hb; replace HB := sB HB hb; clear hb ho9; obtain ⟨Ao10, co10, eo10⟩ := Kd.R_slice HO104.out; subst eo10) | ((with_reducible refine gate_dst (N := 5) rfl ?_); refine xE (N := 5) (cs := #[.int .i64 0, .slice none 0 0]) (t := 87) ?_; intro gb105 hg w11 BK105 hb; have GW105 := gS hg HB; have GE105 := gS hg HB; have NB101_105 := nL hg (blk_lt BK101.out); have NB105_101 := nG hg (blk_lt BK101.out); replace HO104 := rB HO104 hb; replace BK101 := bB BK101 hb; replace HB := sB HB hb; clear hb hg; have hnb12 := NB105_101.out; have hnc12 := NB101_105.out; obtain ⟨hcz13_0, hcz13_1, hfz13_0, hfz13_1⟩ := zZ BK105))
 go_loopg [15] k (fun kq v15 w' => ∃ (x15_1 : Int) (x106001_1 : List Bool) (u106001 : Value), v15 = .int .i64 x15_1 ∧ Aside0 (impl_votesOf.l0 kq a1 (y102.length : Int) x15_1 a0 x106001_1 = some (r1, r2)) ∧ Aside0 (kq ≤ k) ∧ Aside0 (Kd.R Kd.bool 4 w' w.heap.size (fun _ => True) u106001 x106001_1) ∧ Aside0 (w'.heap[gb101]? = some (.cells #[.int .i64 0, (.slice none 0 0)] 87 (0, 0))) ∧ Aside0 (w'.heap[gb105]? = some (.cells #[.int .i64 a0, u106001] 87 (0, 0))) ∧ Aside0 (Below w.heap.size w w'))
 case atStart => exact ⟨(0), (y102), (.slice Ao10 y102.length co10), gR, H', ⟨Nat.le_refl _⟩, ⟨by exact Kd.R_mono (Kd.R_far (p := ⟨gb105, 1, none⟩) (Kd.R_far (p := ⟨gb105, 0, none⟩) (Kd.R_types HO104.out BK105.out (by decide)) (fun _ hk => hk.2) (.int .i64 a0)) (fun _ hk => hk.2) (.slice Ao10 y102.length co10)) (fun _ hk => trivial)⟩, ⟨by refine blk_far ?_ NB101_105.out _; refine blk_far ?_ NB101_105.out _; exact BK101.out⟩, ⟨by refine blk_put (cs := #[.int .i64 a0, .slice none 0 0]) ?_ 1 _ rfl; refine blk_put (cs := #[.int .i64 0, .slice none 0 0]) ?_ 0 _ rfl; exact BK105.out⟩, ⟨wB⟩⟩
 case round =>
  clear H'
  (try clear c1); (try clear p2); (try clear c3); (try clear c3b0); (try clear c3b1); (try clear c5); (try clear c5b0); (try clear c5b1); (try clear c6); (try clear c6b0); (try clear c6b1); (try clear p6); (try clear c12); (try clear hcz13_0); (try clear hcz13_1); (try clear hfz13_0); (try clear hfz13_1)
  obtain ⟨x15_1, x106001_1, u106001, rfl, HA, HK1, HO_106001, BK101, BK105, HB⟩ := hrel
  cases gk with
  | zero => exact absurd HA.out (by simp [impl_votesOf.l0])
  | succ k1 =>
   have H := HA.out
   clear HA
   simp only [impl_votesOf.l0] at H
   by_cases c14 : x15_1 < (y102.length : Int)
   rotate_left
   ·rw [if_neg c14] at H
    have c14b0 : decide (x15_1 < (y102.length : Int)) = false := decide_eq_false c14
    clear c14
    simp only [Option.some.injEq, Prod.mk.injEq] at H
    obtain ⟨rfl, rfl⟩ := H
    have hnb22 := NB105_101.out
    have hnc22 := NB101_105.out
    obtain ⟨hcz23_0, hcz23_1, hfz23_0, hfz23_1⟩ := zZ BK105
    obtain ⟨hcz24_0, hcz24_1, hfz24_0, hfz24_1⟩ := zZ BK101
    obtain ⟨Ao25, co25, eo25⟩ := Kd.R_slice HO_106001.out
    subst eo25
    go_wp2
    refine bodyPost_ret (results_cell_row rfl _ _ gb101 87 #[.int .i64 a0, .slice Ao25 x106001_1.length co25] (0, 0) _ rfl (by refine blk_put (cs := #[.int .i64 a0, .slice none 0 0]) ?_ 1 _ rfl; refine blk_put (cs := #[.int .i64 0, .slice none 0 0]) ?_ 0 _ rfl; exact BK101.out) Tryz.underlying87 rfl (by kernel_rfl)) rfl ?_
    exact ⟨_, by first | rfl | (simp <;> rfl) | (simp only [← hji4]; first | rfl | (simp <;> rfl)) | (simp [*] <;> rfl), by exact Kd.R_mono (Kd.R_far (p := ⟨gb101, 1, none⟩) (Kd.R_far (p := ⟨gb101, 0, none⟩) (Kd.R_types HO_106001.out BK101.out (by decide)) (fun _ hk => hk.2) (.int .i64 a0)) (fun _ hk => hk.2) (.slice Ao25 x106001_1.length co25)) (fun _ hk => trivial), wB⟩
   rw [if_pos c14] at H
   have c14b0 := decide_eq_true c14
   clear c14
   replace H := oA H
   obtain ⟨t106, A15, H⟩ := H
   (try dsimp only at H)
   by_cases c16 : 0 ≤ x15_1
   rotate_left
   ·rw [if_neg c16] at H
    exact absurd H (by simp)
   rw [if_pos c16] at H
   have c16b0 := decide_eq_true c16
   clear c16
   by_cases c17 : x15_1 < (x106001_1.length : Int)
   rotate_left
   ·rw [if_neg c17] at H
    exact absurd H (by simp)
   rw [if_pos c17] at H
   have c17b0 := decide_eq_true c17
   clear c17
   obtain ⟨y107, hy107⟩ : ∃ y_ : List Bool, y_ = (x106001_1.set (x15_1 : Int).toNat t106) := ⟨_, rfl⟩
   replace H : (impl_votesOf.l0 k1 a1 (y102.length : Int) (wrap64 (x15_1 + 1)) a0 y107) = some (r1, r2) := by first | (rw [hy107]; with_reducible exact H) | (have H2_ := (Option.bind_some _ _).symm.trans H; rw [hy107]; with_reducible exact H2_) | (have H2_ := (Option.bind_some _ _).symm.trans H; with_reducible exact H2_) | with_reducible exact H | (rw [hy107]; exact H) | exact H
   have Ny107 := Aside0.mk hy107
   clear hy107
   have H' := Aside0.mk H
   clear H
   try go_wp2
   replace HO_106001 := rD HO_106001
   replace BK101 := bD BK101
   replace BK105 := bD BK105
   replace HB := Aside0.mk (below_drew1 HB.out)
   refine start_ (n := 8) (S := fun w' => w'.cell? ⟨gb105, 0, none⟩ = some (.int .i64 a0) ∧ w'.cell? ⟨gb105, 1, none⟩ = some (u106001)) (ds := [7]) #[F,F,F,F,F,F,F,F] (by kernel_rfl) rfl rfl ⟨(blk_cell BK105.out 0).trans rfl, (blk_cell BK105.out 1).trans rfl⟩ (fun hHeld => ?_); refine with_tabW impl_votesOf.tab5 impl_votesOf.bits5 (fun HT_ HW_ => ?_)
   generalize wr.drew = w19 at HO_106001 BK101 BK105 HB hHeld ⊢
   refine pU 0 HT_ ?_
   refine pU 2 HT_ ?_
   refine pU 3 HT_ ?_
   refine pU 4 HT_ ?_
   refine tK 1 HT_ HW_ hHeld (hy := by rintro w' ⟨s0, s1⟩; go_simp; with_reducible rfl) ?_
   refine oN 5 HT_ (fun K hK => ?_)
   refine goesF_ (g := g) (lb := lb) eg #[.int .i64 x15_1] (by rfl) rfl rfl rfl (by (try simp only [mA, mC, mN]); first | done | rfl) ?_
   refine (HP.out _ x15_1 t106 HB.out A15.out).mono ?_
   rintro e w20 ⟨rfl, hb⟩
   refine ⟨_, rfl, ?_⟩
   replace HO_106001 := rB HO_106001 hb
   replace BK101 := bB BK101 hb
   replace BK105 := bB BK105 hb
   replace HB := sB HB hb
   (try clear hb)
   (try clear hb2)
   (try clear hk)
   (try clear hi)
   have p18 : 0 ≤ (x15_1 : Int) := oD
   have q18 : (x15_1 : Int) < ((x106001_1.length : Int) : Int) := oD
   obtain ⟨go18, co18, eo18, gb18, gl18, cl18, HG18⟩ := Kd.R_form HO_106001.out (by omega)
   (first | cases eo18 | (injection eo18 with ea_ en_ ec_; (first | subst ea_ | (injection ea_ with ea_; subst ea_)); subst ec_; clear en_))
   have GB18 := Aside0.mk gb18
   have GG18 := Aside0.mk HG18
   clear gb18 gl18 HG18
   obtain ⟨hx18_0, hf18_0⟩ := Kd.R_celln false HO_106001.out (x15_1 : Int) p18 q18
   replace p18 := eq_true p18
   replace q18 := eq_true q18
   have HP21 := Kd.R_putn HO_106001.out (x15_1 : Int) t106
   rw [← Ny107.out] at HP21
   have HQ21 := Aside0.mk HP21
   clear HP21
   refine hK.out _ _ ⟨(blk_cell BK105.out 0).trans rfl, (blk_cell BK105.out 1).trans rfl⟩ (fun hHeld => ?_)
   clear hK K
   refine nM ?_
   refine pU 6 HT_ ?_
   refine last_ (i := 7) (N := none) #[T,T,T,T,T,T,T,T] rfl rfl (one_of HT_.out (by kernel_rfl)) (by decide) (fun K hK => ?_)
   refine skip_ (w1 := ?_) (by rfl) rfl ?_ ?_
   rotate_left
   ·go_simp
    rfl
   refine hK.out _ _ ?_
   clear hK K
   refine done_ (done_of HT_.out (by kernel_rfl)) ?_
   try go_wp2
   go_roundg k1
   case measure => have := HK1.out; omega
   case rel => exact ⟨(wrap64 (x15_1 + 1)), (y107), (.slice (some ⟨go18, 0, none⟩) x106001_1.length co18), gR, H', ⟨by have := HK1.out; omega⟩, ⟨by exact HQ21.out⟩, ⟨by refine blk_far ?_ (by have h_ := Kd.R_ne HO_106001.out BK101.out (by decide); intro e_; exact h_ (by rw [e_]; rfl)) _; exact BK101.out⟩, ⟨by refine blk_far ?_ (by have h_ := Kd.R_ne HO_106001.out BK105.out (by decide); intro e_; exact h_ (by rw [e_]; rfl)) _; exact BK105.out⟩, ⟨by repeat (first | (with_reducible first | exact HB.out | apply ba | apply bd | apply be | refine bs ?_ GB18.out | refine bs ?_ GE101.out | refine bs ?_ GE105.out) | exact HB.out)⟩⟩
def impl_Committee_votes_1.f (k : Nat) (a0 : Int) (l0 : List Int) (m : Int) : Option Bool := (impl_Committee_weight.f k a0 l0 m).bind fun s => some (decide (a0 ≤ s))
def impl_Committee_votes.f (k : Nat) (a0_0 : Int) (l0_1 : List Int) : Option (Int × List Bool) := impl_votesOf.f k (l0_1.length : Int) (impl_Committee_votes_1.f k a0_0 l0_1)
theorem impl_Committee_votes_1.clo (k : Nat) (m q : Int) (A : Option Addr) (c : Nat) (l : List Int) (B : Nat) (b : Bool) (W : World) (hlt : B < W.heap.size) (h0 : W.cell? ⟨B, 0, none⟩ = some (.int .i64 q)) (h1 : W.cell? ⟨B, 1, none⟩ = some (.slice A l.length c))
  (hr : Kd.C (Kd.int .i64) W A l.length l) (hc : l.length ≤ c) (h : impl_Committee_votes_1.f k q l m = some b) :
  Calls Tryz.prog 204 #[.int .i64 m, .pointer (some ⟨B, 0, none⟩)] W fun e W' => e = .returned (.bool b) ∧ Below W.heap.size W W' := by
 obtain ⟨s, hs, hb⟩ := oB h
 obtain rfl := Option.some.inj hb
 have HS := Aside0.mk hs
 have HR := Aside0.mk hr
 have HC := Aside0.mk hc
 have HLT := Aside0.mk hlt
 clear h hb hs hr hc hlt
 have hd0 : W.drew.cell? ⟨B, 0, none⟩ = some (.int .i64 q) := h0
 have hd1 : W.drew.cell? ⟨B, 1, none⟩ = some (.slice A l.length c) := h1
 have HD0 := Aside0.mk hd0
 have HD1 := Aside0.mk hd1
 clear hd0 hd1
 have HZ := Aside0.mk (show W.drew.heap.size = W.heap.size from rfl)
 go_enter Tryz.func204, Tryz.ntmps204
 go_wp2
 go_region_held3 (fun w' => w'.cell? ⟨B, 0, none⟩ = some (.int .i64 q) ∧ w'.cell? ⟨B, 1, none⟩ = some (.slice A l.length c)) (first | exact ⟨k0, k1⟩ | go_keep)
  (first | (go_at_call 122; refine (impl_Committee_weight.calls k q A c l m s _ (Kd.C_drew HR.out) HC.out HS.out).mono ?_; rintro e w' ⟨rfl, hb⟩; have k0 := (hb.cell (p := ⟨B, 0, none⟩) (by rw [HZ.out]; exact HLT.out)).trans HD0.out; have k1 := (hb.cell (p := ⟨B, 1, none⟩) (by rw [HZ.out]; exact HLT.out)).trans HD1.out; have HBN := Aside0.mk hb; clear hb))
 go_wp2
 go_ret
 exact ⟨rfl, (below_drew1 (Below.refl _ _)).trans (HBN.out.mono (by rw [HZ.out]; exact Nat.le_refl _))⟩
theorem impl_Committee_votes.calls (k : Nat) (a0_0 : Int) (A0_1 : Option Addr) (c0_1 : Nat) (l0_1 : List Int) (r1 : Int) (r2 : List Bool) (w : World) (hr0_1 : Kd.C (Kd.int .i64) w A0_1 l0_1.length l0_1) (hc0_1 : l0_1.length ≤ c0_1) (h : impl_Committee_votes.f k a0_0 l0_1 = some (r1, r2)) :
  Calls Tryz.prog 135 #[.agg #[.int .i64 a0_0, .slice A0_1 l0_1.length c0_1]] w fun e w' => ∃ v1_ : Value, e = .returned (.agg #[.int .i64 r1, v1_]) ∧ Kd.R Kd.bool 4 w' w.heap.size (fun _ => True) v1_ r2 ∧ Below w.heap.size w w' := by
 have eg : ∀ args w, (callFunc 204 args).run Tryz.prog w = .ok (.enter 204 args) w := enters_of Tryz.func204 (by kernel_rfl) rfl
 have hmf : ∀ (fn : Fn) (first cap : Array Value) (w : World), (Instr.makeFunc fn first cap).run Tryz.prog w = .ok (.func fn first cap) w := fun _ _ _ _ => rfl
 have huC := Tryz.underlying26
 have huV := Tryz.underlying87
 have HR := Aside0.mk hr0_1
 have HC := Aside0.mk hc0_1
 have H := Aside0.mk h
 clear hr0_1 hc0_1 h
 go_enter Tryz.func135, Tryz.ntmps135
 go_wp2_with fail
 have hB2 : Below w.heap.size w ((w.alloc (.cells #[.int .i64 a0_0, .slice A0_1 l0_1.length c0_1] 26)).alloc (.cells #[.int .i64 0, .slice none 0 0] 87)) := ((Below.refl _ _).alloc (Nat.le_refl _) _).alloc (by simp) _
 refine (impl_votesOf.hof k (l0_1.length : Int) (impl_Committee_votes_1.f k a0_0 l0_1) 204 #[.pointer (some ⟨w.heap.size, 0, none⟩)] r1 r2 _ eg ?_ H.out).mono ?_
 ·intro W x b hb hx
  have hlt : w.heap.size < W.heap.size := Nat.lt_of_lt_of_le (by simp; omega) hb.size
  refine impl_Committee_votes_1.clo k x a0_0 A0_1 c0_1 l0_1 w.heap.size b W hlt ?_ ?_ (Kd.C_below HR.out (hB2.trans (hb.mono hB2.size))) HC.out hx
  ·rw [hb.cell (p := ⟨w.heap.size, 0, none⟩) (by simp; omega)]
   simp [go_sem]
  rw [hb.cell (p := ⟨w.heap.size, 1, none⟩) (by simp; omega)]
  simp [go_sem]
 rintro e w' ⟨v1, rfl, hown, hb⟩
 obtain ⟨A1, c1, rfl⟩ := Kd.R_slice hown
 have HBN := Aside0.mk (hB2.trans (hb.mono hB2.size))
 have hsz : (w.alloc (.cells #[.int .i64 a0_0, .slice A0_1 l0_1.length c0_1] 26)).heap.size = w.heap.size + 1 := by simp
 have hw2 := blk_new (w.alloc (.cells #[.int .i64 a0_0, .slice A0_1 l0_1.length c0_1] 26)) (.cells #[.int .i64 0, .slice none 0 0] 87)
 rw [hsz] at hw2
 have BK := Aside0.mk (blk_below hw2 hb)
 have HO := Aside0.mk (Kd.R_lower hown hB2.size)
 have hc0 := (blk_cell BK.out 0).trans rfl
 have hc1 := (blk_cell BK.out 1).trans rfl
 have hf0 := blk_frozen BK.out 0
 have hf1 := blk_frozen BK.out 1
 clear hown hw2 hb hB2 hsz
 go_wp2
 refine bodyPost_ret (results_cell_row rfl _ _ (w.heap.size + 1) 87 #[.int .i64 r1, .slice A1 r2.length c1] (0, 0) _ rfl (by refine blk_put (cs := #[.int .i64 r1, .slice none 0 0]) ?_ 1 _ rfl; refine blk_put (cs := #[.int .i64 0, .slice none 0 0]) ?_ 0 _ rfl; exact BK.out) Tryz.underlying87 rfl (by kernel_rfl)) rfl ?_
 exact ⟨_, rfl, Kd.R_mono (Kd.R_far (p := ⟨w.heap.size + 1, 1, none⟩) (Kd.R_far (p := ⟨w.heap.size + 1, 0, none⟩) (Kd.R_types HO.out BK.out (by decide)) (fun _ hk => hk.2) (.int .i64 r1)) (fun _ hk => hk.2) (.slice A1 r2.length c1)) (fun _ _ => trivial), below_set (below_set HBN.out (Nat.le_succ _)) (Nat.le_succ _)⟩
def slices_Index_int_int.l0 : Nat → List Int → Int → Int → Int → Option (Int)
 | 0, _, _, _, _ => none
 | k + 1, x0, x1, x7, x8 => if x8 < x7 then (if 0 ≤ x8 then (if x8 < (x0.length : Int) then (if x1 = (rd x0 x8) then (some x8) else (slices_Index_int_int.l0 k x0 x1 x7 (wrap64 (x8 + 1)))) else (none)) else (none)) else (some (-1))
def slices_Index_int_int.f (k : Nat) (l0 : List Int) (a1 : Int) : Option (Int) := slices_Index_int_int.l0 k l0 a1 (l0.length : Int) 0
theorem slices_Index_int_int.calls (k : Nat) (A0 : Option Addr) (c0 : Nat) (l0 : List Int) (a1 : Int) (r : Int) (w : World) (hr0 : Kd.C (Kd.int .i64) w A0 l0.length l0) (hc0 : l0.length ≤ c0) (h : slices_Index_int_int.f k l0 a1 = some r) :
  Calls Tryz.prog 232 #[.slice A0 l0.length c0, .int .i64 a1] w fun e w' => e = .returned (.int .i64 r) ∧ Drawn0 w w' := by
 have HR0 := Aside0.mk hr0
 have HC0 := Aside0.mk hc0
 clear hr0 hc0
 have H := h
 unfold slices_Index_int_int.f at H
 clear h
 have H' := Aside0.mk H
 clear H
 go_enter Tryz.func232, Tryz.ntmps232
 go_wp2
 go_loopg [8] k (fun kq v8 w' => ∃ (x8_1 : Int), v8 = .int .i64 x8_1 ∧ Aside0 (slices_Index_int_int.l0 kq l0 a1 (l0.length : Int) x8_1 = some r) ∧ Aside0 (kq ≤ k) ∧ Drawn0 w w')
 case atStart => exact ⟨(0), gR, H', ⟨Nat.le_refl _⟩, dS⟩
 case round =>
  clear H'
  (try clear c2); (try clear p2)
  obtain ⟨x8_1, rfl, HA, HK1, ⟨m1, rfl⟩⟩ := hrel
  cases gk with
  | zero => exact absurd HA.out (by simp [slices_Index_int_int.l0])
  | succ k1 =>
   have H := HA.out
   clear HA
   simp only [slices_Index_int_int.l0] at H
   by_cases c3 : x8_1 < (l0.length : Int)
   rotate_left
   ·rw [if_neg c3] at H
    have c3b0 : decide (x8_1 < (l0.length : Int)) = false := decide_eq_false c3
    clear c3
    obtain rfl := Option.some.inj H
    go_wp2
    go_ret
    exact ⟨by first | rfl | (simp; done) | (simp [*]; done), dS⟩
   rw [if_pos c3] at H
   have c3b0 := decide_eq_true c3
   clear c3
   by_cases c4 : 0 ≤ x8_1
   rotate_left
   ·rw [if_neg c4] at H
    exact absurd H (by simp)
   rw [if_pos c4] at H
   have c4b0 := decide_eq_true c4
   clear c4
   by_cases c5 : x8_1 < (l0.length : Int)
   rotate_left
   ·rw [if_neg c5] at H
    exact absurd H (by simp)
   rw [if_pos c5] at H
   have c5b0 := decide_eq_true c5
   clear c5
   by_cases c6 : a1 = (rd l0 x8_1)
   ·rw [if_pos c6] at H
    have c6b0 : (a1 == (rd l0 x8_1)) = true := beq_iff_eq.mpr c6
    have c6b1 : (a1 != (rd l0 x8_1)) = false := bne_eq_false_iff_eq.mpr c6
    clear c6
    obtain rfl := Option.some.inj H
    have p101 : 0 ≤ (x8_1 : Int) := oD
    have q101 : x8_1 < (l0.length : Int) := oD
    obtain ⟨ad101, e101, hx101_0⟩ := Kd.at_int HR0.out x8_1 p101 q101
    cases e101
    replace p101 := eq_true p101
    replace q101 := eq_true q101
    go_wp2
    go_ret
    exact ⟨by first | rfl | (simp; done) | (simp [*]; done), dS⟩
   rw [if_neg c6] at H
   have c6b0 : (a1 == (rd l0 x8_1)) = false := beq_eq_false_iff_ne.mpr c6
   have c6b1 : (a1 != (rd l0 x8_1)) = true := bne_iff_ne.mpr c6
   have H' := Aside0.mk H
   clear H
   have p101 : 0 ≤ (x8_1 : Int) := oD
   have q101 : x8_1 < (l0.length : Int) := oD
   obtain ⟨ad101, e101, hx101_0⟩ := Kd.at_int HR0.out x8_1 p101 q101
   cases e101
   replace p101 := eq_true p101
   replace q101 := eq_true q101
   go_wp2
   go_roundg k1
   case measure => have := HK1.out; omega
   case rel => exact ⟨(wrap64 (x8_1 + 1)), gR, H', ⟨by have := HK1.out; omega⟩, dS⟩
def slices_Contains_int_int.f (k : Nat) (l0 : List Int) (a1 : Int) : Option (Bool) := (slices_Index_int_int.f k l0 a1).bind fun t101 => (some (decide (t101 ≥ 0)))
theorem slices_Contains_int_int.calls (k : Nat) (A0 : Option Addr) (c0 : Nat) (l0 : List Int) (a1 : Int) (r : Bool) (w : World) (hr0 : Kd.C (Kd.int .i64) w A0 l0.length l0) (hc0 : l0.length ≤ c0) (h : slices_Contains_int_int.f k l0 a1 = some r) :
  Calls Tryz.prog 226 #[.slice A0 l0.length c0, .int .i64 a1] w fun e w' => e = .returned (.bool r) ∧ Drawn0 w w' := by
 have HR0 := Aside0.mk hr0
 have HC0 := Aside0.mk hc0
 clear hr0 hc0
 have H := h
 unfold slices_Contains_int_int.f at H
 clear h
 replace H := oA H
 obtain ⟨t101, A3, H⟩ := H
 (try dsimp only at H)
 obtain rfl := Option.some.inj H
 go_enter Tryz.func226, Tryz.ntmps226
 go_wp2_with (first | ((with_reducible refine gate_callee (f := 232) rfl ?_); refine gL 7 Tryz.func232 #[.slice A0 l0.length c0, .int .i64 a1] ?_; (with_reducible refine (slices_Index_int_int.calls k _ _ l0 a1 t101 _ HR0.out HC0.out A3.out).mono ?_); rintro e w' ⟨rfl, ⟨nd, rfl⟩⟩; refine ⟨_, rfl, ?_⟩))
 go_ret
 exact ⟨by first | rfl | (simp; done) | (simp [*]; done), dS⟩
def idxOfS (p : List Int → Bool) (l : List (List Int)) : Int := match l.findIdx? p with
 | some i => (i : Int)
 | none => -1
theorem idxOfS_hit (p : List Int → Bool) (l : List (List Int)) (x : Int) (h0 : 0 ≤ x) (h1 : x < (l.length : Int)) (hp : p (rdOf [] l x) = true) (hb : ∀ j : Nat, (j : Int) < x → p (l.getD j []) = false) : idxOfS p l = x := by
 obtain ⟨k, rfl⟩ := Int.eq_ofNat_of_zero_le h0
 have hk : k < l.length := by omega
 have : l.findIdx? p = some k := by
  rw [List.findIdx?_eq_some_iff_getElem]
  refine ⟨hk, ?_, fun j hj => ?_⟩
  ·simpa [rdOf, List.getD_eq_getElem?_getD, List.getElem?_eq_getElem hk] using hp
  have := hb j (by omega)
  have hjl : j < l.length := by omega
  simpa [List.getD_eq_getElem?_getD, List.getElem?_eq_getElem hjl] using this
 simp [idxOfS, this]
theorem idxOfS_miss (p : List Int → Bool) (l : List (List Int)) (hb : ∀ j : Nat, (j : Int) < (l.length : Int) → p (l.getD j []) = false) : idxOfS p l = -1 := by
 have : l.findIdx? p = none := by
  rw [List.findIdx?_eq_none_iff]
  intro x hx
  obtain ⟨j, hj, rfl⟩ := List.mem_iff_getElem.1 hx
  have := hb j (by omega)
  simpa [List.getD_eq_getElem?_getD, List.getElem?_eq_getElem hj] using this
 simp [idxOfS, this]
theorem idxOfS_any (p : List Int → Bool) (l : List (List Int)) : decide (0 ≤ idxOfS p l) = l.any p := by
 unfold idxOfS
 cases h : l.findIdx? p with
 | none =>
  rw [List.findIdx?_eq_none_iff] at h
  have : l.any p = false := by simpa using h
  simp [this]
 | some i =>
  rw [List.findIdx?_eq_some_iff_getElem] at h
  obtain ⟨hi, hp, _⟩ := h
  have : l.any p = true := by simpa using ⟨_, List.getElem_mem hi, hp⟩
  simp [this]
theorem wrap64_succS {x : Int} {n : Nat} (h0 : 0 ≤ x) (h1 : x < (n : Int)) (hn : n ≤ 9223372036854775807) : wrap64 (x + 1) = x + 1 := by
 unfold wrap64
 omega
theorem slices_IndexFunc_intS.hof (A0 : Option Addr) (c0 : Nat) (l0 : List (List Int)) (g : Nat) (lb : Array Value) (p : List Int → Bool) (w : World) (hr0 : Kd.C (Kd.slice 3 (Kd.int .i64)) w A0 l0.length l0)
  (eg : ∀ args w, (callFunc g args).run Tryz.prog w = .ok (.enter g args) w)
  (hp : ∀ (W : World) (A : Option Addr) (c : Nat) (x : List Int), x ∈ l0 → Below w.heap.size w W → Kd.C (Kd.int .i64) W A x.length x → x.length ≤ c → Calls Tryz.prog g (#[.slice A x.length c] ++ lb) W fun e W' => e = .returned (.bool (p x)) ∧ Below W.heap.size W W') :
  Calls Tryz.prog 189 #[.slice A0 l0.length c0, .func (.func g) #[] lb] w fun e w' => e = .returned (.int .i64 (idxOfS p l0)) ∧ Below w.heap.size w w' := by
 have hn := hr0.2.1
 have HP := Aside0.mk hp
 have HR := Aside0.mk hr0
 clear hp hr0
 go_enter Tryz.func189, Tryz.ntmps189
 go_wp2
 go_loopg [5, 8] l0.length (fun gg _ s8 wr => ∃ x : Int, s8 = .int .i64 x ∧ Aside0 (0 ≤ x ∧ x ≤ (l0.length : Int) ∧ (l0.length : Int) - x ≤ (gg : Int)) ∧ Aside0 (Below w.heap.size w wr) ∧ Aside0 (∀ j : Nat, (j : Int) < x → p (l0.getD j []) = false))
 case atStart => exact ⟨0, rfl, ⟨by omega⟩, ⟨Below.refl _ _⟩, ⟨fun j hj => by omega⟩⟩
 case round =>
  obtain ⟨x, rfl, HX, HB, HA⟩ := hrel
  have h0 : 0 ≤ x := HX.out.1
  by_cases hlt : x < (l0.length : Int)
  ·obtain ⟨ad, cs, ea, _, hK, hcs⟩ := ReadsRow.get_ (Kd.C_below HR.out HB.out) ([] : List Int) x h0 hlt
   obtain ⟨Ax, cx, rfl, hcx, hCx⟩ := hK
   cases ea
   have hcell : wr.cell? (ad.add x.toNat) = some (.slice Ax (rdOf [] l0 x).length cx) := by
    have := hcs 0 _ rfl
    simpa [rdOf, Kd.slice] using this
   have HCX := Aside0.mk hCx
   have HCL := Aside0.mk hcx
   clear hCx hcx hcs
   have hw1 := wrap64_succS h0 hlt hn
   have HW1 := Aside0.mk hw1
   clear hw1
   have c4b0 : decide (x < (l0.length : Int)) = true := decide_eq_true hlt
   have HLT := Aside0.mk hlt
   have H0 := Aside0.mk h0
   have hmem : rdOf [] l0 x ∈ l0 := by
    have hk : x.toNat < l0.length := by omega
    simp only [rdOf, List.getD_eq_getElem?_getD, List.getElem?_eq_getElem hk, Option.getD_some]
    exact List.getElem_mem hk
   have hcall := HP.out wr Ax cx (rdOf [] l0 x) hmem HB.out HCX.out HCL.out
   have HC := Aside0.mk hcall
   clear hcall hmem
   have p5 := eq_true h0
   have q5 := eq_true hlt
   clear h0 hlt hn
   cases hq : p (rdOf [] l0 x) with
   | true =>
    have HQ := Aside0.mk hq
    have HCT := Aside0.mk (show Calls Tryz.prog g (#[.slice Ax (rdOf [] l0 x).length cx] ++ lb) wr fun e W' => e = .returned (.bool true) ∧ Below wr.heap.size wr W' from by have := HC.out; rwa [hq] at this)
    clear hq HC
    go_wp2_with fail
    refine (HCT.out).mono ?_
    rintro e w' ⟨rfl, hb⟩
    have HBN := Aside0.mk (HB.out.trans (hb.mono HB.out.size))
    clear hb
    go_wp2
    go_ret
    exact ⟨by rw [idxOfS_hit p l0 x H0.out HLT.out HQ.out HA.out]; first | rfl | (simp; done), HBN.out⟩
   | false =>
    have HQ := Aside0.mk hq
    have HCT := Aside0.mk (show Calls Tryz.prog g (#[.slice Ax (rdOf [] l0 x).length cx] ++ lb) wr fun e W' => e = .returned (.bool false) ∧ Below wr.heap.size wr W' from by have := HC.out; rwa [hq] at this)
    clear hq HC
    go_wp2_with fail
    refine (HCT.out).mono ?_
    rintro e w' ⟨rfl, hb⟩
    have HBN := Aside0.mk (HB.out.trans (hb.mono HB.out.size))
    clear hb
    go_wp2
    go_roundg (gk - 1)
    case measure => have := HX.out; have := HLT.out; omega
    case rel =>
     refine ⟨x + 1, by rw [HW1.out], ⟨by have := HX.out; have := HLT.out; omega⟩, ⟨HBN.out⟩, ⟨fun j hj => ?_⟩⟩
     by_cases e : (j : Int) = x
     ·subst e
      exact HQ.out
     exact HA.out j (by omega)
  have c4b0 : decide (x < (l0.length : Int)) = false := decide_eq_false hlt
  have HLT := Aside0.mk hlt
  clear hlt hn
  go_wp2
  go_ret
  exact ⟨by rw [idxOfS_miss p l0 (fun j hj => HA.out j (by have := HX.out; have := HLT.out; omega))]; first | rfl | (simp; done), HB.out⟩
theorem slices_ContainsFunc_intS.hof (A0 : Option Addr) (c0 : Nat) (l0 : List (List Int)) (g : Nat) (lb : Array Value) (p : List Int → Bool) (w : World) (hr0 : Kd.C (Kd.slice 3 (Kd.int .i64)) w A0 l0.length l0)
  (eg : ∀ args w, (callFunc g args).run Tryz.prog w = .ok (.enter g args) w)
  (hp : ∀ (W : World) (A : Option Addr) (c : Nat) (x : List Int), x ∈ l0 → Below w.heap.size w W → Kd.C (Kd.int .i64) W A x.length x → x.length ≤ c → Calls Tryz.prog g (#[.slice A x.length c] ++ lb) W fun e W' => e = .returned (.bool (p x)) ∧ Below W.heap.size W W') :
  Calls Tryz.prog 206 #[.slice A0 l0.length c0, .func (.func g) #[] lb] w fun e w' => e = .returned (.bool (l0.any p)) ∧ Below w.heap.size w w' := by
 have HI := Aside0.mk (slices_IndexFunc_intS.hof A0 c0 l0 g lb p w hr0 eg hp)
 clear hp hr0
 go_enter Tryz.func206, Tryz.ntmps206
 go_wp2_with (go_at_call 189; refine (HI.out).mono ?_; rintro e w' ⟨rfl, hb⟩)
 go_ret
 exact ⟨by rw [← idxOfS_any]; first | rfl | (simp; done), hb⟩
def impl_members.l0 : Nat → (Int → Option Bool) → Int → List Int → Int → Option (List Int)
 | 0, _, _, _, _ => none
 | k + 1, p, n, out, x => if x < n then ((p x).bind fun b => if b = true then (if out.length < 17592186044416 then impl_members.l0 k p n (out ++ [x]) (wrap64 (x + 1)) else none) else impl_members.l0 k p n out (wrap64 (x + 1))) else some out
def impl_members.g (k : Nat) (n : Int) (p : Int → Option Bool) : Option (List Int) := impl_members.l0 k p n [] 0
theorem impl_members.hof (k : Nat) (n : Int) (p : Int → Option Bool) (g : Nat) (fb lb : Array Value) (r : List Int) (w : World) (hn : n ≤ 9223372036854775807) (eg : ∀ args w, (callFunc g args).run Tryz.prog w = .ok (.enter g args) w)
  (hp : ∀ (W : World) (x : Int) (b : Bool), Below w.heap.size w W → 0 ≤ x → x < n → p x = some b → Calls Tryz.prog g (fb ++ #[.int .i64 x] ++ lb) W fun e W' => e = .returned (.bool b) ∧ Below W.heap.size W W') (h : impl_members.g k n p = some r) :
  Calls Tryz.prog 137 #[.int .i64 n, .func (.func g) fb lb] w fun e w' => ∃ v0_ : Value, e = .returned (v0_) ∧ Kd.R (Kd.int .i64) 3 w' w.heap.size (fun _ => True) v0_ r ∧ Below w.heap.size w w' := by
 have HN := Aside0.mk hn
 have HP := Aside0.mk hp
 have H' : Aside0 (impl_members.l0 k p n ([] : List Int) 0 = some r) := ⟨h⟩
 have HB := Aside0.mk (Below.refl w.heap.size w)
 clear h hp hn
 go_enter Tryz.func137, Tryz.ntmps137
 go_wp2_with (first | ((with_reducible refine gate_dst (N := 7) rfl ?_); refine Kd.R_lit (Kd.int .i64) _ 3 ?hg (N := 7) ?hd (xs := ([] : List Int)) (inner := []) (ok := fun _ => True) (okp := fun _ => True) ?hr ?hp (fun _ hk => hk) trivial (Below.refl _ _) (Nat.le_refl _) (by simp) ?_; (case hd => rfl); (case hg => rfl); (case hr => first | (go_simp; done) | (go_simp; rfl)); (case hp => exact (Reps.none _ _)); intro v102 w8 ho hb hg_ hnew_; clear hg_ hnew_; have n0_ := Aside0.mk (Kd.R_lower ho (below_size HB.out)); have n2_ := sB HB hb; clear HB; have HO := n0_; have HB := n2_; clear n0_ n2_; clear hb ho))
 go_loopg [5, 9] k (fun kq v5 v9 w' => ∃ (out : List Int) (x : Int), v9 = .int .i64 x ∧ Aside0 (impl_members.l0 kq p n out x = some r) ∧ Aside0 (kq ≤ k) ∧ Aside0 (0 ≤ x) ∧ Aside0 (Kd.R (Kd.int .i64) 3 w' w.heap.size (fun _ => True) v5 out) ∧ Aside0 (Below w.heap.size w w'))
 case atStart => exact ⟨[], 0, gR, H', ⟨Nat.le_refl _⟩, ⟨Int.le_refl _⟩, ⟨by exact HO.out⟩, ⟨HB.out⟩⟩
 case round =>
  clear H' HB HO
  obtain ⟨out, x, rfl, HA, HK1, HX0, HO, HB⟩ := hrel
  cases gk with
  | zero => exact absurd HA.out (by simp [impl_members.l0])
  | succ k1 =>
   have H := HA.out
   clear HA
   simp only [impl_members.l0] at H
   by_cases c1 : x < n
   rotate_left
   ·rw [if_neg c1] at H
    obtain rfl := Option.some.inj H
    have c1b0 : decide (x < n) = false := decide_eq_false c1
    clear c1 H
    go_wp2
    go_ret
    exact ⟨_, rfl, by exact HO.out, HB.out⟩
   rw [if_pos c1] at H
   obtain ⟨b, A5, H⟩ := oB H
   have hcall := HP.out wr x b HB.out HX0.out c1 A5
   have HXW : Aside0 (0 ≤ wrap64 (x + 1)) := ⟨by have h1_ := HX0.out; have h2_ := HN.out; unfold wrap64; omega⟩
   have c1b0 := decide_eq_true c1
   clear c1
   cases b with
   | true =>
    rw [if_pos rfl] at H
    by_cases c3 : out.length < 17592186044416
    rotate_left
    ·rw [if_neg c3] at H
     exact absurd H (by simp)
    rw [if_pos c3] at H
    obtain ⟨y, hy⟩ : ∃ y_ : List Int, y_ = (out ++ [x]) := ⟨_, rfl⟩
    rw [← hy] at H
    have NY := Aside0.mk hy
    have LM := Aside0.mk c3
    have H' := Aside0.mk H
    clear hy c3 H
    go_wp2_with fail
    refine hcall.mono ?_
    rintro e w' ⟨rfl, hb⟩
    have n0_ := rB HO hb
    have n2_ := Aside0.mk (HB.out.trans (hb.mono HB.out.size))
    clear HO HB hb hcall
    have HO := n0_
    have HB := n2_
    clear n0_ n2_
    go_wp2_with (((with_reducible refine gate_builtin (b := .append) (xs := #[.tmp 15, .tmp 17]) rfl ?_); at_builtin; refine Kd.R_append (Kd.int .i64) (w0 := w) w.heap.size rfl (.tmp 15) (.tmp 17) 24 3 (.int .i64 0) 8 rfl Tryz.underlying24 info3 rfl (by decide) (by omega) u5 out x [.int .i64 x] (fun _ => True) (fun _ => False) rfl rfl ?aP (fun _ hk => hk.elim) ?aF ?aO ?aB ?aS ?aL ?_; (case aP => exact rfl); (case aB => exact HB.out); (case aF => exact (fun _ _ => trivial)); (case aO => exact HO.out); (case aS => exact (below_size HB.out)); (case aL => have := LM.out; omega); intro v18 w18 ho hb hg hat; rw [← NY.out] at ho; have n0_ := Aside0.mk hb; have n1_ := Aside0.mk ho; clear HB HO; have HB := n0_; have HO := n1_; clear n0_ n1_ ho hb hg hat))
    go_roundg k1
    case measure => have := HK1.out; omega
    case rel => exact ⟨y, (wrap64 (x + 1)), gR, H', ⟨by have := HK1.out; omega⟩, HXW, ⟨by exact HO.out⟩, ⟨HB.out⟩⟩
   | false =>
    rw [if_neg (by decide)] at H
    have H' := Aside0.mk H
    clear H
    go_wp2_with fail
    refine hcall.mono ?_
    rintro e w' ⟨rfl, hb⟩
    have n0_ := rB HO hb
    have n2_ := Aside0.mk (HB.out.trans (hb.mono HB.out.size))
    clear HO HB hb hcall
    have HO := n0_
    have HB := n2_
    clear n0_ n2_
    go_wp2
    go_roundg k1
    case measure => have := HK1.out; omega
    case rel => exact ⟨out, (wrap64 (x + 1)), gR, H', ⟨by have := HK1.out; omega⟩, HXW, ⟨by exact HO.out⟩, ⟨HB.out⟩⟩
def impl_votes_isLeast.l0 : Nat → Int → Int → Int → Int → List Bool → Option (Bool)
 | 0, _, _, _, _, _ => none
 | k + 1, x1, x13, x14, x102000, x102001 => if x14 < x13 then ((impl_has.f x1 x14).bind fun t103 => (if t103 = true then (if 0 ≤ x14 then (if 0 ≤ (Go.bits .andNot .i64 x1 (shl .i64 1 x14)) then (if (Go.bits .andNot .i64 x1 (shl .i64 1 x14)) < (x102001.length : Int) then (if rdOf false x102001 (Go.bits .andNot .i64 x1 (shl .i64 1 x14)) = true then (some false) else (impl_votes_isLeast.l0 k x1 x13 (wrap64 (x14 + 1)) x102000 x102001)) else (none)) else (none)) else (none)) else (impl_votes_isLeast.l0 k x1 x13 (wrap64 (x14 + 1)) x102000 x102001))) else (some true)
def impl_votes_isLeast.f (k : Nat) (a0_0 : Int) (l0_1 : List Bool) (a1 : Int) : Option (Bool) := if 0 ≤ a1 then (if a1 < (l0_1.length : Int) then (if rdOf false l0_1 a1 = true then (impl_votes_isLeast.l0 k a1 a0_0 0 a0_0 l0_1) else (some false)) else (none)) else (none)
theorem impl_votes_isLeast.calls (k : Nat) (a0_0 : Int) (A0_1 : Option Addr) (c0_1 : Nat) (l0_1 : List Bool) (a1 : Int) (r : Bool) (w : World) (hr0_1 : Kd.C Kd.bool w A0_1 l0_1.length l0_1) (hc0_1 : l0_1.length ≤ c0_1) (h : impl_votes_isLeast.f k a0_0 l0_1 a1 = some r) :
  Calls Tryz.prog 208 #[.agg #[.int .i64 a0_0, .slice A0_1 l0_1.length c0_1], .int .i64 a1] w fun e w' => e = .returned (.bool r) ∧ Below w.heap.size w w' := by
 have hu87 := Tryz.underlying87
 have HR0_1 := Aside0.mk hr0_1
 have HC0_1 := Aside0.mk hc0_1
 clear hr0_1 hc0_1
 have HB := Aside0.mk (Below.refl w.heap.size w)
 have H := h
 unfold impl_votes_isLeast.f at H
 clear h
 by_cases c3 : 0 ≤ a1
 rotate_left
 ·rw [if_neg c3] at H
  exact absurd H (by simp)
 rw [if_pos c3] at H
 have c3b0 := decide_eq_true c3
 clear c3
 by_cases c4 : a1 < (l0_1.length : Int)
 rotate_left
 ·rw [if_neg c4] at H
  exact absurd H (by simp)
 rw [if_pos c4] at H
 have c4b0 := decide_eq_true c4
 clear c4
 obtain ⟨bq5, hbq5⟩ : ∃ b_ : Bool, b_ = (rdOf false l0_1 a1) := ⟨_, rfl⟩
 replace H : (if bq5 = true then (impl_votes_isLeast.l0 k a1 a0_0 0 a0_0 l0_1) else (some false)) = some r := by rw [← hbq5] at H; exact H
 have Nbq5 := Aside0.mk hbq5
 clear hbq5
 by_cases c6 : bq5 = true
 rotate_left
 ·replace c6 := Bool.eq_false_iff.mpr c6
  subst c6
  replace H := iF H
  obtain rfl := Option.some.inj H
  go_enter Tryz.func208, Tryz.ntmps208
  go_wp2_with (first | ((with_reducible refine gate_dst (N := 2) rfl ?_); refine xE (N := 2) (cs := #[.int .i64 a0_0, .slice A0_1 l0_1.length c0_1]) (t := 87) ?_; intro gb101 hg w20 BK101 hb; have GW101 : Aside0 (w.heap.size ≤ gb101) := gT hg; have GE101 : Aside0 (w.heap.size ≤ gb101) := gT hg; replace HB := sQ hb; clear hb hg; (try clear hcz18_0 hcz18_1 hfz18_0 hfz18_1 hcz18_0 hcz18_1 hfz18_0 hfz18_1 hcz18_0 hcz18_1 hfz18_0 hfz18_1 hcz19_0 hcz19_1 hfz19_0 hfz19_1 hcz19_0 hcz19_1 hfz19_0 hfz19_1 hcz19_0 hcz19_1 hfz19_0 hfz19_1); obtain ⟨hcz21_0, hcz21_1, hfz21_0, hfz21_1⟩ := zZ BK101; have p102 : 0 ≤ (a1 : Int) := oD; have q102 : a1 < (l0_1.length : Int) := oD; obtain ⟨ad102, e102, hx102_0⟩ := Kd.at_bool HR0_1.out a1 p102 q102; (try rw [← Nbq5.out] at hx102_0); cases e102; replace hx102_0 := (HB.out.cell (World.block_lt_of_cell? w _ hx102_0)).trans hx102_0; replace p102 := eq_true p102; replace q102 := eq_true q102))
  repeat (go_quiet (first | ((with_reducible refine gate_dst (N := 2) rfl ?_); refine xE (N := 2) (cs := #[.int .i64 a0_0, .slice A0_1 l0_1.length c0_1]) (t := 87) ?_; intro gb101 hg w20 BK101 hb; have GW101 : Aside0 (w.heap.size ≤ gb101) := gT hg; have GE101 : Aside0 (w.heap.size ≤ gb101) := gT hg; replace HB := sQ hb; clear hb hg; obtain ⟨hcz21_0, hcz21_1, hfz21_0, hfz21_1⟩ := zZ BK101; have p102 : 0 ≤ (a1 : Int) := oD; have q102 : a1 < (l0_1.length : Int) := oD; obtain ⟨ad102, e102, hx102_0⟩ := Kd.at_bool HR0_1.out a1 p102 q102; (try rw [← Nbq5.out] at hx102_0); cases e102; replace hx102_0 := (HB.out.cell (World.block_lt_of_cell? w _ hx102_0)).trans hx102_0; replace p102 := eq_true p102; replace q102 := eq_true q102)); try go_wp2_with (first | ((with_reducible refine gate_dst (N := 2) rfl ?_); refine xE (N := 2) (cs := #[.int .i64 a0_0, .slice A0_1 l0_1.length c0_1]) (t := 87) ?_; intro gb101 hg w20 BK101 hb; have GW101 : Aside0 (w.heap.size ≤ gb101) := gT hg; have GE101 : Aside0 (w.heap.size ≤ gb101) := gT hg; replace HB := sQ hb; clear hb hg; obtain ⟨hcz21_0, hcz21_1, hfz21_0, hfz21_1⟩ := zZ BK101; have p102 : 0 ≤ (a1 : Int) := oD; have q102 : a1 < (l0_1.length : Int) := oD; obtain ⟨ad102, e102, hx102_0⟩ := Kd.at_bool HR0_1.out a1 p102 q102; (try rw [← Nbq5.out] at hx102_0); cases e102; replace hx102_0 := (HB.out.cell (World.block_lt_of_cell? w _ hx102_0)).trans hx102_0; replace p102 := eq_true p102; replace q102 := eq_true q102)))
  go_ret
  exact ⟨fR, wB⟩
 subst c6
 replace H := iT H
 have H' := Aside0.mk H
 clear H
 go_enter Tryz.func208, Tryz.ntmps208
 go_wp2_with (first | ((with_reducible refine gate_dst (N := 2) rfl ?_); refine xE (N := 2) (cs := #[.int .i64 a0_0, .slice A0_1 l0_1.length c0_1]) (t := 87) ?_; intro gb101 hg w7 BK101 hb; have GW101 := gS hg HB; have GE101 := gS hg HB; replace HB := sB HB hb; clear hb hg; obtain ⟨hcz8_0, hcz8_1, hfz8_0, hfz8_1⟩ := zZ BK101; have p102 : 0 ≤ (a1 : Int) := oD; have q102 : a1 < (l0_1.length : Int) := oD; obtain ⟨ad102, e102, hx102_0⟩ := Kd.at_bool HR0_1.out a1 p102 q102; (try rw [← Nbq5.out] at hx102_0); cases e102; replace hx102_0 := (HB.out.cell (World.block_lt_of_cell? w _ hx102_0)).trans hx102_0; replace p102 := eq_true p102; replace q102 := eq_true q102))
 repeat (go_quiet (first | ((with_reducible refine gate_dst (N := 2) rfl ?_); refine xE (N := 2) (cs := #[.int .i64 a0_0, .slice A0_1 l0_1.length c0_1]) (t := 87) ?_; intro gb101 hg w7 BK101 hb; have GW101 := gS hg HB; have GE101 := gS hg HB; replace HB := sB HB hb; clear hb hg; obtain ⟨hcz8_0, hcz8_1, hfz8_0, hfz8_1⟩ := zZ BK101; have p102 : 0 ≤ (a1 : Int) := oD; have q102 : a1 < (l0_1.length : Int) := oD; obtain ⟨ad102, e102, hx102_0⟩ := Kd.at_bool HR0_1.out a1 p102 q102; (try rw [← Nbq5.out] at hx102_0); cases e102; replace hx102_0 := (HB.out.cell (World.block_lt_of_cell? w _ hx102_0)).trans hx102_0; replace p102 := eq_true p102; replace q102 := eq_true q102)); try go_wp2_with (first | ((with_reducible refine gate_dst (N := 2) rfl ?_); refine xE (N := 2) (cs := #[.int .i64 a0_0, .slice A0_1 l0_1.length c0_1]) (t := 87) ?_; intro gb101 hg w7 BK101 hb; have GW101 := gS hg HB; have GE101 := gS hg HB; replace HB := sB HB hb; clear hb hg; obtain ⟨hcz8_0, hcz8_1, hfz8_0, hfz8_1⟩ := zZ BK101; have p102 : 0 ≤ (a1 : Int) := oD; have q102 : a1 < (l0_1.length : Int) := oD; obtain ⟨ad102, e102, hx102_0⟩ := Kd.at_bool HR0_1.out a1 p102 q102; (try rw [← Nbq5.out] at hx102_0); cases e102; replace hx102_0 := (HB.out.cell (World.block_lt_of_cell? w _ hx102_0)).trans hx102_0; replace p102 := eq_true p102; replace q102 := eq_true q102)))
 go_loopg [14] k (fun kq v14 w' => ∃ (x14_1 : Int), v14 = .int .i64 x14_1 ∧ Aside0 (impl_votes_isLeast.l0 kq a1 a0_0 x14_1 a0_0 l0_1 = some r) ∧ Aside0 (kq ≤ k) ∧ Aside0 (w'.heap[gb101]? = some (.cells #[.int .i64 a0_0, (.slice (some ad102) l0_1.length c0_1)] 87 (0, 0))) ∧ Aside0 (Below w.heap.size w w'))
 case atStart => exact ⟨(0), gR, H', ⟨Nat.le_refl _⟩, ⟨by exact BK101.out⟩, ⟨wB⟩⟩
 case round =>
  clear H'
  (try clear p1); (try clear q1); (try clear hx1); (try clear c2); (try clear p2); (try clear c3); (try clear c3b0); (try clear c4); (try clear c4b0); (try clear q5); (try clear c6); (try clear hcz8_0); (try clear hcz8_1); (try clear hfz8_0); (try clear hfz8_1); (try clear hx102_0); (try clear p102); (try clear q102)
  obtain ⟨x14_1, rfl, HA, HK1, BK101, HB⟩ := hrel
  cases gk with
  | zero => exact absurd HA.out (by simp [impl_votes_isLeast.l0])
  | succ k1 =>
   have H := HA.out
   clear HA
   simp only [impl_votes_isLeast.l0] at H
   by_cases c9 : x14_1 < a0_0
   rotate_left
   ·rw [if_neg c9] at H
    have c9b0 : decide (x14_1 < a0_0) = false := decide_eq_false c9
    clear c9
    obtain rfl := Option.some.inj H
    go_wp2
    repeat (go_quiet (fail); try go_wp2)
    go_ret
    exact ⟨fR, wB⟩
   rw [if_pos c9] at H
   have c9b0 := decide_eq_true c9
   clear c9
   replace H := oA H
   obtain ⟨t103, A10, H⟩ := H
   (try dsimp only at H)
   by_cases c11 : t103 = true
   rotate_left
   ·replace c11 := Bool.eq_false_iff.mpr c11
    subst c11
    replace H := iF H
    have H' := Aside0.mk H
    clear H
    go_wp2_with (first | (go_at_call 164; (with_reducible refine (impl_has.calls a1 x14_1 false _ A10.out).mono ?_); rintro e w' ⟨rfl, ⟨nd, rfl⟩⟩; (try exact dR)))
    repeat (go_quiet (first | (go_at_call 164; (with_reducible refine (impl_has.calls a1 x14_1 false _ A10.out).mono ?_); rintro e w' ⟨rfl, ⟨nd, rfl⟩⟩; (try exact dR))); try go_wp2_with (first | (go_at_call 164; (with_reducible refine (impl_has.calls a1 x14_1 false _ A10.out).mono ?_); rintro e w' ⟨rfl, ⟨nd, rfl⟩⟩; (try exact dR))))
    go_roundg k1
    case measure => have := HK1.out; omega
    case rel => exact ⟨(wrap64 (x14_1 + 1)), gR, H', ⟨by have := HK1.out; omega⟩, ⟨bQ BK101⟩, ⟨wB⟩⟩
   subst c11
   replace H := iT H
   by_cases c12 : 0 ≤ x14_1
   rotate_left
   ·rw [if_neg c12] at H
    exact absurd H (by simp)
   rw [if_pos c12] at H
   have c12b0 := eq_true c12
   have c12b1 := decide_eq_true c12
   clear c12
   obtain ⟨ji13, hji13⟩ : ∃ j_ : Int, (shl .i64 1 x14_1) = j_ := ⟨_, rfl⟩
   replace H : (if 0 ≤ (Go.bits .andNot .i64 a1 (ji13)) then (if (Go.bits .andNot .i64 a1 (ji13)) < (l0_1.length : Int) then (if rdOf false l0_1 (Go.bits .andNot .i64 a1 (ji13)) = true then (some false) else (impl_votes_isLeast.l0 k1 a1 a0_0 (wrap64 (x14_1 + 1)) a0_0 l0_1)) else (none)) else (none)) = some r := by first | (rw [hji13] at H; exact H) | (simp only [hji13] at H ⊢; exact H)
   (try rw [hji13] at A10)
   have hji13_ : (IntKind.i64.wrap (1 * 2 ^ min x14_1.toNat 64)) = ji13 := hji13
   have hji13z : x14_1 ≤ 64 → (IntKind.i64.wrap (1 * 2 ^ x14_1.toNat)) = ji13 := shl_small hji13
   have hji13u : (IntKind.i64.wrap (2 ^ min x14_1.toNat 64)) = ji13 := by have h_ := hji13_; rw [Int.one_mul] at h_; exact h_
   have hji13v : x14_1 ≤ 64 → (IntKind.i64.wrap (2 ^ x14_1.toNat)) = ji13 := fun hle_ => by have h_ := hji13z hle_; rw [Int.one_mul] at h_; exact h_
   have hji13y : (wrap64 (1 * 2 ^ min x14_1.toNat 64)) = ji13 := (i64_w _).symm.trans hji13_
   have hji13x : x14_1 ≤ 64 → (wrap64 (1 * 2 ^ x14_1.toNat)) = ji13 := fun h_ => (i64_w _).symm.trans (hji13z h_)
   by_cases c14 : 0 ≤ (Go.bits .andNot .i64 a1 (ji13))
   rotate_left
   ·rw [if_neg c14] at H
    exact absurd H (by simp)
   rw [if_pos c14] at H
   have c14b0 := decide_eq_true c14
   clear c14
   by_cases c15 : (Go.bits .andNot .i64 a1 (ji13)) < (l0_1.length : Int)
   rotate_left
   ·rw [if_neg c15] at H
    exact absurd H (by simp)
   rw [if_pos c15] at H
   have c15b0 := decide_eq_true c15
   clear c15
   obtain ⟨bq16, hbq16⟩ : ∃ b_ : Bool, b_ = (rdOf false l0_1 (Go.bits .andNot .i64 a1 (ji13))) := ⟨_, rfl⟩
   replace H : (if bq16 = true then (some false) else (impl_votes_isLeast.l0 k1 a1 a0_0 (wrap64 (x14_1 + 1)) a0_0 l0_1)) = some r := by rw [← hbq16] at H; exact H
   have Nbq16 := Aside0.mk hbq16
   clear hbq16
   by_cases c17 : bq16 = true
   ·subst c17
    replace H := iT H
    obtain rfl := Option.some.inj H
    go_wp2_with (first | (go_at_call 164; (with_reducible refine (impl_has.calls a1 x14_1 true _ A10.out).mono ?_); rintro e w' ⟨rfl, ⟨nd, rfl⟩⟩; (try exact dR); obtain ⟨hcz18_0, hcz18_1, hfz18_0, hfz18_1⟩ := zZ BK101; have p104 : 0 ≤ ((Go.bits .andNot .i64 a1 (ji13)) : Int) := oD; have q104 : (Go.bits .andNot .i64 a1 (ji13)) < (l0_1.length : Int) := oD; obtain ⟨ad104, e104, hx104_0⟩ := Kd.at_bool HR0_1.out (Go.bits .andNot .i64 a1 (ji13)) p104 q104; (try rw [← Nbq5.out] at hx104_0); (try rw [← Nbq16.out] at hx104_0); obtain rfl : ad102 = ad104 := (by injection e104); replace hx104_0 := (HB.out.cell (World.block_lt_of_cell? w _ hx104_0)).trans hx104_0; replace p104 := eq_true p104; replace q104 := eq_true q104))
    repeat (go_quiet (first | (go_at_call 164; (with_reducible refine (impl_has.calls a1 x14_1 true _ A10.out).mono ?_); rintro e w' ⟨rfl, ⟨nd, rfl⟩⟩; (try exact dR); obtain ⟨hcz18_0, hcz18_1, hfz18_0, hfz18_1⟩ := zZ BK101; have p104 : 0 ≤ ((Go.bits .andNot .i64 a1 (ji13)) : Int) := oD; have q104 : (Go.bits .andNot .i64 a1 (ji13)) < (l0_1.length : Int) := oD; obtain ⟨ad104, e104, hx104_0⟩ := Kd.at_bool HR0_1.out (Go.bits .andNot .i64 a1 (ji13)) p104 q104; (try rw [← Nbq5.out] at hx104_0); (try rw [← Nbq16.out] at hx104_0); obtain rfl : ad102 = ad104 := (by injection e104); replace hx104_0 := (HB.out.cell (World.block_lt_of_cell? w _ hx104_0)).trans hx104_0; replace p104 := eq_true p104; replace q104 := eq_true q104)); try go_wp2_with (first | (go_at_call 164; (with_reducible refine (impl_has.calls a1 x14_1 true _ A10.out).mono ?_); rintro e w' ⟨rfl, ⟨nd, rfl⟩⟩; (try exact dR); obtain ⟨hcz18_0, hcz18_1, hfz18_0, hfz18_1⟩ := zZ BK101; have p104 : 0 ≤ ((Go.bits .andNot .i64 a1 (ji13)) : Int) := oD; have q104 : (Go.bits .andNot .i64 a1 (ji13)) < (l0_1.length : Int) := oD; obtain ⟨ad104, e104, hx104_0⟩ := Kd.at_bool HR0_1.out (Go.bits .andNot .i64 a1 (ji13)) p104 q104; (try rw [← Nbq5.out] at hx104_0); (try rw [← Nbq16.out] at hx104_0); obtain rfl : ad102 = ad104 := (by injection e104); replace hx104_0 := (HB.out.cell (World.block_lt_of_cell? w _ hx104_0)).trans hx104_0; replace p104 := eq_true p104; replace q104 := eq_true q104)))
    go_ret
    exact ⟨by first | rfl | (simp <;> rfl) | (simp only [← hji13]; first | rfl | (simp <;> rfl)) | (simp [*] <;> rfl), wB⟩
   replace c17 := Bool.eq_false_iff.mpr c17
   subst c17
   replace H := iF H
   have H' := Aside0.mk H
   clear H
   go_wp2_with (first | (go_at_call 164; (with_reducible refine (impl_has.calls a1 x14_1 true _ A10.out).mono ?_); rintro e w' ⟨rfl, ⟨nd, rfl⟩⟩; (try exact dR); obtain ⟨hcz19_0, hcz19_1, hfz19_0, hfz19_1⟩ := zZ BK101; have p104 : 0 ≤ ((Go.bits .andNot .i64 a1 (ji13)) : Int) := oD; have q104 : (Go.bits .andNot .i64 a1 (ji13)) < (l0_1.length : Int) := oD; obtain ⟨ad104, e104, hx104_0⟩ := Kd.at_bool HR0_1.out (Go.bits .andNot .i64 a1 (ji13)) p104 q104; (try rw [← Nbq5.out] at hx104_0); (try rw [← Nbq16.out] at hx104_0); obtain rfl : ad102 = ad104 := (by injection e104); replace hx104_0 := (HB.out.cell (World.block_lt_of_cell? w _ hx104_0)).trans hx104_0; replace p104 := eq_true p104; replace q104 := eq_true q104))
   repeat (go_quiet (first | (go_at_call 164; (with_reducible refine (impl_has.calls a1 x14_1 true _ A10.out).mono ?_); rintro e w' ⟨rfl, ⟨nd, rfl⟩⟩; (try exact dR); obtain ⟨hcz19_0, hcz19_1, hfz19_0, hfz19_1⟩ := zZ BK101; have p104 : 0 ≤ ((Go.bits .andNot .i64 a1 (ji13)) : Int) := oD; have q104 : (Go.bits .andNot .i64 a1 (ji13)) < (l0_1.length : Int) := oD; obtain ⟨ad104, e104, hx104_0⟩ := Kd.at_bool HR0_1.out (Go.bits .andNot .i64 a1 (ji13)) p104 q104; (try rw [← Nbq5.out] at hx104_0); (try rw [← Nbq16.out] at hx104_0); obtain rfl : ad102 = ad104 := (by injection e104); replace hx104_0 := (HB.out.cell (World.block_lt_of_cell? w _ hx104_0)).trans hx104_0; replace p104 := eq_true p104; replace q104 := eq_true q104)); try go_wp2_with (first | (go_at_call 164; (with_reducible refine (impl_has.calls a1 x14_1 true _ A10.out).mono ?_); rintro e w' ⟨rfl, ⟨nd, rfl⟩⟩; (try exact dR); obtain ⟨hcz19_0, hcz19_1, hfz19_0, hfz19_1⟩ := zZ BK101; have p104 : 0 ≤ ((Go.bits .andNot .i64 a1 (ji13)) : Int) := oD; have q104 : (Go.bits .andNot .i64 a1 (ji13)) < (l0_1.length : Int) := oD; obtain ⟨ad104, e104, hx104_0⟩ := Kd.at_bool HR0_1.out (Go.bits .andNot .i64 a1 (ji13)) p104 q104; (try rw [← Nbq5.out] at hx104_0); (try rw [← Nbq16.out] at hx104_0); obtain rfl : ad102 = ad104 := (by injection e104); replace hx104_0 := (HB.out.cell (World.block_lt_of_cell? w _ hx104_0)).trans hx104_0; replace p104 := eq_true p104; replace q104 := eq_true q104)))
   go_roundg k1
   case measure => have := HK1.out; omega
   case rel => exact ⟨(wrap64 (x14_1 + 1)), gR, H', ⟨by have := HK1.out; omega⟩, ⟨bQ BK101⟩, ⟨wB⟩⟩
def cmp_isNaN_int.f (a0 : Int) : Option (Bool) := some (a0 != a0)
theorem cmp_isNaN_int.calls (a0 : Int) (r : Bool) (w : World) (h : cmp_isNaN_int.f a0 = some r) :
  Calls Tryz.prog 231 #[.int .i64 a0] w fun e w' => e = .returned (.bool r) ∧ Drawn0 w w' := by
 have H : (some (a0 != a0)) = some r := h
 clear h
 obtain rfl := Option.some.inj H
 go_enter Tryz.func231, Tryz.ntmps231
 go_wp2
 go_ret
 exact ⟨by first | rfl | (simp; done) | (simp [*]; done), dS⟩
def cmp_Compare_int.f (a0 : Int) (a1 : Int) : Option (Int) := (cmp_isNaN_int.f a0).bind fun t101 => ((cmp_isNaN_int.f a1).bind fun t102 => (if t101 = true then (if t102 = true then (some 0) else (some (-1))) else (if t102 = true then (some 1) else (if a0 < a1 then (some (-1)) else (if a0 > a1 then (some 1) else (some 0))))))
theorem cmp_Compare_int.calls (a0 : Int) (a1 : Int) (r : Int) (w : World) (h : cmp_Compare_int.f a0 a1 = some r) :
  Calls Tryz.prog 219 #[.int .i64 a0, .int .i64 a1] w fun e w' => e = .returned (.int .i64 r) ∧ Drawn0 w w' := by
 have H := h
 unfold cmp_Compare_int.f at H
 clear h
 replace H := oA H
 obtain ⟨t101, A3, H⟩ := H
 (try dsimp only at H)
 replace H := oA H
 obtain ⟨t102, A4, H⟩ := H
 (try dsimp only at H)
 by_cases c5 : t101 = true
 ·subst c5
  replace H := iT H
  by_cases c6 : t102 = true
  ·subst c6
   replace H := iT H
   obtain rfl := Option.some.inj H
   go_enter Tryz.func219, Tryz.ntmps219
   go_wp2_with (first | ((with_reducible refine gate_callee (f := 231) rfl ?_); refine gL 8 Tryz.func231 #[.int .i64 a0] ?_; (with_reducible refine (cmp_isNaN_int.calls a0 true _ A3.out).mono ?_); rintro e w' ⟨rfl, ⟨nd, rfl⟩⟩; refine ⟨_, rfl, ?_⟩) | ((with_reducible refine gate_callee (f := 231) rfl ?_); refine gL 10 Tryz.func231 #[.int .i64 a1] ?_; (with_reducible refine (cmp_isNaN_int.calls a1 true _ A4.out).mono ?_); rintro e w' ⟨rfl, ⟨nd, rfl⟩⟩; refine ⟨_, rfl, ?_⟩))
   go_ret
   exact ⟨by first | rfl | (simp; done) | (simp [*]; done), dS⟩
  replace c6 := Bool.eq_false_iff.mpr c6
  subst c6
  replace H := iF H
  obtain rfl := Option.some.inj H
  go_enter Tryz.func219, Tryz.ntmps219
  go_wp2_with (first | ((with_reducible refine gate_callee (f := 231) rfl ?_); refine gL 8 Tryz.func231 #[.int .i64 a0] ?_; (with_reducible refine (cmp_isNaN_int.calls a0 true _ A3.out).mono ?_); rintro e w' ⟨rfl, ⟨nd, rfl⟩⟩; refine ⟨_, rfl, ?_⟩) | ((with_reducible refine gate_callee (f := 231) rfl ?_); refine gL 10 Tryz.func231 #[.int .i64 a1] ?_; (with_reducible refine (cmp_isNaN_int.calls a1 false _ A4.out).mono ?_); rintro e w' ⟨rfl, ⟨nd, rfl⟩⟩; refine ⟨_, rfl, ?_⟩))
  go_ret
  exact ⟨by first | rfl | (simp; done) | (simp [*]; done), dS⟩
 replace c5 := Bool.eq_false_iff.mpr c5
 subst c5
 replace H := iF H
 by_cases c7 : t102 = true
 ·subst c7
  replace H := iT H
  obtain rfl := Option.some.inj H
  go_enter Tryz.func219, Tryz.ntmps219
  go_wp2_with (first | ((with_reducible refine gate_callee (f := 231) rfl ?_); refine gL 8 Tryz.func231 #[.int .i64 a0] ?_; (with_reducible refine (cmp_isNaN_int.calls a0 false _ A3.out).mono ?_); rintro e w' ⟨rfl, ⟨nd, rfl⟩⟩; refine ⟨_, rfl, ?_⟩) | ((with_reducible refine gate_callee (f := 231) rfl ?_); refine gL 10 Tryz.func231 #[.int .i64 a1] ?_; (with_reducible refine (cmp_isNaN_int.calls a1 true _ A4.out).mono ?_); rintro e w' ⟨rfl, ⟨nd, rfl⟩⟩; refine ⟨_, rfl, ?_⟩))
  go_ret
  exact ⟨by first | rfl | (simp; done) | (simp [*]; done), dS⟩
 replace c7 := Bool.eq_false_iff.mpr c7
 subst c7
 replace H := iF H
 by_cases c8 : a0 < a1
 ·rw [if_pos c8] at H
  have c8b0 := decide_eq_true c8
  clear c8
  obtain rfl := Option.some.inj H
  go_enter Tryz.func219, Tryz.ntmps219
  go_wp2_with (first | ((with_reducible refine gate_callee (f := 231) rfl ?_); refine gL 8 Tryz.func231 #[.int .i64 a0] ?_; (with_reducible refine (cmp_isNaN_int.calls a0 false _ A3.out).mono ?_); rintro e w' ⟨rfl, ⟨nd, rfl⟩⟩; refine ⟨_, rfl, ?_⟩) | ((with_reducible refine gate_callee (f := 231) rfl ?_); refine gL 10 Tryz.func231 #[.int .i64 a1] ?_; (with_reducible refine (cmp_isNaN_int.calls a1 false _ A4.out).mono ?_); rintro e w' ⟨rfl, ⟨nd, rfl⟩⟩; refine ⟨_, rfl, ?_⟩))
  go_ret
  exact ⟨by first | rfl | (simp; done) | (simp [*]; done), dS⟩
 rw [if_neg c8] at H
 have c8b0 : decide (a0 < a1) = false := decide_eq_false c8
 clear c8
 by_cases c9 : a0 > a1
 ·rw [if_pos c9] at H
  have c9b0 : decide (a1 < a0) = true := decide_eq_true c9
  clear c9
  obtain rfl := Option.some.inj H
  go_enter Tryz.func219, Tryz.ntmps219
  go_wp2_with (first | ((with_reducible refine gate_callee (f := 231) rfl ?_); refine gL 8 Tryz.func231 #[.int .i64 a0] ?_; (with_reducible refine (cmp_isNaN_int.calls a0 false _ A3.out).mono ?_); rintro e w' ⟨rfl, ⟨nd, rfl⟩⟩; refine ⟨_, rfl, ?_⟩) | ((with_reducible refine gate_callee (f := 231) rfl ?_); refine gL 10 Tryz.func231 #[.int .i64 a1] ?_; (with_reducible refine (cmp_isNaN_int.calls a1 false _ A4.out).mono ?_); rintro e w' ⟨rfl, ⟨nd, rfl⟩⟩; refine ⟨_, rfl, ?_⟩))
  go_ret
  exact ⟨by first | rfl | (simp; done) | (simp [*]; done), dS⟩
 rw [if_neg c9] at H
 have c9b0 : decide (a1 < a0) = false := decide_eq_false c9
 clear c9
 obtain rfl := Option.some.inj H
 go_enter Tryz.func219, Tryz.ntmps219
 go_wp2_with (first | ((with_reducible refine gate_callee (f := 231) rfl ?_); refine gL 8 Tryz.func231 #[.int .i64 a0] ?_; (with_reducible refine (cmp_isNaN_int.calls a0 false _ A3.out).mono ?_); rintro e w' ⟨rfl, ⟨nd, rfl⟩⟩; refine ⟨_, rfl, ?_⟩) | ((with_reducible refine gate_callee (f := 231) rfl ?_); refine gL 10 Tryz.func231 #[.int .i64 a1] ?_; (with_reducible refine (cmp_isNaN_int.calls a1 false _ A4.out).mono ?_); rintro e w' ⟨rfl, ⟨nd, rfl⟩⟩; refine ⟨_, rfl, ?_⟩))
 go_ret
 exact ⟨by first | rfl | (simp; done) | (simp [*]; done), dS⟩
def slices_Compare_int_int.l0 : Nat → List Int → List Int → List Int → Int → Int → Option (Int)
 | 0, _, _, _, _, _ => none
 | k + 1, x0, x1, x9, x10, x11 => if x11 < x10 then (if 0 ≤ x11 then (if x11 < (x9.length : Int) then (if x11 ≥ (x1.length : Int) then (some 1) else (if x11 < (x1.length : Int) then ((cmp_Compare_int.f (rd x9 x11) (rd x1 x11)).bind fun t103 => (if t103 = 0 then (slices_Compare_int_int.l0 k x0 x1 x9 x10 (wrap64 (x11 + 1))) else (some t103))) else (none))) else (none)) else (none)) else (if (x0.length : Int) < (x1.length : Int) then (some (-1)) else (some 0))
def slices_Compare_int_int.f (k : Nat) (l0 : List Int) (l1 : List Int) : Option (Int) := slices_Compare_int_int.l0 k l0 l1 l0 (l0.length : Int) 0
theorem slices_Compare_int_int.calls (k : Nat) (A0 : Option Addr) (c0 : Nat) (l0 : List Int) (A1 : Option Addr) (c1 : Nat) (l1 : List Int) (r : Int) (w : World) (hr0 : Kd.C (Kd.int .i64) w A0 l0.length l0) (hc0 : l0.length ≤ c0) (hr1 : Kd.C (Kd.int .i64) w A1 l1.length l1) (hc1 : l1.length ≤ c1) (h : slices_Compare_int_int.f k l0 l1 = some r) :
  Calls Tryz.prog 211 #[.slice A0 l0.length c0, .slice A1 l1.length c1] w fun e w' => e = .returned (.int .i64 r) ∧ Drawn0 w w' := by
 have HR0 := Aside0.mk hr0
 have HC0 := Aside0.mk hc0
 clear hr0 hc0
 have HR1 := Aside0.mk hr1
 have HC1 := Aside0.mk hc1
 clear hr1 hc1
 have H := h
 unfold slices_Compare_int_int.f at H
 clear h
 have H' := Aside0.mk H
 clear H
 go_enter Tryz.func211, Tryz.ntmps211
 go_wp2
 go_loopg [11] k (fun kq v11 w' => ∃ (x11_1 : Int), v11 = .int .i64 x11_1 ∧ Aside0 (slices_Compare_int_int.l0 kq l0 l1 l0 (l0.length : Int) x11_1 = some r) ∧ Aside0 (kq ≤ k) ∧ Drawn0 w w')
 case atStart => exact ⟨(0), gR, H', ⟨Nat.le_refl _⟩, dS⟩
 case round =>
  clear H'
  (try clear c1); (try clear c2); (try clear p2)
  obtain ⟨x11_1, rfl, HA, HK1, ⟨m1, rfl⟩⟩ := hrel
  cases gk with
  | zero => exact absurd HA.out (by simp [slices_Compare_int_int.l0])
  | succ k1 =>
   have H := HA.out
   clear HA
   simp only [slices_Compare_int_int.l0] at H
   by_cases c3 : x11_1 < (l0.length : Int)
   rotate_left
   ·rw [if_neg c3] at H
    have c3b0 : decide (x11_1 < (l0.length : Int)) = false := decide_eq_false c3
    clear c3
    by_cases c10 : (l0.length : Int) < (l1.length : Int)
    ·rw [if_pos c10] at H
     have c10b0 := decide_eq_true c10
     have c10b1 : decide (l0.length < l1.length) = true := decide_eq_true (Int.ofNat_lt.mp c10)
     clear c10
     obtain rfl := Option.some.inj H
     go_wp2
     go_ret
     exact ⟨by first | rfl | (simp; done) | (simp [*]; done), dS⟩
    rw [if_neg c10] at H
    have c10b0 : decide ((l0.length : Int) < (l1.length : Int)) = false := decide_eq_false c10
    have c10b1 : decide (l0.length < l1.length) = false := decide_eq_false (fun h => c10 (Int.ofNat_lt.mpr h))
    clear c10
    obtain rfl := Option.some.inj H
    go_wp2
    go_ret
    exact ⟨by first | rfl | (simp; done) | (simp [*]; done), dS⟩
   rw [if_pos c3] at H
   have c3b0 := decide_eq_true c3
   clear c3
   by_cases c4 : 0 ≤ x11_1
   rotate_left
   ·rw [if_neg c4] at H
    exact absurd H (by simp)
   rw [if_pos c4] at H
   have c4b0 := decide_eq_true c4
   clear c4
   by_cases c5 : x11_1 < (l0.length : Int)
   rotate_left
   ·rw [if_neg c5] at H
    exact absurd H (by simp)
   rw [if_pos c5] at H
   have c5b0 := decide_eq_true c5
   clear c5
   by_cases c6 : x11_1 ≥ (l1.length : Int)
   ·rw [if_pos c6] at H
    have c6b0 : decide ((l1.length : Int) ≤ x11_1) = true := decide_eq_true c6
    clear c6
    obtain rfl := Option.some.inj H
    have p101 : 0 ≤ (x11_1 : Int) := oD
    have q101 : x11_1 < (l0.length : Int) := oD
    obtain ⟨ad101, e101, hx101_0⟩ := Kd.at_int HR0.out x11_1 p101 q101
    cases e101
    replace p101 := eq_true p101
    replace q101 := eq_true q101
    go_wp2
    go_ret
    exact ⟨by first | rfl | (simp; done) | (simp [*]; done), dS⟩
   rw [if_neg c6] at H
   have c6b0 : decide ((l1.length : Int) ≤ x11_1) = false := decide_eq_false c6
   clear c6
   by_cases c7 : x11_1 < (l1.length : Int)
   rotate_left
   ·rw [if_neg c7] at H
    exact absurd H (by simp)
   rw [if_pos c7] at H
   have c7b0 := decide_eq_true c7
   clear c7
   replace H := oA H
   obtain ⟨t103, A8, H⟩ := H
   (try dsimp only at H)
   by_cases c9 : t103 = 0
   rotate_left
   ·rw [if_neg c9] at H
    have c9b0 : (t103 == 0) = false := beq_eq_false_iff_ne.mpr c9
    have c9b1 : (t103 != 0) = true := bne_iff_ne.mpr c9
    obtain rfl := Option.some.inj H
    have p101 : 0 ≤ (x11_1 : Int) := oD
    have q101 : x11_1 < (l0.length : Int) := oD
    obtain ⟨ad101, e101, hx101_0⟩ := Kd.at_int HR0.out x11_1 p101 q101
    cases e101
    replace p101 := eq_true p101
    replace q101 := eq_true q101
    have p102 : 0 ≤ (x11_1 : Int) := oD
    have q102 : x11_1 < (l1.length : Int) := oD
    obtain ⟨ad102, e102, hx102_0⟩ := Kd.at_int HR1.out x11_1 p102 q102
    cases e102
    replace p102 := eq_true p102
    replace q102 := eq_true q102
    go_wp2_with (first | ((with_reducible refine gate_callee (f := 219) rfl ?_); refine gL 26 Tryz.func219 #[.int .i64 (rd l0 x11_1), .int .i64 (rd l1 x11_1)] ?_; (with_reducible refine (cmp_Compare_int.calls (rd l0 x11_1) (rd l1 x11_1) t103 _ A8.out).mono ?_); rintro e w' ⟨rfl, ⟨nd, rfl⟩⟩; refine ⟨_, rfl, ?_⟩))
    go_ret
    exact ⟨by first | rfl | (simp; done) | (simp [*]; done), dS⟩
   rw [if_pos c9] at H
   have c9b0 : (t103 == 0) = true := beq_iff_eq.mpr c9
   have c9b1 : (t103 != 0) = false := bne_eq_false_iff_eq.mpr c9
   clear c9
   have H' := Aside0.mk H
   clear H
   have p101 : 0 ≤ (x11_1 : Int) := oD
   have q101 : x11_1 < (l0.length : Int) := oD
   obtain ⟨ad101, e101, hx101_0⟩ := Kd.at_int HR0.out x11_1 p101 q101
   cases e101
   replace p101 := eq_true p101
   replace q101 := eq_true q101
   have p102 : 0 ≤ (x11_1 : Int) := oD
   have q102 : x11_1 < (l1.length : Int) := oD
   obtain ⟨ad102, e102, hx102_0⟩ := Kd.at_int HR1.out x11_1 p102 q102
   cases e102
   replace p102 := eq_true p102
   replace q102 := eq_true q102
   go_wp2_with (first | ((with_reducible refine gate_callee (f := 219) rfl ?_); refine gL 26 Tryz.func219 #[.int .i64 (rd l0 x11_1), .int .i64 (rd l1 x11_1)] ?_; (with_reducible refine (cmp_Compare_int.calls (rd l0 x11_1) (rd l1 x11_1) t103 _ A8.out).mono ?_); rintro e w' ⟨rfl, ⟨nd, rfl⟩⟩; refine ⟨_, rfl, ?_⟩))
   go_roundg k1
   case measure => have := HK1.out; omega
   case rel => exact ⟨(wrap64 (x11_1 + 1)), gR, H', ⟨by have := HK1.out; omega⟩, dS⟩
def impl_setOf.l0 : Nat → Int → List Int → Int → Option (List Int)
 | 0, _, _, _ => none
 | k + 1, x0, x3, x4 => if 0 ≤ x4 then (if (shr .i64 x0 x4) > 0 then (if (Go.bits .and .i64 (shr .i64 x0 x4) 1) = 1 then (if x3.length < 17592186044416 then (impl_setOf.l0 k x0 (x3 ++ [x4]) (wrap64 (x4 + 1))) else (none)) else (impl_setOf.l0 k x0 x3 (wrap64 (x4 + 1)))) else (some x3)) else (none)
def impl_setOf.f (k : Nat) (a0 : Int) : Option (List Int) := impl_setOf.l0 k a0 (([] : List Int)) 0
theorem impl_setOf.calls (k : Nat) (a0 : Int) (r : List Int) (w : World) (h : impl_setOf.f k a0 = some r) :
  Calls Tryz.prog 209 #[.int .i64 a0] w fun e w' => ∃ v0_ : Value, e = .returned (v0_) ∧ Kd.R (Kd.int .i64) 3 w' w.heap.size (fun _ => True) v0_ r ∧ Below w.heap.size w w' := by
 have HB := Aside0.mk (Below.refl w.heap.size w)
 have H := h
 unfold impl_setOf.f at H
 clear h
 obtain ⟨y101, hy101⟩ : ∃ y_ : List Int, y_ = (([] : List Int)) := ⟨_, rfl⟩
 replace H : (impl_setOf.l0 k a0 y101 0) = some r := by first | (rw [hy101]; with_reducible exact H) | (have H2_ := (Option.bind_some _ _).symm.trans H; rw [hy101]; with_reducible exact H2_) | (have H2_ := (Option.bind_some _ _).symm.trans H; with_reducible exact H2_) | with_reducible exact H | (rw [hy101]; exact H) | exact H
 have Ny101 := Aside0.mk hy101
 clear hy101
 have H' := Aside0.mk H
 clear H
 go_enter Tryz.func209, Tryz.ntmps209
 go_wp2_with (first | ((with_reducible refine gate_dst (N := 5) rfl ?_); refine Kd.R_lit (Kd.int .i64) _ 3 ?hg (N := 5) ?hd (xs := ([] : List Int)) (inner := []) (ok := fun _ => True) (okp := fun _ => True) ?hr ?hp (fun _ hk => hk) trivial (Below.refl _ _) (Nat.le_refl _) (by simp) ?_; (case hd => rfl); (case hg => rfl); (case hr => first | (go_simp; done) | (go_simp; rfl)); (case hp => exact (Reps.none _ _)); intro v102 w2 ho3 hb hg_ hnew_; clear hg_ hnew_; (first | rw [← Ny101.out] at ho3 | (simp only [Int.reduceToNat] at ho3; rw [← Ny101.out] at ho3)); have HO103 := Aside0.mk (Kd.R_lower ho3 (below_size HB.out)); replace HB := sB HB hb; clear hb ho3))
 go_loopg [3, 4] k (fun kq v3 v4 w' => ∃ (x3_1 : List Int) (x4_1 : Int), v4 = .int .i64 x4_1 ∧ Aside0 (impl_setOf.l0 kq a0 x3_1 x4_1 = some r) ∧ Aside0 (kq ≤ k) ∧ Aside0 (Kd.R (Kd.int .i64) 3 w' w.heap.size (fun _ => True) v3 x3_1) ∧ Aside0 (Below w.heap.size w w'))
 case atStart => exact ⟨(y101), (0), gR, H', ⟨Nat.le_refl _⟩, ⟨by exact HO103.out⟩, ⟨wB⟩⟩
 case round =>
  clear H'
  (try clear c2); (try clear p2)
  obtain ⟨x3_1, x4_1, rfl, HA, HK1, HO_3, HB⟩ := hrel
  cases gk with
  | zero => exact absurd HA.out (by simp [impl_setOf.l0])
  | succ k1 =>
   have H := HA.out
   clear HA
   simp only [impl_setOf.l0] at H
   by_cases c4 : 0 ≤ x4_1
   rotate_left
   ·rw [if_neg c4] at H
    exact absurd H (by simp)
   rw [if_pos c4] at H
   have c4b0 := eq_true c4
   have c4b1 := decide_eq_true c4
   clear c4
   obtain ⟨ji5, hji5⟩ : ∃ j_ : Int, (shr .i64 a0 x4_1) = j_ := ⟨_, rfl⟩
   replace H : (if (ji5) > 0 then (if (Go.bits .and .i64 (ji5) 1) = 1 then (if x3_1.length < 17592186044416 then (impl_setOf.l0 k1 a0 (x3_1 ++ [x4_1]) (wrap64 (x4_1 + 1))) else (none)) else (impl_setOf.l0 k1 a0 x3_1 (wrap64 (x4_1 + 1)))) else (some x3_1)) = some r := by first | (rw [hji5] at H; exact H) | (simp only [hji5] at H ⊢; exact H)
   have hji5_ : (a0 / 2 ^ min x4_1.toNat 64) = ji5 := hji5
   have hji5z : x4_1 ≤ 64 → (a0 / 2 ^ x4_1.toNat) = ji5 := shr_small hji5
   by_cases c6 : (ji5) > 0
   rotate_left
   ·rw [if_neg c6] at H
    have c6b0 : decide (0 < (ji5)) = false := decide_eq_false c6
    clear c6
    obtain rfl := Option.some.inj H
    go_wp2
    go_ret
    exact ⟨_, by first | rfl | (simp <;> rfl) | (simp only [← hji5]; first | rfl | (simp <;> rfl)) | (simp [*] <;> rfl), by exact HO_3.out, wB⟩
   rw [if_pos c6] at H
   have c6b0 : decide (0 < (ji5)) = true := decide_eq_true c6
   clear c6
   have c7b0 := eq_true (oD : 0 ≤ x4_1)
   by_cases c9 : (Go.bits .and .i64 (ji5) 1) = 1
   rotate_left
   ·rw [if_neg c9] at H
    have c9b0 : ((Go.bits .and .i64 (ji5) 1) == 1) = false := beq_eq_false_iff_ne.mpr c9
    have c9b1 : ((Go.bits .and .i64 (ji5) 1) != 1) = true := bne_iff_ne.mpr c9
    have H' := Aside0.mk H
    clear H
    go_wp2
    go_roundg k1
    case measure => have := HK1.out; omega
    case rel => exact ⟨(x3_1), (wrap64 (x4_1 + 1)), gR, H', ⟨by have := HK1.out; omega⟩, ⟨by exact HO_3.out⟩, ⟨wB⟩⟩
   rw [if_pos c9] at H
   have c9b0 : ((Go.bits .and .i64 (ji5) 1) == 1) = true := beq_iff_eq.mpr c9
   have c9b1 : ((Go.bits .and .i64 (ji5) 1) != 1) = false := bne_eq_false_iff_eq.mpr c9
   clear c9
   by_cases c10 : x3_1.length < 17592186044416
   rotate_left
   ·rw [if_neg c10] at H
    exact absurd H (by simp)
   rw [if_pos c10] at H
   have LMc10 := Aside0.mk c10
   clear c10
   obtain ⟨y104, hy104⟩ : ∃ y_ : List Int, y_ = (x3_1 ++ [x4_1]) := ⟨_, rfl⟩
   replace H : (impl_setOf.l0 k1 a0 y104 (wrap64 (x4_1 + 1))) = some r := by first | (rw [hy104]; with_reducible exact H) | (have H2_ := (Option.bind_some _ _).symm.trans H; rw [hy104]; with_reducible exact H2_) | (have H2_ := (Option.bind_some _ _).symm.trans H; with_reducible exact H2_) | with_reducible exact H | (rw [hy104]; exact H) | exact H
   have Ny104 := Aside0.mk hy104
   clear hy104
   have H' := Aside0.mk H
   clear H
   go_wp2_with (first | ((with_reducible refine gate_builtin (b := .append) (xs := #[.tmp 17, .tmp 19]) rfl ?_); at_builtin; refine Kd.R_append (Kd.int .i64) (w0 := w) w.heap.size rfl (.tmp 17) (.tmp 19) 24 3 (.int .i64 0) 8 rfl Tryz.underlying24 info3 rfl (by decide) (by omega) u3 x3_1 x4_1 [.int .i64 x4_1] (fun _ => True) (fun _ => False) rfl rfl ?aP (fun _ hk => hk.elim) ?aF ?aO ?aB ?aS ?aL ?_; (case aP => exact rfl); (case aB => exact HB.out); (case aF => exact (fun _ _ => trivial)); (case aO => exact HO_3.out); (case aS => exact (below_size HB.out)); (case aL => have := LMc10.out; omega); intro v105 w11 ho hb hg hat; rw [← Ny104.out] at ho; have HO106 := Aside0.mk (ho); replace HB := Aside0.mk (hb); clear ho hb hg hat))
   go_roundg k1
   case measure => have := HK1.out; omega
   case rel => exact ⟨(y104), (wrap64 (x4_1 + 1)), gR, H', ⟨by have := HK1.out; omega⟩, ⟨by exact HO106.out⟩, ⟨wB⟩⟩
open Go.Proofs.YtamfpkefnhcngaaGreatM in
theorem impl_votes_sets.cmp_v (a b : Int) : cmp_Compare_int.f a b = some (if a < b then -1 else if b < a then 1 else 0) := by
 have h : ∀ x : Int, cmp_isNaN_int.f x = some false := fun x => by simp [cmp_isNaN_int.f]
 simp only [cmp_Compare_int.f, h, Option.bind_some, Bool.false_eq_true, if_false]
 by_cases h1 : a < b
 ·rw [if_pos h1, if_pos h1]
 by_cases h2 : b < a
 ·rw [if_neg h1, if_pos h2, if_neg h1, if_pos h2]
 rw [if_neg h1, if_neg h2, if_neg h1, if_neg h2]
open Go.Proofs.YtamfpkefnhcngaaGreatM in
theorem impl_votes_sets.cmp_ev_l (a b : List Int) (ha : a.length ≤ 9223372036854775807) : ∀ (d i : Nat), i + d = a.length → i ≤ b.length → a.take i = b.take i → Ev (fun k => slices_Compare_int_int.l0 k a b a (a.length : Int) (i : Int)) (Go.Proofs.YtamfpkefnhcngaaGreatM.cmpL (a.drop i) (b.drop i)) := by
 intro d
 induction d with
 | zero =>
  intro i h hb _
  refine ev_step ?_
  simp only [slices_Compare_int_int.l0]
  rw [ev_neg (by omega), List.drop_of_length_le (by omega)]
  by_cases hc : (a.length : Int) < (b.length : Int)
  ·rw [ev_pos hc, ev_now, List.drop_eq_getElem_cons (by omega)]
   rfl
  rw [ev_neg hc, ev_now, List.drop_of_length_le (by omega)]
  rfl
 | succ d ih =>
  intro i h hb ht
  refine ev_step ?_
  simp only [slices_Compare_int_int.l0]
  have hi : i < a.length := by omega
  rw [ev_pos (by omega), ev_pos (by omega), ev_pos (by omega)]
  by_cases hc : (i : Int) ≥ (b.length : Int)
  ·rw [ev_pos hc, ev_now, List.drop_eq_getElem_cons hi, List.drop_of_length_le (by omega : b.length ≤ i)]
   rfl
  have hib : i < b.length := by omega
  rw [ev_neg hc, ev_pos (by omega), rd_lt a i hi, rd_lt b i hib, ev_bind (ev_of (impl_votes_sets.cmp_v _ _)), w64i (n := a.length) (by omega) (by omega) ha, List.drop_eq_getElem_cons hi, List.drop_eq_getElem_cons hib]
  simp only [Go.Proofs.YtamfpkefnhcngaaGreatM.cmpL]
  by_cases h1 : a[i] < b[i]
  ·rw [if_pos h1, ev_neg (by decide), ev_now, if_pos h1]
  by_cases h2 : b[i] < a[i]
  ·rw [if_neg h1, if_pos h2, ev_neg (by decide), ev_now, if_neg h1, if_pos h2]
  rw [if_neg h1, if_neg h2, ev_pos rfl, if_neg h1, if_neg h2]
  refine ih (i + 1) (by omega) (by omega) ?_
  rw [List.take_succ_eq_append_getElem hi, List.take_succ_eq_append_getElem hib, ht, show a[i] = b[i] by omega]
open Go.Proofs.YtamfpkefnhcngaaGreatM in
theorem impl_votes_sets.cmp_ev (a b : List Int) (ha : a.length ≤ 9223372036854775807) : Ev (fun k => slices_Compare_int_int.f k a b) (Go.Proofs.YtamfpkefnhcngaaGreatM.cmpL a b) := impl_votes_sets.cmp_ev_l a b ha a.length 0 (by omega) (by omega) (by simp)
def impl_votes_sets.l0 : Nat → (Int → Option Bool) → List Bool → List (List Int) → Int → Option (List (List Int))
 | 0, _, _, _, _ => none
 | k + 1, p, ws, out, x => if x < (ws.length : Int) then ((p x).bind fun b => if b = true then ((impl_setOf.f k x).bind fun s => if out.length < 5000000000000 then impl_votes_sets.l0 k p ws (out ++ [s]) (wrap64 (x + 1)) else none) else impl_votes_sets.l0 k p ws out (wrap64 (x + 1))) else some out
def impl_votes_sets.g (k : Nat) (ws : List Bool) (p : Int → Option Bool) : Option (List (List Int)) := (impl_votes_sets.l0 k p ws [] 0).bind fun out => if out.length < 5000000000000 then some (Go.Proofs.YtamfpkefnhcngaaGreatS.sortL out) else none
theorem impl_votes_sets.hof (k : Nat) (a0 : Int) (A1 : Option Addr) (c1 : Nat) (ws : List Bool) (p : Int → Option Bool) (g : Nat) (fb lb : Array Value) (r : List (List Int)) (w : World) (hr1 : Kd.C Kd.bool w A1 ws.length ws) (eg : ∀ args w, (callFunc g args).run Tryz.prog w = .ok (.enter g args) w)
  (hp : ∀ (W : World) (x : Int) (b : Bool), Below w.heap.size w W → 0 ≤ x → x < (ws.length : Int) → p x = some b → Calls Tryz.prog g (fb ++ #[.int .i64 x] ++ lb) W fun e W' => e = .returned (.bool b) ∧ Below W.heap.size W W') (h : impl_votes_sets.g k ws p = some r) :
  Calls Tryz.prog 144 #[.agg #[.int .i64 a0, .slice A1 ws.length c1], .func (.func g) fb lb] w fun e w' => ∃ v0_ : Value, e = .returned (v0_) ∧ Kd.S (Kd.slice 3 (Kd.int .i64)) 24 w' w.heap.size (fun _ => True) v0_ r ∧ Below w.heap.size w w' := by
 have egC : ∀ args w, (callFunc 211 args).run Tryz.prog w = .ok (.enter 211 args) w := enters_of Tryz.func211 (by kernel_rfl) rfl
 have huV := Tryz.underlying87
 obtain ⟨OUT, hout, hr⟩ := oB h
 by_cases hlo : OUT.length < 5000000000000
 case neg => rw [if_neg hlo] at hr; cases hr
 rw [if_pos hlo] at hr
 obtain rfl := Option.some.inj hr
 have HLO := Aside0.mk hlo
 have HN := Aside0.mk (Kd.C_max hr1)
 have HR := Aside0.mk hr1
 have HP := Aside0.mk hp
 have H' := Aside0.mk hout
 have HB := Aside0.mk (Below.refl w.heap.size w)
 clear hr1 h hout hr hlo hp
 go_enter Tryz.func144, Tryz.ntmps144
 go_wp2_with (first | ((with_reducible refine gate_dst (N := 2) rfl ?_); refine xE (N := 2) (cs := #[.int .i64 a0, .slice A1 ws.length c1]) (t := 87) ?_; intro gb hg w7 BK hb; replace HB := sB HB hb; clear hb hg) | ((with_reducible refine gate_dst (N := 7) rfl ?_); refine Kd.S_lit (Kd.slice 3 (Kd.int .i64)) _ 24 ?hg (N := 7) ?hd (xs := ([] : List (List Int))) (inner := []) (ok := fun _ => True) (okp := fun _ => True) ?hr ?hp (fun _ hk => hk) trivial (Below.refl _ _) (Nat.le_refl _) (by simp) ?_; (case hd => rfl); (case hg => rfl); (case hr => first | (go_simp; done) | (go_simp; rfl)); (case hp => exact (Reps.none _ _)); intro v102 w8 ho hb hg_ hnew_; clear hg_ hnew_; have n0_ := Aside0.mk (Kd.S_lower ho (below_size HB.out)); have n1_ := bB BK hb; have n2_ := sB HB hb; clear HB BK; have HO := n0_; have BK := n1_; have HB := n2_; clear n0_ n1_ n2_; clear hb ho; obtain ⟨Ao9, co9, eo9⟩ := Kd.S_slice HO.out; subst eo9; have hcz1 := cZ BK 1))
 go_loopg [5, 11] k (fun kq v5 v11 w' => ∃ (out : List (List Int)) (x : Int), v11 = .int .i64 x ∧ Aside0 (impl_votes_sets.l0 kq p ws out x = some OUT) ∧ Aside0 (kq ≤ k) ∧ Aside0 (0 ≤ x) ∧ Aside0 (Kd.S (Kd.slice 3 (Kd.int .i64)) 24 w' w.heap.size (fun _ => True) v5 out) ∧ Aside0 (w'.heap[gb]? = some (.cells #[.int .i64 a0, .slice A1 ws.length c1] 87 (0, 0))) ∧ Aside0 (Below w.heap.size w w'))
 case atStart => exact ⟨[], 0, gR, H', ⟨Nat.le_refl _⟩, ⟨Int.le_refl _⟩, ⟨by exact HO.out⟩, ⟨by exact BK.out⟩, ⟨HB.out⟩⟩
 case round =>
  clear H' HB BK HO
  (try clear hcz1)
  obtain ⟨out, x, rfl, HA, HK1, HX0, HO, BK, HB⟩ := hrel
  cases gk with
  | zero => exact absurd HA.out (by simp [impl_votes_sets.l0])
  | succ k1 =>
   have H := HA.out
   clear HA
   simp only [impl_votes_sets.l0] at H
   by_cases c1 : x < (ws.length : Int)
   rotate_left
   ·rw [if_neg c1] at H
    obtain rfl := Option.some.inj H
    have c1b0 : decide (x < (ws.length : Int)) = false := decide_eq_false c1
    clear c1 H
    obtain ⟨Ao, co, eo⟩ := Kd.S_slice HO.out
    subst eo
    go_wp2_with fail
    have hs := Go.Proofs.YtamfpkefnhcngaaGreatS.sort_rows Go.Proofs.YtamfpkefnhcngaaGreatL.sortLL (Kd.slice 3 (Kd.int .i64)) rfl Go.Proofs.YtamfpkefnhcngaaGreatM.cmpL Go.Proofs.YtamfpkefnhcngaaGreatS.swoL 211 egC HO.out (by have := HLO.out; omega) (fun W a b u v _ _ ha hb => by
     obtain ⟨A1_, c1_, e1_, hl1, hC1⟩ := ha
     obtain ⟨A2_, c2_, e2_, hl2, hC2⟩ := hb
     obtain rfl := (List.cons.inj e1_).1
     obtain rfl := (List.cons.inj e2_).1
     obtain ⟨K, hK⟩ := impl_votes_sets.cmp_ev a b (Kd.C_max hC1)
     refine (slices_Compare_int_int.calls K A1_ c1_ a A2_ c2_ b _ W hC1 hl1 hC2 hl2 (hK K (Nat.le_refl _))).mono ?_
     rintro e W' ⟨rfl, ⟨q, rfl⟩⟩
     exact ⟨rfl, q, rfl⟩)
    change Calls Tryz.prog 210 _ _ _ at hs
    refine hs.mono ?_
    rintro e w' ⟨rfl, ys, hperm, hsd, hS, hg⟩
    obtain rfl := Go.Proofs.YtamfpkefnhcngaaGreatS.sortL_of hperm hsd
    have HS := Aside0.mk hS
    have HBN := Aside0.mk (HB.out.grown hg HB.out.size (fun k_ hk_ => Kd.S_base HO.out k_ hk_))
    clear hS hg hs HO HB
    go_wp2
    go_ret
    exact ⟨_, rfl, by exact HS.out, HBN.out⟩
   rw [if_pos c1] at H
   obtain ⟨b, A5, H⟩ := oB H
   have hcall := HP.out wr x b HB.out HX0.out c1 A5
   have HXW : Aside0 (0 ≤ wrap64 (x + 1)) := ⟨by have h1_ := HX0.out; have h2_ := HN.out; unfold wrap64; omega⟩
   have c1b0 := decide_eq_true c1
   clear c1
   cases b with
   | true =>
    rw [if_pos rfl] at H
    obtain ⟨s, A6, H⟩ := oB H
    have A6 := Aside0.mk A6
    by_cases c3 : out.length < 5000000000000
    rotate_left
    ·rw [if_neg c3] at H
     exact absurd H (by simp)
    rw [if_pos c3] at H
    obtain ⟨y, hy⟩ : ∃ y_ : List (List Int), y_ = (out ++ [s]) := ⟨_, rfl⟩
    rw [← hy] at H
    have NY := Aside0.mk hy
    have LM := Aside0.mk c3
    have H' := Aside0.mk H
    clear hy c3 H
    go_wp2_with fail
    refine hcall.mono ?_
    rintro e w' ⟨rfl, hb⟩
    have n0_ := tB HO hb
    have n1_ := bB BK hb
    have n2_ := Aside0.mk (HB.out.trans (hb.mono HB.out.size))
    clear HO BK HB hb hcall
    have HO := n0_
    have BK := n1_
    have HB := n2_
    clear n0_ n1_ n2_
    go_wp2_with (first | ((with_reducible refine gate_callee (f := 209) rfl ?_); refine gL 19 Tryz.func209 #[.int .i64 x] ?_; (with_reducible refine (impl_setOf.calls k1 x s _ A6.out).mono ?_); rintro e w22 ⟨v111, rfl, ho0, hb⟩; refine ⟨_, rfl, ?_⟩; have n0_ := Aside0.mk (Kd.S_elder' HO.out (Kd.R_base ho0) hb); have n1_ := Aside0.mk (Kd.R_lower ho0 (below_size HB.out)); have n2_ := sB HB hb; have n3_ := bB BK hb; clear HO HB BK; have HO := n0_; have HOs := n1_; have HB := n2_; have BK := n3_; clear n0_ n1_ n2_ n3_ hb ho0; obtain ⟨Ao24, co24, eo24⟩ := Kd.R_slice HOs.out; subst eo24) | ((with_reducible refine gate_builtin (b := .append) (xs := #[.tmp 17, .tmp 20]) rfl ?_); at_builtin; refine Kd.S_append (Kd.slice 3 (Kd.int .i64)) (w0 := w) w.heap.size rfl (.tmp 17) (.tmp 20) 45 24 (.slice none 0 0) 24 rfl Tryz.underlying45 info24 rfl (by decide) (by omega) u5 out s [.slice Ao24 s.length co24] (fun _ => True) (fun k_ => some k_ = (.slice Ao24 s.length co24 : Value).ownBlock) rfl rfl ?aP (fun k_ hk_ => (Kd.R_mono (ok' := fun k_ => True ∧ nb u5 k_) (Kd.R_apart' HOs.out (Kd.S_typed HO.out) (by decide)) (fun k_ hk => ⟨trivial, hk.2⟩)).1 k_ hk_.symm) ?aF ?aO ?aB ?aS ?aL ?_; (case aP => exact Kd.M_row (Kd.R_mono (Kd.R_tight rfl (Kd.R_mono (ok' := fun k_ => True ∧ nb u5 k_) (Kd.R_apart' HOs.out (Kd.S_typed HO.out) (by decide)) (fun k_ hk => ⟨trivial, hk.2⟩))) (fun _ h_ => h_))); (case aB => exact HB.out); (case aF => exact (fun _ _ => trivial)); (case aO => exact (by exact Kd.S_mono HO.out (fun k_ hk => ⟨trivial, fun e_ => hk.2 e_⟩))); (case aS => exact (below_size HB.out)); (case aL => have := LM.out; omega); intro v114 w23 ho hb hg hat; rw [← NY.out] at ho; have n0_ := Aside0.mk (blk_grown BK.out hg (Kd.S_ne HO.out BK.out (by decide))); have n1_ := Aside0.mk hb; have n2_ := Aside0.mk ho; clear BK HB HO HOs; have BK := n0_; have HB := n1_; have HO := n2_; clear n0_ n1_ n2_ ho hb hg hat))
    go_roundg k1
    case measure => have := HK1.out; omega
    case rel => exact ⟨y, (wrap64 (x + 1)), gR, H', ⟨by have := HK1.out; omega⟩, HXW, ⟨by exact HO.out⟩, ⟨by exact BK.out⟩, ⟨HB.out⟩⟩
   | false =>
    rw [if_neg (by decide)] at H
    have H' := Aside0.mk H
    clear H
    go_wp2_with fail
    refine hcall.mono ?_
    rintro e w' ⟨rfl, hb⟩
    have n0_ := tB HO hb
    have n1_ := bB BK hb
    have n2_ := Aside0.mk (HB.out.trans (hb.mono HB.out.size))
    clear HO BK HB hb hcall
    have HO := n0_
    have BK := n1_
    have HB := n2_
    clear n0_ n1_ n2_
    go_wp2
    go_roundg k1
    case measure => have := HK1.out; omega
    case rel => exact ⟨out, (wrap64 (x + 1)), gR, H', ⟨by have := HK1.out; omega⟩, HXW, ⟨by exact HO.out⟩, ⟨by exact BK.out⟩, ⟨HB.out⟩⟩
def impl_votes_least.f (k : Nat) (a0_0 : Int) (l0_1 : List Bool) : Option (List (List Int)) := impl_votes_sets.g k l0_1 (fun x => impl_votes_isLeast.f k a0_0 l0_1 x)
theorem impl_votes_least.calls (k : Nat) (a0_0 : Int) (A0_1 : Option Addr) (c0_1 : Nat) (l0_1 : List Bool) (r : List (List Int)) (w : World) (hr0_1 : Kd.C Kd.bool w A0_1 l0_1.length l0_1) (hc0_1 : l0_1.length ≤ c0_1) (h : impl_votes_least.f k a0_0 l0_1 = some r) :
  Calls Tryz.prog 143 #[.agg #[.int .i64 a0_0, .slice A0_1 l0_1.length c0_1]] w fun e w' => ∃ v0_ : Value, e = .returned (v0_) ∧ Kd.S (Kd.slice 3 (Kd.int .i64)) 24 w' w.heap.size (fun _ => True) v0_ r ∧ Below w.heap.size w w' := by
 have eg : ∀ args w, (callFunc 208 args).run Tryz.prog w = .ok (.enter 208 args) w := enters_of Tryz.func208 (by kernel_rfl) rfl
 have hmf : ∀ (fn : Fn) (first cap : Array Value) (w : World), (Instr.makeFunc fn first cap).run Tryz.prog w = .ok (.func fn first cap) w := fun _ _ _ _ => rfl
 have huV := Tryz.underlying87
 have HR := Aside0.mk hr0_1
 have HC := Aside0.mk hc0_1
 have H := Aside0.mk h
 clear hr0_1 hc0_1 h
 go_enter Tryz.func143, Tryz.ntmps143
 go_wp2_with fail
 have hB1 : Below w.heap.size w (w.alloc (.cells #[.int .i64 a0_0, .slice A0_1 l0_1.length c0_1] 87)) := (Below.refl _ _).alloc (Nat.le_refl _) _
 refine (impl_votes_sets.hof k a0_0 A0_1 c0_1 l0_1 (fun x => impl_votes_isLeast.f k a0_0 l0_1 x) 208 #[.agg #[.int .i64 a0_0, .slice A0_1 l0_1.length c0_1]] #[] r _ (Kd.C_below HR.out hB1) eg ?_ H.out).mono ?_
 ·intro W x b hb _ _ hx
  exact impl_votes_isLeast.calls k a0_0 A0_1 c0_1 l0_1 x b W (Kd.C_below HR.out (hB1.trans (hb.mono hB1.size))) HC.out hx
 rintro e w' ⟨v1, rfl, hS, hb⟩
 have HS := Aside0.mk (Kd.S_lower hS hB1.size)
 have HBN := Aside0.mk (hB1.trans (hb.mono hB1.size))
 clear hS hb hB1
 go_wp2
 go_ret
 exact ⟨_, rfl, HS.out, HBN.out⟩
open Go.Proofs.YtamfpkefnhcngaaGreatM in
theorem impl_votes_idle.index_ev (l : List Int) (x : Int) (hl : l.length ≤ 9223372036854775807) : ∀ (d i : Nat), i + d = l.length → ∃ r : Int, Ev (fun k => slices_Index_int_int.l0 k l x (l.length : Int) (i : Int)) r ∧ decide (r ≥ 0) = (l.drop i).contains x := by
 intro d
 induction d with
 | zero =>
  intro i h
  refine ⟨-1, ev_step ?_, ?_⟩
  ·simp only [slices_Index_int_int.l0]
   rw [ev_neg (by omega), ev_now]
  rw [List.drop_of_length_le (by omega)]
  rfl
 | succ d ih =>
  intro i h
  have hi : i < l.length := by omega
  by_cases e : x = l[i]
  ·refine ⟨(i : Int), ev_step ?_, ?_⟩
   ·simp only [slices_Index_int_int.l0]
    rw [ev_pos (by omega), ev_pos (by omega), ev_pos (by omega), rd_lt l i hi, ev_pos e, ev_now]
   rw [List.drop_eq_getElem_cons hi, decide_eq_true (by omega), List.contains_cons, beq_iff_eq.2 e, Bool.true_or]
  obtain ⟨r, hr1, hr2⟩ := ih (i + 1) (by omega)
  refine ⟨r, ev_step ?_, ?_⟩
  ·simp only [slices_Index_int_int.l0]
   rw [ev_pos (by omega), ev_pos (by omega), ev_pos (by omega), rd_lt l i hi, ev_neg e, w64i (n := l.length) (by omega) (by omega) hl]
   exact hr1
  rw [hr2, List.drop_eq_getElem_cons hi, List.contains_cons]
  have : (x == l[i]) = false := beq_eq_false_iff_ne.2 e
  rw [this, Bool.false_or]
open Go.Proofs.YtamfpkefnhcngaaGreatM in
theorem impl_votes_idle.contains_ev (l : List Int) (x : Int) (hl : l.length ≤ 9223372036854775807) : Ev (fun k => slices_Contains_int_int.f k l x) (l.contains x) := by
 obtain ⟨r, h1, h2⟩ := impl_votes_idle.index_ev l x hl l.length 0 (by omega)
 simp only [slices_Contains_int_int.f]
 rw [ev_bind (show Ev (fun k => slices_Index_int_int.f k l x) r from h1), ev_now, h2, List.drop_zero]
def impl_votes_idle.p (L : List (List Int)) (x : Int) : Bool := !(L.any fun s => s.contains x)
def impl_votes_idle.f (k : Nat) (a0_0 : Int) (l0_1 : List Bool) : Option (List Int) := if a0_0 ≤ 9223372036854775807 then (impl_votes_least.f k a0_0 l0_1).bind fun L => impl_members.g k a0_0 (fun x => some (impl_votes_idle.p L x)) else none
theorem impl_isIn_1.clo (x : Int) (A : Option Addr) (c : Nat) (s : List Int) (B : Nat) (W : World) (h0 : W.cell? ⟨B, 0, none⟩ = some (.int .i64 x)) (hr : Kd.C (Kd.int .i64) W A s.length s) (hc : s.length ≤ c) :
  Calls Tryz.prog 225 #[.slice A s.length c, .pointer (some ⟨B, 0, none⟩)] W fun e W' => e = .returned (.bool (s.contains x)) ∧ Below W.heap.size W W' := by
 obtain ⟨K, hK⟩ := impl_votes_idle.contains_ev s x (Kd.C_max hr)
 have HC := Aside0.mk (fun W1 (h1 : Kd.C (Kd.int .i64) W1 A s.length s) => slices_Contains_int_int.calls K A c s x _ W1 h1 hc (hK K (Nat.le_refl _)))
 have HR := Aside0.mk hr
 clear hK hr hc
 generalize s.contains x = b at *
 go_enter Tryz.func225, Tryz.ntmps225
 go_wp2_with fail
 refine (HC.out _ HR.out).mono ?_
 rintro e w' ⟨rfl, hd⟩
 have HD := Aside0.mk hd.below
 clear hd
 go_wp2
 go_ret
 exact ⟨rfl, HD.out⟩
theorem impl_isIn.mk (x : Int) (W : World) : Calls Tryz.prog 207 #[.int .i64 x] W fun e W' => e = .returned (.func (.func 225) #[] #[.pointer (some ⟨W.heap.size, 0, none⟩)]) ∧ W' = W.alloc (.cells #[.int .i64 x] 3) := by
 have hmf : ∀ (fn : Fn) (first cap : Array Value) (w : World), (Instr.makeFunc fn first cap).run Tryz.prog w = .ok (.func fn first cap) w := fun _ _ _ _ => rfl
 go_enter Tryz.func207, Tryz.ntmps207
 go_wp2
 go_ret
 exact ⟨rfl, rfl⟩
theorem impl_votes_idle_1.clo (x : Int) (L : List (List Int)) (A : Option Addr) (c : Nat) (B : Nat) (W : World) (h0 : W.cell? ⟨B, 0, none⟩ = some (.slice A L.length c)) (hr : Kd.C (Kd.slice 3 (Kd.int .i64)) W A L.length L) :
  Calls Tryz.prog 205 #[.int .i64 x, .pointer (some ⟨B, 0, none⟩)] W fun e W' => e = .returned (.bool (impl_votes_idle.p L x)) ∧ Below W.heap.size W W' := by
 have eg : ∀ args w, (callFunc 225 args).run Tryz.prog w = .ok (.enter 225 args) w := enters_of Tryz.func225 (by kernel_rfl) rfl
 have hlt : B < W.heap.size := World.block_lt_of_cell? W _ h0
 have hd0 : W.drew.cell? ⟨B, 0, none⟩ = some (.slice A L.length c) := h0
 have HD0 := Aside0.mk hd0
 have HLT := Aside0.mk (show B < W.drew.heap.size from hlt)
 have HR := Aside0.mk (Kd.C_drew hr)
 have HF := Aside0.mk (fun (W0 : World) (hW : Kd.C (Kd.slice 3 (Kd.int .i64)) W0 A L.length L) => slices_ContainsFunc_intS.hof A c L 225 #[.pointer (some ⟨W0.heap.size, 0, none⟩)] (fun s => s.contains x) (W0.alloc (.cells #[.int .i64 x] 3)) (Kd.C_alloc hW _) eg (fun W1 A1 c1 s _ hb hC hc => impl_isIn_1.clo x A1 c1 s W0.heap.size W1 (by rw [hb.cell (p := ⟨W0.heap.size, 0, none⟩) (by simp)]; simp [go_sem]) hC hc))
 have HBD := Aside0.mk (show Below W.heap.size W W.drew from below_drew1 (Below.refl _ _))
 unfold impl_votes_idle.p
 generalize (L.any fun s => s.contains x) = b at *
 clear hr hlt hd0
 go_enter Tryz.func205, Tryz.ntmps205
 go_wp2
 go_region_held3 (fun w' => w'.cell? ⟨B, 0, none⟩ = some (.slice A L.length c)) (first | exact k0 | go_keep)
  (first | (go_at_call 207; refine (impl_isIn.mk x _).mono ?_; rintro e w' ⟨rfl, rfl⟩; have k0 := ((below_alloc (Below.refl W.drew.heap.size W.drew) (.cells #[.int .i64 x] 3)).cell (p := ⟨B, 0, none⟩) HLT.out).trans HD0.out) | (go_at_call 206; refine (HF.out _ HR.out).mono ?_; rintro e w' ⟨rfl, hb⟩; have k0 := (hb.cell (p := ⟨B, 0, none⟩) (by simp; exact Nat.lt_succ_of_lt HLT.out)).trans (((below_alloc (Below.refl W.drew.heap.size W.drew) (.cells #[.int .i64 x] 3)).cell (p := ⟨B, 0, none⟩) HLT.out).trans HD0.out); have HBN := Aside0.mk (HBD.out.trans ((below_alloc (Below.refl W.drew.heap.size W.drew) (.cells #[.int .i64 x] 3)).trans (hb.mono (by simp)))); clear hb))
 go_wp2
 go_ret
 exact ⟨rfl, HBN.out⟩
theorem impl_votes_idle.calls (k : Nat) (a0_0 : Int) (A0_1 : Option Addr) (c0_1 : Nat) (l0_1 : List Bool) (r : List Int) (w : World) (hr0_1 : Kd.C Kd.bool w A0_1 l0_1.length l0_1) (hc0_1 : l0_1.length ≤ c0_1) (h : impl_votes_idle.f k a0_0 l0_1 = some r) :
  Calls Tryz.prog 139 #[.agg #[.int .i64 a0_0, .slice A0_1 l0_1.length c0_1]] w fun e w' => ∃ v0_ : Value, e = .returned (v0_) ∧ Kd.R (Kd.int .i64) 3 w' w.heap.size (fun _ => True) v0_ r ∧ Below w.heap.size w w' := by
 have eg : ∀ args w, (callFunc 205 args).run Tryz.prog w = .ok (.enter 205 args) w := enters_of Tryz.func205 (by kernel_rfl) rfl
 have hmf : ∀ (fn : Fn) (first cap : Array Value) (w : World), (Instr.makeFunc fn first cap).run Tryz.prog w = .ok (.func fn first cap) w := fun _ _ _ _ => rfl
 have huV := Tryz.underlying87
 by_cases hn : a0_0 ≤ 9223372036854775807
 case neg => simp only [impl_votes_idle.f] at h; rw [if_neg hn] at h; cases h
 simp only [impl_votes_idle.f] at h
 rw [if_pos hn] at h
 obtain ⟨L, hL, hg⟩ := oB h
 have HR := Aside0.mk hr0_1
 have HC := Aside0.mk hc0_1
 have HL := Aside0.mk hL
 have HG := Aside0.mk hg
 have HN := Aside0.mk hn
 have HB1 := Aside0.mk (show Below w.heap.size w (w.alloc (.cells #[.int .i64 a0_0, .slice A0_1 l0_1.length c0_1] 87)) from (Below.refl _ _).alloc (Nat.le_refl _) _)
 clear hr0_1 hc0_1 h hL hg hn
 go_enter Tryz.func139, Tryz.ntmps139
 go_wp2_with fail
 refine (impl_votes_least.calls k a0_0 A0_1 c0_1 l0_1 L _ (Kd.C_below HR.out HB1.out) HC.out HL.out).mono ?_
 rintro e w1 ⟨v1, rfl, hS, hb⟩
 obtain ⟨A1, c1, rfl, hl1, hC1⟩ := Kd.S_reads hS
 have hw1 := blk_new w (.cells #[.int .i64 a0_0, .slice A0_1 l0_1.length c0_1] 87)
 have BK := Aside0.mk (blk_below hw1 hb)
 have HB2 := Aside0.mk (HB1.out.trans (hb.mono HB1.out.size))
 have HC1 := Aside0.mk hC1
 clear hS hl1 hC1 hw1 hb
 have hc0 : (w1.alloc (.cells #[.slice A1 L.length c1] 45)).cell? ⟨w.heap.size, 0, none⟩ = some (.int .i64 a0_0) := (blk_cell (blk_alloc BK.out _) 0).trans rfl
 have HB3 := Aside0.mk (HB2.out.trans ((below_alloc (Below.refl w1.heap.size w1) (.cells #[.slice A1 L.length c1] 45)).mono HB2.out.size))
 have HX := Aside0.mk (fun (k0 : Nat) => impl_members.hof k a0_0 (fun x => some (impl_votes_idle.p L x)) 205 #[] #[.pointer (some ⟨w1.heap.size, 0, none⟩)] r (w1.alloc (.cells #[.slice A1 L.length c1] 45)) HN.out eg (fun W x b hb _ _ hx => by
  obtain rfl := Option.some.inj hx
  refine impl_votes_idle_1.clo x L A1 c1 w1.heap.size W ?_ (Kd.C_below (Kd.C_alloc HC1.out _) hb)
  rw [hb.cell (p := ⟨w1.heap.size, 0, none⟩) (by simp)]
  simp [go_sem]) HG.out)
 go_wp2_with fail
 refine (HX.out 0).mono ?_
 rintro e w' ⟨v2, rfl, hO, hb⟩
 have HO := Aside0.mk (Kd.R_lower hO HB3.out.size)
 have HB4 := Aside0.mk (HB3.out.trans (hb.mono HB3.out.size))
 clear hO hb
 go_wp2
 go_ret
 exact ⟨_, rfl, HO.out, HB4.out⟩
def impl_DummiesOf.f (k : Nat) (a0_0 : Int) (l0_1 : List Int) : Option (List Int × Bool) := (impl_IsCommittee.f k a0_0 l0_1).bind fun t102 => (if t102 = true then ((impl_Committee_votes.f k a0_0 l0_1).bind fun bt103 => ((impl_votes_idle.f k bt103.1 bt103.2).bind fun t107 => (some (t107, true)))) else (some (([] : List Int), false)))
theorem impl_DummiesOf.calls (k : Nat) (a0_0 : Int) (A0_1 : Option Addr) (c0_1 : Nat) (l0_1 : List Int) (r1 : List Int) (r2 : Bool) (w : World) (hr0_1 : Kd.C (Kd.int .i64) w A0_1 l0_1.length l0_1) (hc0_1 : l0_1.length ≤ c0_1) (h : impl_DummiesOf.f k a0_0 l0_1 = some (r1, r2)) :
  Calls Tryz.prog 30 #[.agg #[.int .i64 a0_0, .slice A0_1 l0_1.length c0_1]] w fun e w' => ∃ v0_ : Value, e = .returned (.tuple #[v0_, .bool r2]) ∧ Kd.R (Kd.int .i64) 3 w' w.heap.size (fun _ => True) v0_ r1 ∧ Below w.heap.size w w' := by
 have hu26 := Tryz.underlying26
 have HR0_1 := Aside0.mk hr0_1
 have HC0_1 := Aside0.mk hc0_1
 clear hr0_1 hc0_1
 have HB := Aside0.mk (Below.refl w.heap.size w)
 have H := h
 unfold impl_DummiesOf.f at H
 clear h
 replace H := oA H
 obtain ⟨t102, A2, H⟩ := H
 (try dsimp only at H)
 by_cases c3 : t102 = true
 rotate_left
 ·replace c3 := Bool.eq_false_iff.mpr c3
  subst c3
  replace H := iF H
  simp only [Option.some.injEq, Prod.mk.injEq] at H
  obtain ⟨rfl, rfl⟩ := H
  go_enter Tryz.func30, Tryz.ntmps30
  go_wp2_with (first | ((with_reducible refine gate_dst (N := 1) rfl ?_); refine xE (N := 1) (cs := #[.int .i64 a0_0, .slice A0_1 l0_1.length c0_1]) (t := 26) ?_; intro gb101 hg w13 BK101 hb; have GW101 := gS hg HB; have GE101 := gS hg HB; replace HB := sB HB hb; clear hb hg; (try clear hcz9_0 hcz9_1 hfz9_0 hfz9_1); obtain ⟨hcz14_0, hcz14_1, hfz14_0, hfz14_1⟩ := zZ BK101) | ((with_reducible refine gate_callee (f := 20) rfl ?_); refine gL 5 Tryz.func20 #[.agg #[.int .i64 a0_0, .slice A0_1 l0_1.length c0_1]] ?_; (with_reducible refine (impl_IsCommittee.calls k a0_0 _ _ l0_1 false _ (Kd.C_below HR0_1.out HB.out) HC0_1.out A2.out).mono ?_); rintro e w15 ⟨rfl, hb⟩; refine ⟨_, rfl, ?_⟩; replace BK101 := bB BK101 hb; replace HB := sB HB hb; (try clear hb)))
  go_ret2
  exact ⟨_, fR, by first | exact Kd.R_nil _ _ _ _ _ | exact Kd.N_nil _ _ _ _ _ | exact Kd.V_nil _ _ _ _ _ | exact Kd.Q_nil _ _ _ _ _ | exact Kd.S_nil _ _ _ _ _, wB⟩
 subst c3
 replace H := iT H
 replace H := oB H
 obtain ⟨⟨t103, t104⟩, A40, H⟩ := H
 (try dsimp only at H)
 have A4 := Aside0.mk A40
 clear A40
 replace H := oA H
 obtain ⟨t107, A5, H⟩ := H
 (try dsimp only at H)
 simp only [Option.some.injEq, Prod.mk.injEq] at H
 obtain ⟨rfl, rfl⟩ := H
 go_enter Tryz.func30, Tryz.ntmps30
 go_wp2_with (first | ((with_reducible refine gate_dst (N := 1) rfl ?_); refine xE (N := 1) (cs := #[.int .i64 a0_0, .slice A0_1 l0_1.length c0_1]) (t := 26) ?_; intro gb101 hg w6 BK101 hb; have GW101 := gS hg HB; have GE101 := gS hg HB; replace HB := sB HB hb; clear hb hg; obtain ⟨hcz7_0, hcz7_1, hfz7_0, hfz7_1⟩ := zZ BK101) | ((with_reducible refine gate_callee (f := 20) rfl ?_); refine gL 5 Tryz.func20 #[.agg #[.int .i64 a0_0, .slice A0_1 l0_1.length c0_1]] ?_; (with_reducible refine (impl_IsCommittee.calls k a0_0 _ _ l0_1 true _ (Kd.C_below HR0_1.out HB.out) HC0_1.out A2.out).mono ?_); rintro e w8 ⟨rfl, hb⟩; refine ⟨_, rfl, ?_⟩; replace BK101 := bB BK101 hb; replace HB := sB HB hb; (try clear hb); (try clear hcz7_0 hcz7_1 hfz7_0 hfz7_1); obtain ⟨hcz9_0, hcz9_1, hfz9_0, hfz9_1⟩ := zZ BK101) | ((with_reducible refine gate_callee (f := 135) rfl ?_); refine gL 8 Tryz.func135 #[.agg #[.int .i64 a0_0, .slice A0_1 l0_1.length c0_1]] ?_; (with_reducible refine (impl_Committee_votes.calls k a0_0 _ _ l0_1 t103 t104 _ (Kd.C_below HR0_1.out HB.out) HC0_1.out A4.out).mono ?_); rintro e w10 ⟨v105, rfl, ho0, hb⟩; refine ⟨_, rfl, ?_⟩; have HO106 := Aside0.mk (Kd.R_lower ho0 (below_size HB.out)); replace BK101 := bB BK101 hb; replace HB := sB HB hb; (try clear hb); (try clear ho0); obtain ⟨Ao11, co11, eo11⟩ := Kd.R_slice HO106.out; subst eo11) | ((with_reducible refine gate_callee (f := 139) rfl ?_); refine gL 9 Tryz.func139 #[.agg #[.int .i64 t103, .slice Ao11 t104.length co11]] ?_; (with_reducible refine (impl_votes_idle.calls k t103 _ _ t104 t107 _ ?side1 ?side2 A5.out).mono ?_); (case side1 => have hx_ := (Kd.R_reads' HO106.out).2.2; exact cC); (case side2 => exact (Kd.R_reads' HO106.out).2.1); rintro e w12 ⟨v108, rfl, ho0, hb⟩; refine ⟨_, rfl, ?_⟩; have HO109 := Aside0.mk (Kd.R_lower ho0 (below_size HB.out)); replace HO106 := rB HO106 hb; replace BK101 := bB BK101 hb; replace HB := sB HB hb; (try clear hb); (try clear ho0)))
 go_ret2
 exact ⟨_, fR, by exact HO109.out, wB⟩
def impl_votes_countWins.l0 : Nat → Int → List Bool → Int → Int → Option (Int)
 | 0, _, _, _, _ => none
 | k + 1, x3, x7, x8, x9 => if x9 < x8 then (if 0 ≤ x9 then (if x9 < (x7.length : Int) then (if rdOf false x7 x9 = true then (impl_votes_countWins.l0 k (wrap64 (x3 + 1)) x7 x8 (wrap64 (x9 + 1))) else (impl_votes_countWins.l0 k x3 x7 x8 (wrap64 (x9 + 1)))) else (none)) else (none)) else (some x3)
def impl_votes_countWins.f (k : Nat) (a0_0 : Int) (l0_1 : List Bool) : Option (Int) := impl_votes_countWins.l0 k 0 l0_1 (l0_1.length : Int) 0
theorem impl_votes_countWins.calls (k : Nat) (a0_0 : Int) (A0_1 : Option Addr) (c0_1 : Nat) (l0_1 : List Bool) (r : Int) (w : World) (hr0_1 : Kd.C Kd.bool w A0_1 l0_1.length l0_1) (hc0_1 : l0_1.length ≤ c0_1) (h : impl_votes_countWins.f k a0_0 l0_1 = some r) :
  Calls Tryz.prog 150 #[.agg #[.int .i64 a0_0, .slice A0_1 l0_1.length c0_1]] w fun e w' => e = .returned (.int .i64 r) ∧ Below w.heap.size w w' := by
 have hu87 := Tryz.underlying87
 have HR0_1 := Aside0.mk hr0_1
 have HC0_1 := Aside0.mk hc0_1
 clear hr0_1 hc0_1
 have HB := Aside0.mk (Below.refl w.heap.size w)
 have H := h
 unfold impl_votes_countWins.f at H
 clear h
 have H' := Aside0.mk H
 clear H
 go_enter Tryz.func150, Tryz.ntmps150
 go_wp2_with (first | ((with_reducible refine gate_dst (N := 1) rfl ?_); refine xE (N := 1) (cs := #[.int .i64 a0_0, .slice A0_1 l0_1.length c0_1]) (t := 87) ?_; intro gb101 hg w2 BK101 hb; have GW101 := gS hg HB; have GE101 := gS hg HB; replace HB := sB HB hb; clear hb hg; obtain ⟨hcz3_0, hcz3_1, hfz3_0, hfz3_1⟩ := zZ BK101))
 go_loopg [3, 9] k (fun kq v3 v9 w' => ∃ (x3_1 : Int) (x9_1 : Int), v3 = .int .i64 x3_1 ∧ v9 = .int .i64 x9_1 ∧ Aside0 (impl_votes_countWins.l0 kq x3_1 l0_1 (l0_1.length : Int) x9_1 = some r) ∧ Aside0 (kq ≤ k) ∧ Aside0 (w'.heap[gb101]? = some (.cells #[.int .i64 a0_0, (.slice A0_1 l0_1.length c0_1)] 87 (0, 0))) ∧ Aside0 (Below w.heap.size w w'))
 case atStart => exact ⟨(0), (0), gR, gR, H', ⟨Nat.le_refl _⟩, ⟨by exact BK101.out⟩, ⟨wB⟩⟩
 case round =>
  clear H'
  (try clear c1); (try clear p2); (try clear hcz3_0); (try clear hcz3_1); (try clear hfz3_0); (try clear hfz3_1)
  obtain ⟨x3_1, x9_1, rfl, rfl, HA, HK1, BK101, HB⟩ := hrel
  cases gk with
  | zero => exact absurd HA.out (by simp [impl_votes_countWins.l0])
  | succ k1 =>
   have H := HA.out
   clear HA
   simp only [impl_votes_countWins.l0] at H
   by_cases c4 : x9_1 < (l0_1.length : Int)
   rotate_left
   ·rw [if_neg c4] at H
    have c4b0 : decide (x9_1 < (l0_1.length : Int)) = false := decide_eq_false c4
    clear c4
    obtain rfl := Option.some.inj H
    go_wp2
    go_ret
    exact ⟨fR, wB⟩
   rw [if_pos c4] at H
   have c4b0 := decide_eq_true c4
   clear c4
   by_cases c5 : 0 ≤ x9_1
   rotate_left
   ·rw [if_neg c5] at H
    exact absurd H (by simp)
   rw [if_pos c5] at H
   have c5b0 := decide_eq_true c5
   clear c5
   by_cases c6 : x9_1 < (l0_1.length : Int)
   rotate_left
   ·rw [if_neg c6] at H
    exact absurd H (by simp)
   rw [if_pos c6] at H
   have c6b0 := decide_eq_true c6
   clear c6
   obtain ⟨bq7, hbq7⟩ : ∃ b_ : Bool, b_ = (rdOf false l0_1 x9_1) := ⟨_, rfl⟩
   replace H : (if bq7 = true then (impl_votes_countWins.l0 k1 (wrap64 (x3_1 + 1)) l0_1 (l0_1.length : Int) (wrap64 (x9_1 + 1))) else (impl_votes_countWins.l0 k1 x3_1 l0_1 (l0_1.length : Int) (wrap64 (x9_1 + 1)))) = some r := by rw [← hbq7] at H; exact H
   have Nbq7 := Aside0.mk hbq7
   clear hbq7
   by_cases c8 : bq7 = true
   ·subst c8
    replace H := iT H
    have H' := Aside0.mk H
    clear H
    have p102 : 0 ≤ (x9_1 : Int) := oD
    have q102 : x9_1 < (l0_1.length : Int) := oD
    obtain ⟨ad102, e102, hx102_0⟩ := Kd.at_bool HR0_1.out x9_1 p102 q102
    (try rw [← Nbq7.out] at hx102_0)
    cases e102
    replace hx102_0 := (HB.out.cell (World.block_lt_of_cell? w _ hx102_0)).trans hx102_0
    replace p102 := eq_true p102
    replace q102 := eq_true q102
    go_wp2
    go_roundg k1
    case measure => have := HK1.out; omega
    case rel => exact ⟨(wrap64 (x3_1 + 1)), (wrap64 (x9_1 + 1)), gR, gR, H', ⟨by have := HK1.out; omega⟩, ⟨by exact BK101.out⟩, ⟨wB⟩⟩
   replace c8 := Bool.eq_false_iff.mpr c8
   subst c8
   replace H := iF H
   have H' := Aside0.mk H
   clear H
   have p102 : 0 ≤ (x9_1 : Int) := oD
   have q102 : x9_1 < (l0_1.length : Int) := oD
   obtain ⟨ad102, e102, hx102_0⟩ := Kd.at_bool HR0_1.out x9_1 p102 q102
   (try rw [← Nbq7.out] at hx102_0)
   cases e102
   replace hx102_0 := (HB.out.cell (World.block_lt_of_cell? w _ hx102_0)).trans hx102_0
   replace p102 := eq_true p102
   replace q102 := eq_true q102
   go_wp2
   go_roundg k1
   case measure => have := HK1.out; omega
   case rel => exact ⟨(x3_1), (wrap64 (x9_1 + 1)), gR, gR, H', ⟨by have := HK1.out; omega⟩, ⟨by exact BK101.out⟩, ⟨wB⟩⟩
def impl_CountWinning.f (k : Nat) (a0_0 : Int) (l0_1 : List Int) : Option (Int × Bool) := (impl_IsCommittee.f k a0_0 l0_1).bind fun t102 => (if t102 = true then ((impl_Committee_votes.f k a0_0 l0_1).bind fun bt103 => ((impl_votes_countWins.f k bt103.1 bt103.2).bind fun t107 => (some (t107, true)))) else (some (0, false)))
theorem impl_CountWinning.calls (k : Nat) (a0_0 : Int) (A0_1 : Option Addr) (c0_1 : Nat) (l0_1 : List Int) (r1 : Int) (r2 : Bool) (w : World) (hr0_1 : Kd.C (Kd.int .i64) w A0_1 l0_1.length l0_1) (hc0_1 : l0_1.length ≤ c0_1) (h : impl_CountWinning.f k a0_0 l0_1 = some (r1, r2)) :
  Calls Tryz.prog 42 #[.agg #[.int .i64 a0_0, .slice A0_1 l0_1.length c0_1]] w fun e w' => e = .returned (.tuple #[.int .i64 r1, .bool r2]) ∧ Below w.heap.size w w' := by
 have hu26 := Tryz.underlying26
 have HR0_1 := Aside0.mk hr0_1
 have HC0_1 := Aside0.mk hc0_1
 clear hr0_1 hc0_1
 have HB := Aside0.mk (Below.refl w.heap.size w)
 have H := h
 unfold impl_CountWinning.f at H
 clear h
 replace H := oA H
 obtain ⟨t102, A2, H⟩ := H
 (try dsimp only at H)
 by_cases c3 : t102 = true
 rotate_left
 ·replace c3 := Bool.eq_false_iff.mpr c3
  subst c3
  replace H := iF H
  simp only [Option.some.injEq, Prod.mk.injEq] at H
  obtain ⟨rfl, rfl⟩ := H
  go_enter Tryz.func42, Tryz.ntmps42
  go_wp2_with (first | ((with_reducible refine gate_dst (N := 1) rfl ?_); refine xE (N := 1) (cs := #[.int .i64 a0_0, .slice A0_1 l0_1.length c0_1]) (t := 26) ?_; intro gb101 hg w13 BK101 hb; have GW101 := gS hg HB; have GE101 := gS hg HB; replace HB := sB HB hb; clear hb hg; (try clear hcz9_0 hcz9_1 hfz9_0 hfz9_1); obtain ⟨hcz14_0, hcz14_1, hfz14_0, hfz14_1⟩ := zZ BK101) | ((with_reducible refine gate_callee (f := 20) rfl ?_); refine gL 5 Tryz.func20 #[.agg #[.int .i64 a0_0, .slice A0_1 l0_1.length c0_1]] ?_; (with_reducible refine (impl_IsCommittee.calls k a0_0 _ _ l0_1 false _ (Kd.C_below HR0_1.out HB.out) HC0_1.out A2.out).mono ?_); rintro e w15 ⟨rfl, hb⟩; refine ⟨_, rfl, ?_⟩; replace BK101 := bB BK101 hb; replace HB := sB HB hb; (try clear hb)))
  go_ret2
  exact ⟨fR, wB⟩
 subst c3
 replace H := iT H
 replace H := oB H
 obtain ⟨⟨t103, t104⟩, A40, H⟩ := H
 (try dsimp only at H)
 have A4 := Aside0.mk A40
 clear A40
 replace H := oA H
 obtain ⟨t107, A5, H⟩ := H
 (try dsimp only at H)
 simp only [Option.some.injEq, Prod.mk.injEq] at H
 obtain ⟨rfl, rfl⟩ := H
 go_enter Tryz.func42, Tryz.ntmps42
 go_wp2_with (first | ((with_reducible refine gate_dst (N := 1) rfl ?_); refine xE (N := 1) (cs := #[.int .i64 a0_0, .slice A0_1 l0_1.length c0_1]) (t := 26) ?_; intro gb101 hg w6 BK101 hb; have GW101 := gS hg HB; have GE101 := gS hg HB; replace HB := sB HB hb; clear hb hg; obtain ⟨hcz7_0, hcz7_1, hfz7_0, hfz7_1⟩ := zZ BK101) | ((with_reducible refine gate_callee (f := 20) rfl ?_); refine gL 5 Tryz.func20 #[.agg #[.int .i64 a0_0, .slice A0_1 l0_1.length c0_1]] ?_; (with_reducible refine (impl_IsCommittee.calls k a0_0 _ _ l0_1 true _ (Kd.C_below HR0_1.out HB.out) HC0_1.out A2.out).mono ?_); rintro e w8 ⟨rfl, hb⟩; refine ⟨_, rfl, ?_⟩; replace BK101 := bB BK101 hb; replace HB := sB HB hb; (try clear hb); (try clear hcz7_0 hcz7_1 hfz7_0 hfz7_1); obtain ⟨hcz9_0, hcz9_1, hfz9_0, hfz9_1⟩ := zZ BK101) | ((with_reducible refine gate_callee (f := 135) rfl ?_); refine gL 8 Tryz.func135 #[.agg #[.int .i64 a0_0, .slice A0_1 l0_1.length c0_1]] ?_; (with_reducible refine (impl_Committee_votes.calls k a0_0 _ _ l0_1 t103 t104 _ (Kd.C_below HR0_1.out HB.out) HC0_1.out A4.out).mono ?_); rintro e w10 ⟨v105, rfl, ho0, hb⟩; refine ⟨_, rfl, ?_⟩; have HO106 := Aside0.mk (Kd.R_lower ho0 (below_size HB.out)); replace BK101 := bB BK101 hb; replace HB := sB HB hb; (try clear hb); (try clear ho0); obtain ⟨Ao11, co11, eo11⟩ := Kd.R_slice HO106.out; subst eo11) | ((with_reducible refine gate_callee (f := 150) rfl ?_); refine gL 9 Tryz.func150 #[.agg #[.int .i64 t103, .slice Ao11 t104.length co11]] ?_; (with_reducible refine (impl_votes_countWins.calls k t103 _ _ t104 t107 _ ?side1 ?side2 A5.out).mono ?_); (case side1 => have hx_ := (Kd.R_reads' HO106.out).2.2; exact cC); (case side2 => exact (Kd.R_reads' HO106.out).2.1); rintro e w12 ⟨rfl, hb⟩; refine ⟨_, rfl, ?_⟩; replace HO106 := rB HO106 hb; replace BK101 := bB BK101 hb; replace HB := sB HB hb; (try clear hb)))
 go_ret2
 exact ⟨fR, wB⟩
def impl_votes_isSwing.f (a0_0 : Int) (l0_1 : List Bool) (a1 : Int) (a2 : Int) : Option (Bool) := (impl_has.f a1 a2).bind fun t102 => (if t102 = true then (some false) else (if 0 ≤ a1 then (if a1 < (l0_1.length : Int) then (if rdOf false l0_1 a1 = true then (some false) else (if 0 ≤ a2 then (if 0 ≤ (Go.bits .or .i64 a1 (shl .i64 1 a2)) then (if (Go.bits .or .i64 a1 (shl .i64 1 a2)) < (l0_1.length : Int) then (some (rdOf false l0_1 (Go.bits .or .i64 a1 (shl .i64 1 a2)))) else (none)) else (none)) else (none))) else (none)) else (none)))
theorem impl_votes_isSwing.calls (a0_0 : Int) (A0_1 : Option Addr) (c0_1 : Nat) (l0_1 : List Bool) (a1 : Int) (a2 : Int) (r : Bool) (w : World) (hr0_1 : Kd.C Kd.bool w A0_1 l0_1.length l0_1) (hc0_1 : l0_1.length ≤ c0_1) (h : impl_votes_isSwing.f a0_0 l0_1 a1 a2 = some r) :
  Calls Tryz.prog 167 #[.agg #[.int .i64 a0_0, .slice A0_1 l0_1.length c0_1], .int .i64 a1, .int .i64 a2] w fun e w' => e = .returned (.bool r) ∧ Below w.heap.size w w' := by
 have hu87 := Tryz.underlying87
 have HR0_1 := Aside0.mk hr0_1
 have HC0_1 := Aside0.mk hc0_1
 clear hr0_1 hc0_1
 have HB := Aside0.mk (Below.refl w.heap.size w)
 have H := h
 unfold impl_votes_isSwing.f at H
 clear h
 replace H := oA H
 obtain ⟨t102, A4, H⟩ := H
 (try dsimp only at H)
 by_cases c5 : t102 = true
 ·subst c5
  replace H := iT H
  obtain rfl := Option.some.inj H
  go_enter Tryz.func167, Tryz.ntmps167
  go_wp2_with (first | ((with_reducible refine gate_dst (N := 3) rfl ?_); refine xE (N := 3) (cs := #[.int .i64 a0_0, .slice A0_1 l0_1.length c0_1]) (t := 87) ?_; intro gb101 hg w6 BK101 hb; have GW101 := gS hg HB; have GE101 := gS hg HB; replace HB := sB HB hb; clear hb hg) | (go_at_call 164; (with_reducible refine (impl_has.calls a1 a2 true _ A4.out).mono ?_); rintro e w' ⟨rfl, ⟨nd, rfl⟩⟩; (try exact dR)))
  repeat (go_quiet (first | ((with_reducible refine gate_dst (N := 3) rfl ?_); refine xE (N := 3) (cs := #[.int .i64 a0_0, .slice A0_1 l0_1.length c0_1]) (t := 87) ?_; intro gb101 hg w6 BK101 hb; have GW101 : Aside0 (w.heap.size ≤ gb101) := gT hg; have GE101 : Aside0 (w.heap.size ≤ gb101) := gT hg; replace HB := sQ hb; clear hb hg) | (go_at_call 164; (with_reducible refine (impl_has.calls a1 a2 true _ A4.out).mono ?_); rintro e w' ⟨rfl, ⟨nd, rfl⟩⟩; (try exact dR))); try go_wp2_with (first | ((with_reducible refine gate_dst (N := 3) rfl ?_); refine xE (N := 3) (cs := #[.int .i64 a0_0, .slice A0_1 l0_1.length c0_1]) (t := 87) ?_; intro gb101 hg w6 BK101 hb; have GW101 : Aside0 (w.heap.size ≤ gb101) := gT hg; have GE101 : Aside0 (w.heap.size ≤ gb101) := gT hg; replace HB := sQ hb; clear hb hg) | (go_at_call 164; (with_reducible refine (impl_has.calls a1 a2 true _ A4.out).mono ?_); rintro e w' ⟨rfl, ⟨nd, rfl⟩⟩; (try exact dR))))
  go_ret
  exact ⟨fR, wB⟩
 replace c5 := Bool.eq_false_iff.mpr c5
 subst c5
 replace H := iF H
 by_cases c7 : 0 ≤ a1
 rotate_left
 ·rw [if_neg c7] at H
  exact absurd H (by simp)
 rw [if_pos c7] at H
 have c7b0 := decide_eq_true c7
 clear c7
 by_cases c8 : a1 < (l0_1.length : Int)
 rotate_left
 ·rw [if_neg c8] at H
  exact absurd H (by simp)
 rw [if_pos c8] at H
 have c8b0 := decide_eq_true c8
 clear c8
 obtain ⟨bq9, hbq9⟩ : ∃ b_ : Bool, b_ = (rdOf false l0_1 a1) := ⟨_, rfl⟩
 replace H : (if bq9 = true then (some false) else (if 0 ≤ a2 then (if 0 ≤ (Go.bits .or .i64 a1 (shl .i64 1 a2)) then (if (Go.bits .or .i64 a1 (shl .i64 1 a2)) < (l0_1.length : Int) then (some (rdOf false l0_1 (Go.bits .or .i64 a1 (shl .i64 1 a2)))) else (none)) else (none)) else (none))) = some r := by rw [← hbq9] at H; exact H
 have Nbq9 := Aside0.mk hbq9
 clear hbq9
 by_cases c10 : bq9 = true
 ·subst c10
  replace H := iT H
  obtain rfl := Option.some.inj H
  go_enter Tryz.func167, Tryz.ntmps167
  go_wp2_with (first | ((with_reducible refine gate_dst (N := 3) rfl ?_); refine xE (N := 3) (cs := #[.int .i64 a0_0, .slice A0_1 l0_1.length c0_1]) (t := 87) ?_; intro gb101 hg w11 BK101 hb; have GW101 : Aside0 (w.heap.size ≤ gb101) := gT hg; have GE101 : Aside0 (w.heap.size ≤ gb101) := gT hg; replace HB := sQ hb; clear hb hg) | (go_at_call 164; (with_reducible refine (impl_has.calls a1 a2 false _ A4.out).mono ?_); rintro e w' ⟨rfl, ⟨nd, rfl⟩⟩; (try exact dR); obtain ⟨hcz12_0, hcz12_1, hfz12_0, hfz12_1⟩ := zZ BK101; have p103 : 0 ≤ (a1 : Int) := oD; have q103 : a1 < (l0_1.length : Int) := oD; obtain ⟨ad103, e103, hx103_0⟩ := Kd.at_bool HR0_1.out a1 p103 q103; (try rw [← Nbq9.out] at hx103_0); cases e103; replace hx103_0 := (HB.out.cell (World.block_lt_of_cell? w _ hx103_0)).trans hx103_0; replace p103 := eq_true p103; replace q103 := eq_true q103))
  repeat (go_quiet (first | ((with_reducible refine gate_dst (N := 3) rfl ?_); refine xE (N := 3) (cs := #[.int .i64 a0_0, .slice A0_1 l0_1.length c0_1]) (t := 87) ?_; intro gb101 hg w11 BK101 hb; have GW101 : Aside0 (w.heap.size ≤ gb101) := gT hg; have GE101 : Aside0 (w.heap.size ≤ gb101) := gT hg; replace HB := sQ hb; clear hb hg) | (go_at_call 164; (with_reducible refine (impl_has.calls a1 a2 false _ A4.out).mono ?_); rintro e w' ⟨rfl, ⟨nd, rfl⟩⟩; (try exact dR); obtain ⟨hcz12_0, hcz12_1, hfz12_0, hfz12_1⟩ := zZ BK101; have p103 : 0 ≤ (a1 : Int) := oD; have q103 : a1 < (l0_1.length : Int) := oD; obtain ⟨ad103, e103, hx103_0⟩ := Kd.at_bool HR0_1.out a1 p103 q103; (try rw [← Nbq9.out] at hx103_0); cases e103; replace hx103_0 := (HB.out.cell (World.block_lt_of_cell? w _ hx103_0)).trans hx103_0; replace p103 := eq_true p103; replace q103 := eq_true q103)); try go_wp2_with (first | ((with_reducible refine gate_dst (N := 3) rfl ?_); refine xE (N := 3) (cs := #[.int .i64 a0_0, .slice A0_1 l0_1.length c0_1]) (t := 87) ?_; intro gb101 hg w11 BK101 hb; have GW101 : Aside0 (w.heap.size ≤ gb101) := gT hg; have GE101 : Aside0 (w.heap.size ≤ gb101) := gT hg; replace HB := sQ hb; clear hb hg) | (go_at_call 164; (with_reducible refine (impl_has.calls a1 a2 false _ A4.out).mono ?_); rintro e w' ⟨rfl, ⟨nd, rfl⟩⟩; (try exact dR); obtain ⟨hcz12_0, hcz12_1, hfz12_0, hfz12_1⟩ := zZ BK101; have p103 : 0 ≤ (a1 : Int) := oD; have q103 : a1 < (l0_1.length : Int) := oD; obtain ⟨ad103, e103, hx103_0⟩ := Kd.at_bool HR0_1.out a1 p103 q103; (try rw [← Nbq9.out] at hx103_0); cases e103; replace hx103_0 := (HB.out.cell (World.block_lt_of_cell? w _ hx103_0)).trans hx103_0; replace p103 := eq_true p103; replace q103 := eq_true q103)))
  go_ret
  exact ⟨fR, wB⟩
 replace c10 := Bool.eq_false_iff.mpr c10
 subst c10
 replace H := iF H
 by_cases c13 : 0 ≤ a2
 rotate_left
 ·rw [if_neg c13] at H
  exact absurd H (by simp)
 rw [if_pos c13] at H
 have c13b0 := eq_true c13
 have c13b1 := decide_eq_true c13
 clear c13
 obtain ⟨ji14, hji14⟩ : ∃ j_ : Int, (shl .i64 1 a2) = j_ := ⟨_, rfl⟩
 replace H : (if 0 ≤ (Go.bits .or .i64 a1 (ji14)) then (if (Go.bits .or .i64 a1 (ji14)) < (l0_1.length : Int) then (some (rdOf false l0_1 (Go.bits .or .i64 a1 (ji14)))) else (none)) else (none)) = some r := by first | (rw [hji14] at H; exact H) | (simp only [hji14] at H ⊢; exact H)
 (try rw [hji14] at A4)
 have hji14_ : (IntKind.i64.wrap (1 * 2 ^ min a2.toNat 64)) = ji14 := hji14
 have hji14z : a2 ≤ 64 → (IntKind.i64.wrap (1 * 2 ^ a2.toNat)) = ji14 := shl_small hji14
 have hji14u : (IntKind.i64.wrap (2 ^ min a2.toNat 64)) = ji14 := by have h_ := hji14_; rw [Int.one_mul] at h_; exact h_
 have hji14v : a2 ≤ 64 → (IntKind.i64.wrap (2 ^ a2.toNat)) = ji14 := fun hle_ => by have h_ := hji14z hle_; rw [Int.one_mul] at h_; exact h_
 have hji14y : (wrap64 (1 * 2 ^ min a2.toNat 64)) = ji14 := (i64_w _).symm.trans hji14_
 have hji14x : a2 ≤ 64 → (wrap64 (1 * 2 ^ a2.toNat)) = ji14 := fun h_ => (i64_w _).symm.trans (hji14z h_)
 by_cases c15 : 0 ≤ (Go.bits .or .i64 a1 (ji14))
 rotate_left
 ·rw [if_neg c15] at H
  exact absurd H (by simp)
 rw [if_pos c15] at H
 have c15b0 := decide_eq_true c15
 clear c15
 by_cases c16 : (Go.bits .or .i64 a1 (ji14)) < (l0_1.length : Int)
 rotate_left
 ·rw [if_neg c16] at H
  exact absurd H (by simp)
 rw [if_pos c16] at H
 have c16b0 := decide_eq_true c16
 clear c16
 obtain rfl := Option.some.inj H
 go_enter Tryz.func167, Tryz.ntmps167
 go_wp2_with (first | ((with_reducible refine gate_dst (N := 3) rfl ?_); refine xE (N := 3) (cs := #[.int .i64 a0_0, .slice A0_1 l0_1.length c0_1]) (t := 87) ?_; intro gb101 hg w17 BK101 hb; have GW101 : Aside0 (w.heap.size ≤ gb101) := gT hg; have GE101 : Aside0 (w.heap.size ≤ gb101) := gT hg; replace HB := sQ hb; clear hb hg) | (go_at_call 164; (with_reducible refine (impl_has.calls a1 a2 false _ A4.out).mono ?_); rintro e w' ⟨rfl, ⟨nd, rfl⟩⟩; (try exact dR); (try clear hcz12_0 hcz12_1 hfz12_0 hfz12_1 hcz12_0 hcz12_1 hfz12_0 hfz12_1 hcz12_0 hcz12_1 hfz12_0 hfz12_1); obtain ⟨hcz18_0, hcz18_1, hfz18_0, hfz18_1⟩ := zZ BK101; have p103 : 0 ≤ (a1 : Int) := oD; have q103 : a1 < (l0_1.length : Int) := oD; obtain ⟨ad103, e103, hx103_0⟩ := Kd.at_bool HR0_1.out a1 p103 q103; (try rw [← Nbq9.out] at hx103_0); cases e103; replace hx103_0 := (HB.out.cell (World.block_lt_of_cell? w _ hx103_0)).trans hx103_0; replace p103 := eq_true p103; replace q103 := eq_true q103; have p104 : 0 ≤ ((Go.bits .or .i64 a1 (ji14)) : Int) := oD; have q104 : (Go.bits .or .i64 a1 (ji14)) < (l0_1.length : Int) := oD; obtain ⟨ad104, e104, hx104_0⟩ := Kd.at_bool HR0_1.out (Go.bits .or .i64 a1 (ji14)) p104 q104; (try rw [← Nbq9.out] at hx104_0); obtain rfl : ad103 = ad104 := (by injection e104); replace hx104_0 := (HB.out.cell (World.block_lt_of_cell? w _ hx104_0)).trans hx104_0; replace p104 := eq_true p104; replace q104 := eq_true q104))
 repeat (go_quiet (first | ((with_reducible refine gate_dst (N := 3) rfl ?_); refine xE (N := 3) (cs := #[.int .i64 a0_0, .slice A0_1 l0_1.length c0_1]) (t := 87) ?_; intro gb101 hg w17 BK101 hb; have GW101 : Aside0 (w.heap.size ≤ gb101) := gT hg; have GE101 : Aside0 (w.heap.size ≤ gb101) := gT hg; replace HB := sQ hb; clear hb hg) | (go_at_call 164; (with_reducible refine (impl_has.calls a1 a2 false _ A4.out).mono ?_); rintro e w' ⟨rfl, ⟨nd, rfl⟩⟩; (try exact dR); obtain ⟨hcz18_0, hcz18_1, hfz18_0, hfz18_1⟩ := zZ BK101; have p103 : 0 ≤ (a1 : Int) := oD; have q103 : a1 < (l0_1.length : Int) := oD; obtain ⟨ad103, e103, hx103_0⟩ := Kd.at_bool HR0_1.out a1 p103 q103; (try rw [← Nbq9.out] at hx103_0); cases e103; replace hx103_0 := (HB.out.cell (World.block_lt_of_cell? w _ hx103_0)).trans hx103_0; replace p103 := eq_true p103; replace q103 := eq_true q103; have p104 : 0 ≤ ((Go.bits .or .i64 a1 (ji14)) : Int) := oD; have q104 : (Go.bits .or .i64 a1 (ji14)) < (l0_1.length : Int) := oD; obtain ⟨ad104, e104, hx104_0⟩ := Kd.at_bool HR0_1.out (Go.bits .or .i64 a1 (ji14)) p104 q104; (try rw [← Nbq9.out] at hx104_0); obtain rfl : ad103 = ad104 := (by injection e104); replace hx104_0 := (HB.out.cell (World.block_lt_of_cell? w _ hx104_0)).trans hx104_0; replace p104 := eq_true p104; replace q104 := eq_true q104)); try go_wp2_with (first | ((with_reducible refine gate_dst (N := 3) rfl ?_); refine xE (N := 3) (cs := #[.int .i64 a0_0, .slice A0_1 l0_1.length c0_1]) (t := 87) ?_; intro gb101 hg w17 BK101 hb; have GW101 : Aside0 (w.heap.size ≤ gb101) := gT hg; have GE101 : Aside0 (w.heap.size ≤ gb101) := gT hg; replace HB := sQ hb; clear hb hg) | (go_at_call 164; (with_reducible refine (impl_has.calls a1 a2 false _ A4.out).mono ?_); rintro e w' ⟨rfl, ⟨nd, rfl⟩⟩; (try exact dR); obtain ⟨hcz18_0, hcz18_1, hfz18_0, hfz18_1⟩ := zZ BK101; have p103 : 0 ≤ (a1 : Int) := oD; have q103 : a1 < (l0_1.length : Int) := oD; obtain ⟨ad103, e103, hx103_0⟩ := Kd.at_bool HR0_1.out a1 p103 q103; (try rw [← Nbq9.out] at hx103_0); cases e103; replace hx103_0 := (HB.out.cell (World.block_lt_of_cell? w _ hx103_0)).trans hx103_0; replace p103 := eq_true p103; replace q103 := eq_true q103; have p104 : 0 ≤ ((Go.bits .or .i64 a1 (ji14)) : Int) := oD; have q104 : (Go.bits .or .i64 a1 (ji14)) < (l0_1.length : Int) := oD; obtain ⟨ad104, e104, hx104_0⟩ := Kd.at_bool HR0_1.out (Go.bits .or .i64 a1 (ji14)) p104 q104; (try rw [← Nbq9.out] at hx104_0); obtain rfl : ad103 = ad104 := (by injection e104); replace hx104_0 := (HB.out.cell (World.block_lt_of_cell? w _ hx104_0)).trans hx104_0; replace p104 := eq_true p104; replace q104 := eq_true q104)))
 go_ret
 exact ⟨by first | rfl | (simp <;> rfl) | (simp only [← hji14]; first | rfl | (simp <;> rfl)) | (simp [*] <;> rfl), wB⟩
mutual
def impl_votes_swings.l0 : Nat → List Int → Int → Int → Int → List Bool → Option (List Int)
 | 0, _, _, _, _, _ => none
 | k + 1, x3, x10, x11, x102000, x102001 => if x11 < x10 then (impl_votes_swings.l1 k x3 x11 x10 x11 (x102001.length : Int) 0 x102000 x102001) else (some x3)
def impl_votes_swings.l1 : Nat → List Int → Int → Int → Int → Int → Int → Int → List Bool → Option (List Int)
 | 0, _, _, _, _, _, _, _, _ => none
 | k + 1, x3, x4, x10, x11, x16, x17, x102000, x102001 => if x17 < x16 then ((impl_votes_isSwing.f x102000 x102001 x17 x4).bind fun t105 => (if t105 = true then (if 0 ≤ x4 then (if x4 < (x3.length : Int) then (impl_votes_swings.l1 k (x3.set (x4 : Int).toNat (wrap64 ((rd x3 x4) + 1))) x4 x10 x11 x16 (wrap64 (x17 + 1)) x102000 x102001) else (none)) else (none)) else (impl_votes_swings.l1 k x3 x4 x10 x11 x16 (wrap64 (x17 + 1)) x102000 x102001))) else (impl_votes_swings.l0 k x3 x10 (wrap64 (x11 + 1)) x102000 x102001)
end
def impl_votes_swings.f (k : Nat) (a0_0 : Int) (l0_1 : List Bool) : Option (List Int) := if 0 ≤ a0_0 then (if (a0_0 : Int).toNat ≤ 35184372088832 then ((some (List.replicate (a0_0 : Int).toNat 0 : List Int)).bind fun y102 => (impl_votes_swings.l0 k y102 (y102.length : Int) 0 a0_0 l0_1)) else (none)) else (none)
theorem impl_votes_swings.calls (k : Nat) (a0_0 : Int) (A0_1 : Option Addr) (c0_1 : Nat) (l0_1 : List Bool) (r : List Int) (w : World) (hr0_1 : Kd.C Kd.bool w A0_1 l0_1.length l0_1) (hc0_1 : l0_1.length ≤ c0_1) (h : impl_votes_swings.f k a0_0 l0_1 = some r) :
  Calls Tryz.prog 157 #[.agg #[.int .i64 a0_0, .slice A0_1 l0_1.length c0_1]] w fun e w' => ∃ v0_ : Value, e = .returned (v0_) ∧ Kd.R (Kd.int .i64) 3 w' w.heap.size (fun _ => True) v0_ r ∧ Below w.heap.size w w' := by
 have hu87 := Tryz.underlying87
 have HR0_1 := Aside0.mk hr0_1
 have HC0_1 := Aside0.mk hc0_1
 clear hr0_1 hc0_1
 have HB := Aside0.mk (Below.refl w.heap.size w)
 have H := h
 unfold impl_votes_swings.f at H
 clear h
 by_cases c2 : 0 ≤ a0_0
 rotate_left
 ·rw [if_neg c2] at H
  exact absurd H (by simp)
 rw [if_pos c2] at H
 have c2b0 := eq_true c2
 have c2b1 := decide_eq_true c2
 clear c2
 by_cases c3 : (a0_0 : Int).toNat ≤ 35184372088832
 rotate_left
 ·rw [if_neg c3] at H
  exact absurd H (by simp)
 rw [if_pos c3] at H
 have c3b0 := eq_true c3
 have c3b1 := decide_eq_true c3
 clear c3
 obtain ⟨y102, hy102⟩ : ∃ y_ : List Int, y_ = (List.replicate (a0_0 : Int).toNat 0) := ⟨_, rfl⟩
 replace H : (impl_votes_swings.l0 k y102 (y102.length : Int) 0 a0_0 l0_1) = some r := by first | (rw [hy102]; with_reducible exact H) | (have H2_ := (Option.bind_some _ _).symm.trans H; rw [hy102]; with_reducible exact H2_) | (have H2_ := (Option.bind_some _ _).symm.trans H; with_reducible exact H2_) | with_reducible exact H | (rw [hy102]; exact H) | exact H
 have Ny102 := Aside0.mk hy102
 clear hy102
 have H' := Aside0.mk H
 clear H
 go_enter Tryz.func157, Tryz.ntmps157
 go_wp2_with (first | ((with_reducible refine gate_dst (N := 1) rfl ?_); refine xE (N := 1) (cs := #[.int .i64 a0_0, .slice A0_1 l0_1.length c0_1]) (t := 87) ?_; intro gb101 hg w4 BK101 hb; have GW101 := gS hg HB; have GE101 := gS hg HB; replace HB := sB HB hb; clear hb hg; obtain ⟨hcz5_0, hcz5_1, hfz5_0, hfz5_1⟩ := zZ BK101) | ((with_reducible refine gate_dst (N := 8) rfl ?_); refine Kd.R_make (Kd.int .i64) _ 3 rfl (N := 8) rfl 24 _ _ rfl a0_0 rfl rfl Tryz.underlying24 (.int .i64 0) 8 info3 rfl (by decide) (by omega) 0 (ok := fun _ => True) (okp := fun _ => True) rfl (fun _ hk => hk) trivial (oD) (Nat.le_trans (Nat.mul_le_mul_right _ (oD : a0_0.toNat ≤ 35184372088832)) (by omega)) (Below.refl _ _) (Nat.le_refl _) ?_; intro v103 w6 ho7 hb hg_ hnew_; clear hg_ hnew_; (first | rw [← Ny102.out] at ho7 | (simp only [Int.reduceToNat] at ho7; rw [← Ny102.out] at ho7)); have HO104 := Aside0.mk (Kd.R_lower ho7 (below_size HB.out)); replace BK101 := bB BK101 hb; replace HB := sB HB hb; clear hb ho7; obtain ⟨Ao8, co8, eo8⟩ := Kd.R_slice HO104.out; subst eo8))
 go_loopg [11] k (fun kq v11 w' => ∃ (x3_1 : List Int) (x11_1 : Int), v11 = .int .i64 x11_1 ∧ Aside0 (impl_votes_swings.l0 kq x3_1 (y102.length : Int) x11_1 a0_0 l0_1 = some r) ∧ Aside0 (kq ≤ k) ∧ Aside0 (Kd.R (Kd.int .i64) 3 w' w.heap.size (fun _ => True) (.slice Ao8 y102.length co8) x3_1) ∧ Aside0 (w'.heap[gb101]? = some (.cells #[.int .i64 a0_0, (.slice A0_1 l0_1.length c0_1)] 87 (0, 0))) ∧ Aside0 (Below w.heap.size w w'))
 case atStart => exact ⟨(y102), (0), gR, H', ⟨Nat.le_refl _⟩, ⟨by exact HO104.out⟩, ⟨by exact BK101.out⟩, ⟨wB⟩⟩
 case round =>
  clear H'
  (try clear c1); (try clear c2); (try clear c2b0); (try clear c2b1); (try clear p2); (try clear c3); (try clear c3b0); (try clear c3b1); (try clear hcz5_0); (try clear hcz5_1); (try clear hfz5_0); (try clear hfz5_1)
  obtain ⟨x3_1, x11_1, rfl, HA, HK1, HO_3, BK101, HB⟩ := hrel
  have hl3_1 := (Kd.R_reads' HO_3.out).1
  rw [hl3_1] at HO_3
  (try simp only [hl3_1])
  (try simp only [hl3_1] at BK101)
  cases gk with
  | zero => exact absurd HA.out (by simp [impl_votes_swings.l0])
  | succ k1 =>
   have H := HA.out
   clear HA
   simp only [impl_votes_swings.l0] at H
   by_cases c9 : x11_1 < (y102.length : Int)
   rotate_left
   ·rw [if_neg c9] at H
    have c9b0 : decide (x11_1 < (y102.length : Int)) = false := decide_eq_false c9
    (try rw [hl3_1] at c9b0)
    clear c9
    obtain rfl := Option.some.inj H
    go_wp2
    go_ret
    exact ⟨_, fR, by exact HO_3.out, wB⟩
   rw [if_pos c9] at H
   have c9b0 := decide_eq_true c9
   (try rw [hl3_1] at c9b0)
   clear c9
   have H' := Aside0.mk H
   clear H
   obtain ⟨hcz10_0, hcz10_1, hfz10_0, hfz10_1⟩ := zZ BK101
   go_wp2
   go_loopg [17] k1 (fun kq v17 w' => ∃ (x3_2 : List Int) (x17_2 : Int), v17 = .int .i64 x17_2 ∧ Aside0 (impl_votes_swings.l1 kq x3_2 x11_1 (y102.length : Int) x11_1 (l0_1.length : Int) x17_2 a0_0 l0_1 = some r) ∧ Aside0 (kq ≤ k1) ∧ Aside0 (Kd.R (Kd.int .i64) 3 w' w.heap.size (fun _ => True) (.slice Ao8 x3_1.length co8) x3_2) ∧ Aside0 (w'.heap[gb101]? = some (.cells #[.int .i64 a0_0, (.slice A0_1 l0_1.length c0_1)] 87 (0, 0))) ∧ Aside0 (Below w.heap.size w w'))
   case atStart => exact ⟨(x3_1), (0), gR, H', ⟨Nat.le_refl _⟩, ⟨by (try simp only [hl3_1]); exact HO_3.out⟩, ⟨by (try simp only [hl3_1]); exact BK101.out⟩, ⟨wB⟩⟩
   case round =>
    clear H'
    (try clear c1); (try clear c2); (try clear c2b0); (try clear c2b1); (try clear p2); (try clear c3); (try clear c3b0); (try clear c3b1); (try clear c9); (try clear c9b0); (try clear hcz10_0); (try clear hcz10_1); (try clear hcz5_0); (try clear hcz5_1); (try clear hfz10_0); (try clear hfz10_1); (try clear hfz5_0); (try clear hfz5_1); (try clear p2)
    obtain ⟨x3_2, x17_2, rfl, HA, HK2, HO_3, BK101, HB⟩ := hrel
    have hl3_2 := (Kd.R_reads' HO_3.out).1
    rw [hl3_2] at HO_3
    (try simp only [hl3_2])
    (try simp only [hl3_2] at BK101)
    cases gk with
    | zero => exact absurd HA.out (by simp [impl_votes_swings.l1])
    | succ k2 =>
     have H := HA.out
     clear HA
     simp only [impl_votes_swings.l1] at H
     by_cases c11 : x17_2 < (l0_1.length : Int)
     rotate_left
     ·rw [if_neg c11] at H
      have c11b0 : decide (x17_2 < (l0_1.length : Int)) = false := decide_eq_false c11
      clear c11
      have H' := Aside0.mk H
      clear H
      go_wp2
      (try simp only [← hl3_1, ← hl3_2])
      go_roundg k2
      case measure => have := HK1.out; have := HK2.out; omega
      case rel => exact ⟨(x3_2), (wrap64 (x11_1 + 1)), gR, H', ⟨by have := HK1.out; have := HK2.out; omega⟩, ⟨by (try simp only [hl3_1]); (try simp only [hl3_2]); exact HO_3.out⟩, ⟨by (try simp only [hl3_1]); (try simp only [hl3_2]); exact BK101.out⟩, ⟨wB⟩⟩
     rw [if_pos c11] at H
     have c11b0 := decide_eq_true c11
     clear c11
     replace H := oA H
     obtain ⟨t105, A12, H⟩ := H
     (try dsimp only at H)
     by_cases c13 : t105 = true
     rotate_left
     ·replace c13 := Bool.eq_false_iff.mpr c13
      subst c13
      replace H := iF H
      have H' := Aside0.mk H
      clear H
      obtain ⟨hcz21_0, hcz21_1, hfz21_0, hfz21_1⟩ := zZ BK101
      go_wp2_with (first | ((with_reducible refine gate_callee (f := 167) rfl ?_); refine gL 23 Tryz.func167 #[.agg #[.int .i64 a0_0, .slice A0_1 l0_1.length c0_1], .int .i64 x17_2, .int .i64 x11_1] ?_; (with_reducible refine (impl_votes_isSwing.calls a0_0 _ _ l0_1 x17_2 x11_1 false _ (Kd.C_below HR0_1.out HB.out) HC0_1.out A12.out).mono ?_); rintro e w22 ⟨rfl, hb⟩; refine ⟨_, rfl, ?_⟩; replace HO_3 := rB HO_3 hb; replace BK101 := bB BK101 hb; replace HB := sB HB hb; (try clear hb)))
      (try simp only [← hl3_2])
      go_roundg k2
      case measure => have := HK1.out; have := HK2.out; omega
      case rel => exact ⟨(x3_2), (wrap64 (x17_2 + 1)), gR, H', ⟨by have := HK1.out; have := HK2.out; omega⟩, ⟨by (try simp only [hl3_1]); (try simp only [hl3_2]); exact HO_3.out⟩, ⟨by (try simp only [hl3_1]); (try simp only [hl3_2]); exact BK101.out⟩, ⟨wB⟩⟩
     subst c13
     replace H := iT H
     by_cases c14 : 0 ≤ x11_1
     rotate_left
     ·rw [if_neg c14] at H
      exact absurd H (by simp)
     rw [if_pos c14] at H
     have c14b0 := decide_eq_true c14
     clear c14
     by_cases c15 : x11_1 < (x3_2.length : Int)
     rotate_left
     ·rw [if_neg c15] at H
      exact absurd H (by simp)
     rw [if_pos c15] at H
     have c15b0 := decide_eq_true c15
     clear c15
     obtain ⟨y107, hy107⟩ : ∃ y_ : List Int, y_ = (x3_2.set (x11_1 : Int).toNat (wrap64 ((rd x3_2 x11_1) + 1))) := ⟨_, rfl⟩
     replace H : (impl_votes_swings.l1 k2 y107 x11_1 (y102.length : Int) x11_1 (l0_1.length : Int) (wrap64 (x17_2 + 1)) a0_0 l0_1) = some r := by first | (rw [hy107]; with_reducible exact H) | (have H2_ := (Option.bind_some _ _).symm.trans H; rw [hy107]; with_reducible exact H2_) | (have H2_ := (Option.bind_some _ _).symm.trans H; with_reducible exact H2_) | with_reducible exact H | (rw [hy107]; exact H) | exact H
     have Ny107 := Aside0.mk hy107
     clear hy107
     have H' := Aside0.mk H
     clear H
     obtain ⟨hcz17_0, hcz17_1, hfz17_0, hfz17_1⟩ := zZ BK101
     go_wp2_with (first | ((with_reducible refine gate_callee (f := 167) rfl ?_); refine gL 23 Tryz.func167 #[.agg #[.int .i64 a0_0, .slice A0_1 l0_1.length c0_1], .int .i64 x17_2, .int .i64 x11_1] ?_; (with_reducible refine (impl_votes_isSwing.calls a0_0 _ _ l0_1 x17_2 x11_1 true _ (Kd.C_below HR0_1.out HB.out) HC0_1.out A12.out).mono ?_); rintro e w18 ⟨rfl, hb⟩; refine ⟨_, rfl, ?_⟩; replace HO_3 := rB HO_3 hb; replace BK101 := bB BK101 hb; replace HB := sB HB hb; (try clear hb); have p106 : 0 ≤ (x11_1 : Int) := oD; have q106 : x11_1 < (x3_2.length : Int) := oD; obtain ⟨ad106, e106, hx106_0⟩ := Kd.at_int (Kd.R_reads' HO_3.out).2.2 x11_1 p106 q106; cases e106; replace p106 := eq_true p106; replace q106 := eq_true q106; have p16 : 0 ≤ (x11_1 : Int) := oD; have q16 : (x11_1 : Int) < ((x3_2.length : Int) : Int) := oD; obtain ⟨go16, co16, eo16, gb16, gl16, cl16, HG16⟩ := Kd.R_form HO_3.out (by omega); (first | cases eo16 | (injection eo16 with ea_ en_ ec_; (first | subst ea_ | (injection ea_ with ea_; subst ea_)); subst ec_; clear en_)); have GB16 := Aside0.mk gb16; have GG16 := Aside0.mk HG16; clear gb16 gl16 HG16; (first | simp only [add_plain] at hx106_0 | skip); obtain ⟨hx16_0, hf16_0⟩ := Kd.R_celln 0 HO_3.out (x11_1 : Int) p16 q16; replace p16 := eq_true p16; replace q16 := eq_true q16; obtain ⟨hy19_, hz19_⟩ := Kd.R_celln 0 HO_3.out (x11_1 : Int) (oD) (oD); have HP19 := Kd.R_putg HO_3.out (x11_1 : Int) (wrap64 ((rd x3_2 x11_1) + 1))) | ((with_reducible refine gate_store (t := 3) (p := 29) rfl ?_); refine sE (t := 3) (p := 29) (w1 := (w18.setCell ⟨go16, (x11_1 : Int).toNat, none⟩ (.int .i64 (wrap64 ((rd x3_2 x11_1) + 1))))) ?_; intro w20 hw; have hg : w18.grownBy w20 (some go16) := (by rw [hw]; exact HP19.2); have hp_ : Kd.R (Kd.int .i64) 3 w20 w.heap.size (fun _ => True) (.slice (some ⟨go16, 0, none⟩) x3_2.length co8) y107 := (by rw [hw, Ny107.out]; exact HP19.1); clear HP19; replace BK101 := Aside0.mk (blk_grown (g := gb101) (o := .cells #[.int .i64 a0_0, .slice A0_1 l0_1.length c0_1] 87 (0, 0)) BK101.out hg (Kd.R_ne HO_3.out BK101.out (by decide))); replace HO_3 := Aside0.mk (hp_); replace HB := Aside0.mk ((by rw [hw]; exact below_set (HB.out) GB16.out : Below w.heap.size w w20)); clear hg hw hp_))
     (try simp only [← hl3_2])
     go_roundg k2
     case measure => have := HK1.out; have := HK2.out; omega
     case rel => exact ⟨(y107), (wrap64 (x17_2 + 1)), gR, H', ⟨by have := HK1.out; have := HK2.out; omega⟩, ⟨by (try simp only [hl3_1]); (try simp only [hl3_2]); exact HO_3.out⟩, ⟨by (try simp only [hl3_1]); (try simp only [hl3_2]); exact BK101.out⟩, ⟨wB⟩⟩
def impl_SwingsOf.f (k : Nat) (a0_0 : Int) (l0_1 : List Int) : Option (List Int × Bool) := (impl_IsCommittee.f k a0_0 l0_1).bind fun t102 => (if t102 = true then ((impl_Committee_votes.f k a0_0 l0_1).bind fun bt103 => ((impl_votes_swings.f k bt103.1 bt103.2).bind fun t107 => (some (t107, true)))) else (some (([] : List Int), false)))
theorem impl_SwingsOf.calls (k : Nat) (a0_0 : Int) (A0_1 : Option Addr) (c0_1 : Nat) (l0_1 : List Int) (r1 : List Int) (r2 : Bool) (w : World) (hr0_1 : Kd.C (Kd.int .i64) w A0_1 l0_1.length l0_1) (hc0_1 : l0_1.length ≤ c0_1) (h : impl_SwingsOf.f k a0_0 l0_1 = some (r1, r2)) :
  Calls Tryz.prog 56 #[.agg #[.int .i64 a0_0, .slice A0_1 l0_1.length c0_1]] w fun e w' => ∃ v0_ : Value, e = .returned (.tuple #[v0_, .bool r2]) ∧ Kd.R (Kd.int .i64) 3 w' w.heap.size (fun _ => True) v0_ r1 ∧ Below w.heap.size w w' := by
 have hu26 := Tryz.underlying26
 have HR0_1 := Aside0.mk hr0_1
 have HC0_1 := Aside0.mk hc0_1
 clear hr0_1 hc0_1
 have HB := Aside0.mk (Below.refl w.heap.size w)
 have H := h
 unfold impl_SwingsOf.f at H
 clear h
 replace H := oA H
 obtain ⟨t102, A2, H⟩ := H
 (try dsimp only at H)
 by_cases c3 : t102 = true
 rotate_left
 ·replace c3 := Bool.eq_false_iff.mpr c3
  subst c3
  replace H := iF H
  simp only [Option.some.injEq, Prod.mk.injEq] at H
  obtain ⟨rfl, rfl⟩ := H
  go_enter Tryz.func56, Tryz.ntmps56
  go_wp2_with (first | ((with_reducible refine gate_dst (N := 1) rfl ?_); refine xE (N := 1) (cs := #[.int .i64 a0_0, .slice A0_1 l0_1.length c0_1]) (t := 26) ?_; intro gb101 hg w13 BK101 hb; have GW101 := gS hg HB; have GE101 := gS hg HB; replace HB := sB HB hb; clear hb hg; (try clear hcz9_0 hcz9_1 hfz9_0 hfz9_1); obtain ⟨hcz14_0, hcz14_1, hfz14_0, hfz14_1⟩ := zZ BK101) | ((with_reducible refine gate_callee (f := 20) rfl ?_); refine gL 5 Tryz.func20 #[.agg #[.int .i64 a0_0, .slice A0_1 l0_1.length c0_1]] ?_; (with_reducible refine (impl_IsCommittee.calls k a0_0 _ _ l0_1 false _ (Kd.C_below HR0_1.out HB.out) HC0_1.out A2.out).mono ?_); rintro e w15 ⟨rfl, hb⟩; refine ⟨_, rfl, ?_⟩; replace BK101 := bB BK101 hb; replace HB := sB HB hb; (try clear hb)))
  go_ret2
  exact ⟨_, fR, by first | exact Kd.R_nil _ _ _ _ _ | exact Kd.N_nil _ _ _ _ _ | exact Kd.V_nil _ _ _ _ _ | exact Kd.Q_nil _ _ _ _ _ | exact Kd.S_nil _ _ _ _ _, wB⟩
 subst c3
 replace H := iT H
 replace H := oB H
 obtain ⟨⟨t103, t104⟩, A40, H⟩ := H
 (try dsimp only at H)
 have A4 := Aside0.mk A40
 clear A40
 replace H := oA H
 obtain ⟨t107, A5, H⟩ := H
 (try dsimp only at H)
 simp only [Option.some.injEq, Prod.mk.injEq] at H
 obtain ⟨rfl, rfl⟩ := H
 go_enter Tryz.func56, Tryz.ntmps56
 go_wp2_with (first | ((with_reducible refine gate_dst (N := 1) rfl ?_); refine xE (N := 1) (cs := #[.int .i64 a0_0, .slice A0_1 l0_1.length c0_1]) (t := 26) ?_; intro gb101 hg w6 BK101 hb; have GW101 := gS hg HB; have GE101 := gS hg HB; replace HB := sB HB hb; clear hb hg; obtain ⟨hcz7_0, hcz7_1, hfz7_0, hfz7_1⟩ := zZ BK101) | ((with_reducible refine gate_callee (f := 20) rfl ?_); refine gL 5 Tryz.func20 #[.agg #[.int .i64 a0_0, .slice A0_1 l0_1.length c0_1]] ?_; (with_reducible refine (impl_IsCommittee.calls k a0_0 _ _ l0_1 true _ (Kd.C_below HR0_1.out HB.out) HC0_1.out A2.out).mono ?_); rintro e w8 ⟨rfl, hb⟩; refine ⟨_, rfl, ?_⟩; replace BK101 := bB BK101 hb; replace HB := sB HB hb; (try clear hb); (try clear hcz7_0 hcz7_1 hfz7_0 hfz7_1); obtain ⟨hcz9_0, hcz9_1, hfz9_0, hfz9_1⟩ := zZ BK101) | ((with_reducible refine gate_callee (f := 135) rfl ?_); refine gL 8 Tryz.func135 #[.agg #[.int .i64 a0_0, .slice A0_1 l0_1.length c0_1]] ?_; (with_reducible refine (impl_Committee_votes.calls k a0_0 _ _ l0_1 t103 t104 _ (Kd.C_below HR0_1.out HB.out) HC0_1.out A4.out).mono ?_); rintro e w10 ⟨v105, rfl, ho0, hb⟩; refine ⟨_, rfl, ?_⟩; have HO106 := Aside0.mk (Kd.R_lower ho0 (below_size HB.out)); replace BK101 := bB BK101 hb; replace HB := sB HB hb; (try clear hb); (try clear ho0); obtain ⟨Ao11, co11, eo11⟩ := Kd.R_slice HO106.out; subst eo11) | ((with_reducible refine gate_callee (f := 157) rfl ?_); refine gL 9 Tryz.func157 #[.agg #[.int .i64 t103, .slice Ao11 t104.length co11]] ?_; (with_reducible refine (impl_votes_swings.calls k t103 _ _ t104 t107 _ ?side1 ?side2 A5.out).mono ?_); (case side1 => have hx_ := (Kd.R_reads' HO106.out).2.2; exact cC); (case side2 => exact (Kd.R_reads' HO106.out).2.1); rintro e w12 ⟨v108, rfl, ho0, hb⟩; refine ⟨_, rfl, ?_⟩; have HO109 := Aside0.mk (Kd.R_lower ho0 (below_size HB.out)); replace HO106 := rB HO106 hb; replace BK101 := bB BK101 hb; replace HB := sB HB hb; (try clear hb); (try clear ho0)))
 go_ret2
 exact ⟨_, fR, by exact HO109.out, wB⟩
def spec_voSum.l0 : Nat → Int → List Int → Int → Int → Option (Int)
 | 0, _, _, _, _ => none
 | k + 1, x3, x6, x7, x8 => if x8 < x7 then (if 0 ≤ x8 then (if x8 < (x6.length : Int) then (spec_voSum.l0 k (wrap64 (x3 + (rd x6 x8))) x6 x7 (wrap64 (x8 + 1))) else (none)) else (none)) else (some x3)
def spec_voSum.f (k : Nat) (l0 : List Int) : Option (Int) := spec_voSum.l0 k 0 l0 (l0.length : Int) 0
theorem spec_voSum.calls (k : Nat) (A0 : Option Addr) (c0 : Nat) (l0 : List Int) (r : Int) (w : World) (hr0 : Kd.C (Kd.int .i64) w A0 l0.length l0) (hc0 : l0.length ≤ c0) (h : spec_voSum.f k l0 = some r) :
  Calls Tryz.prog 128 #[.slice A0 l0.length c0] w fun e w' => e = .returned (.int .i64 r) ∧ Drawn0 w w' := by
 have HR0 := Aside0.mk hr0
 have HC0 := Aside0.mk hc0
 clear hr0 hc0
 have H := h
 unfold spec_voSum.f at H
 clear h
 have H' := Aside0.mk H
 clear H
 go_enter Tryz.func128, Tryz.ntmps128
 go_wp2
 go_loopg [3, 8] k (fun kq v3 v8 w' => ∃ (x3_1 : Int) (x8_1 : Int), v3 = .int .i64 x3_1 ∧ v8 = .int .i64 x8_1 ∧ Aside0 (spec_voSum.l0 kq x3_1 l0 (l0.length : Int) x8_1 = some r) ∧ Aside0 (kq ≤ k) ∧ Drawn0 w w')
 case atStart => exact ⟨(0), (0), gR, gR, H', ⟨Nat.le_refl _⟩, dS⟩
 case round =>
  clear H'
  (try clear c1)
  obtain ⟨x3_1, x8_1, rfl, rfl, HA, HK1, ⟨m1, rfl⟩⟩ := hrel
  cases gk with
  | zero => exact absurd HA.out (by simp [spec_voSum.l0])
  | succ k1 =>
   have H := HA.out
   clear HA
   simp only [spec_voSum.l0] at H
   by_cases c2 : x8_1 < (l0.length : Int)
   rotate_left
   ·rw [if_neg c2] at H
    have c2b0 : decide (x8_1 < (l0.length : Int)) = false := decide_eq_false c2
    clear c2
    obtain rfl := Option.some.inj H
    go_wp2
    go_ret
    exact ⟨by first | rfl | (simp; done) | (simp [*]; done), dS⟩
   rw [if_pos c2] at H
   have c2b0 := decide_eq_true c2
   clear c2
   by_cases c3 : 0 ≤ x8_1
   rotate_left
   ·rw [if_neg c3] at H
    exact absurd H (by simp)
   rw [if_pos c3] at H
   have c3b0 := decide_eq_true c3
   clear c3
   by_cases c4 : x8_1 < (l0.length : Int)
   rotate_left
   ·rw [if_neg c4] at H
    exact absurd H (by simp)
   rw [if_pos c4] at H
   have c4b0 := decide_eq_true c4
   clear c4
   have H' := Aside0.mk H
   clear H
   have p101 : 0 ≤ (x8_1 : Int) := oD
   have q101 : x8_1 < (l0.length : Int) := oD
   obtain ⟨ad101, e101, hx101_0⟩ := Kd.at_int HR0.out x8_1 p101 q101
   cases e101
   replace p101 := eq_true p101
   replace q101 := eq_true q101
   go_wp2
   go_roundg k1
   case measure => have := HK1.out; omega
   case rel => exact ⟨(wrap64 (x3_1 + (rd l0 x8_1))), (wrap64 (x8_1 + 1)), gR, gR, H', ⟨by have := HK1.out; omega⟩, dS⟩
def spec_l1In.f (a0 : Int) (a1 : Int) (a2 : Int) : Option (Bool) := if a0 ≥ a1 then (some (decide (a0 ≤ a2))) else (some false)
theorem spec_l1In.calls (a0 : Int) (a1 : Int) (a2 : Int) (r : Bool) (w : World) (h : spec_l1In.f a0 a1 a2 = some r) :
  Calls Tryz.prog 156 #[.int .i64 a0, .int .i64 a1, .int .i64 a2] w fun e w' => e = .returned (.bool r) ∧ Drawn0 w w' := by
 have H := h
 unfold spec_l1In.f at H
 clear h
 by_cases c4 : a0 ≥ a1
 ·rw [if_pos c4] at H
  have c4b0 : decide (a1 ≤ a0) = true := decide_eq_true c4
  clear c4
  obtain rfl := Option.some.inj H
  go_enter Tryz.func156, Tryz.ntmps156
  go_wp2
  go_ret
  exact ⟨by first | rfl | (simp; done) | (simp [*]; done), dS⟩
 rw [if_neg c4] at H
 have c4b0 : decide (a1 ≤ a0) = false := decide_eq_false c4
 clear c4
 obtain rfl := Option.some.inj H
 go_enter Tryz.func156, Tryz.ntmps156
 go_wp2
 go_ret
 exact ⟨by first | rfl | (simp; done) | (simp [*]; done), dS⟩
end Go.Proofs.YtamfpkefnhcngaaGreat.Q
