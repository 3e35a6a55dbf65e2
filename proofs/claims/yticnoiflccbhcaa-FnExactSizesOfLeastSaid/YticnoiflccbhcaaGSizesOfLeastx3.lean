/- Printed functions, their contracts and plain facts on them: PSizesOfLeast; PLFnExactSizesOfLeast; O. Conditions: as each theorem states. -/
import Derived.Deep.Slices
import Derived.Lib.SmallJoins
import Derived.OpenShut
import Derived.ShutString
import Derived.ChangeArms
import Derived.ChangeOld
import Derived.Test.YticnoiflccbhcaaWWords
import Derived.Test.YticnoiflccbhcaaGSizesOfLeastx0
import Derived.Test.YticnoiflccbhcaaGSizesOfLeastx2
import Derived.Test.YticnoiflccbhcaaGSizesOfLeastx1
namespace Go.Proofs.Yticnoiflccbhcaa.Q
open Go.RowKit Go.Proofs.YticnoiflccbhcaaW.PrintWords Go.Proofs.YticnoiflccbhcaaW.PrintLast Go.Proofs.YticnoiflccbhcaaW.PrintMore Go.Proofs.YticnoiflccbhcaaM
set_option linter.unusedVariables false
set_option linter.unusedSimpArgs false
/-- How many rows have each length. -/
def sizeL (L : List (List Int)) (acc : List Int) : List Int := L.foldl (fun acc s => acc.set s.length (wrap64 (rd acc (s.length : Int) + 1))) acc
theorem sizeL_len (L : List (List Int)) : ∀ acc : List Int, (sizeL L acc).length = acc.length := by
  induction L with
  | nil => intro acc; rfl
  | cons s L ih =>
    intro acc
    show (sizeL L _).length = _
    rw [ih, List.length_set]
theorem impl_SizesOfLeast.ev_l (L : List (List Int)) (hL : L.length ≤ 1000000) (N : Nat) (hx : ∀ x ∈ L, x.length < N) : ∀ (d i : Nat) (acc : List Int), i + d = L.length → acc.length = N → Ev (fun k => impl_SizesOfLeast.l0 k acc L (L.length : Int) (i : Int)) (sizeL (L.drop i) acc, true) := by
  intro d
  induction d with
  | zero =>
    intro i acc h ha
    refine ev_step ?_
    simp only [impl_SizesOfLeast.l0]
    rw [ev_neg (by omega), ev_now, List.drop_of_length_le (by omega)]
    rfl
  | succ d ih =>
    intro i acc h ha
    refine ev_step ?_
    simp only [impl_SizesOfLeast.l0]
    have hi : i < L.length := by omega
    have hxi := hx _ (List.getElem_mem hi)
    rw [ev_pos (by omega), ev_pos (by omega), ev_pos (by omega), rd_L2_lt L i hi, ev_pos (by omega), ev_pos (by omega), w64i (i := (i : Int)) (n := L.length) (by omega) (by omega) (by omega), Int.toNat_natCast, List.drop_eq_getElem_cons hi]
    exact ih (i + 1) _ (by omega) (by rw [List.length_set]; exact ha)
def sizesV (q : Int) (ws : List Int) : List Int × Bool := if goodB q ws = true then (sizeL (Go.Proofs.YticnoiflccbhcaaS.sortL (takeL (leastB (winsL q ws) ws.length) (winsL q ws).length)) (List.replicate (ws.length + 1) 0), true) else ([], false)
theorem sortL_in {P : Nat → Bool} {n N : Nat} (hN : N ≤ 2 ^ n) (hn : n ≤ 62) : ∀ x ∈ Go.Proofs.YticnoiflccbhcaaS.sortL (takeL P N), x.length ≤ n ∧ ∀ y ∈ x, 0 ≤ y ∧ y < (n : Int) := by
  intro x hx
  obtain ⟨a, ha, _, rfl⟩ := takeL_mem x ((Go.Proofs.YticnoiflccbhcaaS.sortL_perm _).mem_iff.1 hx)
  rw [setN_to (m := a) (n := n) (by omega) hn]
  exact ⟨setTo_len a n, fun y hy => by have := setTo_in y hy; omega⟩
theorem sortL_len (xs : List (List Int)) : (Go.Proofs.YticnoiflccbhcaaS.sortL xs).length = xs.length := (Go.Proofs.YticnoiflccbhcaaS.sortL_perm xs).length_eq
theorem impl_SizesOfLeast.ev (q : Int) (ws : List Int) (hl : ws.length ≤ 9223372036854775807) : Ev (fun k => impl_SizesOfLeast.f k q ws) (sizesV q ws) := by
  simp only [impl_SizesOfLeast.f]
  rw [ev_bind (impl_IsCommittee.ev q ws hl)]
  unfold sizesV
  cases hg : goodB q ws with
  | false => rw [ev_neg (by decide), ev_now, if_neg (by decide)]
  | true =>
    have hc := (good_iff q ws).1 hg
    have h9 := hc.l9
    have hp := hc.pow
    have hwl := winsL_length q ws
    have hlen := takeL_len (leastB (winsL q ws) ws.length) (winsL q ws).length
    have e1 : wrap64 ((ws.length : Int) + 1) = ((ws.length + 1 : Nat) : Int) := w64 (by omega) (by omega)
    rw [ev_pos rfl, if_pos rfl, e1, ev_pos (by omega), ev_pos (by omega), Int.toNat_natCast, ev_bind (impl_Committee_votes.ev q ws h9 hc.wb), ev_bind (impl_votes_least.ev (winsL q ws) ws.length hwl (by omega))]
    have := impl_SizesOfLeast.ev_l (Go.Proofs.YticnoiflccbhcaaS.sortL (takeL (leastB (winsL q ws) ws.length) (winsL q ws).length)) (by rw [sortL_len]; omega) (ws.length + 1) (fun x hx => by have := (sortL_in (n := ws.length) (by omega) (by omega) x hx).1; omega) _ 0 (List.replicate (ws.length + 1) 0) (Nat.zero_add _) (by simp)
    rw [List.drop_zero] at this
    exact this
theorem spec_SizesOfLeast.ev_l (L : List (List Int)) (hL : L.length ≤ 1000000) (N : Nat) (hx : ∀ x ∈ L, x.length < N) : ∀ (d i : Nat) (acc : List Int), i + d = L.length → acc.length = N → Ev (fun k => spec_SizesOfLeast.l0 k acc L (L.length : Int) (i : Int)) (sizeL (L.drop i) acc, true) := by
  intro d
  induction d with
  | zero =>
    intro i acc h ha
    refine ev_step ?_
    simp only [spec_SizesOfLeast.l0]
    rw [ev_neg (by omega), ev_now, List.drop_of_length_le (by omega)]
    rfl
  | succ d ih =>
    intro i acc h ha
    refine ev_step ?_
    simp only [spec_SizesOfLeast.l0]
    have hi : i < L.length := by omega
    have hxi := hx _ (List.getElem_mem hi)
    rw [ev_pos (by omega), ev_pos (by omega), ev_pos (by omega), rd_L2_lt L i hi, ev_pos (by omega), ev_pos (by omega), w64i (i := (i : Int)) (n := L.length) (by omega) (by omega) (by omega), Int.toNat_natCast, List.drop_eq_getElem_cons hi]
    exact ih (i + 1) _ (by omega) (by rw [List.length_set]; exact ha)
theorem spec_SizesOfLeast.ev (q : Int) (ws : List Int) (hl : ws.length ≤ 9223372036854775807) : Ev (fun k => spec_SizesOfLeast.f k q ws) (sizesV q ws) := by
  simp only [spec_SizesOfLeast.f]
  rw [ev_bind (spec_voGood.ev q ws hl)]
  unfold sizesV
  cases hg : goodB q ws with
  | false => rw [ev_neg (by decide), ev_now, if_neg (by decide)]
  | true =>
    have hc := (good_iff q ws).1 hg
    have h9 := hc.l9
    have hp := hc.pow
    have hwl := winsL_length q ws
    have hlen := takeL_len (leastB (winsL q ws) ws.length) (winsL q ws).length
    have e1 : wrap64 ((ws.length : Int) + 1) = ((ws.length + 1 : Nat) : Int) := w64 (by omega) (by omega)
    rw [ev_pos rfl, if_pos rfl, e1, ev_pos (by omega), ev_pos (by omega), Int.toNat_natCast, ev_bind (spec_voWins.ev q ws h9 hc.wb), ev_bind (spec_voLeast.ev (winsL q ws) ws.length hwl (by omega))]
    have := spec_SizesOfLeast.ev_l (Go.Proofs.YticnoiflccbhcaaS.sortL (takeL (leastB (winsL q ws) ws.length) (winsL q ws).length)) (by rw [sortL_len]; omega) (ws.length + 1) (fun x hx => by have := (sortL_in (n := ws.length) (by omega) (by omega) x hx).1; omega) _ 0 (List.replicate (ws.length + 1) 0) (Nat.zero_add _) (by simp)
    rw [List.drop_zero] at this
    exact this
theorem sizesV_len (q : Int) (ws : List Int) : (sizesV q ws).1.length ≤ 10 := by
  unfold sizesV
  split
  · next h =>
    have := ((good_iff q ws).1 h).l9
    rw [sizeL_len, List.length_replicate]
    omega
  · simp
end Go.Proofs.Yticnoiflccbhcaa.Q

namespace Go.Proofs.Yticnoiflccbhcaa.Q
open Go.RowKit Go.Proofs.YticnoiflccbhcaaW.PrintWords Go.Proofs.YticnoiflccbhcaaW.PrintLast Go.Proofs.YticnoiflccbhcaaW.PrintMore Go.Proofs.YticnoiflccbhcaaM
set_option linter.unusedVariables false
set_option linter.unusedSimpArgs false
theorem laws_FnExactSizesOfLeast.law (q : Int) (ws : List Int) (okq : OkI q) (okws : OkL ws) : Ev (fun k => laws_FnExactSizesOfLeast.f k q ws) true := by
  have hl := okws.len
  simp only [laws_FnExactSizesOfLeast.f, ev_bind (ev_of (laws_szCommittee.v q ws 1048576 (by omega) (by omega)))]
  by_cases hz : (1048576 : Int) - (ws.length : Int) < 0
  · rw [if_pos hz, ev_pos (by omega), ev_now]
  rw [if_neg hz, ev_neg hz]
  have ht := laws_toCommittee.ev q ws (by omega)
  have hs := spec_SizesOfLeast.ev q ws hl
  have hi := impl_SizesOfLeast.ev q ws hl
  have hn := sizesV_len q ws
  generalize sizesV q ws = r at hs hi hn
  obtain ⟨l1, b1⟩ := r
  have hn' : l1.length ≤ 10 := hn
  have hm := laws_markIntS.ev l1 1 (by omega) (by omega)
  have hh := laws_heldIntS.ev l1.length 1 (by omega) (by omega)
  have he := laws_eqIntS.ev l1 l1 (by omega)
  rw [decide_eq_true rfl] at he
  have he0 := laws_eqCommittee.ev_same q ws (by omega)
  have hm0 := laws_markCommittee.ev q ws 1 (by omega) (by omega)
  have hng : ((1 : Int) + (l1.length : Int) < 0) = False := eq_false (by omega)
  have hng0 : ((1 : Int) + (ws.length : Int) < 0) = False := eq_false (by omega)
  simp only [ev_bind ht, ev_bind hs, ev_bind hi, ev_bind he, if_true]
  refine ev_step ?_
  simp only [laws_FnExactSizesOfLeast.j0, bne_self_eq_false, Bool.false_eq_true, if_false, ev_bind ht, ev_bind he0, ev_bind hm0, ev_bind he, if_true, hng0]
  refine ev_step ?_
  simp only [laws_FnExactSizesOfLeast.j1, bne_self_eq_false, Bool.false_eq_true, if_false, ev_bind ht, ev_bind hi, ev_bind he, ev_bind hm, ev_bind hh, if_true, hng]
  refine ev_step ?_
  simp only [laws_FnExactSizesOfLeast.j2, bne_self_eq_false, Bool.false_eq_true, if_false, ev_bind hh, if_true, hng, ev_now]
end Go.Proofs.Yticnoiflccbhcaa.Q

namespace Go.Proofs.YticnoiflccbhcaaO
open Go.RowKit Go.ChangeShapes Go.WideShapes Go.ChangeAt Go.Proofs.YticnoiflccbhcaaW.PrintWords Go.Proofs.YticnoiflccbhcaaM
section
variable {H : Type} {enc : TypeId × Value → H} {P : Program} {w : World} {α : Type}
/-- One cell of type t reads as a value of kind d. -/
def Reads1 (enc : TypeId × Value → H) (P : Program) (w : World) (t : TypeId) (d : Kd α) (ok : α → Prop) : Prop :=
  ∀ fuel v x, DataW.trod enc P w 0 (fun _ => true) true fuel t [v] = some x → ∃ a, d.K w a [v] ∧ ok a
theorem reads_int {t : TypeId} {k : IntKind} (hu : P.underlying t = some (.int k)) : Reads1 enc P w t (Kd.int k) (fun n => (Lit.int k n).wf = true) := by
  intro fuel v x h
  obtain ⟨n, e, _, hw⟩ := DataW.trod_int hu h
  exact ⟨n, e, hw⟩
theorem reads_slice {t e : TypeId} {d : Kd α} {ok : α → Prop} (hu : P.underlying t = some (.slice e)) (hc : P.cellsOf e = 1) (hs : d.sz = 1) (he : Reads1 enc P w e d ok) :
    Reads1 enc P w t (Kd.slice e d) (fun l => l.length ≤ maxLen ∧ ∀ x ∈ l, ok x) := by
  intro fuel v x h
  rcases Go.Deep.open_slice1 hu hc h with ⟨hcs, _⟩ | ⟨a, len, cap, m, n, V, D, Pl, hcs, _, hl, hm, hmm, _, hx⟩
  · obtain rfl : v = .slice none 0 0 := by simpa using hcs
    refine ⟨[], ⟨none, 0, rfl, Nat.le_refl _, rfl, Nat.zero_le _, fun h => absurd h (Nat.lt_irrefl _)⟩, Nat.zero_le _, fun _ h => by cases h⟩
  · obtain rfl : v = .slice (some a) len cap := by simpa using hcs
    have hlm : len ≤ m := by rw [hmm]; simpa using hl
    have hall : ∀ i, i < len → ∃ b, d.K w b [V i] ∧ ok b := fun i hi => he n (V i) _ (hx i (by omega)).2
    have key : ∀ j, j ≤ len → ∃ l : List α, l.length = j ∧ (∀ i b, l[i]? = some b → d.K w b [V i] ∧ ok b) := by
      intro j
      induction j with
      | zero => exact fun _ => ⟨[], rfl, fun i b h => by simp at h⟩
      | succ j ih =>
        intro hj
        obtain ⟨l, hl1, hl2⟩ := ih (by omega)
        obtain ⟨b, hb⟩ := hall j (by omega)
        refine ⟨l ++ [b], by simp [hl1], fun i c h => ?_⟩
        rcases Nat.lt_or_ge i l.length with hi | hi
        · rw [List.getElem?_append_left hi] at h
          exact hl2 i c h
        · have e : i = l.length := by
            have := (List.getElem?_eq_some_iff.1 h).1
            rw [List.length_append, List.length_singleton] at this
            omega
          subst e
          obtain rfl : b = c := by simpa using h
          rw [hl1]
          exact hb
    obtain ⟨l, hl1, hl2⟩ := key len (Nat.le_refl _)
    subst hl1
    refine ⟨l, ⟨some a, cap, rfl, hl, rfl, by unfold maxLen at hm; omega, fun _ => ⟨a, rfl, fun j p hj => ⟨[V j], by rw [hs]; rfl, (hl2 j p hj).1, fun i u hi => ?_⟩⟩⟩, Nat.le_trans hl hm, fun x hxm => ?_⟩
    · match i, hi with
      | 0, hi =>
        obtain rfl : V j = u := by simpa using hi
        have hj' := (List.getElem?_eq_some_iff.1 hj).1
        rw [hs, Nat.mul_one, Nat.add_zero]
        exact (hx j (by omega)).1
      | i + 1, hi => simp at hi
    · obtain ⟨i, hi, rfl⟩ := List.mem_iff_getElem.1 hxm
      exact (hl2 i _ (List.getElem?_eq_getElem hi)).2
/-- A slice that is an argument. -/
theorem open_slice_arg {r : Reach} {b0 : Nat} {t e : TypeId} {d : Kd α} {ok' : List α → Prop} {v : Value} {dd : DataW H} {ps : List MemPlace} (hu : P.underlying t = some (.slice e)) (hr : Reads1 enc P w t (Kd.slice e d) ok') (hv : Value.okWide P w r b0 t v)
    (h : DataW.Trod enc P w 0 (fun _ => true) true t v dd ps) : ∃ (A : Option Addr) (c : Nat) (l : List α), v = .slice A l.length c ∧ l.length ≤ c ∧ d.C w A l.length l ∧ ok' l := by
  obtain ⟨a, len, cap, rfl⟩ := okWide_slice hu hv
  obtain ⟨fuel, hf⟩ := h
  obtain ⟨l, ⟨A, c, hcs, hlc, hC⟩, ho⟩ := hr fuel _ _ hf
  exact ⟨A, c, l, by simpa using hcs, hlc, hC, ho⟩
end
end Go.Proofs.YticnoiflccbhcaaO
