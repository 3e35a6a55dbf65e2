/- Printed functions, their contracts and plain facts on them: PVotesLeast; PSortFew; PL1In; PVoSum; PVoGood; PVoList; PVoBefore; PVoSorted; PVoAll; PVoWeight; PVoWins; PGreatestLosing; PSperner; PSetFacts; PMasks; PGcd; PP. Conditions: as each theorem states. -/
import Derived.Test.YtamfpkefnhcngaaGreatGSwingsToldx1
import Derived.Test.YtamfpkefnhcngaaGreatGSwingsToldx4
import Derived.Test.YtamfpkefnhcngaaGreatGSwingsToldx2
import Derived.Test.YtamfpkefnhcngaaGreatGSwingsToldx3
set_option maxHeartbeats 40000000
set_option maxRecDepth 100000
namespace Go.Proofs.YtamfpkefnhcngaaGreat.Q
open Go.RowKit Go.Proofs.YtamfpkefnhcngaaGreatW.PrintWords Go.Proofs.YtamfpkefnhcngaaGreatW.PrintLast Go.Proofs.YtamfpkefnhcngaaGreatW.PrintMore Go.Proofs.YtamfpkefnhcngaaGreatM
set_option linter.unusedVariables false
set_option linter.unusedSimpArgs false
theorem impl_votes_isLeast.ev_l (W : List Bool) (n m : Nat) (hW : W.length = 2 ^ n) (hn : n ≤ 18) (hm : m < 2 ^ n) : ∀ (d i : Nat), i + d = n → Ev (fun k => impl_votes_isLeast.l0 k (m : Int) (n : Int) (i : Int) (n : Int) W) ((List.range' i d).all fun i => !(bitB m i) || !(W.getD (m - 2 ^ i) false)) := by
  have hp : 2 ^ n ≤ 2 ^ 18 := Nat.pow_le_pow_right (by omega) hn
  intro d
  induction d with
  | zero =>
    intro i h
    refine ev_step ?_
    simp only [impl_votes_isLeast.l0]
    rw [ev_neg (by omega), ev_now]
    rfl
  | succ d ih =>
    intro i h
    refine ev_step ?_
    simp only [impl_votes_isLeast.l0]
    have hih := ih (i + 1) (by omega)
    rw [ev_pos (by omega), ev_bind (ev_of (show impl_has.f (m : Int) (i : Int) = some (bitB m i) from impl_has.v m i (by omega) (by omega))), w64 (by omega) (by omega), List.range'_succ, List.all_cons]
    by_cases hb : bitB m i = true
    · have hpi : 2 ^ i ≤ 2 ^ n := Nat.pow_le_pow_right (by omega) (by omega)
      have hsub : m - 2 ^ i < W.length := by rw [hW]; exact Nat.lt_of_le_of_lt (Nat.sub_le _ _) hm
      rw [ev_pos hb, ev_pos (by omega), shl_one i (by omega), andNot_pow m i (by omega) (by omega) hb, ev_pos (Int.natCast_nonneg _), ev_pos (Int.ofNat_lt.2 hsub), rdOf_nat, hb]
      cases hw : W.getD (m - 2 ^ i) false with
      | true =>
        rw [ev_pos rfl, ev_now]
        rfl
      | false =>
        rw [ev_neg (by decide)]
        exact hih
    · rw [ev_neg hb, Bool.eq_false_iff.2 hb]
      exact hih
theorem impl_votes_isLeast.ev (W : List Bool) (n m : Nat) (hW : W.length = 2 ^ n) (hn : n ≤ 18) (hm : m < 2 ^ n) : Ev (fun k => impl_votes_isLeast.f k (n : Int) W (m : Int)) (leastB W n m) := by
  simp only [impl_votes_isLeast.f]
  rw [ev_pos (by omega), ev_pos (by omega), rdOf_nat, leastB]
  cases hw : W.getD m false with
  | true =>
    rw [ev_pos rfl, Bool.true_and, List.range_eq_range']
    exact impl_votes_isLeast.ev_l W n m hW hn hm n 0 (by omega)
  | false =>
    rw [ev_neg (by decide), ev_now]
    rfl
theorem impl_votes_sets.at_l (W : List Bool) (hW : W.length ≤ 1000000) (P : Int → Option Bool) (p : Nat → Bool) (K : Nat) (hP : ∀ m, m < W.length → P (m : Int) = some (p m)) (hS : ∀ k, K ≤ k → ∀ m, m < W.length → impl_setOf.f k (m : Int) = some (setN m)) : ∀ (d i k : Nat), i + d = W.length → K + d < k → impl_votes_sets.l0 k P W (takeL p i) (i : Int) = some (takeL p W.length) := by
  intro d
  induction d with
  | zero =>
    intro i k h hk
    obtain ⟨k, rfl⟩ : ∃ j, k = j + 1 := ⟨k - 1, by omega⟩
    simp only [impl_votes_sets.l0]
    rw [if_neg (by omega), show i = W.length by omega]
  | succ d ih =>
    intro i k h hk
    obtain ⟨k, rfl⟩ : ∃ j, k = j + 1 := ⟨k - 1, by omega⟩
    have hi : i < W.length := by omega
    have hl := takeL_len p i
    have hih := ih (i + 1) k (by omega) (by omega)
    rw [takeL_succ] at hih
    simp only [impl_votes_sets.l0]
    rw [if_pos (by omega), hP i hi, Option.bind_some, w64 (by omega) (by omega), hS k (by omega) i hi, Option.bind_some]
    cases hp : p i with
    | true =>
      rw [hp, if_pos rfl] at hih
      rw [if_pos rfl, if_pos (by omega)]
      exact hih
    | false =>
      rw [hp, if_neg (by decide)] at hih
      rw [if_neg (by decide)]
      exact hih
theorem impl_votes_sets.ev (W : List Bool) (hW : W.length ≤ 1000000) (P : Nat → Int → Option Bool) (p : Nat → Bool) (hP : ∀ m, m < W.length → Ev (fun k => P k (m : Int)) (p m)) : Ev (fun k => impl_votes_sets.g k W (P k)) (Go.Proofs.YtamfpkefnhcngaaGreatS.sortL (takeL p W.length)) := by
  obtain ⟨K1, h1⟩ := ev_all W.length (fun k m => P k (m : Int)) p hP
  obtain ⟨K2, h2⟩ := ev_all W.length (fun k m => impl_setOf.f k (m : Int)) setN (fun m hm => impl_setOf.ev m (by omega))
  refine ⟨max K1 (K2 + W.length + 1), fun k hk => ?_⟩
  have hl := takeL_len p W.length
  simp only [impl_votes_sets.g]
  rw [show impl_votes_sets.l0 k (P k) W [] 0 = some (takeL p W.length) from impl_votes_sets.at_l W hW (P k) p K2 (fun m hm => h1 k (by omega) m hm) h2 W.length 0 k (by omega) (by omega), Option.bind_some, if_pos (by omega)]
theorem impl_votes_least.ev (W : List Bool) (n : Nat) (hW : W.length = 2 ^ n) (hn : n ≤ 18) : Ev (fun k => impl_votes_least.f k (n : Int) W) (Go.Proofs.YtamfpkefnhcngaaGreatS.sortL (takeL (leastB W n) W.length)) := by
  have hp : 2 ^ n ≤ 2 ^ 18 := Nat.pow_le_pow_right (by omega) hn
  exact impl_votes_sets.ev W (by omega) (fun k x => impl_votes_isLeast.f k (n : Int) W x) (leastB W n) (fun m hm => impl_votes_isLeast.ev W n m hW hn (by omega))
theorem sortL_in {P : Nat → Bool} {n N : Nat} (hN : N ≤ 2 ^ n) (hn : n ≤ 62) : ∀ x ∈ Go.Proofs.YtamfpkefnhcngaaGreatS.sortL (takeL P N), x.length ≤ n ∧ ∀ y ∈ x, 0 ≤ y ∧ y < (n : Int) := by
  intro x hx
  obtain ⟨a, ha, _, rfl⟩ := takeL_mem x ((Go.Proofs.YtamfpkefnhcngaaGreatS.sortL_perm _).mem_iff.1 hx)
  rw [setN_to (m := a) (n := n) (by omega) hn]
  exact ⟨setTo_len a n, fun y hy => by have := setTo_in y hy; omega⟩
theorem sortL_len (xs : List (List Int)) : (Go.Proofs.YtamfpkefnhcngaaGreatS.sortL xs).length = xs.length := (Go.Proofs.YtamfpkefnhcngaaGreatS.sortL_perm xs).length_eq
theorem sortL_few {P : Nat → Bool} {q : Int} {ws : List Int} (h : GoodC q ws) {N : Nat} (hN : N = 2 ^ ws.length) : (Go.Proofs.YtamfpkefnhcngaaGreatS.sortL (takeL P N)).length ≤ 512 ∧ ∀ s ∈ Go.Proofs.YtamfpkefnhcngaaGreatS.sortL (takeL P N), s.length ≤ 9 := by
  have hp := h.pow
  have h9 := h.l9
  have hlen := takeL_len P N
  exact ⟨by rw [sortL_len]; omega, fun s hs => by have := (sortL_in (n := ws.length) (by omega) (by omega) s hs).1; omega⟩
theorem spec_l1In.v (a b c : Int) : spec_l1In.f a b c = some (decide (b ≤ a) && decide (a ≤ c)) := by
  unfold spec_l1In.f
  by_cases h : b ≤ a
  · rw [if_pos h]; simp [h]
  · rw [if_neg h]; simp [h]
theorem spec_voSum.ev_l (l : List Int) (hl : l.length ≤ 9223372036854775807) : ∀ (d i : Nat) (s : Int), i + d = l.length → Ev (fun k => spec_voSum.l0 k s l (l.length : Int) (i : Int)) (wfold (l.drop i) s) := by
  intro d
  induction d with
  | zero =>
    intro i s h
    refine ev_step ?_
    simp only [spec_voSum.l0]
    rw [ev_neg (by omega), ev_now, List.drop_of_length_le (by omega)]
    rfl
  | succ d ih =>
    intro i s h
    refine ev_step ?_
    simp only [spec_voSum.l0]
    have hi : i < l.length := by omega
    rw [ev_pos (by omega), ev_pos (by omega), ev_pos (by omega), w64i (n := l.length) (by omega) (by omega) hl, rd_lt l i hi, wfold_take l i hi]
    exact ih (i + 1) _ (by omega)
theorem spec_voSum.ev (l : List Int) (hl : l.length ≤ 9223372036854775807) : Ev (fun k => spec_voSum.f k l) (wfold l 0) := spec_voSum.ev_l l hl l.length 0 0 (by omega)
theorem spec_l1All.ev_l (l : List Int) (lo hi : Int) (hl : l.length ≤ 9223372036854775807) : ∀ (d i : Nat), i + d = l.length → Ev (fun k => spec_l1All.l0 k lo hi l (l.length : Int) (i : Int)) ((l.drop i).all fun x => decide (lo ≤ x) && decide (x ≤ hi)) := by
  intro d
  induction d with
  | zero =>
    intro i h
    refine ev_step ?_
    simp only [spec_l1All.l0]
    rw [ev_neg (by omega), ev_now, List.drop_of_length_le (by omega)]
    rfl
  | succ d ih =>
    intro i h
    refine ev_step ?_
    simp only [spec_l1All.l0]
    have hi' : i < l.length := by omega
    rw [ev_pos (by omega), ev_pos (by omega), ev_pos (by omega), w64i (n := l.length) (by omega) (by omega) hl, rd_lt l i hi', List.drop_eq_getElem_cons hi', List.all_cons, ev_bind (ev_of (spec_l1In.v _ _ _))]
    cases hb : (decide (lo ≤ l[i]) && decide (l[i] ≤ hi)) with
    | true =>
      rw [ev_pos rfl, Bool.true_and]
      exact ih (i + 1) (by omega)
    | false =>
      rw [ev_neg (by decide), ev_now]
      rfl
theorem spec_l1All.ev (l : List Int) (lo hi : Int) (hl : l.length ≤ 9223372036854775807) : Ev (fun k => spec_l1All.f k l lo hi) (l.all fun x => decide (lo ≤ x) && decide (x ≤ hi)) := spec_l1All.ev_l l lo hi hl l.length 0 (by omega)
theorem spec_voGood.ev (q : Int) (l : List Int) (hl : l.length ≤ 9223372036854775807) : Ev (fun k => spec_voGood.f k q l) (goodB q l) := by
  simp only [spec_voGood.f]
  rw [ev_bind (ev_of (spec_l1In.v _ _ _))]
  unfold goodB
  by_cases h1 : 1 ≤ (l.length : Int) ∧ (l.length : Int) ≤ 9
  · rw [ev_pos (by simp [h1]), ev_bind (spec_l1All.ev l 0 1000 hl)]
    refine ev_step ?_
    simp only [spec_voGood.j0]
    cases hb : (l.all fun x => decide (0 ≤ x) && decide (x ≤ 1000)) with
    | true =>
      rw [ev_neg (by simp), ev_bind (spec_voSum.ev l hl), ev_bind (ev_of (spec_l1In.v _ _ _)), ev_now, wfold_w l (by omega) hb]
      have e1 : 1 ≤ l.length := by omega
      have e2 : l.length ≤ 9 := by omega
      simp [e1, e2]
    | false =>
      rw [ev_pos (by simp), ev_now]
      simp
  · rw [ev_neg (by simpa using h1)]
    refine ev_step ?_
    simp only [spec_voGood.j0]
    rw [ev_pos (by simp), ev_now]
    have : ¬ (1 ≤ l.length ∧ l.length ≤ 9) := by omega
    by_cases e1 : 1 ≤ l.length
    · have e2 : ¬ l.length ≤ 9 := by omega
      simp [e2]
    · simp [e1]
theorem spec_voList.ev_l (m : Nat) (hm : m < 2 ^ 62) : ∀ (d i : Nat), i + d = 62 → Ev (fun k => spec_voList.l0 k (m : Int) (setTo m i) (i : Int)) (setN m) := by
  intro d
  induction d with
  | zero =>
    intro i h
    refine ev_step ?_
    simp only [spec_voList.l0]
    have e : m / 2 ^ i = 0 := by rw [show i = 62 by omega]; exact Nat.div_eq_of_lt hm
    rw [ev_pos (by omega), shr_nat m i (by omega), e, ev_neg (by omega), ev_now, setTo_done e (by omega)]
  | succ d ih =>
    intro i h
    refine ev_step ?_
    simp only [spec_voList.l0]
    have hl := setTo_len m i
    have et : Int.tmod ((m / 2 ^ i : Nat) : Int) 2 = ((m / 2 ^ i % 2 : Nat) : Int) := (Int.ofNat_tmod (m / 2 ^ i) 2).symm
    rw [ev_pos (by omega), shr_nat m i (by omega), w64 (by omega) (by omega)]
    by_cases e : m / 2 ^ i = 0
    · rw [ev_neg (by omega), ev_now, setTo_done e (by omega)]
    · rw [ev_pos (Int.natCast_pos.2 (Nat.pos_of_ne_zero e)), et]
      have := ih (i + 1) (by omega)
      rw [setTo_succ] at this
      by_cases hb : m / 2 ^ i % 2 = 1
      · rw [if_pos (by simp [bitB, hb])] at this
        rw [ev_pos (by rw [hb]; rfl), ev_pos (by omega)]
        exact this
      · rw [if_neg (by simp [bitB]; omega)] at this
        rw [ev_neg (c := ((m / 2 ^ i % 2 : Nat) : Int) = 1) (fun h_ => hb (Int.ofNat_inj.1 h_))]
        exact this
theorem spec_voList.ev (m : Nat) (hm : m < 2 ^ 62) : Ev (fun k => spec_voList.f k (m : Int)) (setN m) := spec_voList.ev_l m hm 62 0 (by omega)
theorem spec_voBefore.ev_l (a b : List Int) (ha : a.length ≤ 9223372036854775807) : ∀ (d i : Nat), i + d = a.length → i ≤ b.length → Ev (fun k => spec_voBefore.l0 k a b (i : Int)) (decide (cmpL (a.drop i) (b.drop i) < 0)) := by
  intro d
  induction d with
  | zero =>
    intro i h hb
    refine ev_step ?_
    simp only [spec_voBefore.l0]
    rw [ev_neg (by omega)]
    refine ev_step ?_
    simp only [spec_voBefore.j1]
    rw [ev_neg (by simp), ev_now, List.drop_of_length_le (by omega)]
    by_cases hc : (a.length : Int) < (b.length : Int)
    · rw [decide_eq_true hc, List.drop_eq_getElem_cons (by omega)]
      rfl
    · rw [decide_eq_false hc, List.drop_of_length_le (by omega)]
      rfl
  | succ d ih =>
    intro i h hb
    refine ev_step ?_
    simp only [spec_voBefore.l0]
    have hi : i < a.length := by omega
    rw [ev_pos (by omega)]
    refine ev_step ?_
    simp only [spec_voBefore.j1]
    by_cases hc : (i : Int) < (b.length : Int)
    · have hib : i < b.length := by omega
      rw [ev_pos (decide_eq_true hc), ev_pos (by omega), ev_pos (by omega), ev_pos (by omega), rd_lt a i hi, rd_lt b i hib, w64i (n := a.length) (by omega) (by omega) ha, List.drop_eq_getElem_cons hi, List.drop_eq_getElem_cons hib]
      by_cases h1 : a[i] = b[i]
      · have e : cmpL (a[i] :: a.drop (i + 1)) (b[i] :: b.drop (i + 1)) = cmpL (a.drop (i + 1)) (b.drop (i + 1)) := by simp only [cmpL]; rw [if_neg (by omega), if_neg (by omega)]
        rw [ev_pos h1, e]
        exact ih (i + 1) (by omega) (by omega)
      · rw [ev_neg h1, ev_now]
        by_cases h2 : a[i] < b[i]
        · have e : cmpL (a[i] :: a.drop (i + 1)) (b[i] :: b.drop (i + 1)) = -1 := by simp only [cmpL]; rw [if_pos h2]
          rw [e, decide_eq_true h2]; rfl
        · have e : cmpL (a[i] :: a.drop (i + 1)) (b[i] :: b.drop (i + 1)) = 1 := by simp only [cmpL]; rw [if_neg h2, if_pos (by omega)]
          rw [e, decide_eq_false h2]; rfl
    · rw [ev_neg (by simp; omega), ev_now, List.drop_eq_getElem_cons hi, List.drop_of_length_le (by omega : b.length ≤ i), decide_eq_false (by omega)]
      rfl
theorem spec_voBefore.ev (a b : List Int) (ha : a.length ≤ 9223372036854775807) : Ev (fun k => spec_voBefore.f k a b) (decide (cmpL a b < 0)) := spec_voBefore.ev_l a b ha a.length 0 (by omega) (by omega)
def upL (xs : List (List Int)) : Prop := xs.Pairwise fun a b => cmpL a b ≤ 0
theorem upL_sorted {xs ys : List (List Int)} (hp : ys.Perm xs) (h : upL ys) : ys = Go.Proofs.YtamfpkefnhcngaaGreatS.sortL xs := by
  refine Go.Proofs.YtamfpkefnhcngaaGreatS.sortL_of hp (List.Pairwise.imp (fun {a b} hab => ?_) h)
  have := cmpL_swap a b
  show decide (cmpL b a < 0) = false
  exact decide_eq_false (by omega)
theorem upL_insert {xs : List (List Int)} {s : List Int} {y : Nat} (h : upL xs) (h1 : ∀ j (hj : j < xs.length), j < y → cmpL xs[j] s < 0) (h2 : ∀ hy : y < xs.length, ¬ (cmpL xs[y] s < 0)) : upL (xs.take y ++ s :: xs.drop y) := by
  have hp := h
  rw [← List.take_append_drop y xs, upL, List.pairwise_append] at hp
  rw [upL, List.pairwise_append, List.pairwise_cons]
  have hd : ∀ b ∈ xs.drop y, cmpL s b ≤ 0 := by
    intro b hb
    obtain ⟨j, hj, rfl⟩ := List.getElem_of_mem hb
    rw [List.length_drop] at hj
    have hy : y < xs.length := by omega
    rw [List.getElem_drop]
    have h3 := h2 hy
    have h4 := cmpL_swap s xs[y]
    have h5 : cmpL xs[y] xs[y + j] ≤ 0 := by
      rcases Nat.eq_zero_or_pos j with e | e
      · subst e
        simp only [Nat.add_zero]
        rw [cmpL_self]
        omega
      · rw [upL, List.pairwise_iff_getElem] at h
        exact h y (y + j) hy (by omega) (by omega)
    exact cmpL_le_trans s xs[y] xs[y + j] (by omega) h5
  refine ⟨hp.1, ⟨hd, hp.2.1⟩, fun a ha b hb => ?_⟩
  obtain ⟨j, hj, rfl⟩ := List.getElem_of_mem ha
  rw [List.length_take] at hj
  rw [List.getElem_take]
  have h3 := h1 j (by omega) (by omega)
  rcases List.mem_cons.1 hb with rfl | hb
  · omega
  · exact cmpL_le_trans _ s b (by omega) (hd b hb)
theorem spec_voSorted.ev_l1 (l : List (List Int)) (hl : l.length < 1000000) (hx : ∀ x ∈ l, x.length ≤ 9223372036854775807) (i : Nat) (hi : i < l.length) (out : List (List Int)) (ho : out.length = i) (hup : upL out) (hpm : out.Perm (l.take i)) (hnext : ∀ out' : List (List Int), out'.length = i + 1 → upL out' → out'.Perm (l.take (i + 1)) → Ev (fun k => spec_voSorted.l0 k out' l ((i : Int) + 1)) (Go.Proofs.YtamfpkefnhcngaaGreatS.sortL l)) : ∀ (d y : Nat), y + d = out.length → (∀ j (hj : j < out.length), j < y → cmpL out[j] l[i] < 0) → Ev (fun k => spec_voSorted.l1 k out l (i : Int) l[i] (y : Int)) (Go.Proofs.YtamfpkefnhcngaaGreatS.sortL l) := by
  have hgo : ∀ y : Nat, y ≤ out.length → (∀ j (hj : j < out.length), j < y → cmpL out[j] l[i] < 0) → (∀ hy : y < out.length, ¬ (cmpL out[y] l[i] < 0)) → Ev (fun k => if out.length < 5000000000000 then spec_voSorted.l0 k (out.take ((y : Int)).toNat ++ l[i] :: out.drop ((y : Int)).toNat) l (wrap64 ((i : Int) + 1)) else none) (Go.Proofs.YtamfpkefnhcngaaGreatS.sortL l) := by
    intro y hy h1 h2
    rw [ev_pos (by omega), Int.toNat_natCast, w64 (by omega) (by omega)]
    refine hnext _ ?_ (upL_insert hup h1 h2) ?_
    · rw [List.length_append, List.length_cons, List.length_take, List.length_drop]
      omega
    · refine List.perm_middle.trans ?_
      rw [List.take_append_drop, List.take_succ_eq_append_getElem hi]
      exact (List.Perm.cons _ hpm).trans (List.perm_append_singleton _ _).symm
  intro d
  induction d with
  | zero =>
    intro y hy h1
    refine ev_step ?_
    simp only [spec_voSorted.l1]
    rw [ev_neg (by omega)]
    exact hgo y (by omega) h1 (fun h => by omega)
  | succ d ih =>
    intro y hy h1
    refine ev_step ?_
    simp only [spec_voSorted.l1]
    have hyl : y < out.length := by omega
    have hmem : out[y] ∈ l := List.mem_of_mem_take (hpm.mem_iff.1 (List.getElem_mem hyl))
    rw [ev_pos (by omega), rdOf_lt [] out y hyl, ev_bind (spec_voBefore.ev out[y] l[i] (hx _ hmem))]
    by_cases c : cmpL out[y] l[i] < 0
    · rw [ev_pos (decide_eq_true c), w64 (by omega) (by omega)]
      refine ih (y + 1) (by omega) (fun j hj hjy => ?_)
      rcases Nat.lt_or_ge j y with e | e
      · exact h1 j hj e
      · have : j = y := by omega
        subst this
        exact c
    · rw [ev_neg (by simp [c])]
      exact hgo y (by omega) h1 (fun _ => c)
theorem spec_voSorted.ev_l0 (l : List (List Int)) (hl : l.length < 1000000) (hx : ∀ x ∈ l, x.length ≤ 9223372036854775807) : ∀ (d i : Nat) (out : List (List Int)), i + d = l.length → out.length = i → upL out → out.Perm (l.take i) → Ev (fun k => spec_voSorted.l0 k out l (i : Int)) (Go.Proofs.YtamfpkefnhcngaaGreatS.sortL l) := by
  intro d
  induction d with
  | zero =>
    intro i out h ho hup hpm
    refine ev_step ?_
    simp only [spec_voSorted.l0]
    rw [List.take_of_length_le (by omega)] at hpm
    rw [ev_neg (by omega), ev_now]
    exact upL_sorted hpm hup
  | succ d ih =>
    intro i out h ho hup hpm
    refine ev_step ?_
    simp only [spec_voSorted.l0]
    have hi : i < l.length := by omega
    rw [ev_pos (by omega), ev_pos (by omega), rdOf_lt [] l i hi]
    exact spec_voSorted.ev_l1 l hl hx i hi out ho hup hpm (fun out' h1 h2 h3 => ih (i + 1) out' (by omega) h1 h2 h3) out.length 0 (by omega) (fun j _ hj => by omega)
theorem spec_voSorted.ev (l : List (List Int)) (hl : l.length < 1000000) (hx : ∀ x ∈ l, x.length ≤ 9223372036854775807) : Ev (fun k => spec_voSorted.f k l) (Go.Proofs.YtamfpkefnhcngaaGreatS.sortL l) := spec_voSorted.ev_l0 l hl hx l.length 0 [] (by omega) rfl List.Pairwise.nil (by simp)
theorem spec_voAll.v (n : Nat) (hn : n ≤ 60) : spec_voAll.f (n : Int) = some ((2 ^ n - 1 : Nat) : Int) := by
  unfold spec_voAll.f
  have h0 : 0 < 2 ^ n := Nat.two_pow_pos n
  have h : 2 ^ n ≤ 2 ^ 60 := Nat.pow_le_pow_right (by omega) hn
  rw [if_pos (by omega), shl_one n (by omega), w64 (by omega) (by omega)]
  congr 1
  omega
theorem spec_bit (m i : Nat) (hm : m < 2 ^ 62) (hi : i ≤ 62) : Int.tmod (shr .i64 (m : Int) (i : Int)) 2 = ((m / 2 ^ i % 2 : Nat) : Int) := by
  rw [shr_nat m i (by omega)]
  generalize m / 2 ^ i = x
  rw [Int.tmod_eq_emod_of_nonneg (by omega)]
  omega
theorem spec_voWeight.ev_l (q : Int) (ws : List Int) (m : Nat) (hm : m < 2 ^ 62) (hl : ws.length ≤ 60) (hw : ∀ x ∈ ws, 0 ≤ x ∧ x ≤ 1000000000) : ∀ (d i : Nat) (s : Int), i + d = ws.length → 0 ≤ s → s + wsum (ws.drop i) (m / 2 ^ i) ≤ 1000000000000 → Ev (fun k => spec_voWeight.l0 k (m : Int) s ws (ws.length : Int) (i : Int)) (s + wsum (ws.drop i) (m / 2 ^ i)) := by
  intro d
  induction d with
  | zero =>
    intro i s h _ _
    refine ev_step ?_
    simp only [spec_voWeight.l0]
    rw [ev_neg (by omega), ev_now, List.drop_of_length_le (by omega)]
    simp [wsum]
  | succ d ih =>
    intro i s h h0 h1
    refine ev_step ?_
    simp only [spec_voWeight.l0]
    have hi : i < ws.length := by omega
    have hx := hw ws[i] (List.getElem_mem hi)
    have hd : wsum (ws.drop i) (m / 2 ^ i) = (if m / 2 ^ i % 2 = 1 then ws[i] else 0) + wsum (ws.drop (i + 1)) (m / 2 ^ (i + 1)) := by
      rw [wsum_drop ws i _ hi, Nat.div_div_eq_div_mul, ← Nat.pow_succ]
    have hb := wsum_bounds (ws.drop (i + 1)) (fun x hx => (hw x (List.mem_of_mem_drop hx)).1) (m / 2 ^ (i + 1))
    rw [ev_pos (by omega), ev_pos (by omega), ev_pos (by omega), spec_bit m i hm (by omega), w64i (n := ws.length) (by omega) (by omega) (by omega), rd_lt ws i hi, hd]
    rw [hd] at h1
    by_cases hbit : m / 2 ^ i % 2 = 1
    · rw [if_pos hbit] at h1 ⊢
      rw [ev_pos (by rw [hbit]; rfl), w64 (by omega) (by omega), ← Int.add_assoc]
      exact ih (i + 1) (s + ws[i]) (by omega) (by omega) (by omega)
    · rw [if_neg hbit] at h1 ⊢
      rw [ev_neg (by omega), Int.zero_add]
      exact ih (i + 1) s (by omega) h0 (by omega)
theorem spec_voWeight.ev (q : Int) (ws : List Int) (m : Nat) (hm : m < 2 ^ 62) (hl : ws.length ≤ 60) (hw : ∀ x ∈ ws, 0 ≤ x ∧ x ≤ 1000000000) : Ev (fun k => spec_voWeight.f k q ws (m : Int)) (wsum ws m) := by
  have hb := wsum_bounds ws (fun x hx => (hw x hx).1) m
  have hs := sum_bounds ws 1000000000 hw
  have := spec_voWeight.ev_l q ws m hm hl hw ws.length 0 0 (by omega) (by omega) (by simp; omega)
  simpa [spec_voWeight.f] using this
theorem winsL_take (q : Int) (ws : List Int) (m : Nat) (h : m < 2 ^ ws.length) : (winsL q ws).take (m + 1) = (winsL q ws).take m ++ [decide (q ≤ wsum ws m)] := by
  rw [List.take_succ_eq_append_getElem (by rw [winsL_length]; exact h), winsL_get]
theorem spec_voWins.ev_l (q : Int) (ws : List Int) (hl : ws.length ≤ 9) (hw : ∀ x ∈ ws, 0 ≤ x ∧ x ≤ 1000000000) : ∀ (d m : Nat), m + d = 2 ^ ws.length → Ev (fun k => spec_voWins.l0 k ((winsL q ws).take m) (m : Int) q ws) (winsL q ws) := by
  have hp : 2 ^ ws.length ≤ 2 ^ 9 := Nat.pow_le_pow_right (by omega) hl
  have h0 : 0 < 2 ^ ws.length := Nat.two_pow_pos _
  intro d
  induction d with
  | zero =>
    intro m h
    refine ev_step ?_
    simp only [spec_voWins.l0]
    rw [ev_bind (ev_of (spec_voAll.v ws.length (by omega))), ev_neg (by omega), ev_now, List.take_of_length_le (by rw [winsL_length]; omega)]
  | succ d ih =>
    intro m h
    refine ev_step ?_
    simp only [spec_voWins.l0]
    rw [ev_bind (ev_of (spec_voAll.v ws.length (by omega))), ev_pos (by omega), ev_bind (spec_voWeight.ev q ws m (by omega) (by omega) hw), ev_pos (by simp; omega), w64i (n := 512) (by omega) (by omega) (by omega)]
    have := ih (m + 1) (by omega)
    rw [winsL_take q ws m (by omega)] at this
    exact this
theorem spec_voWins.ev (q : Int) (ws : List Int) (hl : ws.length ≤ 9) (hw : ∀ x ∈ ws, 0 ≤ x ∧ x ≤ 1000000000) : Ev (fun k => spec_voWins.f k q ws) (winsL q ws) := by
  have := spec_voWins.ev_l q ws hl hw (2 ^ ws.length) 0 (by omega)
  simpa [spec_voWins.f] using this
theorem bitB_or {m i : Nat} (h : ¬ bitB m i = true) (hm : m < 2 ^ 62) (hi : i ≤ 61) : Go.bits .or .i64 (m : Int) ((2 ^ i : Nat) : Int) = ((m + 2 ^ i : Nat) : Int) := by
  have hp : 2 ^ i ≤ 2 ^ 61 := Nat.pow_le_pow_right (by omega) hi
  have hb : m / 2 ^ i % 2 = 0 := by
    simp [bitB] at h
    omega
  rw [or_nat m (2 ^ i) hm (by omega), or_pow i m hb]
theorem bitB_lt {m n i : Nat} (h : ¬ bitB m i = true) (hm : m < 2 ^ n) (hi : i < n) : m + 2 ^ i < 2 ^ n := by
  have hb : m / 2 ^ i % 2 = 0 := by
    simp [bitB] at h
    omega
  have := or_pow i m hb
  rw [← this]
  exact Nat.or_lt_two_pow hm (Nat.pow_lt_pow_right (by omega) hi)
def incB : List Int → Bool
  | a :: b :: l => decide (a < b) && incB (b :: l)
  | _ => true
theorem incB_short {l : List Int} (h : l.length ≤ 1) : incB l = true := by
  cases l with
  | nil => rfl
  | cons a l =>
    cases l with
    | nil => rfl
    | cons b l => simp at h
theorem incB_at (l : List Int) (i : Nat) (h0 : 0 < i) (h : i < l.length) : incB (l.drop (i - 1)) = (decide (l[i - 1] < l[i]) && incB (l.drop i)) := by
  rw [List.drop_eq_getElem_cons (show i - 1 < l.length by omega), show i - 1 + 1 = i by omega, List.drop_eq_getElem_cons h]
  rfl
theorem incB_tail {a : Int} {l : List Int} (h : incB (a :: l) = true) : incB l = true := by
  cases l with
  | nil => rfl
  | cons b l =>
    simp only [incB, Bool.and_eq_true] at h
    exact h.2
def setB (n : Int) (l : List Int) : Bool := (l.all fun x => decide (0 ≤ x) && decide (x ≤ n - 1)) && incB l
theorem setB_in {n : Int} {l : List Int} (h : setB n l = true) : ∀ x ∈ l, 0 ≤ x ∧ x < n := by
  intro x hx
  simp only [setB, Bool.and_eq_true, List.all_eq_true] at h
  have := h.1 x hx
  simp at this
  omega
def orBits (m : Nat) (l : List Int) : Nat := l.foldl (fun m x => m ||| 2 ^ x.toNat) m
def maskN (l : List Int) : Nat := orBits 0 l
theorem orBits_lt (n : Nat) : ∀ (l : List Int) (m : Nat), m < 2 ^ n → (∀ x ∈ l, 0 ≤ x ∧ x < (n : Int)) → orBits m l < 2 ^ n
  | [], m, h, _ => h
  | a :: l, m, h, hb => by
    have h1 := hb a List.mem_cons_self
    refine orBits_lt n l (m ||| 2 ^ a.toNat) (Nat.or_lt_two_pow h (Nat.pow_lt_pow_right (by omega) (by omega))) (fun x hx => hb x (List.mem_cons_of_mem _ hx))
theorem maskN_lt (n : Nat) (l : List Int) (hb : ∀ x ∈ l, 0 ≤ x ∧ x < (n : Int)) : maskN l < 2 ^ n := orBits_lt n l 0 (Nat.two_pow_pos n) hb
theorem setB_mask {n : Nat} {l : List Int} (h : setB (n : Int) l = true) : maskN l < 2 ^ n := maskN_lt n l (setB_in h)
def mAt (l : List (List Int)) (i : Nat) : Nat := maskN (l.getD i [])
def gOrd (l : List (List Int)) (i : Nat) : Bool := decide (i = 0) || decide (cmpL (l.getD (i - 1) []) (l.getD i []) < 0)
def gInS (l : List (List Int)) (i j : Nat) : Bool := !(decide (mAt l i &&& mAt l j = mAt l i)) && !(decide (mAt l i &&& mAt l j = mAt l j))
def gS (l : List (List Int)) (i : Nat) : Bool := gOrd l i && (List.range' 0 i).all (gInS l i)
structure GoodG (n : Int) (l : List (List Int)) : Prop where
  n1 : 1 ≤ n
  n9 : n ≤ 9
  ne : l.length ≠ 0
  sets : ∀ x ∈ l, x.length ≠ 0 ∧ setB n x = true
  gs : ∀ i, i < l.length → gS l i = true
theorem bitB_test (m i : Nat) : bitB m i = m.testBit i := by rw [bitB, Nat.testBit_eq_decide_div_mod_eq]
theorem orBits_test : ∀ (x : List Int) (m i : Nat), (∀ y ∈ x, 0 ≤ y) → (orBits m x).testBit i = (m.testBit i || x.contains (i : Int))
  | [], m, i, _ => by simp [orBits]
  | y :: x, m, i, h => by
    have hy := h y List.mem_cons_self
    have ih := orBits_test x (m ||| 2 ^ y.toNat) i (fun z hz => h z (List.mem_cons_of_mem _ hz))
    show (orBits (m ||| 2 ^ y.toNat) x).testBit i = _
    rw [ih, Nat.testBit_or, Nat.testBit_two_pow, List.contains_cons, Bool.or_assoc]
    congr 2
    by_cases e : y.toNat = i
    · rw [decide_eq_true e, beq_iff_eq.2 (show (i : Int) = y by omega)]
    · rw [decide_eq_false e, beq_eq_false_iff_ne.2 (show (i : Int) ≠ y by omega)]
theorem maskN_test (x : List Int) (i : Nat) (h : ∀ y ∈ x, 0 ≤ y) : (maskN x).testBit i = x.contains (i : Int) := by
  rw [maskN, orBits_test x 0 i h]
  simp
theorem sub_pow_test (m i j : Nat) (h : m.testBit i = true) : (m - 2 ^ i).testBit j = (m.testBit j && !(decide (j = i))) := by
  have hb : m / 2 ^ i % 2 = 1 := by rw [Nat.testBit_eq_decide_div_mod_eq] at h; simpa using h
  have hge : 2 ^ i ≤ m := by
    rcases Nat.lt_or_ge m (2 ^ i) with h1 | h1
    · rw [Nat.div_eq_of_lt h1] at hb; omega
    · exact h1
  have h0 : (m - 2 ^ i) / 2 ^ i % 2 = 0 := by
    have e : m = (m - 2 ^ i) + 2 ^ i := by omega
    have e2 : m / 2 ^ i = (m - 2 ^ i) / 2 ^ i + 1 := by
      conv => lhs; rw [e]
      exact Nat.add_div_right _ (Nat.two_pow_pos i)
    omega
  have hor := or_pow i (m - 2 ^ i) h0
  rw [Nat.sub_add_cancel hge] at hor
  have hmj : m.testBit j = ((m - 2 ^ i).testBit j || (2 ^ i).testBit j) := by rw [← Nat.testBit_or, hor]
  by_cases e : j = i
  · subst e
    rw [decide_eq_true rfl, Bool.not_true, Bool.and_false, Nat.testBit_eq_decide_div_mod_eq, h0]
    rfl
  · rw [hmj, Nat.testBit_two_pow_of_ne (fun h => e h.symm), decide_eq_false e]
    simp
theorem setN_contains (m i : Nat) (hi : i < 62) : (setN m).contains (i : Int) = m.testBit i := by
  rw [← bitB_test, Bool.eq_iff_iff, List.contains_iff_mem, setN, List.mem_map]
  constructor
  · rintro ⟨j, hj, e⟩
    rw [List.mem_filter] at hj
    rw [← show j = i by omega]
    exact hj.2
  · intro h
    exact ⟨i, List.mem_filter.2 ⟨List.mem_range.2 hi, h⟩, rfl⟩
theorem tmod_nat (a b : Nat) : Int.tmod (a : Int) (b : Int) = ((a % b : Nat) : Int) := (Int.ofNat_tmod a b).symm
theorem impl_gcd.ev : ∀ (b a : Nat), Ev (fun k => impl_gcd.f k (a : Int) (b : Int)) ((Nat.gcd a b : Nat) : Int) := by
  intro b
  induction b using Nat.strongRecOn with
  | ind b ih =>
    intro a
    simp only [impl_gcd.f]
    refine ev_step ?_
    simp only [impl_gcd.l0]
    by_cases h : b = 0
    · subst h
      rw [ev_pos (by omega), ev_now, Nat.gcd_zero_right]
    · rw [ev_neg (by omega), tmod_nat, show Nat.gcd a b = Nat.gcd b (a % b) by rw [Nat.gcd_comm a b, Nat.gcd_rec b a, Nat.gcd_comm]]
      exact ih (a % b) (Nat.mod_lt _ (by omega)) b
theorem tmod_nat2 (a b : Nat) : Int.tmod (a : Int) (b : Int) = ((a % b : Nat) : Int) := (Int.ofNat_tmod a b).symm
theorem spec_pwCommon.ev : ∀ (b a : Nat), Ev (fun k => spec_pwCommon.f k (a : Int) (b : Int)) ((Nat.gcd a b : Nat) : Int) := by
  intro b
  induction b using Nat.strongRecOn with
  | ind b ih =>
    intro a
    simp only [spec_pwCommon.f]
    refine ev_step ?_
    simp only [spec_pwCommon.l0]
    by_cases h : b = 0
    · subst h
      rw [ev_neg (by omega), ev_now, Nat.gcd_zero_right]
    · rw [ev_pos (by omega), ev_neg (by omega), tmod_nat2, show Nat.gcd a b = Nat.gcd b (a % b) by rw [Nat.gcd_comm a b, Nat.gcd_rec b a, Nat.gcd_comm]]
      exact ih (a % b) (Nat.mod_lt _ (by omega)) b
def shN (n t : Int) : Int × Int := (((n.toNat / Nat.gcd n.toNat t.toNat : Nat) : Int), ((t.toNat / Nat.gcd n.toNat t.toNat : Nat) : Int))
theorem tdiv_natS (a b : Nat) : Int.tdiv (a : Int) (b : Int) = ((a / b : Nat) : Int) := (Int.ofNat_tdiv a b).symm
theorem impl_shareOf.ev (n t : Int) (hn : 0 ≤ n) (ht : 1 ≤ t) (hn2 : n ≤ 1000000000000) (ht2 : t ≤ 1000000000000) : Ev (fun k => impl_shareOf.f k n t) (shN n t) := by
  have hg := impl_gcd.ev t.toNat n.toNat
  have hp : 0 < Nat.gcd n.toNat t.toNat := Nat.gcd_pos_of_pos_right _ (by omega)
  have h1 := Nat.div_le_self n.toNat (Nat.gcd n.toNat t.toNat)
  have h2 := Nat.div_le_self t.toNat (Nat.gcd n.toNat t.toNat)
  rw [show ((n.toNat : Nat) : Int) = n by omega, show ((t.toNat : Nat) : Int) = t by omega] at hg
  have e1 : Int.tdiv n ((Nat.gcd n.toNat t.toNat : Nat) : Int) = ((n.toNat / Nat.gcd n.toNat t.toNat : Nat) : Int) := by
    conv => lhs; rw [show n = ((n.toNat : Nat) : Int) by omega]
    rw [tdiv_natS, Int.toNat_natCast]
  have e2 : Int.tdiv t ((Nat.gcd n.toNat t.toNat : Nat) : Int) = ((t.toNat / Nat.gcd n.toNat t.toNat : Nat) : Int) := by
    conv => lhs; rw [show t = ((t.toNat : Nat) : Int) by omega]
    rw [tdiv_natS, Int.toNat_natCast]
  simp only [impl_shareOf.f]
  rw [ev_bind hg, ev_neg (by omega), ev_now, e1, e2]
  clear hg e1 e2
  unfold shN
  generalize n.toNat / Nat.gcd n.toNat t.toNat = y at *
  generalize t.toNat / Nat.gcd n.toNat t.toNat = z at *
  rw [w64 (by omega) (by omega), w64 (by omega) (by omega)]
theorem spec_pwShare.ev (n t : Int) (hn : 0 ≤ n) (ht : 1 ≤ t) (hn2 : n ≤ 1000000000000) (ht2 : t ≤ 1000000000000) : Ev (fun k => spec_pwShare.f k n t) (shN n t) := by
  have hg := spec_pwCommon.ev t.toNat n.toNat
  have hp : 0 < Nat.gcd n.toNat t.toNat := Nat.gcd_pos_of_pos_right _ (by omega)
  have h1 := Nat.div_le_self n.toNat (Nat.gcd n.toNat t.toNat)
  have h2 := Nat.div_le_self t.toNat (Nat.gcd n.toNat t.toNat)
  rw [show ((n.toNat : Nat) : Int) = n by omega, show ((t.toNat : Nat) : Int) = t by omega] at hg
  have e1 : Int.tdiv n ((Nat.gcd n.toNat t.toNat : Nat) : Int) = ((n.toNat / Nat.gcd n.toNat t.toNat : Nat) : Int) := by
    conv => lhs; rw [show n = ((n.toNat : Nat) : Int) by omega]
    rw [tdiv_natS, Int.toNat_natCast]
  have e2 : Int.tdiv t ((Nat.gcd n.toNat t.toNat : Nat) : Int) = ((t.toNat / Nat.gcd n.toNat t.toNat : Nat) : Int) := by
    conv => lhs; rw [show t = ((t.toNat : Nat) : Int) by omega]
    rw [tdiv_natS, Int.toNat_natCast]
  simp only [spec_pwShare.f]
  rw [ev_bind hg, ev_neg (by omega), ev_now, e1, e2]
  clear hg e1 e2
  unfold shN
  generalize n.toNat / Nat.gcd n.toNat t.toNat = y at *
  generalize t.toNat / Nat.gcd n.toNat t.toNat = z at *
  rw [w64 (by omega) (by omega), w64 (by omega) (by omega)]
def shRow (l : List Int) (t : Int) : List S60 := l.map fun n => ⟨(shN n t).1, (shN n t).2⟩
theorem shRow_snoc (l : List Int) (t : Int) (i : Nat) (h : i < l.length) : shRow (l.take (i + 1)) t = shRow (l.take i) t ++ [⟨(shN l[i] t).1, (shN l[i] t).2⟩] := by
  rw [List.take_succ_eq_append_getElem h, shRow, List.map_append]
  rfl
theorem impl_sharesOf.ev_l (l : List Int) (t : Int) (hl : l.length ≤ 1000000) (ht : 1 ≤ t) (ht2 : t ≤ 1000000000000) (hx : ∀ x ∈ l, 0 ≤ x ∧ x ≤ 1000000000000) : ∀ (d i : Nat), i + d = l.length → Ev (fun k => impl_sharesOf.l0 k t (shRow (l.take i) t) l (l.length : Int) (i : Int)) (shRow l t) := by
  intro d
  induction d with
  | zero =>
    intro i h
    refine ev_step ?_
    simp only [impl_sharesOf.l0]
    rw [ev_neg (by omega), ev_now, List.take_of_length_le (by omega)]
  | succ d ih =>
    intro i h
    refine ev_step ?_
    simp only [impl_sharesOf.l0]
    have hi : i < l.length := by omega
    have hxi := hx l[i] (List.getElem_mem hi)
    have hlen : (shRow (l.take i) t).length = i := by simp [shRow]; omega
    have := ih (i + 1) (by omega)
    rw [shRow_snoc l t i hi] at this
    rw [ev_pos (by omega), ev_pos (by omega), ev_pos (by omega), rd_lt l i hi, ev_bind (impl_shareOf.ev l[i] t hxi.1 ht hxi.2 ht2), ev_pos (by omega), w64i (n := l.length) (by omega) (by omega) (by omega)]
    exact this
theorem impl_sharesOf.ev (l : List Int) (t : Int) (hl : l.length ≤ 1000000) (ht : 1 ≤ t) (ht2 : t ≤ 1000000000000) (hx : ∀ x ∈ l, 0 ≤ x ∧ x ≤ 1000000000000) : Ev (fun k => impl_sharesOf.f k l t) (shRow l t) := impl_sharesOf.ev_l l t hl ht ht2 hx l.length 0 (by omega)
def takeI (P : Nat → Bool) (i : Nat) : List Int := ((List.range i).filter P).map fun (i : Nat) => (i : Int)
theorem takeI_succ (P : Nat → Bool) (i : Nat) : takeI P (i + 1) = if P i = true then takeI P i ++ [(i : Int)] else takeI P i := by
  unfold takeI
  rw [List.range_succ, List.filter_append, List.map_append]
  by_cases h : P i = true
  · rw [if_pos h]
    simp [h]
  · rw [if_neg h]
    simp [h]
theorem takeI_len (P : Nat → Bool) (i : Nat) : (takeI P i).length ≤ i := by
  unfold takeI
  rw [List.length_map]
  have := List.length_filter_le P (List.range i)
  rw [List.length_range] at this
  exact this
theorem impl_members.ev_l (n : Nat) (hn : n ≤ 1000000) (p : Int → Bool) : ∀ (d i : Nat), i + d = n → Ev (fun k => impl_members.l0 k (fun x => some (p x)) (n : Int) (takeI (fun i => p (i : Int)) i) (i : Int)) (takeI (fun i => p (i : Int)) n) := by
  intro d
  induction d with
  | zero =>
    intro i h
    refine ev_step ?_
    simp only [impl_members.l0]
    rw [ev_neg (by omega), ev_now, show i = n by omega]
  | succ d ih =>
    intro i h
    refine ev_step ?_
    simp only [impl_members.l0, Option.bind_some]
    have hl := takeI_len (fun i => p (i : Int)) i
    have hih := ih (i + 1) (by omega)
    rw [takeI_succ] at hih
    rw [ev_pos (by omega), w64 (by omega) (by omega)]
    by_cases hp : p (i : Int) = true
    · rw [if_pos hp] at hih
      rw [ev_pos hp, ev_pos (by omega)]
      exact hih
    · rw [if_neg hp] at hih
      rw [ev_neg hp]
      exact hih
theorem impl_members.ev (n : Nat) (hn : n ≤ 1000000) (p : Int → Bool) : Ev (fun k => impl_members.g k (n : Int) (fun x => some (p x))) (takeI (fun i => p (i : Int)) n) := impl_members.ev_l n hn p n 0 (by omega)
def idleP (L : List (List Int)) (i : Nat) : Bool := !(L.any fun s => s.contains (i : Int))
theorem impl_votes_idle.ev (W : List Bool) (n : Nat) (hW : W.length = 2 ^ n) (hn : n ≤ 18) : Ev (fun k => impl_votes_idle.f k (n : Int) W) (takeI (idleP (Go.Proofs.YtamfpkefnhcngaaGreatS.sortL (takeL (leastB W n) W.length))) n) := by
  simp only [impl_votes_idle.f]
  rw [ev_pos (by omega), ev_bind (impl_votes_least.ev W n hW hn)]
  exact impl_members.ev n (by omega) _
theorem wsum_mono (ws : List Int) (h : ∀ x ∈ ws, 0 ≤ x) : ∀ m m' : Nat, (∀ i, m.testBit i = true → m'.testBit i = true) → wsum ws m ≤ wsum ws m' := by
  induction ws with
  | nil => intro m m' _; simp [wsum]
  | cons w ws ih =>
    intro m m' hs
    have h1 := ih (fun x hx => h x (List.mem_cons_of_mem _ hx)) (m / 2) (m' / 2) (fun i hi => by
      have := hs (i + 1) (by rw [Nat.testBit_succ]; exact hi)
      rw [Nat.testBit_succ] at this
      exact this)
    have h2 := hs 0
    have h3 := h w List.mem_cons_self
    simp only [Nat.testBit_zero, decide_eq_true_eq] at h2
    simp only [wsum]
    split <;> split <;> omega
theorem wins_mono {q : Int} {ws : List Int} (h : ∀ x ∈ ws, 0 ≤ x) {m m' : Nat} (hm : m < 2 ^ ws.length) (hm' : m' < 2 ^ ws.length) (hs : ∀ i, m.testBit i = true → m'.testBit i = true) (hw : (winsL q ws).getD m false = true) : (winsL q ws).getD m' false = true := by
  rw [winsL_getD _ _ _ hm, decide_eq_true_eq] at hw
  rw [winsL_getD _ _ _ hm', decide_eq_true_eq]
  have := wsum_mono ws h m m' hs
  omega
theorem leastB_bits {W : List Bool} {n m : Nat} (h : leastB W n m = true) : W.getD m false = true ∧ ∀ i, i < n → m.testBit i = true → W.getD (m - 2 ^ i) false = false := by
  simp only [leastB, Bool.and_eq_true, List.all_eq_true, List.mem_range] at h
  refine ⟨h.1, fun i hi hb => ?_⟩
  have := h.2 i hi
  rw [bitB_test, hb] at this
  simpa using this
theorem leastB_of {W : List Bool} {n m : Nat} (h1 : W.getD m false = true) (h2 : ∀ i, i < n → m.testBit i = true → W.getD (m - 2 ^ i) false = false) : leastB W n m = true := by
  simp only [leastB, Bool.and_eq_true, List.all_eq_true, List.mem_range]
  refine ⟨h1, fun i hi => ?_⟩
  rw [bitB_test]
  cases hb : m.testBit i with
  | false => rfl
  | true => rw [h2 i hi hb]; rfl
theorem pow_le_of_bit {m i : Nat} (h : m.testBit i = true) : 2 ^ i ≤ m := by
  rcases Nat.lt_or_ge m (2 ^ i) with h2 | h2
  · rw [Nat.testBit_lt_two_pow h2] at h; cases h
  · exact h2
theorem least_sub (W : List Bool) (n : Nat) : ∀ m, m < 2 ^ n → W.getD m false = true → ∃ m', m' < 2 ^ n ∧ leastB W n m' = true ∧ ∀ i, m'.testBit i = true → m.testBit i = true := by
  intro m
  induction m using Nat.strongRecOn with
  | ind m ih =>
    intro hm hw
    by_cases h : ∀ i, i < n → m.testBit i = true → W.getD (m - 2 ^ i) false = false
    · exact ⟨m, hm, leastB_of hw h, fun _ h => h⟩
    · have h := Classical.not_forall.1 h
      obtain ⟨i, h⟩ := h
      simp only [Classical.not_imp, Bool.not_eq_false] at h
      obtain ⟨hi, hb, hv⟩ := h
      have hp := pow_le_of_bit hb
      have h0 := Nat.two_pow_pos i
      obtain ⟨m', a, b, c⟩ := ih (m - 2 ^ i) (by omega) (by omega) hv
      refine ⟨m', a, b, fun j hj => ?_⟩
      have := c j hj
      rw [sub_pow_test m i j hb] at this
      simp only [Bool.and_eq_true] at this
      exact this.1
theorem takeI_mem {P : Nat → Bool} {n : Nat} {x : Int} : x ∈ takeI P n ↔ ∃ i : Nat, i < n ∧ P i = true ∧ x = (i : Int) := by
  simp only [takeI, List.mem_map, List.mem_filter, List.mem_range]
  constructor
  · rintro ⟨i, ⟨h1, h2⟩, rfl⟩; exact ⟨i, h1, h2, rfl⟩
  · rintro ⟨i, h1, h2, rfl⟩; exact ⟨i, ⟨h1, h2⟩, rfl⟩
theorem takeI_has (P : Nat → Bool) (n i : Nat) (hi : i < n) : (takeI P n).contains (i : Int) = P i := by
  rw [Bool.eq_iff_iff, List.contains_iff_mem, takeI_mem]
  constructor
  · rintro ⟨j, _, h2, h3⟩
    have : i = j := by omega
    rw [this]; exact h2
  · intro h; exact ⟨i, hi, h, rfl⟩
theorem incB_snoc (l : List Int) (a : Int) (h : incB l = true) (hb : ∀ x ∈ l, x < a) : incB (l ++ [a]) = true := by
  induction l with
  | nil => rfl
  | cons b l ih =>
    have h1 := ih (incB_tail h) (fun x hx => hb x (List.mem_cons_of_mem _ hx))
    cases l with
    | nil => simp [incB]; exact hb b List.mem_cons_self
    | cons c l =>
      simp only [incB, Bool.and_eq_true] at h
      simp only [List.cons_append, incB, Bool.and_eq_true]
      exact ⟨h.1, h1⟩
theorem takeI_inc (P : Nat → Bool) : ∀ n, incB (takeI P n) = true := by
  intro n
  induction n with
  | zero => rfl
  | succ n ih =>
    rw [takeI_succ]
    split
    · refine incB_snoc _ _ ih (fun x hx => ?_)
      obtain ⟨i, h1, _, rfl⟩ := takeI_mem.1 hx
      omega
    · exact ih
theorem takeI_set (P : Nat → Bool) (n : Nat) : setB (n : Int) (takeI P n) = true := by
  simp only [setB, Bool.and_eq_true, List.all_eq_true, decide_eq_true_eq]
  refine ⟨fun x hx => ?_, takeI_inc P n⟩
  obtain ⟨i, h1, _, rfl⟩ := takeI_mem.1 hx
  omega
theorem maskN_takeI (P : Nat → Bool) (n i : Nat) : (maskN (takeI P n)).testBit i = (decide (i < n) && P i) := by
  rw [maskN_test _ _ (fun y hy => by obtain ⟨j, _, _, rfl⟩ := takeI_mem.1 hy; omega)]
  by_cases h : i < n
  · rw [takeI_has P n i h, decide_eq_true h, Bool.true_and]
  · rw [decide_eq_false h, Bool.false_and]
    cases hc : (takeI P n).contains (i : Int) with
    | false => rfl
    | true =>
      obtain ⟨j, h1, _, h3⟩ := takeI_mem.1 (List.contains_iff_mem.1 hc)
      omega
theorem compl_test (n m i : Nat) (hm : m < 2 ^ n) : (2 ^ n - 1 - m).testBit i = (decide (i < n) && !(m.testBit i)) := by
  rw [show 2 ^ n - 1 - m = 2 ^ n - (m + 1) by omega, Nat.testBit_two_pow_sub_succ hm]
theorem maskN_oth (s : List Int) (n : Nat) (hs : setB (n : Int) s = true) : maskN (takeI (fun i => !(s.contains (i : Int))) n) = 2 ^ n - 1 - maskN s := by
  apply Nat.eq_of_testBit_eq
  intro i
  rw [maskN_takeI, compl_test n _ i (setB_mask hs), maskN_test s i (fun y hy => (setB_in hs y hy).1)]
def swingB (W : List Bool) (c m : Nat) : Bool := !(bitB m c) && (!(W.getD m false) && W.getD (m + 2 ^ c) false)
def memB (q : Int) (ws : List Int) (a : Int) : Bool := goodB q ws && (decide (0 ≤ a) && decide (a ≤ (ws.length : Int) - 1))
theorem impl_votes_isSwing.v (W : List Bool) (n c m : Nat) (hW : W.length = 2 ^ n) (hn : n ≤ 18) (hc : c < n) (hm : m < 2 ^ n) : impl_votes_isSwing.f (n : Int) W (m : Int) (c : Int) = some (swingB W c m) := by
  have hp : 2 ^ n ≤ 2 ^ 18 := Nat.pow_le_pow_right (by omega) hn
  simp only [impl_votes_isSwing.f]
  rw [show impl_has.f (m : Int) (c : Int) = some (bitB m c) from impl_has.v m c (by omega) (by omega), Option.bind_some, swingB]
  by_cases hb : bitB m c = true
  · rw [if_pos hb, hb]
    rfl
  · have hlt : m + 2 ^ c < W.length := by rw [hW]; exact bitB_lt hb hm hc
    rw [if_neg hb, if_pos (by omega), if_pos (by omega), rdOf_nat, Bool.eq_false_iff.2 hb, Bool.not_false, Bool.true_and]
    cases hw : W.getD m false with
    | true =>
      rw [if_pos rfl]
      rfl
    | false =>
      rw [if_neg (by decide), if_pos (by omega), shl_one c (by omega), bitB_or hb (by omega) (by omega), if_pos (Int.natCast_nonneg _), if_pos (Int.ofNat_lt.2 hlt), rdOf_nat]
      rfl
def swV (q : Int) (ws : List Int) (a : Int) : List (List Int) × Bool := if memB q ws a = true then (Go.Proofs.YtamfpkefnhcngaaGreatS.sortL (takeL (swingB (winsL q ws) a.toNat) (winsL q ws).length), true) else ([], false)
theorem impl_isMember.ev (q : Int) (ws : List Int) (a : Int) (hl : ws.length ≤ 9223372036854775807) : Ev (fun k => impl_isMember.f k q ws a) (memB q ws a) := by
  simp only [impl_isMember.f]
  rw [ev_bind (impl_IsCommittee.ev q ws hl)]
  unfold memB
  cases hg : goodB q ws with
  | false => rw [ev_neg (by decide), ev_now]; rfl
  | true =>
    have h9 := ((good_iff q ws).1 hg).l9
    rw [ev_pos rfl, w64 (by omega) (by omega), ev_bind (ev_of (impl_within.v _ _ _)), ev_now]
    rfl
theorem spec_pwMember.ev (q : Int) (ws : List Int) (a : Int) (hl : ws.length ≤ 9223372036854775807) : Ev (fun k => spec_pwMember.f k q ws a) (memB q ws a) := by
  simp only [spec_pwMember.f]
  rw [ev_bind (spec_voGood.ev q ws hl)]
  unfold memB
  cases hg : goodB q ws with
  | false => rw [ev_neg (by decide), ev_now]; rfl
  | true =>
    have h9 := ((good_iff q ws).1 hg).l9
    rw [ev_pos rfl, w64 (by omega) (by omega), ev_bind (ev_of (spec_l1In.v _ _ _)), ev_now]
    rfl
theorem memB_iff {q : Int} {ws : List Int} {a : Int} (h : memB q ws a = true) : GoodC q ws ∧ ∃ c : Nat, a = (c : Int) ∧ c < ws.length := by
  simp only [memB, Bool.and_eq_true, decide_eq_true_eq] at h
  obtain ⟨c, hc⟩ := Int.eq_ofNat_of_zero_le h.2.1
  exact ⟨(good_iff q ws).1 h.1, c, hc, by omega⟩
theorem impl_SwingSets.ev (q : Int) (ws : List Int) (a : Int) (hl : ws.length ≤ 9223372036854775807) : Ev (fun k => impl_SwingSets.f k q ws a) (swV q ws a) := by
  simp only [impl_SwingSets.f]
  rw [ev_bind (impl_isMember.ev q ws a hl)]
  unfold swV
  cases hg : memB q ws a with
  | false => rw [ev_neg (by decide), ev_now, if_neg (by decide)]
  | true =>
    obtain ⟨hc, c, rfl, hcl⟩ := memB_iff hg
    have h9 := hc.l9
    have hp := hc.pow
    have hwl := winsL_length q ws
    have hs := impl_votes_sets.ev (winsL q ws) (by omega) (fun _ x => impl_votes_isSwing.f (ws.length : Int) (winsL q ws) x (c : Int)) (swingB (winsL q ws) c) (fun m hm => ev_of (impl_votes_isSwing.v (winsL q ws) ws.length c m hwl (by omega) hcl (by omega)))
    rw [ev_pos rfl, if_pos rfl, Int.toNat_natCast, ev_bind (impl_Committee_votes.ev q ws h9 hc.wb), ev_bind hs, ev_now]
def takeM (P : Nat → Bool) (i : Nat) : List Int := ((List.range i).filter P).map fun (i : Nat) => (i : Int)
theorem takeM_succ (P : Nat → Bool) (i : Nat) : takeM P (i + 1) = if P i = true then takeM P i ++ [(i : Int)] else takeM P i := by
  unfold takeM
  rw [List.range_succ, List.filter_append, List.map_append]
  by_cases h : P i = true
  · rw [if_pos h]
    simp [h]
  · rw [if_neg h]
    simp [h]
theorem takeM_len (P : Nat → Bool) (i : Nat) : (takeM P i).length ≤ i := by
  unfold takeM
  rw [List.length_map]
  have := List.length_filter_le P (List.range i)
  rw [List.length_range] at this
  exact this
theorem takeM_in {P : Nat → Bool} {i : Nat} : ∀ x ∈ takeM P i, ∃ m : Nat, x = (m : Int) ∧ m < i := by
  intro x hx
  obtain ⟨m, hm, rfl⟩ := List.mem_map.1 hx
  exact ⟨m, rfl, List.mem_range.1 (List.mem_filter.1 hm).1⟩
theorem takeL_takeM (P : Nat → Bool) (i : Nat) : takeL P i = (takeM P i).map fun x => setN x.toNat := by
  unfold takeL takeM
  rw [List.map_map]
  rfl
theorem spec_pwSwings.ev_l (W : List Bool) (n c : Nat) (hW : W.length = 2 ^ n) (hn : n ≤ 18) (hc : c < n) : ∀ (d m : Nat), m + d = W.length → Ev (fun k => spec_pwSwings.l0 k W (c : Int) (takeM (swingB W c) m) W (W.length : Int) (m : Int)) (takeM (swingB W c) W.length) := by
  have hp : 2 ^ n ≤ 2 ^ 18 := Nat.pow_le_pow_right (by omega) hn
  intro d
  induction d with
  | zero =>
    intro m h
    refine ev_step ?_
    simp only [spec_pwSwings.l0]
    rw [ev_neg (by omega), ev_now, show m = W.length by omega]
  | succ d ih =>
    intro m h
    refine ev_step ?_
    simp only [spec_pwSwings.l0]
    have hm : m < W.length := by omega
    have hl := takeM_len (swingB W c) m
    have hll : (takeM (swingB W c) m).length < 17592186044416 := by omega
    have hih := ih (m + 1) (by omega)
    rw [takeM_succ, swingB] at hih
    have et : Int.tmod (shr .i64 (m : Int) (c : Int)) 2 = ((m / 2 ^ c % 2 : Nat) : Int) := by
      rw [shr_nat m c (by omega)]
      exact (Int.ofNat_tmod (m / 2 ^ c) 2).symm
    rw [ev_pos (by omega), ev_pos (by omega), ev_pos (by omega), ev_pos (by omega), et, rdOf_nat, w64 (x := (m : Int) + 1) (by omega) (by omega)]
    by_cases hb : bitB m c = true
    · have hb1 : m / 2 ^ c % 2 = 1 := by simpa [bitB] using hb
      rw [hb, Bool.not_true, Bool.false_and, if_neg (by decide)] at hih
      rw [ev_neg (c := ((m / 2 ^ c % 2 : Nat) : Int) = 0) (by rw [hb1]; decide)]
      exact hih
    · have hb1 : m / 2 ^ c % 2 = 0 := by
        simp [bitB] at hb
        omega
      have hlt : m + 2 ^ c < W.length := by rw [hW]; exact bitB_lt hb (by omega) hc
      have e1 : wrap64 ((m : Int) + ((2 ^ c : Nat) : Int)) = ((m + 2 ^ c : Nat) : Int) := by
        generalize 2 ^ c = y at hlt ⊢
        rw [w64 (by omega) (by omega)]
        omega
      rw [Bool.eq_false_iff.2 hb, Bool.not_false, Bool.true_and] at hih
      rw [ev_pos (c := ((m / 2 ^ c % 2 : Nat) : Int) = 0) (by rw [hb1]; rfl)]
      cases hw : W.getD m false with
      | true =>
        rw [hw, Bool.not_true, Bool.false_and, if_neg (by decide)] at hih
        rw [ev_pos rfl]
        exact hih
      | false =>
        rw [hw, Bool.not_false, Bool.true_and] at hih
        rw [ev_neg (by decide), shl_one c (by omega), e1, ev_pos (Int.natCast_nonneg _), ev_pos (Int.ofNat_lt.2 hlt), rdOf_nat]
        cases hv : W.getD (m + 2 ^ c) false with
        | true =>
          rw [hv, if_pos rfl] at hih
          rw [ev_pos rfl, ev_pos hll]
          exact hih
        | false =>
          rw [hv, if_neg (by decide)] at hih
          rw [ev_neg (by decide)]
          exact hih
theorem spec_SwingSets.ev_l (M : List Int) (n : Nat) (hn : n ≤ 18) (hM : M.length ≤ 300000) (hin : ∀ x ∈ M, ∃ m : Nat, x = (m : Int) ∧ m < 2 ^ n) : ∀ (d i : Nat), i + d = M.length → Ev (fun k => spec_SwingSets.l0 k ((M.take i).map fun x => setN x.toNat) M (M.length : Int) (i : Int)) (Go.Proofs.YtamfpkefnhcngaaGreatS.sortL (M.map fun x => setN x.toNat), true) := by
  have hp : 2 ^ n ≤ 2 ^ 18 := Nat.pow_le_pow_right (by omega) hn
  intro d
  induction d with
  | zero =>
    intro i h
    refine ev_step ?_
    simp only [spec_SwingSets.l0]
    rw [ev_neg (by omega), List.take_of_length_le (by omega), ev_bind (spec_voSorted.ev _ (by rw [List.length_map]; omega) (fun x hx => by
      obtain ⟨y, hy, rfl⟩ := List.mem_map.1 hx
      obtain ⟨m, rfl, hm⟩ := hin y hy
      have := setTo_len m n
      rw [← setN_to (m := m) (n := n) hm (by omega)] at this
      rw [Int.toNat_natCast]
      omega)), ev_now]
  | succ d ih =>
    intro i h
    refine ev_step ?_
    simp only [spec_SwingSets.l0]
    have hi : i < M.length := by omega
    obtain ⟨m, hm1, hm2⟩ := hin M[i] (List.getElem_mem hi)
    have hih := ih (i + 1) (by omega)
    rw [List.take_succ_eq_append_getElem hi, List.map_append, List.map_singleton, hm1, Int.toNat_natCast] at hih
    rw [ev_pos (by omega), ev_pos (by omega), ev_pos (by omega), rd_lt M i hi, hm1, ev_bind (spec_voList.ev m (by omega)), ev_pos (by rw [List.length_map, List.length_take]; omega), w64 (x := (i : Int) + 1) (by omega) (by omega)]
    exact hih
theorem spec_SwingSets.ev (q : Int) (ws : List Int) (a : Int) (hl : ws.length ≤ 9223372036854775807) : Ev (fun k => spec_SwingSets.f k q ws a) (swV q ws a) := by
  simp only [spec_SwingSets.f]
  rw [ev_bind (spec_pwMember.ev q ws a hl)]
  unfold swV
  cases hg : memB q ws a with
  | false => rw [ev_neg (by decide), ev_now, if_neg (by decide)]
  | true =>
    obtain ⟨hc, c, rfl, hcl⟩ := memB_iff hg
    have h9 := hc.l9
    have hp := hc.pow
    have hwl := winsL_length q ws
    have hlm := takeM_len (swingB (winsL q ws) c) (winsL q ws).length
    have hsw : Ev (fun k => spec_pwSwings.f k (winsL q ws) (c : Int)) (takeM (swingB (winsL q ws) c) (winsL q ws).length) := spec_pwSwings.ev_l (winsL q ws) ws.length c hwl (by omega) hcl (winsL q ws).length 0 (by omega)
    rw [ev_pos rfl, if_pos rfl, Int.toNat_natCast, ev_bind (spec_voWins.ev q ws h9 hc.wb), ev_bind hsw, takeL_takeM]
    exact spec_SwingSets.ev_l (takeM (swingB (winsL q ws) c) (winsL q ws).length) ws.length (by omega) (by omega) (fun x hx => by
      obtain ⟨m, h1, h2⟩ := takeM_in x hx
      exact ⟨m, h1, by omega⟩) _ 0 (Nat.zero_add _)
theorem swV_few (q : Int) (ws : List Int) (a : Int) : (swV q ws a).1.length ≤ 512 ∧ ∀ s ∈ (swV q ws a).1, s.length ≤ 9 := by
  unfold swV
  split
  · next h => exact sortL_few (memB_iff h).1 (winsL_length q ws)
  · simp
def cntS (W : List Bool) (c m : Nat) : Nat := ((List.range m).filter (swingB W c)).length
def swN (W : List Bool) (c : Nat) : Nat := cntS W c W.length
def swL (W : List Bool) (n : Nat) : List Int := (List.range n).map fun c => ((swN W c : Nat) : Int)
theorem cntS_succ (W : List Bool) (c m : Nat) : cntS W c (m + 1) = cntS W c m + if swingB W c m = true then 1 else 0 := by
  unfold cntS
  rw [List.range_succ, List.filter_append, List.length_append]
  by_cases h : swingB W c m = true
  · rw [if_pos h]; simp [h]
  · rw [if_neg h]; simp [h]
theorem cntS_le (W : List Bool) (c m : Nat) : cntS W c m ≤ m := by
  unfold cntS
  have := List.length_filter_le (swingB W c) (List.range m)
  rw [List.length_range] at this
  exact this
theorem swL_len (W : List Bool) (n : Nat) : (swL W n).length = n := by rw [swL, List.length_map, List.length_range]
theorem swL_get (W : List Bool) (n c : Nat) (h : c < (swL W n).length) : (swL W n)[c] = ((swN W c : Nat) : Int) := by simp [swL]
theorem swL_in {W : List Bool} {n : Nat} (hW : W.length ≤ 512) : ∀ x ∈ swL W n, 0 ≤ x ∧ x ≤ 512 := by
  intro x hx
  obtain ⟨c, _, rfl⟩ := List.mem_map.1 hx
  have := cntS_le W c W.length
  unfold swN
  omega
def swP (W : List Bool) (n c : Nat) : List Int := (List.range n).map fun j => if j < c then ((swN W j : Nat) : Int) else 0
theorem swP_zero (W : List Bool) (n : Nat) : swP W n 0 = List.replicate n 0 := by
  unfold swP
  refine List.ext_getElem (by simp) (fun i h1 h2 => ?_)
  simp
theorem swP_all (W : List Bool) (n : Nat) : swP W n n = swL W n := by
  unfold swP swL
  refine List.map_congr_left (fun j hj => ?_)
  rw [if_pos (List.mem_range.1 hj)]
theorem swP_len (W : List Bool) (n c : Nat) : (swP W n c).length = n := by rw [swP, List.length_map, List.length_range]
theorem swP_set (W : List Bool) (n c : Nat) (h : c < n) : (swP W n c).set c ((swN W c : Nat) : Int) = swP W n (c + 1) := by
  refine List.ext_getElem (by simp [swP]) (fun i h1 h2 => ?_)
  rw [List.getElem_set]
  by_cases e : c = i
  · subst e
    simp [swP]
  · rw [if_neg e]
    simp only [swP, List.getElem_map, List.getElem_range]
    by_cases c1 : i < c
    · rw [if_pos c1, if_pos (by omega)]
    · rw [if_neg c1, if_neg (by omega)]
theorem swP_set0 (W : List Bool) (n c : Nat) (h : c < n) : (swP W n c).set c 0 = swP W n c := by
  refine List.ext_getElem (by simp [swP]) (fun i h1 h2 => ?_)
  rw [List.getElem_set]
  by_cases e : c = i
  · subst e
    simp [swP]
  · rw [if_neg e]
def agB (W : List Bool) (c m : Nat) : Bool := W.getD m false == bitB m c
def cntA (W : List Bool) (c m : Nat) : Nat := ((List.range m).filter (agB W c)).length
def agV (q : Int) (ws : List Int) : List S60 × Bool := if goodB q ws = true then (shRow ((List.range ws.length).map fun c => ((cntA (winsL q ws) c (winsL q ws).length : Nat) : Int)) ((2 ^ ws.length : Nat) : Int), true) else ([], false)
theorem cntA_succ (W : List Bool) (c m : Nat) : cntA W c (m + 1) = cntA W c m + if agB W c m = true then 1 else 0 := by
  unfold cntA
  rw [List.range_succ, List.filter_append, List.length_append]
  by_cases h : agB W c m = true
  · rw [if_pos h]; simp [h]
  · rw [if_neg h]; simp [h]
theorem cntA_le (W : List Bool) (c m : Nat) : cntA W c m ≤ m := by
  unfold cntA
  have := List.length_filter_le (agB W c) (List.range m)
  rw [List.length_range] at this
  exact this
theorem sum_const (N c : Nat) : ((List.range N).map fun _ => c).sum = N * c := by
  induction N with
  | zero => simp
  | succ N ih => rw [List.range_succ, List.map_append, List.sum_append_nat, ih, Nat.succ_mul]; simp
theorem pair_sum (c : Nat) : ∀ (n : Nat) (f : Nat → Nat), c < n → ((List.range (2 ^ n)).map f).sum = ((List.range (2 ^ n)).map fun m => if bitB m c = true then 0 else f m + f (m + 2 ^ c)).sum := by
  have hsplit : ∀ (n : Nat) (f : Nat → Nat), ((List.range (2 ^ (n + 1))).map f).sum = ((List.range (2 ^ n)).map f).sum + ((List.range (2 ^ n)).map fun m => f (2 ^ n + m)).sum := by
    intro n f
    rw [show 2 ^ (n + 1) = 2 ^ n + 2 ^ n by rw [Nat.pow_succ]; omega, List.range_add, List.map_append, List.sum_append_nat, List.map_map]
    rfl
  have hadd : ∀ (L : List Nat) (f g : Nat → Nat), (L.map f).sum + (L.map g).sum = (L.map fun m => f m + g m).sum := by
    intro L f g
    induction L with
    | nil => rfl
    | cons a L ih => simp only [List.map_cons, List.sum_cons]; omega
  have hcong : ∀ (L : List Nat) (f g : Nat → Nat), (∀ x ∈ L, f x = g x) → (L.map f).sum = (L.map g).sum := fun L f g h => by rw [List.map_congr_left h]
  intro n
  induction n with
  | zero => intro f h; omega
  | succ n ih =>
    intro f h
    rw [hsplit, hsplit n (fun m => if bitB m c = true then 0 else f m + f (m + 2 ^ c))]
    by_cases e : c = n
    · subst e
      have e2 : ((List.range (2 ^ c)).map fun m => if bitB (2 ^ c + m) c = true then 0 else f (2 ^ c + m) + f (2 ^ c + m + 2 ^ c)).sum = ((List.range (2 ^ c)).map fun _ => 0).sum := by
        refine hcong _ _ _ (fun m hm => ?_)
        have hm := List.mem_range.1 hm
        rw [if_pos]
        rw [bitB, decide_eq_true_eq, Nat.add_comm, Nat.add_div_right _ (Nat.two_pow_pos c), Nat.div_eq_of_lt hm]
      have e3 : ((List.range (2 ^ c)).map fun _ => 0).sum = 0 := by rw [sum_const, Nat.mul_zero]
      have e1 : ((List.range (2 ^ c)).map fun m => if bitB m c = true then 0 else f m + f (m + 2 ^ c)).sum = ((List.range (2 ^ c)).map fun m => f m + f (2 ^ c + m)).sum := by
        refine hcong _ _ _ (fun m hm => ?_)
        have hm := List.mem_range.1 hm
        rw [if_neg, Nat.add_comm m]
        rw [bitB, decide_eq_true_eq, Nat.div_eq_of_lt hm]
        decide
      rw [e1, e2, e3, hadd]
      rfl
    · have hc : c < n := by omega
      rw [ih f hc, ih (fun m => f (2 ^ n + m)) hc]
      congr 1
      refine hcong _ _ _ (fun m _ => ?_)
      have hb : bitB (2 ^ n + m) c = bitB m c := by
        rw [bitB_test, bitB_test, Nat.testBit_two_pow_add_gt hc]
      rw [hb, Nat.add_assoc]
theorem cnt_sum (P : Nat → Bool) : ∀ N, ((List.range N).filter P).length = ((List.range N).map fun m => if P m = true then 1 else 0).sum := by
  intro N
  induction N with
  | zero => rfl
  | succ N ih =>
    rw [List.range_succ, List.filter_append, List.length_append, ih, List.map_append, List.sum_append_nat]
    by_cases h : P N = true
    · simp [h]
    · simp [h]
theorem bit_not {m c : Nat} (h : bitB m c = false) : bitB (m + 2 ^ c) c = true := by
  simp [bitB] at h ⊢
  rw [Nat.add_div_right _ (Nat.two_pow_pos c)]
  omega
theorem agree_swings {q : Int} {ws : List Int} (hc : GoodC q ws) {c : Nat} (hi : c < ws.length) : cntA (winsL q ws) c (winsL q ws).length = 2 ^ (ws.length - 1) + swN (winsL q ws) c := by
  have hwl := winsL_length q ws
  have h1 := hc.l1
  unfold cntA swN cntS
  rw [cnt_sum, cnt_sum, hwl, pair_sum c ws.length _ hi, pair_sum c ws.length (fun m => if swingB (winsL q ws) c m = true then 1 else 0) hi]
  have hone : 2 ^ (ws.length - 1) = ((List.range (2 ^ ws.length)).map fun m => if bitB m c = true then 0 else 1).sum := by
    have h2 := pair_sum c ws.length (fun _ => 1) hi
    have h3 : ((List.range (2 ^ ws.length)).map fun _ => 1).sum = 2 ^ ws.length := by rw [sum_const, Nat.mul_one]
    have h4 : ∀ (L : List Nat), (L.map fun m => if bitB m c = true then 0 else 1 + 1).sum = 2 * (L.map fun m => if bitB m c = true then 0 else 1).sum := by
      intro L
      induction L with
      | nil => rfl
      | cons a L ih =>
        simp only [List.map_cons, List.sum_cons, ih]
        split <;> omega
    have h5 : 2 ^ ws.length = 2 * 2 ^ (ws.length - 1) := by rw [← Nat.pow_succ']; congr 1; omega
    rw [h3, h4] at h2
    omega
  rw [hone]
  have hadd : ∀ (L : List Nat) (f g h : Nat → Nat), (∀ x ∈ L, f x = g x + h x) → (L.map f).sum = (L.map g).sum + (L.map h).sum := by
    intro L f g h
    induction L with
    | nil => intro _; rfl
    | cons a L ih =>
      intro hx
      have := hx a (List.mem_cons_self ..)
      have := ih (fun x hx' => hx x (List.mem_cons_of_mem _ hx'))
      simp only [List.map_cons, List.sum_cons]
      omega
  refine hadd _ _ _ _ (fun m hm => ?_)
  have hm := List.mem_range.1 hm
  cases hb : bitB m c with
  | true => rw [if_pos rfl, if_pos rfl, if_pos rfl]
  | false =>
    have hlt := bitB_lt (m := m) (n := ws.length) (i := c) (by rw [hb]; decide) hm hi
    have hb2 := bit_not hb
    have hmono : (winsL q ws).getD m false = true → (winsL q ws).getD (m + 2 ^ c) false = true := fun h => wins_mono hc.w0 hm hlt (fun i hi' => by
      by_cases e : i = c
      · rw [e, ← bitB_test, hb] at hi'; cases hi'
      · have h6 := sub_pow_test (m + 2 ^ c) c i (by rw [← bitB_test]; exact hb2)
        rw [Nat.add_sub_cancel, decide_eq_false e, Bool.not_false, Bool.and_true] at h6
        rw [← h6]
        exact hi') h
    simp only [agB, swingB, hb, hb2]
    cases h1 : (winsL q ws).getD m false <;> cases h2 : (winsL q ws).getD (m + 2 ^ c) false <;> simp_all
theorem impl_AgreeChances.ev_l1 (q : Int) (W : List Bool) (n c : Nat) (hW : W.length = 2 ^ n) (hn : n ≤ 18) (hc : c < n) (out : List S60) (ho : out.length ≤ 1000000) (R : List S60 × Bool) (hnext : Ev (fun k => impl_AgreeChances.l0 k (out ++ [⟨(shN ((cntA W c W.length : Nat) : Int) ((2 ^ n : Nat) : Int)).1, (shN ((cntA W c W.length : Nat) : Int) ((2 ^ n : Nat) : Int)).2⟩]) (n : Int) (wrap64 ((c : Int) + 1)) q W) R) : ∀ (d m : Nat), m + d = W.length → Ev (fun k => impl_AgreeChances.l1 k out (c : Int) ((cntA W c m : Nat) : Int) (n : Int) (c : Int) W (W.length : Int) (m : Int) q W) R := by
  have hp : 2 ^ n ≤ 2 ^ 18 := Nat.pow_le_pow_right (by omega) hn
  have hp0 := Nat.two_pow_pos n
  intro d
  induction d with
  | zero =>
    intro m h
    refine ev_step ?_
    simp only [impl_AgreeChances.l1]
    have hle := cntA_le W c m
    have e : m = W.length := by omega
    subst e
    rw [ev_neg (by omega)]
    rw [hW] at hle ⊢
    rw [hW] at hnext
    rw [ev_bind (impl_shareOf.ev _ _ (by omega) (by omega) (by omega) (by omega)), ev_pos (by omega)]
    exact hnext
  | succ d ih =>
    intro m h
    refine ev_step ?_
    simp only [impl_AgreeChances.l1]
    have hm : m < W.length := by omega
    have hle := cntA_le W c m
    have hih := ih (m + 1) (by omega)
    rw [cntA_succ] at hih
    rw [ev_pos (by omega), ev_pos (by omega), ev_pos (by omega), rdOf_nat, ev_bind (ev_of (show impl_has.f (m : Int) (c : Int) = some (bitB m c) from impl_has.v m c (by omega) (by omega))), w64 (x := (m : Int) + 1) (by omega) (by omega)]
    by_cases hs : agB W c m = true
    · rw [if_pos hs] at hih
      rw [ev_pos (by exact hs), w64 (by omega) (by omega)]
      exact hih
    · rw [if_neg hs] at hih
      rw [ev_neg (by exact hs)]
      exact hih
theorem ag_snoc (W : List Bool) (n c : Nat) : shRow ((List.range (c + 1)).map fun c => ((cntA W c W.length : Nat) : Int)) ((2 ^ n : Nat) : Int) = shRow ((List.range c).map fun c => ((cntA W c W.length : Nat) : Int)) ((2 ^ n : Nat) : Int) ++ [⟨(shN ((cntA W c W.length : Nat) : Int) ((2 ^ n : Nat) : Int)).1, (shN ((cntA W c W.length : Nat) : Int) ((2 ^ n : Nat) : Int)).2⟩] := by
  rw [List.range_succ, List.map_append]
  unfold shRow
  rw [List.map_append]
  rfl
theorem impl_AgreeChances.ev (q : Int) (ws : List Int) (hl : ws.length ≤ 9223372036854775807) : Ev (fun k => impl_AgreeChances.f k q ws) (agV q ws) := by
  simp only [impl_AgreeChances.f]
  rw [ev_bind (impl_IsCommittee.ev q ws hl)]
  unfold agV
  cases hg : goodB q ws with
  | false => rw [ev_neg (by decide), ev_now]; rfl
  | true =>
    have hc := (good_iff q ws).1 hg
    have h9 := hc.l9
    have hp := hc.pow
    have hwl := winsL_length q ws
    have hl0 : ∀ (d c : Nat), c + d = ws.length → Ev (fun k => impl_AgreeChances.l0 k (shRow ((List.range c).map fun c => ((cntA (winsL q ws) c (winsL q ws).length : Nat) : Int)) ((2 ^ ws.length : Nat) : Int)) (ws.length : Int) (c : Int) (ws.length : Int) (winsL q ws)) (shRow ((List.range ws.length).map fun c => ((cntA (winsL q ws) c (winsL q ws).length : Nat) : Int)) ((2 ^ ws.length : Nat) : Int), true) := by
      intro d
      induction d with
      | zero =>
        intro c h
        refine ev_step ?_
        simp only [impl_AgreeChances.l0]
        rw [ev_neg (by omega), ev_now, show c = ws.length by omega]
      | succ d ih =>
        intro c h
        refine ev_step ?_
        simp only [impl_AgreeChances.l0]
        have hih := ih (c + 1) (by omega)
        rw [ag_snoc] at hih
        rw [ev_pos (by omega)]
        exact impl_AgreeChances.ev_l1 (ws.length : Int) (winsL q ws) ws.length c hwl (by omega) (by omega) _ (by simp [shRow]; omega) _ (by rw [w64 (by omega) (by omega)]; exact hih) (winsL q ws).length 0 (by omega)
    rw [ev_pos rfl, ev_bind (impl_Committee_votes.ev q ws h9 hc.wb)]
    exact hl0 ws.length 0 (by omega)
theorem spec_AgreeChances.ev_l1 (W : List Bool) (n c : Nat) (hW : W.length = 2 ^ n) (hn : n ≤ 18) (hc : c < n) (out : List S60) (ho : out.length ≤ 1000000) (R : List S60 × Bool) (hnext : Ev (fun k => spec_AgreeChances.l0 k W (out ++ [⟨(shN ((cntA W c W.length : Nat) : Int) ((2 ^ n : Nat) : Int)).1, (shN ((cntA W c W.length : Nat) : Int) ((2 ^ n : Nat) : Int)).2⟩]) (n : Int) (wrap64 ((c : Int) + 1))) R) : ∀ (d m : Nat), m + d = W.length → Ev (fun k => spec_AgreeChances.l1 k W out (c : Int) ((cntA W c m : Nat) : Int) (n : Int) (c : Int) W (W.length : Int) (m : Int)) R := by
  have hp : 2 ^ n ≤ 2 ^ 18 := Nat.pow_le_pow_right (by omega) hn
  have hp0 := Nat.two_pow_pos n
  intro d
  induction d with
  | zero =>
    intro m h
    refine ev_step ?_
    simp only [spec_AgreeChances.l1]
    have hle := cntA_le W c m
    have e : m = W.length := by omega
    subst e
    rw [ev_neg (by omega)]
    rw [hW] at hle ⊢
    rw [hW] at hnext
    rw [ev_bind (spec_pwShare.ev _ _ (by omega) (by omega) (by omega) (by omega)), ev_pos (by omega)]
    exact hnext
  | succ d ih =>
    intro m h
    refine ev_step ?_
    simp only [spec_AgreeChances.l1]
    have hm : m < W.length := by omega
    have hle := cntA_le W c m
    have hih := ih (m + 1) (by omega)
    have et : ((Int.tmod (shr .i64 (m : Int) (c : Int)) 2) == 1) = bitB m c := by
      rw [shr_nat m c (by omega), show Int.tmod ((m / 2 ^ c : Nat) : Int) 2 = ((m / 2 ^ c % 2 : Nat) : Int) from (Int.ofNat_tmod (m / 2 ^ c) 2).symm, bitB, Bool.eq_iff_iff, beq_iff_eq, decide_eq_true_eq]
      omega
    rw [cntA_succ] at hih
    rw [ev_pos (by omega), ev_pos (by omega), ev_pos (by omega), ev_pos (by omega), rdOf_nat, et, w64 (x := (m : Int) + 1) (by omega) (by omega)]
    by_cases hs : agB W c m = true
    · rw [if_pos hs] at hih
      rw [ev_pos (by exact hs), w64 (by omega) (by omega)]
      exact hih
    · rw [if_neg hs] at hih
      rw [ev_neg (by exact hs)]
      exact hih
theorem spec_AgreeChances.ev (q : Int) (ws : List Int) (hl : ws.length ≤ 9223372036854775807) : Ev (fun k => spec_AgreeChances.f k q ws) (agV q ws) := by
  simp only [spec_AgreeChances.f]
  rw [ev_bind (spec_voGood.ev q ws hl)]
  unfold agV
  cases hg : goodB q ws with
  | false => rw [ev_neg (by decide), ev_now]; rfl
  | true =>
    have hc := (good_iff q ws).1 hg
    have h9 := hc.l9
    have hp := hc.pow
    have hwl := winsL_length q ws
    have hl0 : ∀ (d c : Nat), c + d = ws.length → Ev (fun k => spec_AgreeChances.l0 k (winsL q ws) (shRow ((List.range c).map fun c => ((cntA (winsL q ws) c (winsL q ws).length : Nat) : Int)) ((2 ^ ws.length : Nat) : Int)) (ws.length : Int) (c : Int)) (shRow ((List.range ws.length).map fun c => ((cntA (winsL q ws) c (winsL q ws).length : Nat) : Int)) ((2 ^ ws.length : Nat) : Int), true) := by
      intro d
      induction d with
      | zero =>
        intro c h
        refine ev_step ?_
        simp only [spec_AgreeChances.l0]
        rw [ev_neg (by omega), ev_now, show c = ws.length by omega]
      | succ d ih =>
        intro c h
        refine ev_step ?_
        simp only [spec_AgreeChances.l0]
        have hih := ih (c + 1) (by omega)
        rw [ag_snoc] at hih
        rw [ev_pos (by omega)]
        exact spec_AgreeChances.ev_l1 (winsL q ws) ws.length c hwl (by omega) (by omega) _ (by simp [shRow]; omega) _ (by rw [w64 (by omega) (by omega)]; exact hih) (winsL q ws).length 0 (by omega)
    rw [ev_pos rfl, ev_bind (spec_voWins.ev q ws h9 hc.wb)]
    exact hl0 ws.length 0 (by omega)
theorem laws_big.cases (l0 l1 : List Int) : (∃ b, laws_big.f l0 l1 = some b ∧ b = true) ∨ (laws_big.f l0 l1 = some false ∧ l0.length ≤ 1048576 ∧ l1.length ≤ 1048576) := by
  unfold laws_big.f
  by_cases c : (l0.length : Int) > 1048576
  · rw [if_pos c]
    exact .inl ⟨_, rfl, rfl⟩
  · rw [if_neg c, w64 (by omega) (by omega)]
    by_cases c2 : (l1.length : Int) > 1048576 - (l0.length : Int)
    · rw [decide_eq_true c2]
      exact .inl ⟨_, rfl, rfl⟩
    · rw [decide_eq_false c2]
      exact .inr ⟨rfl, by omega, by omega⟩
def cntW (W : List Bool) : Int := (W.count true : Nat)
theorem count_drop (W : List Bool) (i : Nat) (h : i < W.length) : (W.drop i).count true = (W.drop (i + 1)).count true + if W.getD i false = true then 1 else 0 := by
  rw [List.drop_eq_getElem_cons h, List.count_cons, List.getD_eq_getElem?_getD, List.getElem?_eq_getElem h, Option.getD_some]
  cases W[i] <;> rfl
theorem impl_votes_countWins.ev_l (W : List Bool) (hW : W.length ≤ 1000000) : ∀ (d i : Nat) (s : Int), i + d = W.length → 0 ≤ s → s + d ≤ 2000000 → Ev (fun k => impl_votes_countWins.l0 k s W (W.length : Int) (i : Int)) (s + ((W.drop i).count true : Nat)) := by
  intro d
  induction d with
  | zero =>
    intro i s h h0 h1
    refine ev_step ?_
    simp only [impl_votes_countWins.l0]
    rw [ev_neg (by omega), ev_now, List.drop_of_length_le (by omega)]
    simp
  | succ d ih =>
    intro i s h h0 h1
    refine ev_step ?_
    simp only [impl_votes_countWins.l0]
    have hi : i < W.length := by omega
    rw [ev_pos (by omega), ev_pos (by omega), ev_pos (by omega), rdOf_nat, w64i (i := (i : Int)) (n := W.length) (by omega) (by omega) (by omega), count_drop W i hi]
    cases hb : W.getD i false with
    | false =>
      rw [ev_neg (by decide), if_neg (by decide)]
      exact ih (i + 1) s (by omega) h0 (by omega)
    | true =>
      have := ih (i + 1) (s + 1) (by omega) (by omega) (by omega)
      rw [ev_pos rfl, if_pos rfl, w64 (by omega) (by omega)]
      rw [show s + (((W.drop (i + 1)).count true + 1 : Nat) : Int) = s + 1 + ((W.drop (i + 1)).count true : Nat) by omega]
      exact this
theorem impl_votes_countWins.ev (n : Int) (W : List Bool) (hW : W.length ≤ 1000000) : Ev (fun k => impl_votes_countWins.f k n W) (cntW W) := by
  have := impl_votes_countWins.ev_l W hW W.length 0 0 (by omega) (by omega) (by omega)
  rw [List.drop_zero, Int.zero_add] at this
  exact this
def cwV (q : Int) (ws : List Int) : Int × Bool := if goodB q ws = true then (cntW (winsL q ws), true) else (0, false)
theorem impl_CountWinning.ev (q : Int) (ws : List Int) (hl : ws.length ≤ 9223372036854775807) : Ev (fun k => impl_CountWinning.f k q ws) (cwV q ws) := by
  simp only [impl_CountWinning.f]
  rw [ev_bind (impl_IsCommittee.ev q ws hl)]
  unfold cwV
  cases hg : goodB q ws with
  | false => rw [ev_neg (by decide), ev_now, if_neg (by decide)]
  | true =>
    have hc := (good_iff q ws).1 hg
    have hp := hc.pow
    have hwl := winsL_length q ws
    rw [ev_pos rfl, if_pos rfl, ev_bind (impl_Committee_votes.ev q ws hc.l9 hc.wb), ev_bind (impl_votes_countWins.ev _ (winsL q ws) (by omega)), ev_now]
theorem cnt_range (W : List Bool) : ∀ N, N ≤ W.length → ((W.take N).count true) = ((List.range N).filter fun m => W.getD m false).length := by
  intro N
  induction N with
  | zero => intro _; simp
  | succ N ih =>
    intro h
    have hN : N < W.length := by omega
    rw [List.range_succ, List.filter_append, List.length_append, ← ih (by omega), List.take_succ_eq_append_getElem hN, List.count_append, List.filter_cons, List.getD_eq_getElem?_getD, List.getElem?_eq_getElem hN, Option.getD_some]
    cases W[N] <;> rfl
theorem cntW_range (W : List Bool) : cntW W = (((List.range W.length).filter fun m => W.getD m false).length : Nat) := by
  unfold cntW
  rw [← cnt_range W W.length (Nat.le_refl _), List.take_length]
def ByteL (l : List Int) : Prop := l.length ≤ 1048576 ∧ ∀ x ∈ l, 0 ≤ x ∧ x ≤ 255
theorem ByteL.of {l : List Int} (h : OkBL l) (hl : l.length ≤ 1048576) : ByteL l := by
  refine ⟨hl, fun x hx => ?_⟩
  have h := h.2 x hx
  simp [OkB, Lit.wf, IntKind.min, IntKind.max, IntKind.bits, IntKind.signed] at h
  omega
theorem OkI.of {n : Int} (h0 : -9223372036854775808 ≤ n) (h1 : n ≤ 9223372036854775807) : OkI n := by
  simp [OkI, Lit.wf, IntKind.min, IntKind.max, IntKind.bits, IntKind.signed]
  omega
theorem wrap64_ok (x : Int) : OkI (wrap64 x) := by refine OkI.of ?_ ?_ <;> unfold wrap64 <;> omega
theorem and255 (x : Int) : 0 ≤ Go.bits .and .u64 (IntKind.u64.wrap x / 1099511627776) 255 ∧ Go.bits .and .u64 (IntKind.u64.wrap x / 1099511627776) 255 ≤ 255 := by
  have hx : 0 ≤ IntKind.u64.wrap x ∧ IntKind.u64.wrap x < 18446744073709551616 := by rw [IntKind.wrap_u64]; omega
  obtain ⟨n, hn⟩ : ∃ n : Nat, IntKind.u64.wrap x / 1099511627776 = (n : Int) := ⟨(IntKind.u64.wrap x / 1099511627776).toNat, by omega⟩
  have hb : n < 2 ^ 62 := by omega
  rw [hn, show (255 : Int) = ((255 : Nat) : Int) by rfl, (Go.bits_nat .u64 62 (by decide) (fun m h0 h1 => by rw [IntKind.wrap_u64]; omega) n 255 hb (by decide)).1]
  have := Nat.and_le_right (n := n) (m := 255)
  omega
theorem spec_l1Cur_next.ex {l : List Int} (hl : ByteL l) (p s : Int) (h0 : 0 ≤ p) (h1 : p ≤ 1000000) : ∃ b s', spec_l1Cur_next.f l p s = some (b, p + 1, s') ∧ 0 ≤ b ∧ b ≤ 255 := by
  have hll := hl.1
  unfold spec_l1Cur_next.f
  rw [w64 (x := p + 1) (by omega) (by omega)]
  by_cases c : p < (l.length : Int)
  · obtain ⟨i, rfl⟩ : ∃ i : Nat, p = (i : Int) := ⟨p.toNat, by omega⟩
    have hi : i < l.length := by omega
    have hb := hl.2 l[i] (List.getElem_mem hi)
    rw [if_pos c, if_pos h0, if_pos (by omega), rd_lt l i hi, w64 (by omega) (by omega)]
    exact ⟨_, _, rfl, hb⟩
  · rw [if_neg c, if_neg (by omega)]
    have := and255 ((IntKind.u64.wrap (IntKind.u64.wrap (s * 6364136223846793005))) + 1442695040888963407)
    rw [w64 (x := Go.bits .and .u64 _ 255) (by omega) (by omega)]
    exact ⟨_, _, rfl, this⟩
theorem spec_l1Cur_pick.ex {l : List Int} (hl : ByteL l) (p s a : Int) (h0 : 0 ≤ p) (h1 : p ≤ 900000) : ∃ x p' s', spec_l1Cur_pick.f l p s a = some (x, p', s') ∧ 0 ≤ x ∧ x < max a 1 ∧ True ∧ p ≤ p' ∧ p' ≤ p + 2 := by
  unfold spec_l1Cur_pick.f
  by_cases c : a ≤ 1
  · rw [if_pos c]
    exact ⟨_, _, _, rfl, by omega, by omega, trivial, by omega, by omega⟩
  · obtain ⟨b, s1, e, hb0, hb1⟩ := spec_l1Cur_next.ex hl p s h0 (by omega)
    rw [if_neg c, e, Option.bind_some]
    dsimp only
    by_cases c2 : a > 200
    · obtain ⟨b2, s2, e2, hc0, hc1⟩ := spec_l1Cur_next.ex hl (p + 1) s1 (by omega) (by omega)
      rw [if_pos c2, e2, Option.bind_some, if_neg (by omega)]
      dsimp only
      rw [w64 (x := b * 256) (by omega) (by omega), w64 (by omega) (by omega)]
      have h2 := Int.tmod_lt_of_pos (b * 256 + b2) (show 0 < a by omega)
      have h3 := Int.tmod_nonneg a (show 0 ≤ b * 256 + b2 by omega)
      exact ⟨_, _, _, rfl, h3, by omega, trivial, by omega, by omega⟩
    · rw [if_neg c2, if_neg (by omega)]
      have h2 := Int.tmod_lt_of_pos b (show 0 < a by omega)
      have h3 := Int.tmod_nonneg a hb0
      exact ⟨_, _, _, rfl, h3, by omega, trivial, by omega, by omega⟩
theorem spec_l1Cur_one.ex {l : List Int} (hl : ByteL l) (p s a : Int) (h0 : 0 ≤ p) (h1 : p ≤ 900000) : ∃ (b : Bool) (p' s' : Int), spec_l1Cur_one.f l p s a = some (b, p', s') ∧ p ≤ p' ∧ p' ≤ p + 2 := by
  obtain ⟨x, p1, s1, e, _, _, _, h4, h5⟩ := spec_l1Cur_pick.ex hl p s a h0 h1
  unfold spec_l1Cur_one.f
  rw [e, Option.bind_some]
  exact ⟨_, _, _, rfl, h4, h5⟩
theorem spec_l1Cur_among.ex {l : List Int} (hl : ByteL l) (p s : Int) (L : List Int) (hL : 1 ≤ L.length) (h0 : 0 ≤ p) (h1 : p ≤ 900000) : ∃ (x p' s' : Int), spec_l1Cur_among.f l p s L = some (x, p', s') ∧ x ∈ L ∧ p ≤ p' ∧ p' ≤ p + 2 := by
  obtain ⟨x, p1, s1, e, h2, h3, _, h4, h5⟩ := spec_l1Cur_pick.ex hl p s (L.length : Int) h0 h1
  obtain ⟨i, rfl⟩ : ∃ i : Nat, x = (i : Int) := ⟨x.toNat, by omega⟩
  have hi : i < L.length := by omega
  unfold spec_l1Cur_among.f
  rw [e, Option.bind_some]
  dsimp only
  rw [if_pos h2, if_pos (by omega), rd_lt L i hi]
  exact ⟨_, _, _, rfl, List.getElem_mem hi, h4, h5⟩
theorem wfold_ok (l : List Int) : ∀ s, OkI s → OkI (wfold l s) := by
  induction l with
  | nil => exact fun s h => h
  | cons x l ih => exact fun s _ => ih _ (wrap64_ok _)
/-- A committee's numbers, as draws make them: a whole number and a few of them. -/
structure DrawnC (q : Int) (ws : List Int) : Prop where
  l10 : ws.length ≤ 10
  q : OkI q
  w : ∀ x ∈ ws, OkI x
theorem ok_set {ws : List Int} (h : ∀ x ∈ ws, OkI x) (i : Nat) {v : Int} (hv : OkI v) : ∀ x ∈ ws.set i v, OkI x := fun x hx => by
  rcases List.mem_or_eq_of_mem_set hx with h1 | rfl
  · exact h x h1
  · exact hv
theorem ok_snoc {ws : List Int} (h : ∀ x ∈ ws, OkI x) {v : Int} (hv : OkI v) : ∀ x ∈ ws ++ [v], OkI x := fun x hx => by
  rcases List.mem_append.1 hx with h1 | h1
  · exact h x h1
  · rw [List.mem_singleton.1 h1]; exact hv
theorem spec_l1Cur_sureCommittee.ex_j1 {l : List Int} (hl : ByteL l) (p s q : Int) (ws : List Int) (hw : ∀ x ∈ ws, OkI x) (hn : 1 ≤ ws.length ∧ ws.length ≤ 9) (h0 : 0 ≤ p) (h1 : p ≤ 890000) : ∃ (q' : Int) (ws' : List Int) (p' s' : Int), Ev (fun k => spec_l1Cur_sureCommittee.j1 k l p s q ws) (q', ws', p', s') ∧ OkI q' ∧ (∀ x ∈ ws', OkI x) ∧ (1 ≤ ws'.length ∧ ws'.length ≤ 9) ∧ p ≤ p' ∧ p' ≤ p + 4 := by
  obtain ⟨b, p1, s1, e1, h2, h3⟩ := spec_l1Cur_one.ex hl p s 2 h0 (by omega)
  obtain ⟨x, p2, s2, e2, h4, _, h5, h6, h7⟩ := spec_l1Cur_pick.ex hl p1 s1 (wfold ws 0) (by omega) (by omega)
  have hs := spec_voSum.ev ws (by omega)
  cases b with
  | true =>
    refine ⟨wrap64 (1 + x), ws, p2, s2, ev_step ?_, wrap64_ok _, hw, hn, by omega, by omega⟩
    simp only [spec_l1Cur_sureCommittee.j1]
    rw [ev_bind hs, ev_bind (ev_of e1), ev_pos rfl, ev_bind (ev_of e2), ev_now]
  | false =>
    refine ⟨wrap64 (wrap64 (Int.tdiv (wfold ws 0) 2) + 1), ws, p1, s1, ev_step ?_, wrap64_ok _, hw, hn, by omega, by omega⟩
    simp only [spec_l1Cur_sureCommittee.j1]
    rw [ev_bind hs, ev_bind (ev_of e1), ev_neg (by simp), ev_now]
theorem spec_l1Cur_sureCommittee.ex_l0 {l : List Int} (hl : ByteL l) (q : Int) : ∀ (d : Nat) (p s : Int) (ws : List Int), (∀ x ∈ ws, OkI x) → ws.length + d ≤ 9 → 1 ≤ ws.length + d → 0 ≤ p → p + 2 * d ≤ 880000 → ∃ (q' : Int) (ws' : List Int) (p' s' : Int), Ev (fun k => spec_l1Cur_sureCommittee.l0 k (d : Int) l p s q ws) (q', ws', p', s') ∧ OkI q' ∧ (∀ x ∈ ws', OkI x) ∧ (1 ≤ ws'.length ∧ ws'.length ≤ 9) ∧ p ≤ p' ∧ p' ≤ p + 2 * d + 4 := by
  intro d
  induction d with
  | zero =>
    intro p s ws hw h9 hn h0 h1
    have hs := spec_voSum.ev ws (by omega)
    by_cases c : wfold ws 0 = 0
    · obtain ⟨q', ws', p', s', hj, r⟩ := spec_l1Cur_sureCommittee.ex_j1 hl p s q (ws.set 0 1) (ok_set hw 0 (OkI.of (by decide) (by decide))) (by rw [List.length_set]; omega) h0 (by omega)
      refine ⟨q', ws', p', s', ev_step ?_, r.1, r.2.1, r.2.2.1, r.2.2.2.1, by omega⟩
      simp only [spec_l1Cur_sureCommittee.l0]
      rw [ev_neg (by omega), ev_bind hs, ev_pos c, ev_pos (by omega)]
      exact hj
    · obtain ⟨q', ws', p', s', hj, r⟩ := spec_l1Cur_sureCommittee.ex_j1 hl p s q ws hw (by omega) h0 (by omega)
      refine ⟨q', ws', p', s', ev_step ?_, r.1, r.2.1, r.2.2.1, r.2.2.2.1, by omega⟩
      simp only [spec_l1Cur_sureCommittee.l0]
      rw [ev_neg (by omega), ev_bind hs, ev_neg c]
      exact hj
  | succ d ih =>
    intro p s ws hw h9 hn h0 h1
    obtain ⟨x, p1, s1, e, h2, h3, h5, h6, h7⟩ := spec_l1Cur_pick.ex hl p s 7 h0 (by omega)
    obtain ⟨q', ws', p', s', hj, r⟩ := ih p1 s1 (ws ++ [x]) (ok_snoc hw (OkI.of (by omega) (by omega))) (by rw [List.length_append, List.length_singleton]; omega) (by rw [List.length_append, List.length_singleton]; omega) (by omega) (by omega)
    refine ⟨q', ws', p', s', ev_step ?_, r.1, r.2.1, r.2.2.1, by omega, by omega⟩
    simp only [spec_l1Cur_sureCommittee.l0]
    rw [ev_pos (by omega), ev_bind (ev_of e), ev_pos (by omega), show wrap64 (((d + 1 : Nat) : Int) - 1) = (d : Int) by rw [w64 (by omega) (by omega)]; omega]
    exact hj
theorem spec_l1Cur_sureCommittee.ex {l : List Int} (hl : ByteL l) (p s a : Int) (ha : 1 ≤ a ∧ a ≤ 9) (h0 : 0 ≤ p) (h1 : p ≤ 800000) : ∃ (q' : Int) (ws' : List Int) (p' s' : Int), Ev (fun k => spec_l1Cur_sureCommittee.f k l p s a) (q', ws', p', s') ∧ OkI q' ∧ (∀ x ∈ ws', OkI x) ∧ (1 ≤ ws'.length ∧ ws'.length ≤ 9) ∧ p ≤ p' ∧ p' ≤ p + 30 := by
  obtain ⟨x, p1, s1, e, h2, h3, h5, h6, h7⟩ := spec_l1Cur_pick.ex hl p s a h0 (by omega)
  obtain ⟨q', ws', p', s', hj, r⟩ := spec_l1Cur_sureCommittee.ex_l0 hl 0 (x + 1).toNat p1 s1 [] (by simp) (by simp; omega) (by simp; omega) (by omega) (by omega)
  refine ⟨q', ws', p', s', ?_, r.1, r.2.1, r.2.2.1, by omega, by omega⟩
  simp only [spec_l1Cur_sureCommittee.f]
  rw [ev_bind (ev_of e), show wrap64 (1 + x) = ((x + 1).toNat : Int) by rw [w64 (by omega) (by omega)]; omega]
  exact hj
theorem spec_l1Cur_committee.ex_l0 {l : List Int} (hl : ByteL l) (q : Int) (hq : OkI q) : ∀ (d : Nat) (p s : Int) (ws : List Int), (∀ x ∈ ws, OkI x) → ws.length + d = 10 → 0 ≤ p → p + 2 * d ≤ 800000 → ∃ (ws' : List Int) (p' s' : Int), Ev (fun k => spec_l1Cur_committee.l0 k l p s q ws) (q, ws', p', s') ∧ (∀ x ∈ ws', OkI x) ∧ ws'.length ≤ 10 ∧ p ≤ p' ∧ p' ≤ p + 2 * d + 2 := by
  intro d
  induction d with
  | zero =>
    intro p s ws hw h9 h0 h1
    obtain ⟨x, p1, s1, e, h2, h3, h5, h6, h7⟩ := spec_l1Cur_pick.ex hl p s 2 h0 (by omega)
    refine ⟨ws, p1, s1, ev_step ?_, hw, by omega, by omega, by omega⟩
    simp only [spec_l1Cur_committee.l0]
    rw [ev_bind (ev_of e), w64 (by omega) (by omega), ev_neg (by dsimp only; omega), ev_now]
  | succ d ih =>
    intro p s ws hw h9 h0 h1
    obtain ⟨x, p1, s1, e, h2, h3, h5, h6, h7⟩ := spec_l1Cur_pick.ex hl p s 2 h0 (by omega)
    by_cases c : (ws.length : Int) < 9 + x
    · obtain ⟨ws', p', s', hj, r⟩ := ih p1 s1 (ws ++ [1]) (ok_snoc hw (OkI.of (by decide) (by decide))) (by rw [List.length_append, List.length_singleton]; omega) (by omega) (by omega)
      refine ⟨ws', p', s', ev_step ?_, r.1, r.2.1, by omega, by omega⟩
      simp only [spec_l1Cur_committee.l0]
      rw [ev_bind (ev_of e), w64 (by omega) (by omega), ev_pos (by exact c), ev_pos (by omega)]
      exact hj
    · refine ⟨ws, p1, s1, ev_step ?_, hw, by omega, by omega, by omega⟩
      simp only [spec_l1Cur_committee.l0]
      rw [ev_bind (ev_of e), w64 (by omega) (by omega), ev_neg (by exact c), ev_now]
theorem spec_l1Cur_committee.ex {l : List Int} (hl : ByteL l) (p s a : Int) (ha : 1 ≤ a ∧ a ≤ 9) (h0 : 0 ≤ p) (h1 : p ≤ 700000) : ∃ (q' : Int) (ws' : List Int) (p' s' : Int), Ev (fun k => spec_l1Cur_committee.f k l p s a) (q', ws', p', s') ∧ DrawnC q' ws' ∧ p ≤ p' ∧ p' ≤ p + 100 := by
  obtain ⟨q, ws, p1, s1, e, hq, hw, hn, h2, h3⟩ := spec_l1Cur_sureCommittee.ex hl p s a ha h0 (by omega)
  obtain ⟨x, p2, s2, e2, h4, h5, _, h6, h7⟩ := spec_l1Cur_pick.ex hl p1 s1 16 (by omega) (by omega)
  have hs := spec_voSum.ev ws (by omega)
  have hso := wfold_ok ws 0 (OkI.of (by decide) (by decide))
  by_cases c0 : x = 0
  · obtain ⟨y, p3, s3, e3, hy, h8, h9⟩ := spec_l1Cur_among.ex hl p2 s2 ([(-1), 0, 1, wfold ws 0, wrap64 (wfold ws 0 + 1), 4611686018427387904] : List Int) (by simp) (by omega) (by omega)
    have hyo : OkI y := by
      simp only [List.mem_cons, List.not_mem_nil, or_false] at hy
      rcases hy with rfl | rfl | rfl | rfl | rfl | rfl
      · exact OkI.of (by decide) (by decide)
      · exact OkI.of (by decide) (by decide)
      · exact OkI.of (by decide) (by decide)
      · exact hso
      · exact wrap64_ok _
      · exact OkI.of (by decide) (by decide)
    refine ⟨y, ws, p3, s3, ?_, ⟨by omega, hyo, hw⟩, by omega, by omega⟩
    simp only [spec_l1Cur_committee.f]
    rw [ev_bind e, ev_bind (ev_of e2), ev_pos c0, ev_bind hs, ev_bind hs, ev_bind (ev_of e3), ev_now]
  by_cases c1 : x = 1
  · obtain ⟨y, p3, s3, e3, hy, h8, h9⟩ := spec_l1Cur_among.ex hl p2 s2 ([(-1), 0, 1000, 1001, 4611686018427387904] : List Int) (by simp) (by omega) (by omega)
    have hyo : OkI y := by
      simp only [List.mem_cons, List.not_mem_nil, or_false] at hy
      rcases hy with rfl | rfl | rfl | rfl | rfl <;> exact OkI.of (by decide) (by decide)
    refine ⟨q, ws.set 0 y, p3, s3, ?_, ⟨by rw [List.length_set]; omega, hq, ok_set hw 0 hyo⟩, by omega, by omega⟩
    simp only [spec_l1Cur_committee.f]
    rw [ev_bind e, ev_bind (ev_of e2), ev_neg c0, ev_pos c1, ev_bind (ev_of e3), ev_pos (by dsimp only; omega), ev_now]
    rfl
  by_cases c2 : x = 2
  · obtain ⟨ws', p', s', hj, r⟩ := spec_l1Cur_committee.ex_l0 hl q hq (10 - ws.length) p2 s2 ws hw (by omega) (by omega) (by omega)
    refine ⟨q, ws', p', s', ?_, ⟨r.2.1, hq, r.1⟩, by omega, by omega⟩
    simp only [spec_l1Cur_committee.f]
    rw [ev_bind e, ev_bind (ev_of e2), ev_neg c0, ev_neg c1, ev_pos c2]
    exact hj
  by_cases c3 : x = 3
  · refine ⟨1, [], p2, s2, ?_, ⟨by simp, OkI.of (by decide) (by decide), by simp⟩, by omega, by omega⟩
    simp only [spec_l1Cur_committee.f]
    rw [ev_bind e, ev_bind (ev_of e2), ev_neg c0, ev_neg c1, ev_neg c2, ev_pos c3, ev_now]
  · refine ⟨q, ws, p2, s2, ?_, ⟨by omega, hq, hw⟩, by omega, by omega⟩
    simp only [spec_l1Cur_committee.f]
    rw [ev_bind e, ev_bind (ev_of e2), ev_neg c0, ev_neg c1, ev_neg c2, ev_neg c3, ev_now]
theorem spec_DrawSwingsOf.ex {l : List Int} (hl : ByteL l) : ∃ (q : Int) (ws : List Int), Ev (fun k => spec_DrawSwingsOf.f k l) (q, ws) ∧ DrawnC q ws := by
  obtain ⟨q, ws, p, s, e, h, _⟩ := spec_l1Cur_committee.ex hl 0 0 7 (by decide) (by decide) (by decide)
  refine ⟨q, ws, ?_, h⟩
  simp only [spec_DrawSwingsOf.f]
  rw [ev_bind e, ev_now]
theorem spec_DrawSwingSets.ex {l : List Int} (hl : ByteL l) : ∃ (q : Int) (ws : List Int) (a : Int), Ev (fun k => spec_DrawSwingSets.f k l) (q, ws, a) ∧ DrawnC q ws ∧ OkI a := by
  obtain ⟨q, ws, p, t, e, h, h2, h3⟩ := spec_l1Cur_committee.ex hl 0 0 6 (by decide) (by decide) (by decide)
  obtain ⟨x, p1, s1, e1, _⟩ := spec_l1Cur_pick.ex hl p t (wrap64 ((ws.length : Int) + 2)) (by omega) (by omega)
  refine ⟨q, ws, _, ?_, h, wrap64_ok (x - 1)⟩
  simp only [spec_DrawSwingSets.f]
  rw [ev_bind e, ev_bind (ev_of e1), ev_now]
def dumB (q : Int) (ws : List Int) (i : Nat) : Bool := idleP (Go.Proofs.YtamfpkefnhcngaaGreatS.sortL (takeL (leastB (winsL q ws) ws.length) (winsL q ws).length)) i
theorem dumB_iff {q : Int} {ws : List Int} (hc : GoodC q ws) (i : Nat) (hi : i < ws.length) : dumB q ws i = true ↔ ∀ m, m < 2 ^ ws.length → leastB (winsL q ws) ws.length m = true → m.testBit i = false := by
  have h9 := hc.l9
  unfold dumB idleP
  rw [Bool.not_eq_true', List.any_eq_false]
  constructor
  · intro h m hm hl
    have := h (setN m) ((Go.Proofs.YtamfpkefnhcngaaGreatS.sortL_perm _).mem_iff.2 (List.mem_map.2 ⟨m, List.mem_filter.2 ⟨List.mem_range.2 (by rw [winsL_length]; exact hm), hl⟩, rfl⟩))
    rw [setN_contains m i (by omega)] at this
    simpa using this
  · intro h x hx
    obtain ⟨m, h1, h2, rfl⟩ := takeL_mem x ((Go.Proofs.YtamfpkefnhcngaaGreatS.sortL_perm _).mem_iff.1 hx)
    rw [winsL_length] at h1
    rw [setN_contains m i (by omega), h m h1 h2]
    decide
theorem wins_none {q : Int} {ws : List Int} (hc : GoodC q ws) : (winsL q ws).getD 0 false = false := by
  rw [winsL_getD q ws 0 (Nat.two_pow_pos _), wsum_zero, decide_eq_false_iff_not]
  have := hc.q1
  omega
theorem wins_full {q : Int} {ws : List Int} (hc : GoodC q ws) : (winsL q ws).getD (2 ^ ws.length - 1) false = true := by
  have := hc.pow
  rw [winsL_getD q ws _ (by omega), wsum_full, decide_eq_true_eq]
  exact hc.qs
theorem some_real {q : Int} {ws : List Int} (hc : GoodC q ws) : ∃ i, i < ws.length ∧ dumB q ws i = false := by
  have := hc.pow
  obtain ⟨m, h1, h2, _⟩ := least_sub (winsL q ws) ws.length (2 ^ ws.length - 1) (by omega) (wins_full hc)
  have h0 : m ≠ 0 := fun e => by
    have := (leastB_bits h2).1
    rw [e, wins_none hc] at this
    cases this
  obtain ⟨i, hi⟩ := Nat.exists_testBit_of_ne_zero h0
  have hn : i < ws.length := by
    rcases Nat.lt_or_ge i ws.length with h | h
    · exact h
    · rw [Nat.testBit_lt_two_pow (Nat.lt_of_lt_of_le h1 (Nat.pow_le_pow_right (by omega) h))] at hi; cases hi
  refine ⟨i, hn, ?_⟩
  cases hd : dumB q ws i with
  | false => rfl
  | true =>
    rw [(dumB_iff hc i hn).1 hd m h1 h2] at hi
    cases hi
theorem rd_L2_lt (l : List (List Int)) (i : Nat) (h : i < l.length) : rd_L2 l (i : Int) = l[i] := by simp [rd_L2, h]
def dumV (q : Int) (ws : List Int) : List Int × Bool := if goodB q ws = true then (takeI (idleP (Go.Proofs.YtamfpkefnhcngaaGreatS.sortL (takeL (leastB (winsL q ws) ws.length) (winsL q ws).length))) ws.length, true) else ([], false)
theorem impl_DummiesOf.ev (q : Int) (ws : List Int) (hl : ws.length ≤ 9223372036854775807) : Ev (fun k => impl_DummiesOf.f k q ws) (dumV q ws) := by
  simp only [impl_DummiesOf.f]
  rw [ev_bind (impl_IsCommittee.ev q ws hl)]
  unfold dumV
  cases hg : goodB q ws with
  | false => rw [ev_neg (by decide), ev_now, if_neg (by decide)]
  | true =>
    have hc := (good_iff q ws).1 hg
    have h9 := hc.l9
    have hwl := winsL_length q ws
    have hi := impl_votes_idle.ev (winsL q ws) ws.length hwl (by omega)
    rw [ev_pos rfl, if_pos rfl, ev_bind (impl_Committee_votes.ev q ws h9 hc.wb), ev_bind hi, ev_now]
theorem ltc_eq {x y : Int} {xs ys : List Int} (h : x = y) : decide (cmpL (x :: xs) (y :: ys) < 0) = decide (cmpL xs ys < 0) := by
  subst h
  simp [cmpL]
theorem ltc_ne {x y : Int} {xs ys : List Int} (h : ¬ x = y) : decide (cmpL (x :: xs) (y :: ys) < 0) = decide (x < y) := by
  by_cases h2 : x < y
  · simp [cmpL, h2]
  · have h3 : y < x := by omega
    simp [cmpL, h2, h3]
theorem setN_inj {m m' : Nat} (h1 : m < 2 ^ 62) (h2 : m' < 2 ^ 62) (h : setN m = setN m') : m = m' := by
  apply Nat.eq_of_testBit_eq
  intro i
  by_cases hi : i < 62
  · rw [← setN_contains m i hi, ← setN_contains m' i hi, h]
  · rw [Nat.testBit_lt_two_pow (Nat.lt_of_lt_of_le h1 (Nat.pow_le_pow_right (by omega) (by omega))), Nat.testBit_lt_two_pow (Nat.lt_of_lt_of_le h2 (Nat.pow_le_pow_right (by omega) (by omega)))]
theorem takeL_nodup (P : Nat → Bool) (N : Nat) (hN : N ≤ 2 ^ 62) : (takeL P N).Nodup := by
  unfold takeL List.Nodup
  rw [List.pairwise_map]
  refine (List.pairwise_lt_range.filter P).imp_of_mem (fun {a b} ha hb hab h => ?_)
  have h1 := List.mem_range.1 (List.mem_filter.1 ha).1
  have h2 := List.mem_range.1 (List.mem_filter.1 hb).1
  have := setN_inj (by omega) (by omega) h
  omega
theorem sortL_up (xs : List (List Int)) : (Go.Proofs.YtamfpkefnhcngaaGreatS.sortL xs).Pairwise fun a b => cmpL a b ≤ 0 := by
  have h : (xs.mergeSort fun a b => !Go.Proofs.ltOf cmpL b a).Pairwise (fun a b => (!Go.Proofs.ltOf cmpL b a) = true) := by
    refine List.pairwise_mergeSort (fun a b c h1 h2 => ?_) (fun a b => ?_) xs
    · simp only [Bool.not_eq_true', Go.Proofs.ltOf, decide_eq_false_iff_not] at *
      have e1 := cmpL_swap a b
      have e2 := cmpL_swap b c
      have e3 := cmpL_swap a c
      have := cmpL_le_trans a b c (by omega) (by omega)
      omega
    · simp only [Bool.or_eq_true, Bool.not_eq_true', Go.Proofs.ltOf, decide_eq_false_iff_not]
      have := cmpL_swap a b
      omega
  refine h.imp (fun {a b} h => ?_)
  simp only [Bool.not_eq_true', Go.Proofs.ltOf, decide_eq_false_iff_not] at h
  have := cmpL_swap a b
  omega
theorem sortL_lt {P : Nat → Bool} {N : Nat} (hN : N ≤ 2 ^ 62) (i : Nat) (h1 : 1 ≤ i) (hi : i < (Go.Proofs.YtamfpkefnhcngaaGreatS.sortL (takeL P N)).length) : cmpL ((Go.Proofs.YtamfpkefnhcngaaGreatS.sortL (takeL P N))[i - 1]) ((Go.Proofs.YtamfpkefnhcngaaGreatS.sortL (takeL P N))[i]) < 0 := by
  have h2 := List.pairwise_iff_getElem.1 (sortL_up (takeL P N)) (i - 1) i (by omega) hi (by omega)
  have h3 : (Go.Proofs.YtamfpkefnhcngaaGreatS.sortL (takeL P N)).Nodup := (Go.Proofs.YtamfpkefnhcngaaGreatS.sortL_perm _).nodup_iff.2 (takeL_nodup P N hN)
  have h4 := List.pairwise_iff_getElem.1 h3 (i - 1) i (by omega) hi (by omega)
  have h5 : cmpL ((Go.Proofs.YtamfpkefnhcngaaGreatS.sortL (takeL P N))[i - 1]) ((Go.Proofs.YtamfpkefnhcngaaGreatS.sortL (takeL P N))[i]) ≠ 0 := fun e => h4 (cmpL_zero _ _ e)
  omega
def popN (m : Nat) : Nat := ((List.range 9).filter (bitB m)).length
theorem popN_or_all : ((List.range 512).all fun m => (List.range 9).all fun x => decide (popN (m ||| 2 ^ x) = popN m + if bitB m x = true then 0 else 1)) = true := by decide +kernel
theorem impl_count_all : ((List.range 512).all fun m => decide (impl_count.f (m : Int) = some ((popN m : Nat) : Int))) = true := by decide +kernel
theorem popN_or {m x : Nat} (hm : m < 512) (hx : x < 9) : popN (m ||| 2 ^ x) = popN m + if bitB m x = true then 0 else 1 := by
  have h := List.all_eq_true.1 popN_or_all m (List.mem_range.2 hm)
  exact of_decide_eq_true (List.all_eq_true.1 h x (List.mem_range.2 hx))
theorem impl_count.v {m : Nat} (hm : m < 512) : impl_count.f (m : Int) = some ((popN m : Nat) : Int) := of_decide_eq_true (List.all_eq_true.1 impl_count_all m (List.mem_range.2 hm))
theorem popN_setN {m : Nat} (hm : m < 512) : (setN m).length = popN m := by
  rw [setN_to (n := 9) hm (by omega), setTo, List.length_map, popN]
theorem popN_le {m n : Nat} (hm : m < 2 ^ n) (hn : n ≤ 9) : popN m ≤ n := by
  have h2 : 2 ^ n ≤ 2 ^ 9 := Nat.pow_le_pow_right (by omega) hn
  rw [← popN_setN (by omega), setN_to hm (by omega)]
  exact setTo_len m n
theorem impl_isIncreasing.ev_l (l : List Int) (hl : l.length ≤ 9223372036854775807) : ∀ (d i : Nat), i + d = l.length → Ev (fun k => impl_isIncreasing.l0 k l (l.length : Int) (i : Int)) (incB (l.drop (i - 1))) := by
  intro d
  induction d with
  | zero =>
    intro i h
    refine ev_step ?_
    simp only [impl_isIncreasing.l0]
    rw [ev_neg (by omega), ev_now, incB_short (by rw [List.length_drop]; omega)]
  | succ d ih =>
    intro i h
    refine ev_step ?_
    simp only [impl_isIncreasing.l0]
    have hi : i < l.length := by omega
    rw [ev_pos (by omega), w64i (n := l.length) (by omega) (by omega) hl]
    by_cases h0 : i = 0
    · subst h0
      rw [ev_neg (by omega)]
      exact ih 1 (by omega)
    · have e1 : (i : Int) - 1 = ((i - 1 : Nat) : Int) := by omega
      rw [ev_pos (by omega), ev_pos (by omega), ev_pos (by omega), w64 (by omega) (by omega), e1, ev_pos (by omega), ev_pos (by omega), rd_lt l i hi, rd_lt l (i - 1) (by omega), incB_at l i (by omega) hi]
      by_cases hc : l[i] ≤ l[i - 1]
      · rw [ev_pos hc, ev_now, decide_eq_false (by omega), Bool.false_and]
      · rw [ev_neg hc, decide_eq_true (by omega), Bool.true_and]
        have := ih (i + 1) (by omega)
        rw [Nat.add_sub_cancel] at this
        exact this
theorem impl_isIncreasing.ev (l : List Int) (hl : l.length ≤ 9223372036854775807) : Ev (fun k => impl_isIncreasing.f k l) (incB l) := impl_isIncreasing.ev_l l hl l.length 0 (by omega)
theorem impl_isSet.ev (l : List Int) (n : Int) (h0 : 0 ≤ n) (h9 : n ≤ 1000) (hl : l.length ≤ 9223372036854775807) : Ev (fun k => impl_isSet.f k l n) (setB n l) := by
  simp only [impl_isSet.f]
  rw [w64 (by omega) (by omega), ev_bind (ev_of (show impl_areIn.f l 0 (n - 1) = some _ from rfl))]
  unfold setB
  cases (l.all fun x => decide (0 ≤ x) && decide (x ≤ n - 1)) with
  | true => rw [ev_pos rfl, ev_bind (impl_isIncreasing.ev l hl), ev_now, Bool.true_and]
  | false => rw [ev_neg (by simp), ev_now, Bool.false_and]
theorem impl_maskOf.ev_l (l : List Int) (hl : l.length ≤ 9223372036854775807) (hx : ∀ x ∈ l, 0 ≤ x ∧ x ≤ 60) : ∀ (d i m : Nat), i + d = l.length → m < 2 ^ 61 → Ev (fun k => impl_maskOf.l0 k (m : Int) l (l.length : Int) (i : Int)) ((orBits m (l.drop i) : Nat) : Int) := by
  intro d
  induction d with
  | zero =>
    intro i m h hm
    refine ev_step ?_
    simp only [impl_maskOf.l0]
    rw [ev_neg (by omega), ev_now, List.drop_of_length_le (by omega)]
    rfl
  | succ d ih =>
    intro i m h hm
    refine ev_step ?_
    simp only [impl_maskOf.l0]
    have hi : i < l.length := by omega
    have hxi := hx l[i] (List.getElem_mem hi)
    obtain ⟨c, hc⟩ := Int.eq_ofNat_of_zero_le hxi.1
    have hp : 2 ^ c ≤ 2 ^ 60 := Nat.pow_le_pow_right (by omega) (by omega)
    have ho : m ||| 2 ^ c < 2 ^ 61 := Nat.or_lt_two_pow hm (by omega)
    rw [ev_pos (by omega), ev_pos (by omega), ev_pos (by omega), rd_lt l i hi, hc, ev_pos (by omega), w64i (n := l.length) (by omega) (by omega) hl, shl_one c (by omega), or_nat m (2 ^ c) (by omega) (by omega)]
    have := ih (i + 1) (m ||| 2 ^ c) (by omega) ho
    rw [List.drop_eq_getElem_cons hi]
    show Ev _ ((orBits (m ||| 2 ^ l[i].toNat) (l.drop (i + 1)) : Nat) : Int)
    rw [hc]
    exact this
theorem impl_maskOf.ev (l : List Int) (hl : l.length ≤ 9223372036854775807) (hx : ∀ x ∈ l, 0 ≤ x ∧ x ≤ 60) : Ev (fun k => impl_maskOf.f k l) ((maskN l : Nat) : Int) := impl_maskOf.ev_l l hl hx l.length 0 0 (by omega) (by omega)
def setOfB (q : Int) (ws s : List Int) : Bool := goodB q ws && setB (ws.length : Int) s
theorem impl_isSetOf.ev (q : Int) (ws s : List Int) (hl : ws.length ≤ 9223372036854775807) (hs : s.length ≤ 9223372036854775807) : Ev (fun k => impl_isSetOf.f k q ws s) (setOfB q ws s) := by
  simp only [impl_isSetOf.f]
  rw [ev_bind (impl_IsCommittee.ev q ws hl)]
  unfold setOfB
  cases hg : goodB q ws with
  | false => rw [ev_neg (by decide), ev_now]; rfl
  | true =>
    have h9 := ((good_iff q ws).1 hg).l9
    rw [ev_pos rfl, ev_bind (impl_isSet.ev s (ws.length : Int) (by omega) (by omega) hs), ev_now, Bool.true_and]
theorem setOfB_facts {q : Int} {ws s : List Int} (h : setOfB q ws s = true) : GoodC q ws ∧ setB (ws.length : Int) s = true ∧ (∀ x ∈ s, 0 ≤ x ∧ x ≤ 60) ∧ maskN s < 2 ^ ws.length ∧ maskN s < 2 ^ 62 := by
  unfold setOfB at h
  rw [Bool.and_eq_true] at h
  have hc := (good_iff q ws).1 h.1
  have h9 := hc.l9
  have hp := hc.pow
  have hm := setB_mask h.2
  exact ⟨hc, h.2, fun x hx => by have := setB_in h.2 x hx; omega, hm, by omega⟩
def winsV (q : Int) (ws s : List Int) : Bool × Bool := if setOfB q ws s = true then (decide (q ≤ wsum ws (maskN s)), true) else (false, false)
theorem impl_IsWinning.ev (q : Int) (ws s : List Int) (hl : ws.length ≤ 9223372036854775807) (hs : s.length ≤ 9223372036854775807) : Ev (fun k => impl_IsWinning.f k q ws s) (winsV q ws s) := by
  simp only [impl_IsWinning.f]
  rw [ev_bind (impl_isSetOf.ev q ws s hl hs)]
  unfold winsV
  cases hg : setOfB q ws s with
  | false => rw [ev_neg (by decide), ev_now]; rfl
  | true =>
    obtain ⟨hc, h1, h2, h3, h4⟩ := setOfB_facts hg
    have h9 := hc.l9
    rw [ev_pos rfl, ev_bind (impl_maskOf.ev s hs h2), ev_bind (impl_Committee_weight.ev q ws (maskN s) h4 (by omega) hc.wb), ev_now]
    rfl
theorem dum_swings {q : Int} {ws : List Int} (hc : GoodC q ws) {c : Nat} (hi : c < ws.length) : dumB q ws c = decide (swN (winsL q ws) c = 0) := by
  have hwl := winsL_length q ws
  rw [Bool.eq_iff_iff, decide_eq_true_eq, dumB_iff hc c hi]
  unfold swN cntS
  rw [List.length_eq_zero_iff, List.filter_eq_nil_iff]
  constructor
  · intro h m hm hs
    rw [List.mem_range, hwl] at hm
    simp only [swingB, Bool.and_eq_true, Bool.not_eq_true'] at hs
    obtain ⟨hb, hw, hv⟩ := hs
    have hlt := bitB_lt (m := m) (n := ws.length) (i := c) (by rw [hb]; decide) hm hi
    obtain ⟨m', h1, h2, h3⟩ := least_sub (winsL q ws) ws.length (m + 2 ^ c) hlt hv
    have h4 := h m' h1 h2
    have hmt : m.testBit c = false := by rw [← bitB_test]; exact hb
    have hsub : ∀ i, m'.testBit i = true → m.testBit i = true := by
      intro i hi'
      by_cases e : i = c
      · rw [e, h4] at hi'; cases hi'
      · have h5 := h3 i hi'
        have h6 := sub_pow_test (m + 2 ^ c) c i (by rw [← bitB_test]; simp only [bitB, decide_eq_true_eq]; have hb' : m / 2 ^ c % 2 = 0 := by { simp [bitB] at hb; omega }; rw [Nat.add_div_right _ (Nat.two_pow_pos c)]; omega)
        rw [Nat.add_sub_cancel, h5, decide_eq_false e] at h6
        rw [h6]
        rfl
    have h7 := wins_mono hc.w0 h1 hm hsub (leastB_bits h2).1
    rw [h7] at hw
    cases hw
  · intro h m hm hl
    cases hb : m.testBit c with
    | false => rfl
    | true =>
      exfalso
      have hle := pow_le_of_bit hb
      have hp0 := Nat.two_pow_pos c
      have h1 := leastB_bits hl
      have h2 := h1.2 c hi hb
      have h3 : (m - 2 ^ c).testBit c = false := by rw [sub_pow_test m c c hb]; simp
      refine h (m - 2 ^ c) (List.mem_range.2 (by rw [hwl]; omega)) ?_
      simp only [swingB, Bool.and_eq_true, Bool.not_eq_true']
      refine ⟨by rw [bitB_test]; exact h3, h2, ?_⟩
      rw [Nat.sub_add_cancel hle]
      exact h1.1
theorem sum_ge : ∀ (l : List Int), (∀ x ∈ l, 0 ≤ x) → ∀ x ∈ l, x ≤ l.sum
  | [], _, _, h => by cases h
  | a :: l, h0, x, h => by
    have ha := h0 a (List.mem_cons_self ..)
    have hs : 0 ≤ l.sum := by
      have : ∀ (l : List Int), (∀ x ∈ l, 0 ≤ x) → 0 ≤ l.sum := by
        intro l
        induction l with
        | nil => intro _; simp
        | cons b l ih => intro h; rw [List.sum_cons]; have := h b (List.mem_cons_self ..); have := ih (fun x hx => h x (List.mem_cons_of_mem _ hx)); omega
      exact this l (fun y hy => h0 y (List.mem_cons_of_mem _ hy))
    rw [List.sum_cons]
    rcases List.mem_cons.1 h with rfl | h
    · omega
    · have := sum_ge l (fun y hy => h0 y (List.mem_cons_of_mem _ hy)) x h
      omega
theorem swL_sum {q : Int} {ws : List Int} (hc : GoodC q ws) : 1 ≤ (swL (winsL q ws) ws.length).sum ∧ (swL (winsL q ws) ws.length).sum ≤ 4608 := by
  have hp := hc.pow
  have h9 := hc.l9
  have hin := swL_in (W := winsL q ws) (n := ws.length) (by rw [winsL_length]; omega)
  obtain ⟨i, hi, hr⟩ := some_real hc
  rw [dum_swings hc hi, decide_eq_false_iff_not] at hr
  have h1 := sum_ge (swL (winsL q ws) ws.length) (fun x hx => (hin x hx).1) ((swN (winsL q ws) i : Nat) : Int) (List.mem_map.2 ⟨i, List.mem_range.2 hi, rfl⟩)
  have h2 := (sum_bounds (swL (winsL q ws) ws.length) 512 hin).2
  rw [swL_len] at h2
  omega
theorem swL_fold {q : Int} {ws : List Int} (hc : GoodC q ws) : wfold (swL (winsL q ws) ws.length) 0 = (swL (winsL q ws) ws.length).sum := by
  have hp := hc.pow
  have h9 := hc.l9
  have hin := swL_in (W := winsL q ws) (n := ws.length) (by rw [winsL_length]; omega)
  rw [wfold_sum _ 0 (fun x hx => by have := hin x hx; omega) (by omega) (by rw [swL_len]; omega), Int.zero_add]
theorem cntW_some {q : Int} {ws : List Int} (hc : GoodC q ws) : 1 ≤ cntW (winsL q ws) ∧ cntW (winsL q ws) ≤ ((2 ^ ws.length : Nat) : Int) - 1 := by
  have hp := hc.pow
  have hwl := winsL_length q ws
  have h1 := cntW_range (winsL q ws)
  have e1 : 1 ≤ ((List.range (winsL q ws).length).filter fun m => (winsL q ws).getD m false).length := List.length_pos_of_mem (a := 2 ^ ws.length - 1) (List.mem_filter.2 ⟨List.mem_range.2 (by omega), wins_full hc⟩)
  have e2 : ((List.range (winsL q ws).length).filter fun m => (winsL q ws).getD m false).length ≤ (winsL q ws).length - 1 := by
    have : ((List.range (winsL q ws).length).filter fun m => (winsL q ws).getD m false).length < (List.range (winsL q ws).length).length := by
      refine List.length_filter_lt_length_iff_exists.2 ⟨0, List.mem_range.2 (by omega), ?_⟩
      rw [wins_none hc]
      decide
    rw [List.length_range] at this
    omega
  omega
theorem impl_votes_swings.ev_l1 (W : List Bool) (n c : Nat) (hW : W.length = 2 ^ n) (hn : n ≤ 18) (hc : c < n) (R : List Int) (hnext : Ev (fun k => impl_votes_swings.l0 k (swP W n (c + 1)) (n : Int) (wrap64 ((c : Int) + 1)) (n : Int) W) R) : ∀ (d m : Nat), m + d = W.length → Ev (fun k => impl_votes_swings.l1 k ((swP W n c).set c ((cntS W c m : Nat) : Int)) (c : Int) (n : Int) (c : Int) (W.length : Int) (m : Int) (n : Int) W) R := by
  have hp : 2 ^ n ≤ 2 ^ 18 := Nat.pow_le_pow_right (by omega) hn
  intro d
  induction d with
  | zero =>
    intro m h
    refine ev_step ?_
    simp only [impl_votes_swings.l1]
    rw [ev_neg (by omega)]
    have e : cntS W c m = swN W c := by rw [show m = W.length by omega]; rfl
    rw [e, swP_set W n c hc]
    exact hnext
  | succ d ih =>
    intro m h
    refine ev_step ?_
    simp only [impl_votes_swings.l1]
    have hm : m < W.length := by omega
    have hle := cntS_le W c m
    have hih := ih (m + 1) (by omega)
    have hlen : ((swP W n c).set c ((cntS W c m : Nat) : Int)).length = n := by rw [List.length_set, swP_len]
    rw [cntS_succ] at hih
    rw [ev_pos (by omega), ev_bind (ev_of (impl_votes_isSwing.v W n c m hW hn hc (by omega))), w64 (x := (m : Int) + 1) (by omega) (by omega)]
    by_cases hs : swingB W c m = true
    · rw [if_pos hs] at hih
      rw [ev_pos hs, ev_pos (by omega), ev_pos (by omega), rd_lt _ c (by omega), List.getElem_set_self, Int.toNat_natCast, List.set_set, w64 (by omega) (by omega)]
      exact hih
    · rw [if_neg hs] at hih
      rw [ev_neg hs]
      exact hih
theorem impl_votes_swings.ev (W : List Bool) (n : Nat) (hW : W.length = 2 ^ n) (hn : n ≤ 18) : Ev (fun k => impl_votes_swings.f k (n : Int) W) (swL W n) := by
  have hl0 : ∀ (d c : Nat), c + d = n → Ev (fun k => impl_votes_swings.l0 k (swP W n c) (n : Int) (c : Int) (n : Int) W) (swL W n) := by
    intro d
    induction d with
    | zero =>
      intro c h
      refine ev_step ?_
      simp only [impl_votes_swings.l0]
      rw [ev_neg (by omega), ev_now, show c = n by omega, swP_all]
    | succ d ih =>
      intro c h
      refine ev_step ?_
      simp only [impl_votes_swings.l0]
      have h1 := impl_votes_swings.ev_l1 W n c hW hn (by omega) (swL W n) (by rw [w64 (by omega) (by omega)]; exact ih (c + 1) (by omega)) W.length 0 (by omega)
      rw [show cntS W c 0 = 0 by rfl, show ((0 : Nat) : Int) = 0 by rfl, swP_set0 W n c (by omega)] at h1
      rw [ev_pos (by omega)]
      exact h1
  have h0 := hl0 n 0 (by omega)
  rw [swP_zero] at h0
  simp only [impl_votes_swings.f, Option.bind_some, Int.toNat_natCast]
  rw [ev_pos (by omega), ev_pos (by omega), List.length_replicate]
  exact h0
theorem spec_pwCounts.ev (W : List Bool) (n : Nat) (hW : W.length = 2 ^ n) (hn : n ≤ 18) : Ev (fun k => spec_pwCounts.f k W (n : Int)) (swL W n) := by
  have hl0 : ∀ (d c : Nat), c + d = n → Ev (fun k => spec_pwCounts.l0 k W (n : Int) ((List.range c).map fun c => ((swN W c : Nat) : Int)) (c : Int)) (swL W n) := by
    intro d
    induction d with
    | zero =>
      intro c h
      refine ev_step ?_
      simp only [spec_pwCounts.l0]
      rw [ev_neg (by omega), ev_now, show c = n by omega]
      rfl
    | succ d ih =>
      intro c h
      refine ev_step ?_
      simp only [spec_pwCounts.l0]
      have hs : Ev (fun k => spec_pwSwings.f k W (c : Int)) (takeM (swingB W c) W.length) := spec_pwSwings.ev_l W n c hW hn (by omega) W.length 0 (by omega)
      have e : ((takeM (swingB W c) W.length).length : Int) = ((swN W c : Nat) : Int) := by rw [takeM, List.length_map]; rfl
      have hih := ih (c + 1) (by omega)
      rw [List.range_succ, List.map_append, List.map_singleton, ← e] at hih
      rw [ev_pos (by omega), ev_bind hs, ev_pos (by rw [List.length_map, List.length_range]; omega), w64 (by omega) (by omega)]
      exact hih
  simp only [spec_pwCounts.f]
  exact hl0 n 0 (by omega)
def swoV (q : Int) (ws : List Int) : List Int × Bool := if goodB q ws = true then (swL (winsL q ws) ws.length, true) else ([], false)
theorem impl_SwingsOf.ev (q : Int) (ws : List Int) (hl : ws.length ≤ 9223372036854775807) : Ev (fun k => impl_SwingsOf.f k q ws) (swoV q ws) := by
  simp only [impl_SwingsOf.f]
  rw [ev_bind (impl_IsCommittee.ev q ws hl)]
  unfold swoV
  cases hg : goodB q ws with
  | false => rw [ev_neg (by decide), ev_now]; rfl
  | true =>
    have hc := (good_iff q ws).1 hg
    have h9 := hc.l9
    rw [ev_pos rfl, ev_bind (impl_Committee_votes.ev q ws h9 hc.wb), ev_bind (impl_votes_swings.ev _ _ (winsL_length q ws) (by omega)), ev_now]
    rfl
theorem spec_SwingsOf.ev (q : Int) (ws : List Int) (hl : ws.length ≤ 9223372036854775807) : Ev (fun k => spec_SwingsOf.f k q ws) (swoV q ws) := by
  simp only [spec_SwingsOf.f]
  rw [ev_bind (spec_voGood.ev q ws hl)]
  unfold swoV
  cases hg : goodB q ws with
  | false => rw [ev_neg (by decide), ev_now]; rfl
  | true =>
    have hc := (good_iff q ws).1 hg
    have h9 := hc.l9
    rw [ev_pos rfl, ev_bind (spec_voWins.ev q ws h9 hc.wb), ev_bind (spec_pwCounts.ev _ _ (winsL_length q ws) (by omega)), ev_now]
    rfl
theorem spec_gmCount.ev (W : List Bool) (hW : W.length ≤ 1000000) : Ev (fun k => spec_gmCount.f k W) (cntW W) := by
  have hl : ∀ (d i : Nat) (s : Int), i + d = W.length → 0 ≤ s → s + d ≤ 2000000 → Ev (fun k => spec_gmCount.l0 k s W (W.length : Int) (i : Int)) (s + ((W.drop i).count true : Nat)) := by
    intro d
    induction d with
    | zero =>
      intro i s h h0 h1
      refine ev_step ?_
      simp only [spec_gmCount.l0]
      rw [ev_neg (by omega), ev_now, List.drop_of_length_le (by omega)]
      simp
    | succ d ih =>
      intro i s h h0 h1
      refine ev_step ?_
      simp only [spec_gmCount.l0]
      have hi : i < W.length := by omega
      rw [ev_pos (by omega), ev_pos (by omega), ev_pos (by omega), rdOf_nat, w64 (x := (i : Int) + 1) (by omega) (by omega), count_drop W i hi]
      by_cases c : W.getD i false = true
      · rw [ev_pos c, if_pos c, w64 (by omega) (by omega), show s + (((W.drop (i + 1)).count true + 1 : Nat) : Int) = (s + 1) + ((W.drop (i + 1)).count true : Nat) by omega]
        exact ih (i + 1) (s + 1) (by omega) (by omega) (by omega)
      · rw [ev_neg c, if_neg c, Nat.add_zero]
        exact ih (i + 1) s (by omega) h0 (by omega)
  have := hl W.length 0 0 (by omega) (by omega) (by omega)
  rw [List.drop_zero, Int.zero_add] at this
  simp only [spec_gmCount.f]
  exact this
def spV (q : Int) (ws : List Int) : List S60 × Bool := if goodB q ws = true then (shRow (swL (winsL q ws) ws.length) ((2 ^ (ws.length - 1) : Nat) : Int), true) else ([], false)
def ssV (q : Int) (ws : List Int) : List S60 × Bool := if goodB q ws = true then (shRow (swL (winsL q ws) ws.length) (swL (winsL q ws) ws.length).sum, true) else ([], false)
def bpV (q : Int) (ws : List Int) : List S60 × Bool := if goodB q ws = true then (shRow (swL (winsL q ws) ws.length) (cntW (winsL q ws)), true) else ([], false)
def stpV (q : Int) (ws : List Int) : List S60 × Bool := if goodB q ws = true then (shRow (swL (winsL q ws) ws.length) (((2 ^ ws.length : Nat) : Int) - cntW (winsL q ws)), true) else ([], false)
def dpV (q : Int) (ws : List Int) : Int × Int × Bool := if goodB q ws = true then ((shN (cntW (winsL q ws)) ((2 ^ ws.length : Nat) : Int)).1, (shN (cntW (winsL q ws)) ((2 ^ ws.length : Nat) : Int)).2, true) else (0, 0, false)
theorem half_pow {q : Int} {ws : List Int} (hc : GoodC q ws) : (((winsL q ws).length : Nat) : Int) / 2 = ((2 ^ (ws.length - 1) : Nat) : Int) ∧ 1 ≤ 2 ^ (ws.length - 1) ∧ 2 ^ (ws.length - 1) ≤ 256 := by
  have hp := hc.pow
  have h1 := hc.l1
  have e : 2 ^ ws.length = 2 * 2 ^ (ws.length - 1) := by rw [← Nat.pow_succ']; congr 1; omega
  have h0 := Nat.two_pow_pos (ws.length - 1)
  rw [winsL_length]
  omega
theorem impl_SwingPowers.ev (q : Int) (ws : List Int) (hl : ws.length ≤ 9223372036854775807) : Ev (fun k => impl_SwingPowers.f k q ws) (spV q ws) := by
  simp only [impl_SwingPowers.f]
  rw [ev_bind (impl_IsCommittee.ev q ws hl)]
  unfold spV
  cases hg : goodB q ws with
  | false => rw [ev_neg (by decide), ev_now]; rfl
  | true =>
    have hc := (good_iff q ws).1 hg
    have h9 := hc.l9
    have hp := hc.pow
    have hh := half_pow hc
    have hin := swL_in (W := winsL q ws) (n := ws.length) (by rw [winsL_length]; omega)
    rw [ev_pos rfl, ev_bind (impl_Committee_votes.ev q ws h9 hc.wb), ev_bind (impl_votes_swings.ev _ _ (winsL_length q ws) (by omega))]
    dsimp only
    rw [hh.1, w64 (by omega) (by omega), ev_bind (impl_sharesOf.ev _ _ (by rw [swL_len]; omega) (by omega) (by omega) (fun x hx => by have := hin x hx; omega)), ev_now]
    rfl
theorem impl_SwingShares.ev (q : Int) (ws : List Int) (hl : ws.length ≤ 9223372036854775807) : Ev (fun k => impl_SwingShares.f k q ws) (ssV q ws) := by
  simp only [impl_SwingShares.f]
  rw [ev_bind (impl_IsCommittee.ev q ws hl)]
  unfold ssV
  cases hg : goodB q ws with
  | false => rw [ev_neg (by decide), ev_now]; rfl
  | true =>
    have hc := (good_iff q ws).1 hg
    have h9 := hc.l9
    have hp := hc.pow
    have hs := swL_sum hc
    have hin := swL_in (W := winsL q ws) (n := ws.length) (by rw [winsL_length]; omega)
    rw [ev_pos rfl, ev_bind (impl_Committee_votes.ev q ws h9 hc.wb), ev_bind (impl_votes_swings.ev _ _ (winsL_length q ws) (by omega)), ev_bind (impl_sumOf.ev _ (by rw [swL_len]; omega)), swL_fold hc, ev_bind (impl_sharesOf.ev _ _ (by rw [swL_len]; omega) (by omega) (by omega) (fun x hx => by have := hin x hx; omega)), ev_now]
    rfl
theorem impl_BlockPowers.ev (q : Int) (ws : List Int) (hl : ws.length ≤ 9223372036854775807) : Ev (fun k => impl_BlockPowers.f k q ws) (bpV q ws) := by
  simp only [impl_BlockPowers.f]
  rw [ev_bind (impl_IsCommittee.ev q ws hl)]
  unfold bpV
  cases hg : goodB q ws with
  | false => rw [ev_neg (by decide), ev_now]; rfl
  | true =>
    have hc := (good_iff q ws).1 hg
    have h9 := hc.l9
    have hp := hc.pow
    have hs := cntW_some hc
    have hin := swL_in (W := winsL q ws) (n := ws.length) (by rw [winsL_length]; omega)
    rw [ev_pos rfl, ev_bind (impl_Committee_votes.ev q ws h9 hc.wb), ev_bind (impl_votes_swings.ev _ _ (winsL_length q ws) (by omega)), ev_bind (impl_votes_countWins.ev _ _ (by rw [winsL_length]; omega))]
    dsimp only
    rw [ev_bind (impl_sharesOf.ev _ _ (by rw [swL_len]; omega) (by omega) (by omega) (fun x hx => by have := hin x hx; omega)), ev_now]
    rfl
theorem impl_StartPowers.ev (q : Int) (ws : List Int) (hl : ws.length ≤ 9223372036854775807) : Ev (fun k => impl_StartPowers.f k q ws) (stpV q ws) := by
  simp only [impl_StartPowers.f]
  rw [ev_bind (impl_IsCommittee.ev q ws hl)]
  unfold stpV
  cases hg : goodB q ws with
  | false => rw [ev_neg (by decide), ev_now]; rfl
  | true =>
    have hc := (good_iff q ws).1 hg
    have h9 := hc.l9
    have hp := hc.pow
    have hs := cntW_some hc
    have hin := swL_in (W := winsL q ws) (n := ws.length) (by rw [winsL_length]; omega)
    rw [ev_pos rfl, ev_bind (impl_Committee_votes.ev q ws h9 hc.wb), ev_bind (impl_votes_swings.ev _ _ (winsL_length q ws) (by omega)), ev_bind (impl_votes_countWins.ev _ _ (by rw [winsL_length]; omega))]
    dsimp only
    rw [winsL_length, w64 (by omega) (by omega), ev_bind (impl_sharesOf.ev _ _ (by rw [swL_len]; omega) (by omega) (by omega) (fun x hx => by have := hin x hx; omega)), ev_now]
    rfl
theorem impl_DecidePower.ev (q : Int) (ws : List Int) (hl : ws.length ≤ 9223372036854775807) : Ev (fun k => impl_DecidePower.f k q ws) (dpV q ws) := by
  simp only [impl_DecidePower.f]
  rw [ev_bind (impl_IsCommittee.ev q ws hl)]
  unfold dpV
  cases hg : goodB q ws with
  | false => rw [ev_neg (by decide), ev_now]; rfl
  | true =>
    have hc := (good_iff q ws).1 hg
    have h9 := hc.l9
    have hp := hc.pow
    have hs := cntW_some hc
    rw [ev_pos rfl, ev_bind (impl_Committee_votes.ev q ws h9 hc.wb), ev_bind (impl_votes_countWins.ev _ _ (by rw [winsL_length]; omega))]
    dsimp only
    rw [winsL_length, ev_bind (impl_shareOf.ev _ _ (by omega) (by omega) (by omega) (by omega)), ev_now]
    rfl
theorem spec_DecidePower.ev (q : Int) (ws : List Int) (hl : ws.length ≤ 9223372036854775807) : Ev (fun k => spec_DecidePower.f k q ws) (dpV q ws) := by
  simp only [spec_DecidePower.f]
  rw [ev_bind (spec_voGood.ev q ws hl)]
  unfold dpV
  cases hg : goodB q ws with
  | false => rw [ev_neg (by decide), ev_now]; rfl
  | true =>
    have hc := (good_iff q ws).1 hg
    have h9 := hc.l9
    have hp := hc.pow
    have hs := cntW_some hc
    rw [ev_pos rfl, ev_bind (spec_voWins.ev q ws h9 hc.wb), ev_bind (spec_gmCount.ev _ (by rw [winsL_length]; omega)), winsL_length, ev_bind (spec_pwShare.ev _ _ (by omega) (by omega) (by omega) (by omega)), ev_now]
    rfl
theorem spec_pwShares.ev_l (L : List Int) (t : Int) (hl : L.length ≤ 1000000) (ht : 1 ≤ t) (ht2 : t ≤ 1000000000000) (hx : ∀ x ∈ L, 0 ≤ x ∧ x ≤ 1000000000000) (hs : wfold L 0 = t) : ∀ (d i : Nat), i + d = L.length → Ev (fun k => spec_pwShares.l0 k L (shRow (L.take i) t) L (L.length : Int) (i : Int)) (shRow L t) := by
  intro d
  induction d with
  | zero =>
    intro i h
    refine ev_step ?_
    simp only [spec_pwShares.l0]
    rw [ev_neg (by omega), ev_now, List.take_of_length_le (by omega)]
  | succ d ih =>
    intro i h
    refine ev_step ?_
    simp only [spec_pwShares.l0]
    have hi : i < L.length := by omega
    have hxi := hx L[i] (List.getElem_mem hi)
    have hlen : (shRow (L.take i) t).length = i := by simp [shRow]; omega
    have hih := ih (i + 1) (by omega)
    rw [shRow_snoc L t i hi] at hih
    rw [ev_pos (by omega), ev_pos (by omega), ev_pos (by omega), rd_lt L i hi, ev_bind (spec_voSum.ev L (by omega)), hs, ev_bind (spec_pwShare.ev L[i] t hxi.1 ht hxi.2 ht2), ev_pos (by omega), w64i (n := L.length) (by omega) (by omega) (by omega)]
    exact hih
theorem spec_SwingPowers.ev_l (L : List Int) (t : Int) (hl : L.length ≤ 1000000) (ht : 1 ≤ t) (ht2 : t ≤ 1000000000000) (hx : ∀ x ∈ L, 0 ≤ x ∧ x ≤ 1000000000000) (n : Nat) (hn1 : 1 ≤ n) (hn : n ≤ 62) (e : ((2 ^ (n - 1) : Nat) : Int) = t) : ∀ (d i : Nat), i + d = L.length → Ev (fun k => spec_SwingPowers.l0 k (n : Int) (shRow (L.take i) t) L (L.length : Int) (i : Int)) (shRow L t, true) := by
  intro d
  induction d with
  | zero =>
    intro i h
    refine ev_step ?_
    simp only [spec_SwingPowers.l0]
    rw [ev_neg (by omega), ev_now, List.take_of_length_le (by omega)]
  | succ d ih =>
    intro i h
    refine ev_step ?_
    simp only [spec_SwingPowers.l0]
    have hi : i < L.length := by omega
    have hxi := hx L[i] (List.getElem_mem hi)
    have hlen : (shRow (L.take i) t).length = i := by simp [shRow]; omega
    have hih := ih (i + 1) (by omega)
    rw [shRow_snoc L t i hi] at hih
    rw [ev_pos (by omega), ev_pos (by omega), ev_pos (by omega), rd_lt L i hi, ev_pos (by rw [w64 (by omega) (by omega)]; omega), show wrap64 ((n : Int) - 1) = ((n - 1 : Nat) : Int) by rw [w64 (by omega) (by omega)]; omega, shl_one (n - 1) (by omega), e, ev_bind (spec_pwShare.ev L[i] t hxi.1 ht hxi.2 ht2), ev_pos (by omega), w64i (n := L.length) (by omega) (by omega) (by omega)]
    exact hih
theorem spec_BlockPowers.ev_l (L : List Int) (t : Int) (hl : L.length ≤ 1000000) (ht : 1 ≤ t) (ht2 : t ≤ 1000000000000) (hx : ∀ x ∈ L, 0 ≤ x ∧ x ≤ 1000000000000) (W : List Bool) (hW : W.length ≤ 1000000) (e : cntW W = t) : ∀ (d i : Nat), i + d = L.length → Ev (fun k => spec_BlockPowers.l0 k W (shRow (L.take i) t) L (L.length : Int) (i : Int)) (shRow L t, true) := by
  intro d
  induction d with
  | zero =>
    intro i h
    refine ev_step ?_
    simp only [spec_BlockPowers.l0]
    rw [ev_neg (by omega), ev_now, List.take_of_length_le (by omega)]
  | succ d ih =>
    intro i h
    refine ev_step ?_
    simp only [spec_BlockPowers.l0]
    have hi : i < L.length := by omega
    have hxi := hx L[i] (List.getElem_mem hi)
    have hlen : (shRow (L.take i) t).length = i := by simp [shRow]; omega
    have hih := ih (i + 1) (by omega)
    rw [shRow_snoc L t i hi] at hih
    rw [ev_pos (by omega), ev_pos (by omega), ev_pos (by omega), rd_lt L i hi, ev_bind (spec_gmCount.ev W hW), e, ev_bind (spec_pwShare.ev L[i] t hxi.1 ht hxi.2 ht2), ev_pos (by omega), w64i (n := L.length) (by omega) (by omega) (by omega)]
    exact hih
theorem spec_StartPowers.ev_l (L : List Int) (t : Int) (hl : L.length ≤ 1000000) (ht : 1 ≤ t) (ht2 : t ≤ 1000000000000) (hx : ∀ x ∈ L, 0 ≤ x ∧ x ≤ 1000000000000) (W : List Bool) (hW : W.length ≤ 1000000) (e : (W.length : Int) - cntW W = t) : ∀ (d i : Nat), i + d = L.length → Ev (fun k => spec_StartPowers.l0 k W (shRow (L.take i) t) L (L.length : Int) (i : Int)) (shRow L t, true) := by
  intro d
  induction d with
  | zero =>
    intro i h
    refine ev_step ?_
    simp only [spec_StartPowers.l0]
    rw [ev_neg (by omega), ev_now, List.take_of_length_le (by omega)]
  | succ d ih =>
    intro i h
    refine ev_step ?_
    simp only [spec_StartPowers.l0]
    have hi : i < L.length := by omega
    have hxi := hx L[i] (List.getElem_mem hi)
    have hlen : (shRow (L.take i) t).length = i := by simp [shRow]; omega
    have hih := ih (i + 1) (by omega)
    rw [shRow_snoc L t i hi] at hih
    rw [ev_pos (by omega), ev_pos (by omega), ev_pos (by omega), rd_lt L i hi, ev_bind (spec_gmCount.ev W hW), e, w64 (x := t) (by omega) (by omega), ev_bind (spec_pwShare.ev L[i] t hxi.1 ht hxi.2 ht2), ev_pos (by omega), w64i (n := L.length) (by omega) (by omega) (by omega)]
    exact hih
theorem spec_pwShares.ev (W : List Bool) (n : Nat) (hW : W.length = 2 ^ n) (hn : n ≤ 18) (t : Int) (ht : 1 ≤ t) (ht2 : t ≤ 1000000000000) (hx : ∀ x ∈ swL W n, 0 ≤ x ∧ x ≤ 1000000000000) (hs : wfold (swL W n) 0 = t) : Ev (fun k => spec_pwShares.f k W (n : Int)) (shRow (swL W n) t) := by
  simp only [spec_pwShares.f]
  rw [ev_bind (spec_pwCounts.ev W n hW hn)]
  exact spec_pwShares.ev_l (swL W n) t (by rw [swL_len]; omega) ht ht2 hx hs _ 0 (Nat.zero_add _)
theorem spec_SwingShares.ev (q : Int) (ws : List Int) (hl : ws.length ≤ 9223372036854775807) : Ev (fun k => spec_SwingShares.f k q ws) (ssV q ws) := by
  simp only [spec_SwingShares.f]
  rw [ev_bind (spec_voGood.ev q ws hl)]
  unfold ssV
  cases hg : goodB q ws with
  | false => rw [ev_neg (by decide), ev_now]; rfl
  | true =>
    have hc := (good_iff q ws).1 hg
    have h9 := hc.l9
    have hp := hc.pow
    have hs := swL_sum hc
    have hin := swL_in (W := winsL q ws) (n := ws.length) (by rw [winsL_length]; omega)
    rw [ev_pos rfl, ev_bind (spec_voWins.ev q ws h9 hc.wb), ev_bind (spec_pwShares.ev _ _ (winsL_length q ws) (by omega) (swL (winsL q ws) ws.length).sum (by omega) (by omega) (fun x hx => by have := hin x hx; omega) (swL_fold hc)), ev_now]
    rfl
theorem spec_SwingPowers.ev (q : Int) (ws : List Int) (hl : ws.length ≤ 9223372036854775807) : Ev (fun k => spec_SwingPowers.f k q ws) (spV q ws) := by
  simp only [spec_SwingPowers.f]
  rw [ev_bind (spec_voGood.ev q ws hl)]
  unfold spV
  cases hg : goodB q ws with
  | false => rw [ev_neg (by decide), ev_now]; rfl
  | true =>
    have hc := (good_iff q ws).1 hg
    have h9 := hc.l9
    have h1 := hc.l1
    have hp := hc.pow
    have hwl := winsL_length q ws
    have hin := swL_in (W := winsL q ws) (n := ws.length) (by rw [winsL_length]; omega)
    have hx : ∀ x ∈ swL (winsL q ws) ws.length, 0 ≤ x ∧ x ≤ 1000000000000 := fun x hx => by have := hin x hx; omega
    have hsl := swL_len (winsL q ws) ws.length
    have hh := half_pow hc
    have h0 := spec_SwingPowers.ev_l (swL (winsL q ws) ws.length) ((2 ^ (ws.length - 1) : Nat) : Int) (by omega) (by omega) (by omega) hx ws.length h1 (by omega) rfl _ 0 (Nat.zero_add _)
    rw [ev_pos rfl, ev_bind (spec_voWins.ev q ws h9 hc.wb), ev_bind (spec_pwCounts.ev _ _ hwl (by omega))]
    exact h0
theorem spec_BlockPowers.ev (q : Int) (ws : List Int) (hl : ws.length ≤ 9223372036854775807) : Ev (fun k => spec_BlockPowers.f k q ws) (bpV q ws) := by
  simp only [spec_BlockPowers.f]
  rw [ev_bind (spec_voGood.ev q ws hl)]
  unfold bpV
  cases hg : goodB q ws with
  | false => rw [ev_neg (by decide), ev_now]; rfl
  | true =>
    have hc := (good_iff q ws).1 hg
    have h9 := hc.l9
    have h1 := hc.l1
    have hp := hc.pow
    have hwl := winsL_length q ws
    have hin := swL_in (W := winsL q ws) (n := ws.length) (by rw [winsL_length]; omega)
    have hx : ∀ x ∈ swL (winsL q ws) ws.length, 0 ≤ x ∧ x ≤ 1000000000000 := fun x hx => by have := hin x hx; omega
    have hsl := swL_len (winsL q ws) ws.length
    have hs := cntW_some hc
    have h0 := spec_BlockPowers.ev_l (swL (winsL q ws) ws.length) (cntW (winsL q ws)) (by omega) (by omega) (by omega) hx (winsL q ws) (by omega) rfl _ 0 (Nat.zero_add _)
    rw [ev_pos rfl, ev_bind (spec_voWins.ev q ws h9 hc.wb), ev_bind (spec_pwCounts.ev _ _ hwl (by omega))]
    exact h0
theorem spec_StartPowers.ev (q : Int) (ws : List Int) (hl : ws.length ≤ 9223372036854775807) : Ev (fun k => spec_StartPowers.f k q ws) (stpV q ws) := by
  simp only [spec_StartPowers.f]
  rw [ev_bind (spec_voGood.ev q ws hl)]
  unfold stpV
  cases hg : goodB q ws with
  | false => rw [ev_neg (by decide), ev_now]; rfl
  | true =>
    have hc := (good_iff q ws).1 hg
    have h9 := hc.l9
    have h1 := hc.l1
    have hp := hc.pow
    have hwl := winsL_length q ws
    have hin := swL_in (W := winsL q ws) (n := ws.length) (by rw [winsL_length]; omega)
    have hx : ∀ x ∈ swL (winsL q ws) ws.length, 0 ≤ x ∧ x ≤ 1000000000000 := fun x hx => by have := hin x hx; omega
    have hsl := swL_len (winsL q ws) ws.length
    have hs := cntW_some hc
    have h0 := spec_StartPowers.ev_l (swL (winsL q ws) ws.length) (((2 ^ ws.length : Nat) : Int) - cntW (winsL q ws)) (by omega) (by omega) (by omega) hx (winsL q ws) (by omega) (by rw [hwl]) _ 0 (Nat.zero_add _)
    rw [ev_pos rfl, ev_bind (spec_voWins.ev q ws h9 hc.wb), ev_bind (spec_pwCounts.ev _ _ hwl (by omega))]
    exact h0
def othI (s : List Int) (n : Nat) : List Int := takeI (fun i => !(s.contains (i : Int))) n
theorem setN_set {m n : Nat} (hm : m < 2 ^ n) (hn : n ≤ 60) : setB (n : Int) (setN m) = true ∧ maskN (setN m) = m := by
  have e : setN m = takeI (bitB m) n := by rw [setN_to hm (by omega)]; rfl
  refine ⟨by rw [e]; exact takeI_set _ _, Nat.eq_of_testBit_eq fun i => ?_⟩
  rw [e, maskN_takeI, bitB_test]
  by_cases h : i < n
  · rw [decide_eq_true h, Bool.true_and]
  · rw [decide_eq_false h, Bool.false_and, Nat.testBit_lt_two_pow (Nat.lt_of_lt_of_le hm (Nat.pow_le_pow_right (by omega) (by omega)))]
theorem setN_wins {q : Int} {ws : List Int} (hc : GoodC q ws) {m : Nat} (hm : m < 2 ^ ws.length) : winsV q ws (setN m) = ((winsL q ws).getD m false, true) ∧ winsV q ws (othI (setN m) ws.length) = ((winsL q ws).getD (2 ^ ws.length - 1 - m) false, true) := by
  have h9 := hc.l9
  have hg := (good_iff q ws).2 hc
  obtain ⟨h1, h2⟩ := setN_set hm (show ws.length ≤ 60 by omega)
  have h3 : setOfB q ws (setN m) = true := by rw [setOfB, hg, h1]; rfl
  have h4 : setOfB q ws (othI (setN m) ws.length) = true := by rw [setOfB, hg, othI, takeI_set]; rfl
  have h5 : maskN (othI (setN m) ws.length) = 2 ^ ws.length - 1 - m := by rw [othI, maskN_oth _ _ h1, h2]
  have hp := hc.pow
  exact ⟨by rw [winsV, if_pos h3, h2, winsL_getD q ws m hm], by rw [winsV, if_pos h4, h5, winsL_getD q ws _ (by omega)]⟩
theorem swing_wins {q : Int} {ws : List Int} (hc : GoodC q ws) {c m : Nat} (hi : c < ws.length) (hm : m < 2 ^ ws.length) (hs : swingB (winsL q ws) c m = true) : winsV q ws (setN m) = (false, true) ∧ winsV q ws (setN (m + 2 ^ c)) = (true, true) ∧ bitB m c = false ∧ m + 2 ^ c < 2 ^ ws.length := by
  simp only [swingB, Bool.and_eq_true, Bool.not_eq_true'] at hs
  obtain ⟨hb, hw, hv⟩ := hs
  have hlt := bitB_lt (m := m) (n := ws.length) (i := c) (by rw [hb]; decide) hm hi
  refine ⟨?_, ?_, hb, hlt⟩
  · rw [(setN_wins hc hm).1, hw]
  · rw [(setN_wins hc hlt).1, hv]
theorem sum_setI : ∀ (l : List Int) (i : Nat) (v : Int) (h : i < l.length), (l.set i v).sum = l.sum + (v - l[i])
  | [], i, v, h => by simp at h
  | a :: l, 0, v, _ => by simp only [List.set_cons_zero, List.sum_cons, List.getElem_cons_zero]; omega
  | a :: l, i + 1, v, h => by
    have ih := sum_setI l i v (by simpa using h)
    simp only [List.set_cons_succ, List.sum_cons, List.getElem_cons_succ, ih]
    omega
def cntP (W : List Bool) (c s m : Nat) : Nat := ((List.range m).filter fun j => swingB W c j && decide (popN j = s)).length
def bsL (W : List Bool) (c n m : Nat) : List Int := (List.range n).map fun s => ((cntP W c s m : Nat) : Int)
theorem cntP_succ (W : List Bool) (c s m : Nat) : cntP W c s (m + 1) = cntP W c s m + if swingB W c m = true ∧ popN m = s then 1 else 0 := by
  unfold cntP
  rw [List.range_succ, List.filter_append, List.length_append]
  by_cases h : swingB W c m = true <;> by_cases h2 : popN m = s <;> simp [h, h2]
theorem cntP_le (W : List Bool) (c s m : Nat) : cntP W c s m ≤ m := by
  unfold cntP
  have := List.length_filter_le (fun j => swingB W c j && decide (popN j = s)) (List.range m)
  rw [List.length_range] at this
  exact this
theorem bsL_len (W : List Bool) (c n m : Nat) : (bsL W c n m).length = n := by rw [bsL, List.length_map, List.length_range]
theorem bsL_get (W : List Bool) (c n m s : Nat) (h : s < (bsL W c n m).length) : (bsL W c n m)[s] = ((cntP W c s m : Nat) : Int) := by simp [bsL]
theorem bsL_zero (W : List Bool) (c n : Nat) : bsL W c n 0 = List.replicate n 0 := by
  unfold bsL
  refine List.ext_getElem (by simp) (fun i h1 h2 => ?_)
  simp [cntP]
theorem bsL_not (W : List Bool) (c n m : Nat) (h : ¬ swingB W c m = true) : bsL W c n (m + 1) = bsL W c n m := by
  unfold bsL
  refine List.map_congr_left (fun s _ => ?_)
  rw [cntP_succ, if_neg (fun e => h e.1), Nat.add_zero]
theorem bsL_set (W : List Bool) (c n m : Nat) (h : swingB W c m = true) : bsL W c n (m + 1) = (bsL W c n m).set (popN m) ((cntP W c (popN m) m : Nat) + 1 : Int) := by
  refine List.ext_getElem (by simp [bsL]) (fun i h1 h2 => ?_)
  rw [List.getElem_set, bsL_get, cntP_succ]
  by_cases e : popN m = i
  · rw [if_pos ⟨h, e⟩, if_pos e, e]
    omega
  · rw [if_neg (fun z => e z.2), if_neg e, bsL_get, Nat.add_zero]
theorem swing_pop {W : List Bool} {n c m : Nat} (hn : n ≤ 9) (hc : c < n) (hm : m < 2 ^ n) (h : swingB W c m = true) : popN m < n := by
  have hp : 2 ^ n ≤ 2 ^ 9 := Nat.pow_le_pow_right (by omega) hn
  simp only [swingB, Bool.and_eq_true, Bool.not_eq_true'] at h
  have hb := h.1
  have h1 := popN_or (m := m) (x := c) (by omega) (by omega)
  rw [hb, if_neg (by decide), or_pow c m (by simp [bitB] at hb; omega)] at h1
  have h2 := popN_le (m := m + 2 ^ c) (n := n) (bitB_lt (by rw [hb]; decide) hm hc) hn
  omega
theorem bsL_sum (W : List Bool) (n c : Nat) (hn : n ≤ 9) (hc : c < n) : ∀ m, m ≤ 2 ^ n → (bsL W c n m).sum = ((cntS W c m : Nat) : Int) := by
  intro m
  induction m with
  | zero =>
    intro _
    rw [bsL_zero]
    simp [cntS]
  | succ m ih =>
    intro h
    have hih := ih (by omega)
    rw [cntS_succ]
    by_cases hs : swingB W c m = true
    · have hpo := swing_pop hn hc (show m < 2 ^ n by omega) hs
      rw [bsL_set W c n m hs, sum_setI _ _ _ (by rw [bsL_len]; exact hpo), bsL_get, hih, if_pos hs]
      omega
    · rw [bsL_not W c n m hs, hih, if_neg hs, Nat.add_zero]
def sbV (q : Int) (ws : List Int) (a : Int) : List Int × Bool := if memB q ws a = true then (bsL (winsL q ws) a.toNat ws.length (winsL q ws).length, true) else ([], false)
theorem impl_SwingsBySize.ev_l (W : List Bool) (n c : Nat) (hW : W.length = 2 ^ n) (hn : n ≤ 9) (hc : c < n) : ∀ (d m : Nat), m + d = W.length → Ev (fun k => impl_SwingsBySize.l0 k (c : Int) (bsL W c n m) (W.length : Int) (m : Int) (n : Int) W) (bsL W c n W.length, true) := by
  have hp : 2 ^ n ≤ 2 ^ 9 := Nat.pow_le_pow_right (by omega) hn
  intro d
  induction d with
  | zero =>
    intro m h
    refine ev_step ?_
    simp only [impl_SwingsBySize.l0]
    rw [ev_neg (by omega), ev_now, show m = W.length by omega]
  | succ d ih =>
    intro m h
    refine ev_step ?_
    simp only [impl_SwingsBySize.l0]
    have hih := ih (m + 1) (by omega)
    have hlen := bsL_len W c n m
    rw [ev_pos (by omega), ev_bind (ev_of (impl_votes_isSwing.v W n c m hW (by omega) hc (by omega))), w64 (x := (m : Int) + 1) (by omega) (by omega)]
    by_cases hs : swingB W c m = true
    · have hpo := swing_pop hn hc (show m < 2 ^ n by omega) hs
      have hle := cntP_le W c (popN m) m
      rw [bsL_set W c n m hs] at hih
      rw [ev_pos hs, ev_bind (ev_of (impl_count.v (m := m) (by omega))), ev_pos (by omega), ev_pos (by omega), rd_lt _ (popN m) (by omega), bsL_get, Int.toNat_natCast, w64 (by omega) (by omega)]
      exact hih
    · rw [bsL_not W c n m hs] at hih
      rw [ev_neg hs]
      exact hih
theorem impl_SwingsBySize.ev (q : Int) (ws : List Int) (a : Int) (hl : ws.length ≤ 9223372036854775807) : Ev (fun k => impl_SwingsBySize.f k q ws a) (sbV q ws a) := by
  simp only [impl_SwingsBySize.f]
  rw [ev_bind (impl_isMember.ev q ws a hl)]
  unfold sbV
  cases hg : memB q ws a with
  | false => rw [ev_neg (by decide), ev_now]; rfl
  | true =>
    obtain ⟨hc, c, rfl, hcl⟩ := memB_iff hg
    have h9 := hc.l9
    have h0 := impl_SwingsBySize.ev_l (winsL q ws) ws.length c (winsL_length q ws) h9 hcl (winsL q ws).length 0 (by omega)
    rw [bsL_zero] at h0
    rw [ev_pos rfl, ev_bind (impl_Committee_votes.ev q ws h9 hc.wb)]
    dsimp only
    rw [ev_pos (by omega), ev_pos (by omega), Int.toNat_natCast, if_pos rfl, Int.toNat_natCast]
    exact h0
theorem spec_SwingsBySize.ev_l (W : List Bool) (n c : Nat) (hW : W.length = 2 ^ n) (hn : n ≤ 9) (hc : c < n) (M : List Int) : ∀ (d : Nat) (m i : Nat), m + d = W.length → M = takeM (swingB W c) W.length → i = (takeM (swingB W c) m).length → Ev (fun k => spec_SwingsBySize.l0 k (bsL W c n m) M (M.length : Int) (i : Int)) (bsL W c n W.length, true) := by
  have hp : 2 ^ n ≤ 2 ^ 9 := Nat.pow_le_pow_right (by omega) hn
  intro d
  induction d with
  | zero =>
    intro m i h hM hi
    refine ev_step ?_
    simp only [spec_SwingsBySize.l0]
    have e : m = W.length := by omega
    subst e
    rw [ev_neg (by rw [hM, hi]; omega), ev_now]
  | succ d ih =>
    intro m i h hM hi
    by_cases hs : swingB W c m = true
    · have hpo := swing_pop hn hc (show m < 2 ^ n by omega) hs
      have hle := cntP_le W c (popN m) m
      have hlen := bsL_len W c n m
      have hnx : takeM (swingB W c) (m + 1) = takeM (swingB W c) m ++ [(m : Int)] := by rw [takeM_succ, if_pos hs]
      have hpre : ∀ N, m + 1 ≤ N → takeM (swingB W c) (m + 1) <+: takeM (swingB W c) N := by
        intro N hN
        induction N with
        | zero => omega
        | succ N ihN =>
          by_cases e : m + 1 = N + 1
          · rw [e]; exact List.prefix_refl _
          · refine List.IsPrefix.trans (ihN (by omega)) ?_
            rw [takeM_succ]
            split
            · exact List.prefix_append _ _
            · exact List.prefix_refl _
      obtain ⟨r, hr⟩ := hpre W.length (by omega)
      rw [hnx] at hr
      have hMl := takeM_len (swingB W c) W.length
      have hil : i < M.length := by rw [hM, ← hr, hi]; simp
      have hget : M[i] = (m : Int) := by
        have : M = takeM (swingB W c) m ++ [(m : Int)] ++ r := by rw [hM, hr]
        simp only [this, hi]
        rw [List.getElem_append_left (by simp), List.getElem_append_right (Nat.le_refl _)]
        simp
      have hih := ih (m + 1) (i + 1) (by omega) hM (by rw [hnx, List.length_append, List.length_singleton, hi])
      rw [bsL_set W c n m hs] at hih
      refine ev_step ?_
      simp only [spec_SwingsBySize.l0]
      rw [ev_pos (by omega), ev_pos (by omega), ev_pos (by omega), rd_lt M i hil, hget, ev_bind (spec_voList.ev m (by omega)), popN_setN (by omega), ev_pos (by omega), ev_pos (by omega), rd_lt _ (popN m) (by omega), bsL_get, Int.toNat_natCast, w64 (x := ((cntP W c (popN m) m : Nat) : Int) + 1) (by omega) (by omega), w64 (x := (i : Int) + 1) (by rw [hM] at hil; omega) (by rw [hM] at hil; omega)]
      exact hih
    · have hih := ih (m + 1) i (by omega) hM (by rw [takeM_succ, if_neg hs]; exact hi)
      rw [bsL_not W c n m hs] at hih
      exact hih
theorem spec_SwingsBySize.ev (q : Int) (ws : List Int) (a : Int) (hl : ws.length ≤ 9223372036854775807) : Ev (fun k => spec_SwingsBySize.f k q ws a) (sbV q ws a) := by
  simp only [spec_SwingsBySize.f]
  rw [ev_bind (spec_pwMember.ev q ws a hl)]
  unfold sbV
  cases hg : memB q ws a with
  | false => rw [ev_neg (by decide), ev_now]; rfl
  | true =>
    obtain ⟨hc, c, rfl, hcl⟩ := memB_iff hg
    have h9 := hc.l9
    have hwl := winsL_length q ws
    have hsw : Ev (fun k => spec_pwSwings.f k (winsL q ws) (c : Int)) (takeM (swingB (winsL q ws) c) (winsL q ws).length) := spec_pwSwings.ev_l (winsL q ws) ws.length c hwl (by omega) hcl (winsL q ws).length 0 (by omega)
    have h0 := spec_SwingsBySize.ev_l (winsL q ws) ws.length c hwl h9 hcl _ (winsL q ws).length 0 0 (by omega) rfl rfl
    rw [bsL_zero] at h0
    rw [ev_pos rfl, ev_pos (by omega), ev_pos (by omega), ev_bind (spec_voWins.ev q ws h9 hc.wb), ev_bind hsw, Int.toNat_natCast, if_pos rfl, Int.toNat_natCast]
    exact h0
theorem sbV_few (q : Int) (ws : List Int) (a : Int) : (sbV q ws a).1.length ≤ 9 := by
  unfold sbV
  split
  · next h => have := (memB_iff h).1.l9; rw [bsL_len]; exact this
  · simp
theorem setTo_with {m c : Nat} (hb : bitB m c = false) : ∀ i, c < i → setTo m i = setTo m c ++ (setTo m i).drop (setTo m c).length ∧ setTo (m + 2 ^ c) i = setTo m c ++ [(c : Int)] ++ (setTo m i).drop (setTo m c).length := by
  have hbit : ∀ j, bitB (m + 2 ^ c) j = if j = c then true else bitB m j := by
    intro j
    have h1 : bitB (m + 2 ^ c) c = true := by
      simp [bitB] at hb ⊢
      rw [Nat.add_div_right _ (Nat.two_pow_pos c)]
      omega
    by_cases e : j = c
    · rw [if_pos e, e, h1]
    · rw [if_neg e]
      have h6 := sub_pow_test (m + 2 ^ c) c j (by rw [← bitB_test]; exact h1)
      rw [Nat.add_sub_cancel, decide_eq_false e, Bool.not_false, Bool.and_true] at h6
      rw [bitB_test, bitB_test, h6]
  have hlow : setTo (m + 2 ^ c) c = setTo m c := by
    unfold setTo
    congr 1
    refine List.filter_congr (fun j hj => ?_)
    rw [hbit, if_neg (by have := List.mem_range.1 hj; omega)]
  intro i
  induction i with
  | zero => intro h; omega
  | succ i ih =>
    intro h
    by_cases e : i = c
    · subst e
      rw [setTo_succ, hb, if_neg (by decide), setTo_succ, hbit, if_pos rfl, if_pos rfl, hlow, List.drop_length, List.append_nil, List.append_nil]
      exact ⟨rfl, rfl⟩
    · obtain ⟨h1, h2⟩ := ih (by omega)
      have hle : (setTo m c).length ≤ (setTo m i).length := by rw [h1, List.length_append]; omega
      rw [setTo_succ, setTo_succ, hbit, if_neg e]
      by_cases hbi : bitB m i = true
      · rw [if_pos hbi, if_pos hbi, List.drop_append_of_le_length hle]
        refine ⟨?_, ?_⟩
        · rw [← List.append_assoc, ← h1]
        · rw [← List.append_assoc, ← h2]
      · rw [if_neg hbi, if_neg hbi]
        exact ⟨h1, h2⟩
theorem setN_with {m c n : Nat} (hb : bitB m c = false) (hc : c < n) (hn : n ≤ 60) (hm : m < 2 ^ n) : (setN m).take (setTo m c).length = setTo m c ∧ setN (m + 2 ^ c) = setTo m c ++ [(c : Int)] ++ (setN m).drop (setTo m c).length ∧ (setTo m c).length ≤ (setN m).length := by
  have hlt := bitB_lt (m := m) (n := n) (i := c) (by rw [hb]; decide) hm hc
  obtain ⟨h1, h2⟩ := setTo_with hb n hc
  rw [setN_to hm (by omega), setN_to hlt (by omega)]
  refine ⟨?_, h2, ?_⟩
  · conv => lhs; rw [h1]
    rw [List.take_left' rfl]
  · conv => rhs; rw [h1]
    rw [List.length_append]
    omega
theorem setN_below {m c n j : Nat} (hb : bitB m c = false) (hc : c < n) (hn : n ≤ 60) (hm : m < 2 ^ n) (hj : j < (setN m).length) : (setN m)[j] < (c : Int) ↔ j < (setTo m c).length := by
  obtain ⟨h1, h2⟩ := setTo_with hb n hc
  have e : setN m = setTo m n := setN_to hm (by omega)
  have hin : ∀ x ∈ (setTo m n).drop (setTo m c).length, (c : Int) < x := by
    intro x hx
    have : ∀ i, c < i → ∀ x ∈ (setTo m i).drop (setTo m c).length, (c : Int) < x := by
      intro i
      induction i with
      | zero => intro h; omega
      | succ i ih =>
        intro h x hx
        by_cases e : i = c
        · subst e
          rw [setTo_succ, hb, if_neg (by decide), List.drop_length] at hx
          cases hx
        · obtain ⟨g1, _⟩ := setTo_with hb i (by omega)
          have hle : (setTo m c).length ≤ (setTo m i).length := by rw [g1, List.length_append]; omega
          rw [setTo_succ] at hx
          split at hx
          · rw [List.drop_append_of_le_length hle, List.mem_append] at hx
            rcases hx with hx | hx
            · exact ih (by omega) x hx
            · rw [List.mem_singleton] at hx
              omega
          · exact ih (by omega) x hx
    exact this n hc x hx
  constructor
  · intro h
    refine Nat.lt_of_not_le (fun hle => ?_)
    have hmem : (setN m)[j] ∈ (setTo m n).drop (setTo m c).length := by
      rw [← e]
      refine List.mem_iff_getElem.2 ⟨j - (setTo m c).length, by rw [List.length_drop]; omega, ?_⟩
      rw [List.getElem_drop]
      congr 1
      omega
    have := hin _ hmem
    omega
  · intro h
    have hg : (setN m)[j] = (setTo m c)[j] := by
      have e2 : setN m = setTo m c ++ (setTo m n).drop (setTo m c).length := by rw [e]; exact h1
      have : ∀ (L : List Int) (hL : L = setTo m c ++ (setTo m n).drop (setTo m c).length) (hj' : j < L.length), L[j] = (setTo m c)[j] := by
        intro L hL hj'
        subst hL
        rw [List.getElem_append_left h]
      exact this _ e2 hj
    rw [hg]
    have := (setTo_in (m := m) (n := c) _ (List.getElem_mem h)).2.1
    exact this
theorem laws_zHas.ev_l (l : List Int) (a : Int) (hl : l.length ≤ 9223372036854775807) : ∀ (d i : Nat), i + d = l.length → Ev (fun k => laws_zHas.l0 k a l (l.length : Int) (i : Int)) ((l.drop i).contains a) := by
  intro d
  induction d with
  | zero =>
    intro i h
    refine ev_step ?_
    simp only [laws_zHas.l0]
    rw [ev_neg (by omega), ev_now, List.drop_of_length_le (by omega)]
    rfl
  | succ d ih =>
    intro i h
    refine ev_step ?_
    simp only [laws_zHas.l0]
    have hi : i < l.length := by omega
    rw [ev_pos (by omega), ev_pos (by omega), ev_pos (by omega), rd_lt l i hi, w64i (n := l.length) (by omega) (by omega) hl, List.drop_eq_getElem_cons hi, List.contains_cons]
    by_cases c : l[i] = a
    · rw [ev_pos c, ev_now, c, beq_self_eq_true, Bool.true_or]
    · rw [ev_neg c, beq_eq_false_iff_ne.2 (fun h => c h.symm), Bool.false_or]
      exact ih (i + 1) (by omega)
theorem laws_zHas.ev (l : List Int) (a : Int) (hl : l.length ≤ 9223372036854775807) : Ev (fun k => laws_zHas.f k l a) (l.contains a) := laws_zHas.ev_l l a hl l.length 0 (by omega)
theorem laws_zSum.ev_l (l : List Int) (hl : l.length ≤ 9223372036854775807) : ∀ (d i : Nat) (s : Int), i + d = l.length → Ev (fun k => laws_zSum.l0 k s l (l.length : Int) (i : Int)) (wfold (l.drop i) s) := by
  intro d
  induction d with
  | zero =>
    intro i s h
    refine ev_step ?_
    simp only [laws_zSum.l0]
    rw [ev_neg (by omega), ev_now, List.drop_of_length_le (by omega)]
    rfl
  | succ d ih =>
    intro i s h
    refine ev_step ?_
    simp only [laws_zSum.l0]
    have hi : i < l.length := by omega
    rw [ev_pos (by omega), ev_pos (by omega), ev_pos (by omega), rd_lt l i hi, w64i (n := l.length) (by omega) (by omega) hl, wfold_take l i hi]
    exact ih (i + 1) _ (by omega)
theorem laws_zSum.ev (l : List Int) (hl : l.length ≤ 9223372036854775807) : Ev (fun k => laws_zSum.f k l) (wfold l 0) := laws_zSum.ev_l l hl l.length 0 0 (by omega)
theorem laws_zSame.ev_l (a b : List Int) (hl : a.length ≤ 9223372036854775807) (hab : a.length = b.length) : ∀ (d i : Nat), i + d = a.length → Ev (fun k => laws_zSame.l0 k a b (a.length : Int) (i : Int)) (decide (a.drop i = b.drop i)) := by
  intro d
  induction d with
  | zero =>
    intro i h
    refine ev_step ?_
    simp only [laws_zSame.l0]
    rw [ev_neg (by omega), ev_now, List.drop_of_length_le (by omega), List.drop_of_length_le (by omega)]
    rfl
  | succ d ih =>
    intro i h
    refine ev_step ?_
    simp only [laws_zSame.l0]
    have hi : i < a.length := by omega
    have hib : i < b.length := by omega
    have e : decide (a.drop i = b.drop i) = (decide (a[i] = b[i]) && decide (a.drop (i + 1) = b.drop (i + 1))) := by
      rw [List.drop_eq_getElem_cons hi, List.drop_eq_getElem_cons hib, Bool.eq_iff_iff]
      simp only [Bool.and_eq_true, decide_eq_true_eq, List.cons.injEq]
    rw [ev_pos (by omega), ev_pos (by omega), ev_pos (by omega), ev_pos (by omega), rd_lt a i hi, rd_lt b i hib, w64i (n := a.length) (by omega) (by omega) hl, e]
    by_cases c : a[i] = b[i]
    · rw [ev_pos c, decide_eq_true c, Bool.true_and]
      exact ih (i + 1) (by omega)
    · rw [ev_neg c, ev_now, decide_eq_false c]
      rfl
theorem laws_zSame.ev (a b : List Int) (hl : a.length ≤ 9223372036854775807) : Ev (fun k => laws_zSame.f k a b) (decide (a = b)) := by
  simp only [laws_zSame.f]
  by_cases c : (a.length : Int) = (b.length : Int)
  · rw [ev_pos c]
    exact laws_zSame.ev_l a b hl (by omega) a.length 0 (by omega)
  · rw [ev_neg c, ev_now, decide_eq_false (fun h => c (by rw [h]))]
theorem shN_is (n t : Int) (hn : 0 ≤ n) (ht : 1 ≤ t) : 0 < (shN n t).2 ∧ (shN n t).1 * t = n * (shN n t).2 := by
  unfold shN
  have hp : 0 < Nat.gcd n.toNat t.toNat := Nat.gcd_pos_of_pos_right _ (by omega)
  obtain ⟨a, ha⟩ := Nat.gcd_dvd_left n.toNat t.toNat
  obtain ⟨b, hb⟩ := Nat.gcd_dvd_right n.toNat t.toNat
  have e1 : n.toNat / Nat.gcd n.toNat t.toNat = a := Nat.div_eq_of_eq_mul_right hp ha
  have e2 : t.toNat / Nat.gcd n.toNat t.toNat = b := Nat.div_eq_of_eq_mul_right hp hb
  have hb0 : 0 < b := by
    rcases Nat.eq_zero_or_pos b with h | h
    · rw [h, Nat.mul_zero] at hb; omega
    · exact h
  refine ⟨by rw [e2]; omega, ?_⟩
  rw [e1, e2]
  have h1 : n = ((n.toNat : Nat) : Int) := by omega
  have h2 : t = ((t.toNat : Nat) : Int) := by omega
  have h3 : a * t.toNat = n.toNat * b := by
    conv => lhs; rw [hb]
    conv => rhs; rw [ha]
    rw [Nat.mul_comm (Nat.gcd n.toNat t.toNat) a, Nat.mul_assoc]
  rw [h1, h2]
  show (a : Int) * (t.toNat : Int) = (n.toNat : Int) * (b : Int)
  exact_mod_cast h3
theorem laws_zIs.v (n t : Int) (hn : 0 ≤ n) (ht : 1 ≤ t) : laws_zIs.f (shN n t).1 (shN n t).2 n t = some true := by
  have h := shN_is n t hn ht
  unfold laws_zIs.f
  rw [if_pos h.1, h.2]
  simp
theorem laws_zShares.ev_l (a : List S60) (hl : a.length ≤ 9223372036854775807) : ∀ (d i : Nat), i + d = a.length → Ev (fun k => laws_zShares.l0 k a a (a.length : Int) (i : Int)) true := by
  intro d
  induction d with
  | zero =>
    intro i h
    refine ev_step ?_
    simp only [laws_zShares.l0]
    rw [ev_neg (by omega), ev_now]
  | succ d ih =>
    intro i h
    refine ev_step ?_
    simp only [laws_zShares.l0]
    rw [ev_pos (by omega), ev_pos (by omega), ev_pos (by omega), ev_pos (by omega), ev_neg (by simp), w64i (n := a.length) (by omega) (by omega) hl]
    exact ih (i + 1) (by omega)
theorem laws_zShares.ev_same (a : List S60) (hl : a.length ≤ 9223372036854775807) : Ev (fun k => laws_zShares.f k a a) true := by
  simp only [laws_zShares.f]
  rw [ev_pos trivial]
  exact laws_zShares.ev_l a hl a.length 0 (by omega)
theorem shRow_len (l : List Int) (t : Int) : (shRow l t).length = l.length := by rw [shRow, List.length_map]
theorem rd_shRow (l : List Int) (t : Int) (i : Nat) (h : i < l.length) : rd_T60 (shRow l t) (i : Int) = ⟨(shN l[i] t).1, (shN l[i] t).2⟩ := by
  unfold rd_T60
  simp [shRow, h]
theorem laws_zLess.ev_l (a b : List Int) (ha : a.length ≤ 9223372036854775806) (hb : b.length ≤ 9223372036854775806) : ∀ (d i : Nat), a.length ≤ i + d → i ≤ a.length → i ≤ b.length → Ev (fun k => laws_zLess.l0 k a b (i : Int)) (decide (cmpL (a.drop i) (b.drop i) < 0)) := by
  intro d
  induction d with
  | zero =>
    intro i h h1 h2
    refine ev_step ?_
    simp only [laws_zLess.l0]
    rw [ev_neg (by omega)]
    refine ev_step ?_
    simp only [laws_zLess.j1]
    rw [ev_neg (by decide), ev_now, List.drop_of_length_le (show a.length ≤ i by omega)]
    by_cases c : i < b.length
    · rw [List.drop_eq_getElem_cons c]
      exact decide_eq_true (by omega)
    · rw [List.drop_of_length_le (show b.length ≤ i by omega)]
      exact decide_eq_false (by omega)
  | succ d ih =>
    intro i h h1 h2
    refine ev_step ?_
    simp only [laws_zLess.l0]
    by_cases hi : i < a.length
    · rw [ev_pos (by omega)]
      refine ev_step ?_
      simp only [laws_zLess.j1]
      by_cases hj : i < b.length
      · rw [decide_eq_true (show (i : Int) < (b.length : Int) by omega), ev_pos rfl, ev_pos (by omega), ev_pos (by omega), ev_pos (by omega), rd_lt a i hi, rd_lt b i hj, w64 (by omega) (by omega), List.drop_eq_getElem_cons hi, List.drop_eq_getElem_cons hj]
        by_cases c : a[i] = b[i]
        · rw [ev_pos c, ltc_eq c]
          exact ih (i + 1) (by omega) (by omega) (by omega)
        · rw [ev_neg c, ev_now, ltc_ne c]
      · rw [decide_eq_false (show ¬ (i : Int) < (b.length : Int) by omega), ev_neg (by decide), ev_now, List.drop_eq_getElem_cons hi, List.drop_of_length_le (show b.length ≤ i by omega)]
        exact decide_eq_false (by omega)
    · rw [ev_neg (by omega)]
      refine ev_step ?_
      simp only [laws_zLess.j1]
      rw [ev_neg (by decide), ev_now, List.drop_of_length_le (show a.length ≤ i by omega)]
      by_cases c : i < b.length
      · rw [List.drop_eq_getElem_cons c]
        exact decide_eq_true (by omega)
      · rw [List.drop_of_length_le (show b.length ≤ i by omega)]
        exact decide_eq_false (by omega)
theorem laws_zLess.ev (a b : List Int) (ha : a.length ≤ 9223372036854775806) (hb : b.length ≤ 9223372036854775806) : Ev (fun k => laws_zLess.f k a b) (decide (cmpL a b < 0)) := laws_zLess.ev_l a b ha hb a.length 0 (by omega) (by omega) (by omega)
theorem laws_zRows.ev_l (a b : List (List Int)) (hl : a.length ≤ 9223372036854775807) (ha : ∀ x ∈ a, x.length ≤ 9223372036854775807) (hab : a.length = b.length) : ∀ (d i : Nat), i + d = a.length → Ev (fun k => laws_zRows.l0 k a b (a.length : Int) (i : Int)) (decide (a.drop i = b.drop i)) := by
  intro d
  induction d with
  | zero =>
    intro i h
    refine ev_step ?_
    simp only [laws_zRows.l0]
    rw [ev_neg (by omega), ev_now, List.drop_of_length_le (by omega), List.drop_of_length_le (by omega)]
    rfl
  | succ d ih =>
    intro i h
    refine ev_step ?_
    simp only [laws_zRows.l0]
    have hi : i < a.length := by omega
    have hib : i < b.length := by omega
    have e : decide (a.drop i = b.drop i) = (decide (a[i] = b[i]) && decide (a.drop (i + 1) = b.drop (i + 1))) := by
      rw [List.drop_eq_getElem_cons hi, List.drop_eq_getElem_cons hib, Bool.eq_iff_iff]
      simp only [Bool.and_eq_true, decide_eq_true_eq, List.cons.injEq]
    rw [ev_pos (by omega), ev_pos (by omega), ev_pos (by omega), ev_pos (by omega), rd_L2_lt a i hi, rd_L2_lt b i hib, ev_bind (laws_zSame.ev a[i] b[i] (ha _ (List.getElem_mem hi))), w64i (n := a.length) (by omega) (by omega) hl, e]
    cases c : decide (a[i] = b[i]) with
    | true =>
      rw [ev_pos rfl, Bool.true_and]
      exact ih (i + 1) (by omega)
    | false => rw [ev_neg (by decide), ev_now, Bool.false_and]
theorem laws_zRows.ev (a b : List (List Int)) (hl : a.length ≤ 9223372036854775807) (ha : ∀ x ∈ a, x.length ≤ 9223372036854775807) : Ev (fun k => laws_zRows.f k a b) (decide (a = b)) := by
  simp only [laws_zRows.f]
  by_cases c : (a.length : Int) = (b.length : Int)
  · rw [ev_pos c]
    exact laws_zRows.ev_l a b hl ha (by omega) a.length 0 (by omega)
  · rw [ev_neg c, ev_now, decide_eq_false (fun h => c (by rw [h]))]
theorem laws_FnSwingsTold.law_j5 (l1 : List Int) (hb1 : ByteL l1) : Ev (fun k => laws_FnSwingsTold.j5 k l1) true := by
  obtain ⟨q2, ws2, a, hdr, hC, _⟩ := spec_DrawSwingSets.ex hb1
  have hl2 : ws2.length ≤ 9223372036854775807 := Nat.le_trans hC.l10 (by decide)
  refine ev_step ?_
  simp only [laws_FnSwingsTold.j5]
  rw [ev_bind hdr]
  dsimp only
  have hf := swV_few q2 ws2 a
  have hf2 := sbV_few q2 ws2 a
  have h1 := laws_zRows.ev (swV q2 ws2 a).1 (swV q2 ws2 a).1 (by omega) (fun x hx => by have := hf.2 x hx; omega)
  have h2 := laws_zSame.ev (sbV q2 ws2 a).1 (sbV q2 ws2 a).1 (by omega)
  have e : (sbV q2 ws2 a).2 = (swV q2 ws2 a).2 := by unfold sbV swV; split <;> rfl
  rw [decide_eq_true rfl] at h1 h2
  rw [ev_bind (impl_SwingSets.ev q2 ws2 a hl2), ev_bind (spec_SwingSets.ev q2 ws2 a hl2), ev_bind (impl_SwingsBySize.ev q2 ws2 a hl2), ev_bind (spec_SwingsBySize.ev q2 ws2 a hl2), ev_pos (by simp), ev_bind h1, ev_pos rfl, ev_pos (by simp), ev_bind h2, ev_pos rfl, ev_now, e]
  simp
theorem laws_FnSwingsTold.law_l2 {q : Int} {ws : List Int} (hc : GoodC q ws) {c m : Nat} (hi : c < ws.length) (hm : m < 2 ^ ws.length) (hs : swingB (winsL q ws) c m = true) (l1 S1 : List Int) (P1 P2 P3 P4 P5 : List S60) (n1 n2 n3 : Int) (D : List Int) (L : List (List Int)) (Z S2 : List Int) (n4 : Int) (j : Nat) (n5 : Int)
    (hZ : (setN m).length < Z.length ∧ ∀ (h : (setN m).length < Z.length), 1 ≤ Z[(setN m).length]) (hL : L.length ≤ 512 ∧ ∀ x ∈ L, x.length ≤ 9) (hj : j < L.length) (hord : ∀ (h : 1 ≤ j), cmpL (L[j - 1]'(by omega)) (setN m) < 0)
    (hnext : Ev (fun k => laws_FnSwingsTold.l1 k l1 S1 P1 P2 P3 P4 P5 n1 n2 n3 D (c : Int) L Z S2 n4 (c : Int) L n5 (wrap64 ((j : Int) + 1)) q ws) true) :
    ∀ (d t : Nat), t + d = (setTo m c).length → Ev (fun k => laws_FnSwingsTold.l2 k l1 S1 P1 P2 P3 P4 P5 n1 n2 n3 D (c : Int) L Z (j : Int) (setN m) false true (setN m) (t : Int) S2 n4 (c : Int) L n5 (j : Int) q ws) true := by
  have h9 := hc.l9
  obtain ⟨hw1, hw2, hb, hlt⟩ := swing_wins hc hi hm hs
  obtain ⟨ht1, ht2, ht3⟩ := setN_with (n := ws.length) hb hi (by omega) hm
  have hsl : (setN m).length ≤ 9 := by
    rw [setN_to hm (by omega)]
    have := setTo_len m ws.length
    omega
  have hsl2 : (setN (m + 2 ^ c)).length ≤ 9 := by
    rw [setN_to hlt (by omega)]
    have := setTo_len (m + 2 ^ c) ws.length
    omega
  have hj4 : Ev (fun k => laws_FnSwingsTold.j4 k l1 S1 P1 P2 P3 P4 P5 n1 n2 n3 D (c : Int) L Z S2 n4 (c : Int) L n5 (j : Int) false q ws) true := by
    refine ev_step ?_
    simp only [laws_FnSwingsTold.j4]
    rw [ev_neg (by decide)]
    exact hnext
  have hj3 : Ev (fun k => laws_FnSwingsTold.j3 k l1 S1 P1 P2 P3 P4 P5 n1 n2 n3 D (c : Int) L Z (j : Int) (setN m) false true (setN m) ((setTo m c).length : Int) S2 n4 (c : Int) L n5 (j : Int) false q ws) true := by
    refine ev_step ?_
    simp only [laws_FnSwingsTold.j3, Option.bind_some, List.nil_append, Int.toNat_natCast]
    have hwin := impl_IsWinning.ev q ws (setN (m + 2 ^ c)) (by omega) (by omega)
    rw [hw2] at hwin
    have hhas := laws_zHas.ev (setN m) (c : Int) (by omega)
    rw [setN_contains m c (by omega), ← bitB_test, hb] at hhas
    rw [ev_neg (by decide), ev_pos (by omega), ev_pos (by omega), ht1, ev_pos (by simp only [List.length_nil]; omega), ev_pos (by simp only [List.length_singleton]; omega), ev_pos (by rw [List.length_append, List.length_singleton, List.length_drop]; omega), ← ht2, ev_bind hwin, ev_pos trivial, ev_neg (by decide), ev_bind hhas, ev_neg (by decide), ev_pos rfl, ev_pos rfl, ev_pos (by omega), ev_pos (by have := hZ.1; omega), rd_lt Z (setN m).length hZ.1, ev_neg (by have := hZ.2 hZ.1; omega)]
    by_cases c0 : (j : Int) > 0
    · have hless := laws_zLess.ev (L[j - 1]'(by omega)) (setN m) (by have := hL.2 _ (List.getElem_mem (show j - 1 < L.length by omega)); omega) (by omega)
      rw [decide_eq_true (hord (by omega))] at hless
      have e : wrap64 ((j : Int) - 1) = ((j - 1 : Nat) : Int) := by rw [w64 (by omega) (by omega)]; omega
      rw [ev_pos c0, e, ev_pos (by omega), ev_pos (by omega), rd_L2_lt L (j - 1) (by omega), ev_bind hless]
      exact hj4
    · rw [ev_neg c0]
      exact hj4
  intro d
  induction d with
  | zero =>
    intro t h
    refine ev_step ?_
    simp only [laws_FnSwingsTold.l2]
    have e : t = (setTo m c).length := by omega
    subst e
    by_cases hlen : (setTo m c).length < (setN m).length
    · have hbel := setN_below (n := ws.length) hb hi (by omega) hm hlen
      rw [ev_pos (by omega), ev_pos (by omega), rd_lt (setN m) _ hlen, decide_eq_false (fun h => Nat.lt_irrefl _ (hbel.1 h))]
      exact hj3
    · rw [ev_neg (by omega)]
      exact hj3
  | succ d ih =>
    intro t h
    have hih := ih (t + 1) (by omega)
    rw [show ((t + 1 : Nat) : Int) = (t : Int) + 1 by omega] at hih
    refine ev_step ?_
    simp only [laws_FnSwingsTold.l2]
    have hlen : t < (setN m).length := by omega
    have hbel := setN_below (n := ws.length) hb hi (by omega) hm hlen
    rw [ev_pos (by omega), ev_pos (by omega), rd_lt (setN m) t hlen, decide_eq_true (hbel.2 (by omega))]
    refine ev_step ?_
    simp only [laws_FnSwingsTold.j3]
    rw [ev_pos trivial, w64 (by omega) (by omega)]
    exact hih
theorem laws_FnSwingsTold.law_l1 {q : Int} {ws : List Int} (hc : GoodC q ws) {c : Nat} (hi : c < ws.length) (l1 S1 : List Int) (P1 P2 P3 P4 P5 : List S60) (n1 n2 n3 : Int) (D S2 : List Int) (n4 : Int) (L : List (List Int)) (hLe : L = Go.Proofs.YtamfpkefnhcngaaGreatS.sortL (takeL (swingB (winsL q ws) c) (winsL q ws).length)) (Z : List Int) (hZe : Z = bsL (winsL q ws) c ws.length (winsL q ws).length)
    (hnext : Ev (fun k => laws_FnSwingsTold.l0 k l1 S1 P1 P2 P3 P4 P5 n1 n2 n3 D S2 n4 (wrap64 ((c : Int) + 1)) q ws) true) :
    ∀ (d j : Nat), j + d = L.length → Ev (fun k => laws_FnSwingsTold.l1 k l1 S1 P1 P2 P3 P4 P5 n1 n2 n3 D (c : Int) L Z S2 n4 (c : Int) L (L.length : Int) (j : Int) q ws) true := by
  have h9 := hc.l9
  have hp := hc.pow
  have hwl := winsL_length q ws
  have hfew := sortL_few (P := swingB (winsL q ws) c) hc hwl
  rw [← hLe] at hfew
  intro d
  induction d with
  | zero =>
    intro j h
    refine ev_step ?_
    simp only [laws_FnSwingsTold.l1]
    rw [ev_neg (by omega)]
    exact hnext
  | succ d ih =>
    intro j h
    refine ev_step ?_
    simp only [laws_FnSwingsTold.l1, Option.bind_some, List.nil_append, List.length_nil]
    have hj : j < L.length := by omega
    have hall : ∀ x ∈ L, x ∈ takeL (swingB (winsL q ws) c) (winsL q ws).length := fun x hx => by
      rw [hLe] at hx
      exact (Go.Proofs.YtamfpkefnhcngaaGreatS.sortL_perm _).mem_iff.1 hx
    have hmem := hall L[j] (List.getElem_mem hj)
    obtain ⟨m, hm1, hm2, hm3⟩ := takeL_mem _ hmem
    rw [hwl] at hm1
    obtain ⟨hw1, hw2, hb, hlt⟩ := swing_wins hc hi hm1 hm2
    have hpo := swing_pop h9 hi hm1 hm2
    have hsl : (setN m).length = popN m := popN_setN (by omega)
    have hwin := impl_IsWinning.ev q ws (setN m) (by omega) (by omega)
    rw [hw1] at hwin
    rw [ev_pos (by omega), ev_pos (by omega), ev_pos (by omega), rd_L2_lt L j hj, hm3, ev_bind hwin, ev_pos (by omega)]
    refine laws_FnSwingsTold.law_l2 hc hi hm1 hm2 l1 S1 P1 P2 P3 P4 P5 n1 n2 n3 D L Z S2 n4 j _ ?_ hfew hj ?_ ?_ (setTo m c).length 0 (by omega)
    · subst hZe
      have hbl := bsL_len (winsL q ws) c ws.length (winsL q ws).length
      refine ⟨by omega, fun h => ?_⟩
      rw [bsL_get, hsl]
      unfold cntP
      have : 0 < ((List.range (winsL q ws).length).filter fun j => swingB (winsL q ws) c j && decide (popN j = popN m)).length := List.length_pos_of_mem (a := m) (List.mem_filter.2 ⟨List.mem_range.2 (by omega), by rw [hm2, decide_eq_true rfl]; rfl⟩)
      omega
    · intro h1
      rw [← hm3]
      subst hLe
      exact sortL_lt (by omega) j h1 hj
    · rw [w64 (by omega) (by omega)]
      exact ih (j + 1) (by omega)
theorem laws_FnSwingsTold.law_l0 {q : Int} {ws : List Int} (hc : GoodC q ws) (l1 : List Int) (hb1 : ByteL l1) : ∀ (d i : Nat), i + d = ws.length → Ev (fun k => laws_FnSwingsTold.l0 k l1 (swL (winsL q ws) ws.length) (shRow (swL (winsL q ws) ws.length) ((2 ^ (ws.length - 1) : Nat) : Int)) (shRow (swL (winsL q ws) ws.length) (swL (winsL q ws) ws.length).sum) (shRow (swL (winsL q ws) ws.length) (cntW (winsL q ws))) (shRow (swL (winsL q ws) ws.length) (((2 ^ ws.length : Nat) : Int) - cntW (winsL q ws))) (shRow ((List.range ws.length).map fun c => ((cntA (winsL q ws) c (winsL q ws).length : Nat) : Int)) ((2 ^ ws.length : Nat) : Int)) (ws.length : Int) ((2 ^ ws.length : Nat) : Int) (cntW (winsL q ws)) (takeI (dumB q ws) ws.length) (swL (winsL q ws) ws.length) (ws.length : Int) (i : Int) q ws) true := by
  have h9 := hc.l9
  have h1 := hc.l1
  have hp := hc.pow
  have hg := (good_iff q ws).2 hc
  have hwl := winsL_length q ws
  have hsl := swL_len (winsL q ws) ws.length
  have hh := half_pow hc
  have hsum := swL_sum hc
  have hcw := cntW_some hc
  have hin := swL_in (W := winsL q ws) (n := ws.length) (by omega)
  intro d
  induction d with
  | zero =>
    intro i h
    refine ev_step ?_
    simp only [laws_FnSwingsTold.l0]
    rw [ev_neg (by omega)]
    exact laws_FnSwingsTold.law_j5 l1 hb1
  | succ d ih =>
    intro i h
    refine ev_step ?_
    simp only [laws_FnSwingsTold.l0]
    have hi : i < ws.length := by omega
    have hiS : i < (swL (winsL q ws) ws.length).length := by omega
    have hx := hin _ (List.getElem_mem hiS)
    have eS : (swL (winsL q ws) ws.length)[i] = ((swN (winsL q ws) i : Nat) : Int) := swL_get _ _ _ hiS
    have hlA : ((List.range ws.length).map fun c => ((cntA (winsL q ws) c (winsL q ws).length : Nat) : Int)).length = ws.length := by simp
    have eA : ((List.range ws.length).map fun c => ((cntA (winsL q ws) c (winsL q ws).length : Nat) : Int))[i]'(by omega) = ((2 ^ (ws.length - 1) + swN (winsL q ws) i : Nat) : Int) := by
      simp only [List.getElem_map, List.getElem_range]
      rw [agree_swings hc hi]
    have ehalf : Int.tdiv ((2 ^ ws.length : Nat) : Int) 2 = ((2 ^ (ws.length - 1) : Nat) : Int) := by
      have e : 2 ^ ws.length = 2 * 2 ^ (ws.length - 1) := by rw [← Nat.pow_succ']; congr 1; omega
      rw [show Int.tdiv ((2 ^ ws.length : Nat) : Int) 2 = ((2 ^ ws.length / 2 : Nat) : Int) from (Int.ofNat_tdiv _ 2).symm, e, Nat.mul_div_cancel_left _ (by decide)]
    have hz := laws_zSum.ev (swL (winsL q ws) ws.length) (by omega)
    rw [swL_fold hc] at hz
    have hd := laws_zHas.ev (takeI (dumB q ws) ws.length) (i : Int) (by have := takeI_len (dumB q ws) ws.length; omega)
    rw [takeI_has _ _ _ hi, dum_swings hc hi] at hd
    have hmem : memB q ws (i : Int) = true := by rw [memB, hg, decide_eq_true (by omega), decide_eq_true (by omega)]; rfl
    have hsw := impl_SwingSets.ev q ws (i : Int) (by omega)
    have hsb := impl_SwingsBySize.ev q ws (i : Int) (by omega)
    rw [swV, if_pos hmem, Int.toNat_natCast] at hsw
    rw [sbV, if_pos hmem, Int.toNat_natCast] at hsb
    have hbl := bsL_len (winsL q ws) i ws.length (winsL q ws).length
    have hzb := laws_zSum.ev (bsL (winsL q ws) i ws.length (winsL q ws).length) (by omega)
    have hbin : ∀ x ∈ bsL (winsL q ws) i ws.length (winsL q ws).length, 0 ≤ x ∧ x ≤ 1000000 := by
      intro x hx
      obtain ⟨s, _, rfl⟩ := List.mem_map.1 hx
      have := cntP_le (winsL q ws) i s (winsL q ws).length
      omega
    have hbs : (bsL (winsL q ws) i ws.length (winsL q ws).length).sum = ((swN (winsL q ws) i : Nat) : Int) := by
      rw [bsL_sum (winsL q ws) ws.length i h9 hi _ (by omega)]
      rfl
    rw [wfold_sum _ 0 hbin (by omega) (by omega), Int.zero_add, hbs] at hzb
    have hlen : ((Go.Proofs.YtamfpkefnhcngaaGreatS.sortL (takeL (swingB (winsL q ws) i) (winsL q ws).length)).length : Int) = ((swN (winsL q ws) i : Nat) : Int) := by
      rw [sortL_len, takeL, List.length_map]
      rfl
    have hl1 := laws_FnSwingsTold.law_l1 hc hi l1 (swL (winsL q ws) ws.length) (shRow (swL (winsL q ws) ws.length) ((2 ^ (ws.length - 1) : Nat) : Int)) (shRow (swL (winsL q ws) ws.length) (swL (winsL q ws) ws.length).sum) (shRow (swL (winsL q ws) ws.length) (cntW (winsL q ws))) (shRow (swL (winsL q ws) ws.length) (((2 ^ ws.length : Nat) : Int) - cntW (winsL q ws))) (shRow ((List.range ws.length).map fun c => ((cntA (winsL q ws) c (winsL q ws).length : Nat) : Int)) ((2 ^ ws.length : Nat) : Int)) (ws.length : Int) ((2 ^ ws.length : Nat) : Int) (cntW (winsL q ws)) (takeI (dumB q ws) ws.length) (swL (winsL q ws) ws.length) (ws.length : Int) _ rfl _ rfl (by rw [w64 (by omega) (by omega)]; exact ih (i + 1) (by omega)) _ 0 (Nat.zero_add _)
    have z1 := laws_zIs.v ((swN (winsL q ws) i : Nat) : Int) ((2 ^ (ws.length - 1) : Nat) : Int) (by omega) (by omega)
    have z2 := laws_zIs.v ((swN (winsL q ws) i : Nat) : Int) (swL (winsL q ws) ws.length).sum (by omega) (by omega)
    have z3 := laws_zIs.v ((swN (winsL q ws) i : Nat) : Int) (cntW (winsL q ws)) (by omega) (by omega)
    have z4 := laws_zIs.v ((swN (winsL q ws) i : Nat) : Int) (((2 ^ ws.length : Nat) : Int) - cntW (winsL q ws)) (by omega) (by omega)
    have z5 := laws_zIs.v ((2 ^ (ws.length - 1) + swN (winsL q ws) i : Nat) : Int) ((2 ^ ws.length : Nat) : Int) (by omega) (by omega)
    rw [eS] at hx
    rw [ev_pos (by omega), ev_pos (by omega), ev_pos (by omega), ev_pos (by rw [shRow_len]; omega), rd_lt _ i hiS, rd_shRow _ _ i hiS, rd_shRow _ _ i hiS, rd_shRow _ _ i hiS, rd_shRow _ _ i hiS, rd_shRow _ _ i (by omega), eS, eA, ehalf, w64 (x := ((2 ^ (ws.length - 1) : Nat) : Int)) (by omega) (by omega), w64 (x := ((2 ^ ws.length : Nat) : Int) - cntW (winsL q ws)) (by omega) (by omega), w64 (x := ((2 ^ (ws.length - 1) : Nat) : Int) + ((swN (winsL q ws) i : Nat) : Int)) (by omega) (by omega), ev_bind (ev_of z1), ev_pos rfl, ev_pos (by rw [shRow_len]; omega), ev_bind hz, ev_bind (ev_of z2), ev_pos rfl, ev_pos (by rw [shRow_len]; omega), ev_bind (ev_of z3), ev_pos rfl, ev_pos (by rw [shRow_len]; omega), ev_bind (ev_of z4), ev_pos rfl, ev_pos (by rw [shRow_len, hlA]; omega)]
    rw [show ((2 ^ (ws.length - 1) : Nat) : Int) + ((swN (winsL q ws) i : Nat) : Int) = ((2 ^ (ws.length - 1) + swN (winsL q ws) i : Nat) : Int) by omega, ev_bind (ev_of z5), ev_pos rfl, ev_bind hd, ev_neg (by
      have : (((swN (winsL q ws) i : Nat) : Int) == 0) = decide (swN (winsL q ws) i = 0) := by rw [Bool.eq_iff_iff, beq_iff_eq, decide_eq_true_eq]; omega
      rw [this]; simp), ev_bind hsw, ev_bind hsb, ev_pos rfl, ev_pos hlen, ev_pos rfl, ev_pos (by dsimp only; omega), ev_bind hzb, ev_pos rfl]
    exact hl1
theorem laws_FnSwingsTold.law (l0 l1 : List Int) (ok0 : OkBL l0) (ok1 : OkBL l1) : Ev (fun k => laws_FnSwingsTold.f k l0 l1) true := by
  simp only [laws_FnSwingsTold.f]
  rcases laws_big.cases l0 l1 with ⟨b, hbg, rfl⟩ | ⟨hbg, h0, h1⟩
  · rw [ev_bind (ev_of hbg), ev_pos rfl, ev_now]
  have hb1 := ByteL.of ok1 h1
  obtain ⟨q, ws, hdr, hDC⟩ := spec_DrawSwingsOf.ex (ByteL.of ok0 h0)
  have hl : ws.length ≤ 9223372036854775807 := Nat.le_trans hDC.l10 (by decide)
  have hj5 := laws_FnSwingsTold.law_j5 l1 hb1
  have few : (swoV q ws).1.length ≤ 9 ∧ (spV q ws).1.length ≤ 9 ∧ (ssV q ws).1.length ≤ 9 ∧ (bpV q ws).1.length ≤ 9 ∧ (stpV q ws).1.length ≤ 9 ∧ (agV q ws).1.length ≤ 9 := by
    cases hg : goodB q ws with
    | false => simp [swoV, spV, ssV, bpV, stpV, agV, hg]
    | true =>
      have h9 := ((good_iff q ws).1 hg).l9
      simp only [swoV, spV, ssV, bpV, stpV, agV, hg, if_true, shRow_len, swL_len, List.length_map, List.length_range]
      omega
  have s0 := laws_zSame.ev (swoV q ws).1 (swoV q ws).1 (by omega)
  have s1 := laws_zShares.ev_same (spV q ws).1 (by omega)
  have s2 := laws_zShares.ev_same (ssV q ws).1 (by omega)
  have s3 := laws_zShares.ev_same (bpV q ws).1 (by omega)
  have s4 := laws_zShares.ev_same (stpV q ws).1 (by omega)
  have s5 := laws_zShares.ev_same (agV q ws).1 (by omega)
  rw [decide_eq_true rfl] at s0
  have b0 : (swoV q ws).2 = goodB q ws := by unfold swoV; split <;> simp_all
  have b1 : (spV q ws).2 = goodB q ws := by unfold spV; split <;> simp_all
  have b2 : (ssV q ws).2 = goodB q ws := by unfold ssV; split <;> simp_all
  have b3 : (dpV q ws).2.2 = goodB q ws := by unfold dpV; split <;> simp_all
  have b4 : (bpV q ws).2 = goodB q ws := by unfold bpV; split <;> simp_all
  have b5 : (stpV q ws).2 = goodB q ws := by unfold stpV; split <;> simp_all
  have b6 : (agV q ws).2 = goodB q ws := by unfold agV; split <;> simp_all
  rw [ev_bind (ev_of hbg), ev_neg (by decide), ev_bind hdr]
  dsimp only
  rw [ev_bind (impl_SwingsOf.ev q ws hl), ev_bind (spec_SwingsOf.ev q ws hl), ev_bind (impl_SwingPowers.ev q ws hl), ev_bind (spec_SwingPowers.ev q ws hl), ev_bind (impl_SwingShares.ev q ws hl), ev_bind (spec_SwingShares.ev q ws hl), ev_bind (impl_DecidePower.ev q ws hl), ev_bind (spec_DecidePower.ev q ws hl), ev_bind (impl_BlockPowers.ev q ws hl), ev_bind (spec_BlockPowers.ev q ws hl), ev_bind (impl_StartPowers.ev q ws hl), ev_bind (spec_StartPowers.ev q ws hl), ev_bind (impl_AgreeChances.ev q ws hl), ev_bind (spec_AgreeChances.ev q ws hl), ev_neg (by simp), ev_bind s0, ev_pos rfl, ev_neg (by simp), ev_bind s1, ev_pos rfl, ev_neg (by simp), ev_bind s2, ev_pos rfl, ev_neg (by simp), ev_neg (by simp), ev_neg (by simp), ev_bind s3, ev_pos rfl, ev_neg (by simp), ev_bind s4, ev_pos rfl, ev_neg (by simp), ev_bind s5, ev_pos rfl, ev_bind (impl_IsCommittee.ev q ws hl), ev_neg (by rw [b0]; simp), ev_neg (by rw [b0, b1]; simp), ev_neg (by rw [b0, b2]; simp), ev_neg (by rw [b0, b3]; simp), ev_neg (by rw [b0, b4]; simp), ev_neg (by rw [b0, b5]; simp), ev_neg (by rw [b0, b6]; simp), b0]
  cases hg : goodB q ws with
  | false =>
    rw [ev_neg (by decide)]
    exact hj5
  | true =>
    have hc := (good_iff q ws).1 hg
    have h9 := hc.l9
    have hp := hc.pow
    have hsum := swL_sum hc
    have hcw := cntW_some hc
    have e0 : swoV q ws = (swL (winsL q ws) ws.length, true) := by rw [swoV, if_pos hg]
    have e1 : spV q ws = (shRow (swL (winsL q ws) ws.length) ((2 ^ (ws.length - 1) : Nat) : Int), true) := by rw [spV, if_pos hg]
    have e2 : ssV q ws = (shRow (swL (winsL q ws) ws.length) (swL (winsL q ws) ws.length).sum, true) := by rw [ssV, if_pos hg]
    have e3 : bpV q ws = (shRow (swL (winsL q ws) ws.length) (cntW (winsL q ws)), true) := by rw [bpV, if_pos hg]
    have e4 : stpV q ws = (shRow (swL (winsL q ws) ws.length) (((2 ^ ws.length : Nat) : Int) - cntW (winsL q ws)), true) := by rw [stpV, if_pos hg]
    have e5 : agV q ws = (shRow ((List.range ws.length).map fun c => ((cntA (winsL q ws) c (winsL q ws).length : Nat) : Int)) ((2 ^ ws.length : Nat) : Int), true) := by rw [agV, if_pos hg]
    have e6 : dpV q ws = ((shN (cntW (winsL q ws)) ((2 ^ ws.length : Nat) : Int)).1, (shN (cntW (winsL q ws)) ((2 ^ ws.length : Nat) : Int)).2, true) := by rw [dpV, if_pos hg]
    have e7 : cwV q ws = (cntW (winsL q ws), true) := by rw [cwV, if_pos hg]
    have e8 : dumV q ws = (takeI (dumB q ws) ws.length, true) := by rw [dumV, if_pos hg]; rfl
    have c1 := impl_CountWinning.ev q ws hl
    have c2 := impl_DummiesOf.ev q ws hl
    have z0 := laws_zIs.v (cntW (winsL q ws)) ((2 ^ ws.length : Nat) : Int) (by omega) (by omega)
    have hz := laws_zSum.ev (swL (winsL q ws) ws.length) (by rw [swL_len]; omega)
    rw [swL_fold hc] at hz
    rw [e7] at c1
    rw [e8] at c2
    have hl0 := laws_FnSwingsTold.law_l0 hc l1 hb1 ws.length 0 (by omega)
    rw [e0, e1, e2, e3, e4, e5, e6, ev_pos rfl, ev_bind c1, ev_bind c2]
    dsimp only
    rw [ev_pos (by rw [swL_len]), ev_pos (by rw [shRow_len, swL_len]), ev_pos (by rw [shRow_len, swL_len]), ev_pos (by rw [shRow_len, swL_len]), ev_pos (by rw [shRow_len, swL_len]), ev_pos (by rw [shRow_len, List.length_map, List.length_range]), ev_pos rfl, shl_one ws.length (by omega), ev_bind (ev_of z0), ev_pos rfl, ev_pos rfl, ev_bind hz, ev_neg (by omega), swL_len]
    exact hl0
end Go.Proofs.YtamfpkefnhcngaaGreat.Q
