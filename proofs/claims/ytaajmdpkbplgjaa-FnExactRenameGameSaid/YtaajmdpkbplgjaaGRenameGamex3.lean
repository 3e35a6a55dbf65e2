/- Printed functions, their contracts and plain facts on them: PGmGood; PVoAll; PGmWins; PGoodSets; PMasks; PVoSum; PVoGood; POrders; PVotesOf; PVotesBy; PRenameGame; PLFnExactRenameGame. Conditions: as each theorem states. -/
import Derived.Test.YtaajmdpkbplgjaaGRenameGamex0
import Derived.Test.YtaajmdpkbplgjaaGRenameGamex2
import Derived.Test.YtaajmdpkbplgjaaGRenameGamex1
namespace Go.Proofs.Ytaajmdpkbplgjaa.Q
open Go.RowKit Go.Proofs.YtaajmdpkbplgjaaW.PrintWords Go.Proofs.YtaajmdpkbplgjaaW.PrintLast Go.Proofs.YtaajmdpkbplgjaaW.PrintMore Go.Proofs.YtaajmdpkbplgjaaM
set_option linter.unusedVariables false
set_option linter.unusedSimpArgs false
theorem spec_gmSets.ev_l (n : Int) (l : List (List Int)) (h0 : 0 ≤ n) (h9 : n ≤ 1000) (hl : l.length ≤ 9223372036854775807) (hx : ∀ x ∈ l, x.length ≤ 9223372036854775807) : ∀ (d i : Nat), i + d = l.length → Ev (fun k => spec_gmSets.l0 k n l (l.length : Int) (i : Int)) (setsB n (l.drop i)) := by
  intro d
  induction d with
  | zero =>
    intro i h
    refine ev_step ?_
    simp only [spec_gmSets.l0]
    rw [ev_neg (by omega), ev_now, List.drop_of_length_le (by omega)]
    rfl
  | succ d ih =>
    intro i h
    refine ev_step ?_
    simp only [spec_gmSets.l0]
    have hi : i < l.length := by omega
    have e : setsB n (l.drop i) = ((!(decide ((l[i].length : Int) = 0)) && setB n l[i]) && setsB n (l.drop (i + 1))) := by
      unfold setsB
      rw [List.drop_eq_getElem_cons hi, List.all_cons]
    rw [ev_pos (by omega), ev_pos (by omega), ev_pos (by omega), w64i (n := l.length) (by omega) (by omega) hl, rd_L2_lt l i hi, e]
    by_cases hc : (l[i].length : Int) = 0
    · rw [ev_pos hc, ev_now, decide_eq_true hc]
      rfl
    · rw [ev_neg hc, decide_eq_false hc, ev_bind (spec_voSet.ev n l[i] h0 h9 (hx _ (List.getElem_mem hi)))]
      cases setB n l[i] with
      | true =>
        rw [ev_pos rfl]
        exact ih (i + 1) (by omega)
      | false =>
        rw [ev_neg (by decide), ev_now]
        rfl
theorem spec_gmSets.ev (n : Int) (l : List (List Int)) (most : Int) (hl : l.length ≤ 9223372036854775807) (hx : ∀ x ∈ l, x.length ≤ 9223372036854775807) : Ev (fun k => spec_gmSets.f k n l most) ((decide (1 ≤ n) && decide (n ≤ 9)) && ((decide (1 ≤ (l.length : Int)) && decide ((l.length : Int) ≤ most)) && setsB n l)) := by
  simp only [spec_gmSets.f]
  rw [ev_bind (ev_of (spec_l1In.v _ _ _))]
  cases h1 : (decide (1 ≤ n) && decide (n ≤ 9)) with
  | false =>
    rw [ev_neg (by decide)]
    refine ev_step ?_
    simp only [spec_gmSets.j0]
    rw [ev_pos trivial, ev_now]
    rfl
  | true =>
    simp only [Bool.and_eq_true, decide_eq_true_eq] at h1
    rw [ev_pos rfl, ev_bind (ev_of (spec_l1In.v _ _ _)), Bool.true_and]
    refine ev_step ?_
    simp only [spec_gmSets.j0]
    cases (decide (1 ≤ (l.length : Int)) && decide ((l.length : Int) ≤ most)) with
    | false =>
      rw [ev_pos (by decide), ev_now]
      rfl
    | true =>
      rw [ev_neg (by decide), Bool.true_and]
      exact spec_gmSets.ev_l n l (by omega) (by omega) hl hx l.length 0 (by omega)
theorem spec_gmGood.ev_l1 (n : Int) (l : List (List Int)) (hl : l.length ≤ 9223372036854775807) (hs : ∀ x ∈ l, x.length ≤ 9223372036854775807 ∧ (∀ y ∈ x, 0 ≤ y ∧ y ≤ 8) ∧ maskN x < 512) (i : Nat) (hi : i < l.length) (R : Bool) (hR : Ev (fun k => spec_gmGood.l0 k l (l.length : Int) ((i : Int) + 1) n l) R) : ∀ (d j : Nat), j + d = i → Ev (fun k => spec_gmGood.l1 k ((maskN l[i] : Nat) : Int) l (l.length : Int) (i : Int) (l.take i) ((l.take i).length : Int) (j : Int) n l) ((List.range' j d).all (gInS l i) && R) := by
  have ht : (l.take i).length = i := by rw [List.length_take]; omega
  intro d
  induction d with
  | zero =>
    intro j h
    refine ev_step ?_
    simp only [spec_gmGood.l1]
    rw [ev_neg (by omega), w64i (n := l.length) (by omega) (by omega) hl]
    exact hR
  | succ d ih =>
    intro j h
    refine ev_step ?_
    simp only [spec_gmGood.l1]
    have hj : j < l.length := by omega
    have hjt : j < (l.take i).length := by omega
    obtain ⟨hx1, hx2, hx3⟩ := hs l[i] (List.getElem_mem hi)
    obtain ⟨hy1, hy2, hy3⟩ := hs l[j] (List.getElem_mem hj)
    have m2 := spec_voBits.ev l[j] hy1 (fun y hy => by have := hy2 y hy; omega)
    rw [ev_pos (by omega), ev_pos (by omega), ev_pos (by omega), w64i (i := (j : Int)) (n := l.length) (by omega) (by omega) hl, List.range'_succ, List.all_cons, rd_L2_lt (l.take i) j hjt, List.getElem_take, ev_bind m2, and_nat _ _ (by omega) (by omega), gInS, mAt_lt l i hi, mAt_lt l j hj]
    by_cases c : maskN l[i] &&& maskN l[j] = maskN l[i]
    · rw [ev_pos (by rw [c]), ev_now, decide_eq_true c]
      rfl
    · rw [ev_neg (by omega), decide_eq_false c]
      by_cases c2 : maskN l[i] &&& maskN l[j] = maskN l[j]
      · rw [ev_pos (by rw [c2]), ev_now, decide_eq_true c2]
        rfl
      · rw [ev_neg (by omega), decide_eq_false c2]
        exact ih (j + 1) (by omega)
theorem spec_gmGood.ev_l0 (n : Int) (l : List (List Int)) (hl : l.length ≤ 9223372036854775807) (hs : ∀ x ∈ l, x.length ≤ 9223372036854775807 ∧ (∀ y ∈ x, 0 ≤ y ∧ y ≤ 8) ∧ maskN x < 512) : ∀ (d i : Nat), i + d = l.length → Ev (fun k => spec_gmGood.l0 k l (l.length : Int) (i : Int) n l) ((List.range' i d).all (gS l)) := by
  intro d
  induction d with
  | zero =>
    intro i h
    refine ev_step ?_
    simp only [spec_gmGood.l0]
    rw [ev_neg (by omega), ev_now]
    rfl
  | succ d ih =>
    intro i h
    refine ev_step ?_
    simp only [spec_gmGood.l0]
    have hi : i < l.length := by omega
    obtain ⟨hx1, hx2, hx3⟩ := hs l[i] (List.getElem_mem hi)
    have m1 := spec_voBits.ev l[i] hx1 (fun y hy => by have := hx2 y hy; omega)
    rw [ev_pos (by omega), ev_pos (by omega), ev_pos (by omega), rd_L2_lt l i hi, List.range'_succ, List.all_cons]
    have hin : Ev (fun k => spec_gmGood.l1 k ((maskN l[i] : Nat) : Int) l (l.length : Int) (i : Int) (l.take i) ((l.take i).length : Int) ((0 : Nat) : Int) n l) ((List.range' 0 i).all (gInS l i) && (List.range' (i + 1) d).all (gS l)) := spec_gmGood.ev_l1 n l hl hs i hi _ (by have := ih (i + 1) (by omega); exact this) i 0 (by omega)
    by_cases e : i = 0
    · rw [ev_neg (by omega)]
      refine ev_step ?_
      simp only [spec_gmGood.j1]
      rw [ev_neg (by decide), ev_bind m1, ev_pos (by omega), ev_pos (by omega), Int.toNat_natCast, gS, show gOrd l i = true by simp [gOrd, e], Bool.true_and]
      exact hin
    · have e1 : (i : Int) - 1 = ((i - 1 : Nat) : Int) := by omega
      rw [ev_pos (by omega), w64 (by omega) (by omega), e1, ev_pos (by omega), ev_pos (by omega), rd_L2_lt l (i - 1) (by omega), ev_bind (spec_voBefore.ev _ _ (hs _ (List.getElem_mem (by omega))).1)]
      refine ev_step ?_
      simp only [spec_gmGood.j1]
      rw [gS, gOrd_pos l i e hi]
      by_cases c : cmpL (l[i - 1]'(by omega)) l[i] < 0
      · rw [ev_neg (by simp [c]), decide_eq_true c, Bool.true_and, ev_bind m1, ev_pos (by omega), ev_pos (by omega), Int.toNat_natCast]
        exact hin
      · rw [ev_pos (by simp; omega), ev_now, decide_eq_false c]
        rfl
theorem spec_gmGood.ev (n : Int) (l : List (List Int)) (hl : l.length ≤ 9223372036854775807) (hx : ∀ x ∈ l, x.length ≤ 9223372036854775807) : Ev (fun k => spec_gmGood.f k n l) (gameB n l) := by
  simp only [spec_gmGood.f]
  rw [ev_bind (spec_gmSets.ev n l 126 hl hx), gameB]
  cases h1 : (decide (1 ≤ n) && decide (n ≤ 9)) with
  | false =>
    rw [ev_neg (by simp), ev_now]
    rfl
  | true =>
    simp only [Bool.and_eq_true, decide_eq_true_eq] at h1
    rw [Bool.true_and, Bool.true_and]
    by_cases h2 : (l.length : Int) = 0
    · rw [decide_eq_false (show ¬ (1 ≤ (l.length : Int)) by omega), ev_neg (by simp), ev_now, decide_eq_true h2]
      rfl
    · rw [decide_eq_true (show 1 ≤ (l.length : Int) by omega), decide_eq_false h2]
      cases h3 : setsB n l with
      | false =>
        rw [ev_neg (by simp), ev_now]
        rfl
      | true =>
        have hs : ∀ x ∈ l, x.length ≤ 9223372036854775807 ∧ (∀ y ∈ x, 0 ≤ y ∧ y ≤ 8) ∧ maskN x < 512 := fun x hx' => ⟨hx x hx', setsB_mask h3 (by omega) x hx'⟩
        have hfull := spec_gmGood.ev_l0 n l hl hs l.length 0 (by omega)
        by_cases h4 : (l.length : Int) ≤ 126
        · rw [ev_pos (by simp [h4])]
          exact hfull
        · rw [ev_neg (by simp [h4]), ev_now]
          cases h5 : (List.range' 0 l.length).all (gS l) with
          | false => rfl
          | true => exact absurd (game_few (by omega) h3 h5) (by omega)
theorem spec_voAll.v (n : Nat) (hn : n ≤ 60) : spec_voAll.f (n : Int) = some ((2 ^ n - 1 : Nat) : Int) := by
  unfold spec_voAll.f
  have h0 : 0 < 2 ^ n := Nat.two_pow_pos n
  have h : 2 ^ n ≤ 2 ^ 60 := Nat.pow_le_pow_right (by omega) hn
  rw [if_pos (by omega), shl_one n (by omega), w64 (by omega) (by omega)]
  congr 1
  omega
theorem spec_gmWins.ev_l1 (l : List (List Int)) (hl : l.length ≤ 1000000) (hs : ∀ x ∈ l, x.length ≤ 9223372036854775807 ∧ (∀ y ∈ x, 0 ≤ y ∧ y ≤ 60)) (N m : Nat) (hm : m < N) (hN : N ≤ 1000000) (R : List Bool) : ∀ (d j : Nat) (acc : List Bool) (ha : acc.length = N), j + d = l.length → Ev (fun k => spec_gmWins.l0 k l (acc.set m ((acc[m]'(by omega)) || ((l.drop j).any fun x => decide (m &&& maskN x = maskN x)))) (N : Int) ((m : Int) + 1)) R → Ev (fun k => spec_gmWins.l1 k l acc (m : Int) (N : Int) (m : Int) l (l.length : Int) (j : Int)) R := by
  intro d
  induction d with
  | zero =>
    intro j acc ha h hR
    refine ev_step ?_
    simp only [spec_gmWins.l1]
    rw [List.drop_of_length_le (by omega), List.any_nil, Bool.or_false, List.set_getElem_self] at hR
    rw [ev_neg (by omega), w64i (n := N) (by omega) (by omega) (by omega)]
    exact hR
  | succ d ih =>
    intro j acc ha h hR
    refine ev_step ?_
    simp only [spec_gmWins.l1]
    have hj : j < l.length := by omega
    have hma : m < acc.length := by omega
    have hx := hs l[j] (List.getElem_mem hj)
    have hlt : maskN l[j] < 2 ^ 61 := orBits_lt61 l[j] 0 (by omega) hx.2
    rw [ev_pos (by omega), ev_pos (by omega), ev_pos (by omega), w64i (i := (j : Int)) (n := l.length) (by omega) (by omega) (by omega), rd_L2_lt l j hj, ev_bind (spec_voBits.ev l[j] hx.1 hx.2), ev_pos (by omega), ev_pos (by omega), rdOf_lt false acc m hma, Int.toNat_natCast, and_nat m (maskN l[j]) (by omega) (by omega)]
    rw [List.drop_eq_getElem_cons hj, List.any_cons] at hR
    by_cases c : acc[m] = true
    · rw [ev_pos c]
      refine ih (j + 1) (acc.set m true) (by simpa using ha) (by omega) ?_
      rw [c, Bool.true_or] at hR
      rw [List.getElem_set_self, List.set_set, Bool.true_or]
      exact hR
    · rw [ev_neg c]
      refine ih (j + 1) (acc.set m _) (by simpa using ha) (by omega) ?_
      rw [List.getElem_set_self, List.set_set]
      rw [Bool.eq_false_iff.2 c, Bool.false_or] at hR
      have e : ((((m &&& maskN l[j] : Nat) : Int) == ((maskN l[j] : Nat) : Int))) = decide (m &&& maskN l[j] = maskN l[j]) := by
        by_cases c2 : m &&& maskN l[j] = maskN l[j]
        · rw [decide_eq_true c2, c2, beq_self_eq_true]
        · rw [decide_eq_false c2]
          exact beq_eq_false_iff_ne.2 (by omega)
      rw [e]
      exact hR
theorem spec_gmWins.ev_l0 (n : Nat) (hn : n ≤ 18) (l : List (List Int)) (hl : l.length ≤ 1000000) (hs : ∀ x ∈ l, x.length ≤ 9223372036854775807 ∧ (∀ y ∈ x, 0 ≤ y ∧ y ≤ 60)) : ∀ (d m : Nat) (acc : List Bool), m + d = 2 ^ n → acc.length = 2 ^ n → acc.take m = (winsG n l).take m → (∀ j (h : j < acc.length), m ≤ j → acc[j] = false) → Ev (fun k => spec_gmWins.l0 k l acc ((2 ^ n : Nat) : Int) (m : Int)) (winsG n l) := by
  have hp : 2 ^ n ≤ 2 ^ 18 := Nat.pow_le_pow_right (by omega) hn
  have hwl := winsG_length n l
  intro d
  induction d with
  | zero =>
    intro m acc h ha ht hf
    refine ev_step ?_
    simp only [spec_gmWins.l0]
    rw [ev_neg (by omega), ev_now]
    rw [List.take_of_length_le (by omega), List.take_of_length_le (by omega)] at ht
    exact ht
  | succ d ih =>
    intro m acc h ha ht hf
    refine ev_step ?_
    simp only [spec_gmWins.l0]
    have hma : m < acc.length := by omega
    rw [ev_pos (by omega)]
    refine spec_gmWins.ev_l1 l hl hs (2 ^ n) m (by omega) (by omega) (winsG n l) l.length 0 acc ha (by omega) ?_
    rw [hf m hma (Nat.le_refl m), Bool.false_or, List.drop_zero]
    refine ih (m + 1) _ (by omega) (by simpa using ha) ?_ ?_
    · rw [List.take_succ_eq_append_getElem (by simpa using hma), List.take_succ_eq_append_getElem (by omega), List.take_set_of_le (by omega), ht, List.getElem_set_self, winsG_get]
    · intro j hj hmj
      rw [List.length_set] at hj
      rw [List.getElem_set_ne (by omega)]
      exact hf j hj (by omega)
theorem spec_gmWins.ev (n : Nat) (hn : n ≤ 18) (l : List (List Int)) (hl : l.length ≤ 1000000) (hs : ∀ x ∈ l, x.length ≤ 9223372036854775807 ∧ (∀ y ∈ x, 0 ≤ y ∧ y ≤ 60)) : Ev (fun k => spec_gmWins.f k (n : Int) l) (winsG n l) := by
  have hp : 2 ^ n ≤ 2 ^ 18 := Nat.pow_le_pow_right (by omega) hn
  have h0 : 0 < 2 ^ n := Nat.two_pow_pos n
  simp only [spec_gmWins.f]
  have e : (((2 ^ n - 1 : Nat) : Int) + 1) = ((2 ^ n : Nat) : Int) := by omega
  rw [ev_bind (ev_of (spec_voAll.v n (by omega))), e, w64 (by omega) (by omega), ev_pos (by omega), ev_pos (by rw [Int.toNat_natCast]; omega), Int.toNat_natCast]
  simp only [Option.bind_some, List.length_replicate]
  exact spec_gmWins.ev_l0 n hn l hl hs (2 ^ n) 0 _ (by omega) (by simp) (by simp) (fun j h _ => by simp)
theorem spec_gmAll.ev (n : Nat) (hn : n ≤ 18) (l : List (List Int)) (hl : l.length ≤ 1000000) (hs : ∀ x ∈ l, x.length ≤ 9223372036854775807 ∧ (∀ y ∈ x, 0 ≤ y ∧ y ≤ 60)) : Ev (fun k => spec_gmAll.f k (n : Int) l) (winsG n l) := by
  simp only [spec_gmAll.f]
  rw [ev_bind (spec_gmWins.ev n hn l hl hs), ev_now]
theorem good_sets {n : Int} {l : List (List Int)} (h : GoodG n l) : l.length ≤ 126 ∧ ∀ x ∈ l, x.length ≤ 9223372036854775807 ∧ (∀ y ∈ x, 0 ≤ y ∧ y ≤ 60) := by
  have h9 := h.n9
  have h1 := h.n1
  have hg := (game_iff n l).2 h
  simp only [gameB, Bool.and_eq_true] at hg
  refine ⟨game_few h9 hg.2.2.1 hg.2.2.2, fun x hx => ⟨?_, fun y hy => ?_⟩⟩
  · have := setB_len (h.sets x hx).2 (by omega)
    omega
  · have := setB_in (h.sets x hx).2 y hy
    omega
theorem bitB_test (m i : Nat) : bitB m i = m.testBit i := by rw [bitB, Nat.testBit_eq_decide_div_mod_eq]
theorem orBits_test : ∀ (x : List Int) (m i : Nat), (∀ y ∈ x, 0 ≤ y) → (orBits m x).testBit i = (m.testBit i || x.contains (i : Int))
  | [], m, i, _ => by simp [orBits]
  | y :: x, m, i, h => by
    have hy := h y List.mem_cons_self
    have ih := orBits_test x (m ||| 2 ^ y.toNat) i (fun z hz => h z (List.mem_cons_of_mem _ hz))
    show (orBits (m ||| 2 ^ y.toNat) x).testBit i = _
    rw [ih, Nat.testBit_or, Nat.testBit_two_pow, List.contains_cons, Bool.or_assoc]
    congr 2
    by_cases e : y.toNat = i
    · rw [decide_eq_true e, beq_iff_eq.2 (show (i : Int) = y by omega)]
    · rw [decide_eq_false e, beq_eq_false_iff_ne.2 (show (i : Int) ≠ y by omega)]
theorem maskN_test (x : List Int) (i : Nat) (h : ∀ y ∈ x, 0 ≤ y) : (maskN x).testBit i = x.contains (i : Int) := by
  rw [maskN, orBits_test x 0 i h]
  simp
theorem spec_l1All.ev_l (l : List Int) (lo hi : Int) (hl : l.length ≤ 9223372036854775807) : ∀ (d i : Nat), i + d = l.length → Ev (fun k => spec_l1All.l0 k lo hi l (l.length : Int) (i : Int)) ((l.drop i).all fun x => decide (lo ≤ x) && decide (x ≤ hi)) := by
  intro d
  induction d with
  | zero =>
    intro i h
    refine ev_step ?_
    simp only [spec_l1All.l0]
    rw [ev_neg (by omega), ev_now, List.drop_of_length_le (by omega)]
    rfl
  | succ d ih =>
    intro i h
    refine ev_step ?_
    simp only [spec_l1All.l0]
    have hi' : i < l.length := by omega
    rw [ev_pos (by omega), ev_pos (by omega), ev_pos (by omega), w64i (n := l.length) (by omega) (by omega) hl, rd_lt l i hi', List.drop_eq_getElem_cons hi', List.all_cons, ev_bind (ev_of (spec_l1In.v _ _ _))]
    cases hb : (decide (lo ≤ l[i]) && decide (l[i] ≤ hi)) with
    | true =>
      rw [ev_pos rfl, Bool.true_and]
      exact ih (i + 1) (by omega)
    | false =>
      rw [ev_neg (by decide), ev_now]
      rfl
theorem spec_l1All.ev (l : List Int) (lo hi : Int) (hl : l.length ≤ 9223372036854775807) : Ev (fun k => spec_l1All.f k l lo hi) (l.all fun x => decide (lo ≤ x) && decide (x ≤ hi)) := spec_l1All.ev_l l lo hi hl l.length 0 (by omega)
def popN (m : Nat) : Nat := ((List.range 9).filter (bitB m)).length
theorem popN_or_all : ((List.range 512).all fun m => (List.range 9).all fun x => decide (popN (m ||| 2 ^ x) = popN m + if bitB m x = true then 0 else 1)) = true := by decide +kernel
theorem impl_count_all : ((List.range 512).all fun m => decide (impl_count.f (m : Int) = some ((popN m : Nat) : Int))) = true := by decide +kernel
theorem popN_or {m x : Nat} (hm : m < 512) (hx : x < 9) : popN (m ||| 2 ^ x) = popN m + if bitB m x = true then 0 else 1 := by
  have h := List.all_eq_true.1 popN_or_all m (List.mem_range.2 hm)
  exact of_decide_eq_true (List.all_eq_true.1 h x (List.mem_range.2 hx))
theorem impl_count.v {m : Nat} (hm : m < 512) : impl_count.f (m : Int) = some ((popN m : Nat) : Int) := of_decide_eq_true (List.all_eq_true.1 impl_count_all m (List.mem_range.2 hm))
def newAt (l : List Int) (j : Nat) : Bool := !((l.take j).contains (l.getD j 0))
def orderB (n : Int) (l : List Int) : Bool := decide ((l.length : Int) = n) && ((l.all fun x => decide (0 ≤ x) && decide (x ≤ n - 1)) && (List.range' 0 l.length).all (newAt l))
theorem popN_take (l : List Int) (hx : ∀ x ∈ l, 0 ≤ x ∧ x ≤ 8) : ∀ i, i ≤ l.length → popN (maskN (l.take i)) ≤ i ∧ (popN (maskN (l.take i)) = i ↔ (List.range' 0 i).all (newAt l) = true) := by
  intro i
  induction i with
  | zero => intro _; rw [List.take_zero]; exact ⟨Nat.le_refl 0, by simp [show popN (maskN []) = 0 from rfl]⟩
  | succ i ih =>
    intro h
    obtain ⟨h1, h2⟩ := ih (by omega)
    have hi : i < l.length := by omega
    have hxi := hx l[i] (List.getElem_mem hi)
    have ht : ∀ y ∈ l.take i, 0 ≤ y ∧ y ≤ 8 := fun y hy => hx y (List.mem_of_mem_take hy)
    have hm : maskN (l.take i) < 512 := maskN_lt 9 (l.take i) (fun y hy => by have := ht y hy; omega)
    have e : maskN (l.take (i + 1)) = maskN (l.take i) ||| 2 ^ (l[i]).toNat := by
      rw [List.take_succ_eq_append_getElem hi]
      unfold maskN orBits
      rw [List.foldl_append]
      rfl
    have hb : bitB (maskN (l.take i)) (l[i]).toNat = (l.take i).contains l[i] := by
      rw [bitB_test, maskN_test _ _ (fun y hy => (ht y hy).1), show (((l[i]).toNat : Nat) : Int) = l[i] by omega]
    have hn : newAt l i = !((l.take i).contains l[i]) := by
      unfold newAt
      rw [List.getD_eq_getElem?_getD, List.getElem?_eq_getElem hi, Option.getD_some]
    rw [e, popN_or hm (by omega), hb, List.range'_1_concat, List.all_append, Nat.zero_add, Bool.and_eq_true]
    simp only [List.all_cons, List.all_nil, Bool.and_true, hn]
    generalize popN (maskN (l.take i)) = p at *
    cases (l.take i).contains l[i] with
    | true => simp; omega
    | false =>
      simp only [Bool.not_false, and_true, Bool.false_eq_true, if_false]
      exact ⟨by omega, by rw [← h2]; omega⟩
theorem impl_isOrder.ev (l : List Int) (n : Int) (h1 : 1 ≤ n) (h9 : n ≤ 9) (hl : l.length ≤ 9223372036854775807) : Ev (fun k => impl_isOrder.f k l n) (orderB n l) := by
  simp only [impl_isOrder.f]
  unfold orderB
  by_cases c : (l.length : Int) = n
  · rw [ev_pos c, decide_eq_true c, Bool.true_and, w64 (by omega) (by omega), ev_bind (ev_of (show impl_areIn.f l 0 (n - 1) = some _ from rfl))]
    cases hb : (l.all fun x => decide (0 ≤ x) && decide (x ≤ n - 1)) with
    | false => rw [ev_neg (by decide), ev_now, Bool.false_and]
    | true =>
      have hx : ∀ x ∈ l, 0 ≤ x ∧ x ≤ 8 := fun x h => by
        have := List.all_eq_true.1 hb x h
        simp only [Bool.and_eq_true, decide_eq_true_eq] at this
        omega
      have hm : maskN l < 512 := maskN_lt 9 l (fun y hy => by have := hx y hy; omega)
      obtain ⟨-, h2⟩ := popN_take l hx l.length (Nat.le_refl _)
      rw [List.take_length] at h2
      rw [ev_pos rfl, ev_bind (impl_maskOf.ev l hl (fun x h => by have := hx x h; omega)), ev_bind (ev_of (impl_count.v hm)), ev_now, Bool.true_and, Bool.eq_iff_iff, ← h2, beq_iff_eq]
      omega
  · rw [ev_neg c, ev_now, decide_eq_false c, Bool.false_and]
theorem spec_l1Has.ev_l (l : List Int) (a : Int) (hl : l.length ≤ 9223372036854775807) : ∀ (d i : Nat), i + d = l.length → Ev (fun k => spec_l1Has.l0 k a l (l.length : Int) (i : Int)) ((l.drop i).contains a) := by
  intro d
  induction d with
  | zero =>
    intro i h
    refine ev_step ?_
    simp only [spec_l1Has.l0]
    rw [ev_neg (by omega), ev_now, List.drop_of_length_le (by omega)]
    rfl
  | succ d ih =>
    intro i h
    refine ev_step ?_
    simp only [spec_l1Has.l0]
    have hi : i < l.length := by omega
    rw [ev_pos (by omega), ev_pos (by omega), ev_pos (by omega), rd_lt l i hi, w64i (n := l.length) (by omega) (by omega) hl, List.drop_eq_getElem_cons hi, List.contains_cons]
    by_cases c : l[i] = a
    · rw [ev_pos c, ev_now, c, beq_self_eq_true, Bool.true_or]
    · rw [ev_neg c, beq_eq_false_iff_ne.2 (fun h => c h.symm), Bool.false_or]
      exact ih (i + 1) (by omega)
theorem spec_l1Has.ev (l : List Int) (a : Int) (hl : l.length ≤ 9223372036854775807) : Ev (fun k => spec_l1Has.f k l a) (l.contains a) := spec_l1Has.ev_l l a hl l.length 0 (by omega)
theorem spec_voOrder.ev_l (l : List Int) (hl : l.length ≤ 9223372036854775807) : ∀ (d i : Nat), i + d = l.length → Ev (fun k => spec_voOrder.l0 k l l (l.length : Int) (i : Int)) ((List.range' i d).all (newAt l)) := by
  intro d
  induction d with
  | zero =>
    intro i h
    refine ev_step ?_
    simp only [spec_voOrder.l0]
    rw [ev_neg (by omega), ev_now]
    rfl
  | succ d ih =>
    intro i h
    refine ev_step ?_
    simp only [spec_voOrder.l0]
    have hi : i < l.length := by omega
    have hn : newAt l i = !((l.take i).contains l[i]) := by
      unfold newAt
      rw [List.getD_eq_getElem?_getD, List.getElem?_eq_getElem hi, Option.getD_some]
    rw [ev_pos (by omega), ev_pos (by omega), ev_pos (by omega), ev_pos (by omega), rd_lt l i hi, w64i (n := l.length) (by omega) (by omega) hl, Int.toNat_natCast, ev_bind (spec_l1Has.ev (l.take i) l[i] (by rw [List.length_take]; omega)), List.range'_succ, List.all_cons, hn]
    cases (l.take i).contains l[i] with
    | true => rw [ev_pos rfl, ev_now]; rfl
    | false =>
      rw [ev_neg (by decide)]
      exact ih (i + 1) (by omega)
theorem spec_voOrder.ev (n : Int) (l : List Int) (h1 : 1 ≤ n) (h9 : n ≤ 9) (hl : l.length ≤ 9223372036854775807) : Ev (fun k => spec_voOrder.f k n l) (orderB n l) := by
  have hz : Ev (fun k => spec_voOrder.j0 k l true) false := by
    refine ev_step ?_
    simp only [spec_voOrder.j0]
    rw [ev_pos trivial, ev_now]
  simp only [spec_voOrder.f]
  unfold orderB
  by_cases c : (l.length : Int) = n
  · rw [ev_pos c, decide_eq_true c, Bool.true_and, w64 (by omega) (by omega), ev_bind (spec_l1All.ev l 0 (n - 1) hl)]
    cases hb : (l.all fun x => decide (0 ≤ x) && decide (x ≤ n - 1)) with
    | false => exact hz
    | true =>
      refine ev_step ?_
      simp only [spec_voOrder.j0]
      rw [ev_neg (by decide), Bool.true_and]
      exact spec_voOrder.ev_l l hl l.length 0 (by omega)
  · rw [ev_neg c, decide_eq_false c, Bool.false_and]
    exact hz
theorem impl_votesOf.at_l (n N : Nat) (hN : N ≤ 1000000) (P : Int → Option Bool) (p : Nat → Bool) (hP : ∀ m, m < N → P (m : Int) = some (p m)) : ∀ (d m k : Nat) (acc : List Bool), m + d = N → d < k → acc.length = N → acc.take m = ((List.range N).map p).take m → impl_votesOf.l0 k P (N : Int) (m : Int) (n : Int) acc = some ((n : Int), (List.range N).map p) := by
  intro d
  induction d with
  | zero =>
    intro m k acc h hk hlen ht
    obtain ⟨k, rfl⟩ : ∃ j, k = j + 1 := ⟨k - 1, by omega⟩
    simp only [impl_votesOf.l0]
    rw [List.take_of_length_le (by omega), List.take_of_length_le (by simp; omega)] at ht
    rw [if_neg (by omega), ht]
  | succ d ih =>
    intro m k acc h hk hlen ht
    obtain ⟨k, rfl⟩ : ∃ j, k = j + 1 := ⟨k - 1, by omega⟩
    have hm : m < N := by omega
    simp only [impl_votesOf.l0]
    rw [if_pos (by omega), hP m hm, Option.bind_some, if_pos (by omega), if_pos (by omega), w64i (n := N) (by omega) (by omega) (by omega), Int.toNat_natCast]
    refine ih (m + 1) k (acc.set m (p m)) (by omega) (by omega) (by simpa using hlen) ?_
    rw [List.take_succ_eq_append_getElem (by simp; omega), List.take_succ_eq_append_getElem (by simp; omega), List.take_set_of_le (by omega), ht]
    simp
theorem impl_votesOf.ev (n : Nat) (hn : n ≤ 19) (g : Nat → Int → Option Bool) (p : Nat → Bool) (hg : ∀ m : Nat, m < 2 ^ n → Ev (fun k => g k (m : Int)) (p m)) : Ev (fun k => impl_votesOf.f k (n : Int) (g k)) ((n : Int), (List.range (2 ^ n)).map p) := by
  have hp : 2 ^ n ≤ 2 ^ 19 := Nat.pow_le_pow_right (by omega) hn
  have h0 : 0 < 2 ^ n := Nat.two_pow_pos n
  generalize hN : 2 ^ n = N at *
  obtain ⟨K, hK⟩ := ev_all N (fun k m => g k (m : Int)) p hg
  refine ⟨max K (N + 1), fun k hk => ?_⟩
  simp only [impl_votesOf.f]
  rw [if_pos (by omega), shl_one n (by omega), hN, if_pos (by omega), Int.toNat_natCast, if_pos (by omega), Option.bind_some, List.length_replicate]
  exact impl_votesOf.at_l n N (by omega) (g k) p (fun m hm => hK k (by omega) m hm) N 0 k _ (by omega) (by omega) (by simp) (by simp)
theorem impl_votesBy.ev_l (l : List (List Int)) (hl : l.length ≤ 1000000) (hs : ∀ x ∈ l, x.length ≤ 9223372036854775807 ∧ (∀ y ∈ x, 0 ≤ y ∧ y ≤ 60)) : ∀ (d i : Nat), i + d = l.length → Ev (fun k => impl_votesBy.l0 k ((l.map fun x => ((maskN x : Nat) : Int)).take i) l (i : Int)) (l.map fun x => ((maskN x : Nat) : Int)) := by
  have hml : (l.map fun x => ((maskN x : Nat) : Int)).length = l.length := by simp
  intro d
  induction d with
  | zero =>
    intro i h
    refine ev_step ?_
    simp only [impl_votesBy.l0]
    rw [ev_neg (by omega), ev_now, List.take_of_length_le (by omega)]
  | succ d ih =>
    intro i h
    refine ev_step ?_
    simp only [impl_votesBy.l0]
    have hi : i < l.length := by omega
    have hx := hs l[i] (List.getElem_mem hi)
    rw [ev_pos (by omega), ev_pos (by omega), rdOf_lt [] l i hi, ev_bind (impl_maskOf.ev l[i] hx.1 hx.2), ev_pos (by rw [List.length_take]; omega), w64i (n := l.length) (by omega) (by omega) (by omega)]
    have := ih (i + 1) (by omega)
    rw [List.take_succ_eq_append_getElem (by omega), List.getElem_map] at this
    exact this
theorem impl_votesBy.ev (n : Nat) (hn : n ≤ 18) (l : List (List Int)) (hl : l.length ≤ 1000000) (hs : ∀ x ∈ l, x.length ≤ 9223372036854775807 ∧ (∀ y ∈ x, 0 ≤ y ∧ y ≤ 60)) : Ev (fun k => impl_votesBy.f k (n : Int) l) ((n : Int), winsG n l) := by
  have hp : 2 ^ n ≤ 2 ^ 18 := Nat.pow_le_pow_right (by omega) hn
  simp only [impl_votesBy.f]
  have h0 := impl_votesBy.ev_l l hl hs l.length 0 (by omega)
  rw [List.take_zero] at h0
  rw [ev_bind (show Ev (fun k => impl_votesBy.l0 k ([] : List Int) l 0) _ from h0)]
  refine impl_votesOf.ev n (by omega) (fun _ x => some (impl_votesBy_1.p (l.map fun x => ((maskN x : Nat) : Int)) x)) (fun m => l.any fun x => decide (m &&& maskN x = maskN x)) (fun m hm => ?_)
  rw [ev_now, impl_votesBy_1.p]
  clear h0 hl
  induction l with
  | nil => rfl
  | cons x l ih =>
    have hx := hs x List.mem_cons_self
    have hlt := orBits_lt61 x 0 (by omega) hx.2
    have hm2 : maskN x < 2 ^ 61 := hlt
    rw [List.map_cons, List.any_cons, List.any_cons, ih (fun y hy => hs y (List.mem_cons_of_mem _ hy)), and_nat m (maskN x) (by omega) (by omega)]
    congr 1
    by_cases c : m &&& maskN x = maskN x
    · rw [decide_eq_true c, c, decide_eq_true rfl]
    · rw [decide_eq_false c, decide_eq_false (by omega)]
theorem impl_Game_votes.ev (n : Nat) (hn : n ≤ 18) (l : List (List Int)) (hl : l.length ≤ 1000000) (hs : ∀ x ∈ l, x.length ≤ 9223372036854775807 ∧ (∀ y ∈ x, 0 ≤ y ∧ y ≤ 60)) : Ev (fun k => impl_Game_votes.f k (n : Int) l) ((n : Int), winsG n l) := by
  simp only [impl_Game_votes.f]
  rw [ev_bind (impl_votesBy.ev n hn l hl hs), ev_now]
def renN (o : List Int) (m : Nat) : Nat := orBits 0 ((setN m).map fun i => o.getD i.toNat 0)
def renW (n : Nat) (o : List Int) (V : List Bool) : List Bool := (List.range (2 ^ n)).map fun m => V.getD (renN o m) false
theorem renW_length (n : Nat) (o : List Int) (V : List Bool) : (renW n o V).length = 2 ^ n := by simp [renW]
def reV (n : Int) (l : List (List Int)) (o : List Int) : Int × List (List Int) × Bool := if (gameB n l && orderB n o) = true then (n, gmL n.toNat (renW n.toNat o (winsG n.toNat l)), true) else (0, [], false)
theorem orderB_in {n : Nat} {o : List Int} (h : orderB (n : Int) o = true) : o.length = n ∧ ∀ x ∈ o, 0 ≤ x ∧ x < (n : Int) := by
  simp only [orderB, Bool.and_eq_true, decide_eq_true_eq] at h
  refine ⟨by omega, fun x hx => ?_⟩
  have := List.all_eq_true.1 h.2.1 x hx
  simp only [Bool.and_eq_true, decide_eq_true_eq] at this
  omega
theorem setN_in {m n : Nat} (hm : m < 2 ^ n) (hn : n ≤ 62) : (setN m).length ≤ n ∧ ∀ x ∈ setN m, 0 ≤ x ∧ x < (n : Int) := by
  rw [setN_to hm hn]
  exact ⟨setTo_len m n, fun x hx => ⟨(setTo_in x hx).1, (setTo_in x hx).2.1⟩⟩
theorem impl_votes_renamed_1.ev_l {n : Nat} (hn : n ≤ 9) {o : List Int} (ho : o.length = n) (hx : ∀ x ∈ o, 0 ≤ x ∧ x < (n : Int)) (s : List Int) (hl : s.length ≤ 62) (hs : ∀ x ∈ s, 0 ≤ x ∧ x < (n : Int)) (V : List Bool) (hV : V.length = 2 ^ n) : ∀ (d i x : Nat), i + d = s.length → x < 2 ^ n → Ev (fun k => impl_votes_renamed_1.l0 k o s V (x : Int) (i : Int)) (V.getD (orBits x ((s.drop i).map fun i => o.getD i.toNat 0)) false) := by
  have hp : 2 ^ n ≤ 2 ^ 9 := Nat.pow_le_pow_right (by omega) hn
  intro d
  induction d with
  | zero =>
    intro i x h hxx
    refine ev_step ?_
    simp only [impl_votes_renamed_1.l0]
    rw [ev_neg (by omega), ev_pos (Int.natCast_nonneg _), ev_pos (Int.ofNat_lt.2 (by omega)), ev_now, List.drop_of_length_le (by omega), rdOf_nat]
    rfl
  | succ d ih =>
    intro i x h hxx
    refine ev_step ?_
    simp only [impl_votes_renamed_1.l0]
    have hi : i < s.length := by omega
    have hsi := hs s[i] (List.getElem_mem hi)
    obtain ⟨c, hc⟩ := Int.eq_ofNat_of_zero_le hsi.1
    have hco : c < o.length := by omega
    have hoc := hx o[c] (List.getElem_mem hco)
    obtain ⟨e, he⟩ := Int.eq_ofNat_of_zero_le hoc.1
    have hpe : 2 ^ e < 2 ^ n := Nat.pow_lt_pow_right (by omega) (by omega)
    have hor : x ||| 2 ^ e < 2 ^ n := Nat.or_lt_two_pow hxx hpe
    have := ih (i + 1) (x ||| 2 ^ e) (by omega) hor
    rw [ev_pos (by omega), ev_pos (by omega), rd_lt s i hi, hc, ev_pos (by omega), ev_pos (by omega), rd_lt o c hco, he, ev_pos (by omega), shl_one e (by omega), or_nat x (2 ^ e) (by omega) (by omega), w64i (n := s.length) (by omega) (by omega) (by omega), List.drop_eq_getElem_cons hi]
    show Ev _ (V.getD (orBits (x ||| 2 ^ (o.getD (s[i]).toNat 0).toNat) ((s.drop (i + 1)).map fun i => o.getD i.toNat 0)) false)
    rw [hc, Int.toNat_natCast, show o.getD c 0 = o[c] by rw [List.getD_eq_getElem?_getD, List.getElem?_eq_getElem hco, Option.getD_some], he, Int.toNat_natCast]
    exact this
theorem impl_RenameGame.ev (n : Int) (l : List (List Int)) (o : List Int) (hl : l.length ≤ 9223372036854775807) (hx : ∀ x ∈ l, x.length ≤ 9223372036854775807) (hlo : o.length ≤ 9223372036854775807) : Ev (fun k => impl_RenameGame.f k n l o) (reV n l o) := by
  have hz : Ev (fun k => impl_RenameGame.j0 k o true n l) (0, [], false) := by
    refine ev_step ?_
    simp only [impl_RenameGame.j0]
    rw [ev_pos trivial, ev_now]
  simp only [impl_RenameGame.f]
  rw [ev_bind (impl_IsGame.ev n l hl hx)]
  unfold reV
  cases hg : gameB n l with
  | false => rw [ev_neg (by decide)]; exact hz
  | true =>
    have hc := (game_iff n l).1 hg
    have h1 := hc.n1
    have h9 := hc.n9
    obtain ⟨h3, h4⟩ := good_sets hc
    rw [ev_pos rfl, ev_bind (impl_isOrder.ev o n h1 h9 hlo), Bool.true_and]
    cases hb : orderB n o with
    | false => exact hz
    | true =>
      have hb' := hb
      rw [show n = ((n.toNat : Nat) : Int) by omega] at hb'
      obtain ⟨ho, hox⟩ := orderB_in hb'
      have hp : 2 ^ n.toNat ≤ 2 ^ 9 := Nat.pow_le_pow_right (by omega) (by omega)
      have hv := impl_Game_votes.ev n.toNat (by omega) l (by omega) h4
      have hvo : Ev (fun k => impl_votes_renamed.f k ((n.toNat : Nat) : Int) (winsG n.toNat l) o) (((n.toNat : Nat) : Int), renW n.toNat o (winsG n.toNat l)) := by
        simp only [impl_votes_renamed.f]
        refine impl_votesOf.ev n.toNat (by omega) (fun k => impl_votes_renamed_1.f k o (winsG n.toNat l)) (fun m => (winsG n.toNat l).getD (renN o m) false) (fun m hm => ?_)
        obtain ⟨q1, q2⟩ := setN_in hm (by omega)
        simp only [impl_votes_renamed_1.f]
        rw [ev_bind (impl_setOf.ev m (by omega))]
        exact impl_votes_renamed_1.ev_l (by omega) ho hox (setN m) (by omega) q2 (winsG n.toNat l) (winsG_length _ _) (setN m).length 0 0 (by omega) (Nat.two_pow_pos _)
      have hgm := impl_votes_game.ev (renW n.toNat o (winsG n.toNat l)) n.toNat (renW_length _ _ _) (by omega)
      rw [show ((n.toNat : Nat) : Int) = n by omega] at hv hvo hgm
      refine ev_step ?_
      simp only [impl_RenameGame.j0]
      rw [ev_neg (by decide), ev_bind hv, ev_bind hvo, ev_bind hgm, ev_now]
      exact (if_pos trivial).symm
theorem spec_gmRename.ev_l1 {n : Nat} (hn : n ≤ 9) {o : List Int} (ho : o.length = n) (hx : ∀ x ∈ o, 0 ≤ x ∧ x < (n : Int)) (s : List Int) (hl : s.length ≤ 62) (hs : ∀ x ∈ s, 0 ≤ x ∧ x < (n : Int)) (V acc : List Bool) (hV : V.length = 2 ^ n) (ha : acc.length = 2 ^ n) (m : Nat) (hm : m < 2 ^ n) (n1 : Int) (l : List (List Int)) (R : Int × List (List Int)) (hR : Ev (fun k => spec_gmRename.l0 k o V (acc.set m (V.getD (orBits 0 (s.map fun i => o.getD i.toNat 0)) false)) ((2 ^ n : Nat) : Int) ((m : Int) + 1) n1 l) R) : ∀ (d i x : Nat), i + d = s.length → x < 2 ^ n → orBits x ((s.drop i).map fun i => o.getD i.toNat 0) = orBits 0 (s.map fun i => o.getD i.toNat 0) → Ev (fun k => spec_gmRename.l1 k o V acc (m : Int) (x : Int) ((2 ^ n : Nat) : Int) (m : Int) s (s.length : Int) (i : Int) n1 l) R := by
  have hp : 2 ^ n ≤ 2 ^ 9 := Nat.pow_le_pow_right (by omega) hn
  intro d
  induction d with
  | zero =>
    intro i x h hxx hq
    refine ev_step ?_
    simp only [spec_gmRename.l1]
    rw [List.drop_of_length_le (by omega)] at hq
    rw [show x = orBits x (([] : List Int).map fun i => o.getD i.toNat 0) from rfl, hq]
    have hlt : orBits 0 (s.map fun i => o.getD i.toNat 0) < 2 ^ n := hq ▸ hxx
    rw [ev_neg (by omega), ev_pos (Int.natCast_nonneg _), ev_pos (Int.ofNat_lt.2 (by omega)), ev_pos (Int.natCast_nonneg _), ev_pos (Int.ofNat_lt.2 (by omega)), rdOf_nat, Int.toNat_natCast, w64i (n := 2 ^ n) (by omega) (by omega) (by omega)]
    exact hR
  | succ d ih =>
    intro i x h hxx hq
    refine ev_step ?_
    simp only [spec_gmRename.l1]
    have hi : i < s.length := by omega
    have hsi := hs s[i] (List.getElem_mem hi)
    obtain ⟨c, hc⟩ := Int.eq_ofNat_of_zero_le hsi.1
    have hco : c < o.length := by omega
    have hoc := hx o[c] (List.getElem_mem hco)
    obtain ⟨e, he⟩ := Int.eq_ofNat_of_zero_le hoc.1
    have hpe : 2 ^ e < 2 ^ n := Nat.pow_lt_pow_right (by omega) (by omega)
    have hor : x ||| 2 ^ e < 2 ^ n := Nat.or_lt_two_pow hxx hpe
    rw [List.drop_eq_getElem_cons hi] at hq
    have hq2 : orBits (x ||| 2 ^ (o.getD (s[i]).toNat 0).toNat) ((s.drop (i + 1)).map fun i => o.getD i.toNat 0) = orBits 0 (s.map fun i => o.getD i.toNat 0) := hq
    rw [hc, Int.toNat_natCast, show o.getD c 0 = o[c] by rw [List.getD_eq_getElem?_getD, List.getElem?_eq_getElem hco, Option.getD_some], he, Int.toNat_natCast] at hq2
    have := ih (i + 1) (x ||| 2 ^ e) (by omega) hor hq2
    rw [ev_pos (by omega), ev_pos (by omega), ev_pos (by omega), rd_lt s i hi, hc, ev_pos (by omega), ev_pos (by omega), rd_lt o c hco, he, ev_pos (by omega), shl_one e (by omega), or_nat x (2 ^ e) (by omega) (by omega), w64i (n := s.length) (by omega) (by omega) (by omega)]
    exact this
theorem spec_gmRename.ev_l0 {n : Nat} (hn : n ≤ 9) {o : List Int} (ho : o.length = n) (hx : ∀ x ∈ o, 0 ≤ x ∧ x < (n : Int)) (V : List Bool) (hV : V.length = 2 ^ n) (n1 : Int) (l : List (List Int)) (R : Int × List (List Int)) (hR : Ev (fun k => spec_gmRename.l0 k o V (renW n o V) ((2 ^ n : Nat) : Int) ((2 ^ n : Nat) : Int) n1 l) R) : ∀ (d m : Nat) (acc : List Bool), m + d = 2 ^ n → acc.length = 2 ^ n → acc.take m = (renW n o V).take m → Ev (fun k => spec_gmRename.l0 k o V acc ((2 ^ n : Nat) : Int) (m : Int) n1 l) R := by
  have hp : 2 ^ n ≤ 2 ^ 9 := Nat.pow_le_pow_right (by omega) hn
  intro d
  induction d with
  | zero =>
    intro m acc h ha ht
    rw [List.take_of_length_le (by omega), List.take_of_length_le (by rw [renW_length]; omega)] at ht
    rw [ht, show m = 2 ^ n by omega]
    exact hR
  | succ d ih =>
    intro m acc h ha ht
    have hm : m < 2 ^ n := by omega
    obtain ⟨q1, q2⟩ := setN_in hm (by omega)
    refine ev_step ?_
    simp only [spec_gmRename.l0]
    rw [ev_pos (Int.ofNat_lt.2 hm), ev_bind (spec_voList.ev m (by omega))]
    refine spec_gmRename.ev_l1 hn ho hx (setN m) (by omega) q2 V acc hV ha m hm n1 l R ?_ (setN m).length 0 0 (by omega) (Nat.two_pow_pos _) (by rw [List.drop_zero])
    refine ih (m + 1) _ (by omega) (by simpa using ha) ?_
    have hm2 : m < (renW n o V).length := by rw [renW_length]; exact hm
    rw [List.take_succ_eq_append_getElem (by rw [List.length_set, ha]; exact hm), List.take_succ_eq_append_getElem hm2, List.take_set_of_le (Nat.le_refl _), ht, List.getElem_set_self]
    simp [renW, renN]
theorem spec_RenameGame.ev (n : Int) (l : List (List Int)) (o : List Int) (hl : l.length ≤ 9223372036854775807) (hx : ∀ x ∈ l, x.length ≤ 9223372036854775807) (hlo : o.length ≤ 9223372036854775807) : Ev (fun k => spec_RenameGame.f k n l o) (reV n l o) := by
  simp only [spec_RenameGame.f]
  rw [ev_bind (spec_gmGood.ev n l hl hx)]
  unfold reV
  cases hg : gameB n l with
  | false => rw [ev_neg (by decide), ev_now]; rfl
  | true =>
    have hc := (game_iff n l).1 hg
    have h1 := hc.n1
    have h9 := hc.n9
    obtain ⟨h3, h4⟩ := good_sets hc
    rw [ev_pos rfl, ev_bind (spec_voOrder.ev n o h1 h9 hlo), Bool.true_and]
    cases hb : orderB n o with
    | false => rw [ev_neg (by decide), ev_now]; rfl
    | true =>
      have hb' := hb
      rw [show n = ((n.toNat : Nat) : Int) by omega] at hb'
      obtain ⟨ho, hox⟩ := orderB_in hb'
      have hp : 2 ^ n.toNat ≤ 2 ^ 9 := Nat.pow_le_pow_right (by omega) (by omega)
      have hv := spec_gmAll.ev n.toNat (by omega) l (by omega) h4
      have hgm := spec_gmOf.ev (renW n.toNat o (winsG n.toNat l)) n.toNat (renW_length _ _ _) (by omega)
      rw [show ((n.toNat : Nat) : Int) = n by omega] at hv hgm
      have hren : Ev (fun k => spec_gmRename.f k n l o) (n, gmL n.toNat (renW n.toNat o (winsG n.toNat l))) := by
        simp only [spec_gmRename.f]
        rw [ev_bind hv, winsG_length, ev_pos (Int.natCast_nonneg _), ev_pos (by rw [Int.toNat_natCast]; omega), Int.toNat_natCast]
        simp only [Option.bind_some, List.length_replicate]
        refine spec_gmRename.ev_l0 (by omega) ho hox (winsG n.toNat l) (winsG_length _ _) n l _ ?_ (2 ^ n.toNat) 0 (List.replicate (2 ^ n.toNat) false) (by omega) (by simp) (by simp)
        refine ev_step ?_
        simp only [spec_gmRename.l0]
        rw [ev_neg (by omega), ev_bind hgm, ev_now]
      rw [ev_pos rfl, ev_bind hren, ev_now]
      rfl
theorem reV_few (n : Int) (l : List (List Int)) (o : List Int) : (reV n l o).2.1.length ≤ 512 ∧ ∀ s ∈ (reV n l o).2.1, s.length ≤ 9 := by
  unfold reV
  split
  · next h =>
    simp only [Bool.and_eq_true] at h
    have h9 := ((game_iff n l).1 h.1).n9
    exact gmL_few (renW_length _ _ _) (by omega)
  · simp
theorem laws_FnExactRenameGame.law (a0_0 : Int) (l0 : List (List Int)) (l1 : List Int) (ok0_0 : OkI a0_0) (ok0 : OkLL l0) (ok1 : OkL l1) : Ev (fun k => laws_FnExactRenameGame.f k a0_0 l0 l1) true := by
  have hl0 := ok0.len
  have hx0 : ∀ x ∈ l0, x.length ≤ 9223372036854775807 := fun x hx => (ok0.2 x hx).len
  have hl1 := ok1.len
  simp only [laws_FnExactRenameGame.f]
  by_cases hq1 : 1048576 < (l1.length : Int)
  · rw [ev_pos hq1, ev_now]
  rw [ev_neg hq1]
  obtain ⟨r0, hr01, hr02, hr03⟩ := laws_szGame.ev a0_0 l0 1048576 hl0 hx0 (by omega) (by omega)
  rw [ev_bind hr02]
  by_cases hz0 : r0 < 0
  · rw [ev_pos hz0, ev_now]
  rw [ev_neg hz0]
  obtain ⟨hn0, hy0⟩ := hr03 (by omega)
  have ht0 := totSS_le l0 1048576 hy0
  have hp0 := totSS_nonneg l0
  have to0 := laws_toGame.ev a0_0 l0 (by omega) (fun x hx => by have := hy0 x hx; omega)
  have eq0 := laws_eqGame.ev_same a0_0 l0 hl0 hx0
  have to1 := laws_toIntS.ev l1 (by omega)
  have eq1 := laws_eqIntS.ev l1 l1 (by omega)
  rw [decide_eq_true rfl] at eq1
  have mk0 := laws_markGame.ev a0_0 l0 (1) (by omega) (by omega) (by omega)
  have mk1 := laws_markIntS.ev l1 (1 + totSS l0) (by omega) (by omega)
  have hs := spec_RenameGame.ev a0_0 l0 l1 hl0 hx0 hl1
  have hi := impl_RenameGame.ev a0_0 l0 l1 hl0 hx0 hl1
  have hn := reV_few a0_0 l0 l1
  generalize reV a0_0 l0 l1 = r at hs hi hn
  obtain ⟨n, L, b⟩ := r
  have hn1 : L.length ≤ 512 := hn.1
  have htt := totSS_le L 9 hn.2
  have ht := totSS_nonneg L
  have he := laws_eqGame.ev_same n L (by omega) (fun s h => by have := hn.2 s h; omega)
  have hm := laws_markGame.ev n L 1 (by omega) (by omega) (by omega)
  have hh := laws_heldGame.ev n L 1 (by omega) (by omega) (by omega)
  rw [ev_bind to0, ev_bind to1, ev_bind hs, ev_bind hi, ev_bind he, ev_bind eq0, ev_bind eq1, ev_bind mk0, ev_bind mk1, ev_bind hm, ev_bind hh, ev_pos ⟨rfl, rfl, rfl, rfl, by show ¬ (1 + totSS l0 + (l1.length : Int) < 0); omega, by omega, rfl⟩, ev_now]
end Go.Proofs.Ytaajmdpkbplgjaa.Q
