/- Printed functions, their contracts and plain facts on them: PLawInts; PLawGame; PLawSets; PLawGameMark; PLFnExactDualGame; O. Conditions: as each theorem states. -/
import Derived.Deep.Slices
import Derived.Lib.SmallJoins
import Derived.OpenShut
import Derived.ShutString
import Derived.ChangeArms
import Derived.ChangeOld
import Derived.Test.YtmmmblfghhcndaaWWords
import Derived.Test.YtmmmblfghhcndaaGDualGamex0
import Derived.Test.YtmmmblfghhcndaaGDualGamex2
namespace Go.Proofs.Ytmmmblfghhcndaa.Q
open Go.RowKit Go.Proofs.YtmmmblfghhcndaaW.PrintWords Go.Proofs.YtmmmblfghhcndaaW.PrintLast Go.Proofs.YtmmmblfghhcndaaW.PrintMore Go.Proofs.YtmmmblfghhcndaaM
set_option linter.unusedVariables false
set_option linter.unusedSimpArgs false
theorem laws_toIntS.ev_l (l : List Int) (hl : l.length ≤ 35184372088832) : ∀ (d i : Nat) (acc : List Int), i + d = l.length → acc.length = l.length → acc.take i = l.take i → Ev (fun k => laws_toIntS.l0 k l acc (i : Int)) l := by
  intro d
  induction d with
  | zero =>
    intro i acc h hlen ht
    refine ev_step ?_
    simp only [laws_toIntS.l0]
    rw [ev_neg (by omega), ev_now]
    rwa [List.take_of_length_le (by omega), List.take_of_length_le (by omega)] at ht
  | succ d ih =>
    intro i acc h hlen ht
    refine ev_step ?_
    simp only [laws_toIntS.l0]
    have hi : i < l.length := by omega
    rw [ev_pos (by omega), ev_pos (by omega), ev_pos (by omega), w64i (n := l.length) (by omega) (by omega) (by omega), rd_lt l i hi, Int.toNat_natCast]
    refine ih (i + 1) _ (by omega) (by simpa using hlen) ?_
    rw [List.take_succ_eq_append_getElem (by simp; omega), List.take_succ_eq_append_getElem hi, List.take_set_of_le (by omega), ht]
    simp
theorem laws_toIntS.ev (l : List Int) (hl : l.length ≤ 35184372088832) : Ev (fun k => laws_toIntS.f k l) l := by
  simp only [laws_toIntS.f]
  rw [ev_pos (by omega), ev_pos (by omega)]
  exact laws_toIntS.ev_l l hl l.length 0 _ (by omega) (by simp) (by simp)
theorem laws_eqIntS.ev_l (a b : List Int) (hl : a.length ≤ 9223372036854775807) (hab : a.length = b.length) : ∀ (d i : Nat), i + d = a.length → Ev (fun k => laws_eqIntS.l0 k a b (i : Int)) (decide (a.drop i = b.drop i)) := by
  intro d
  induction d with
  | zero =>
    intro i h
    refine ev_step ?_
    simp only [laws_eqIntS.l0]
    rw [ev_neg (by omega), ev_now, List.drop_of_length_le (by omega), List.drop_of_length_le (by omega)]
    rfl
  | succ d ih =>
    intro i h
    refine ev_step ?_
    simp only [laws_eqIntS.l0]
    have hi : i < a.length := by omega
    have hj : i < b.length := by omega
    rw [ev_pos (by omega), ev_pos (by omega), ev_pos (by omega), rd_lt a i hi, rd_lt b i hj, w64i (n := a.length) (by omega) (by omega) (by omega)]
    have ed : decide (a.drop i = b.drop i) = (decide (a[i] = b[i]) && decide (a.drop (i + 1) = b.drop (i + 1))) := by
      rw [List.drop_eq_getElem_cons hi, List.drop_eq_getElem_cons hj, ← Bool.decide_and]
      simp only [List.cons.injEq]
    rw [ed]
    by_cases e : a[i] = b[i]
    · rw [ev_pos e, decide_eq_true e, Bool.true_and]
      exact ih (i + 1) (by omega)
    · rw [ev_neg e, ev_now, decide_eq_false e, Bool.false_and]
theorem laws_eqIntS.ev (a b : List Int) (hl : a.length ≤ 9223372036854775807) : Ev (fun k => laws_eqIntS.f k a b) (decide (a = b)) := by
  simp only [laws_eqIntS.f]
  by_cases h : a.length = b.length
  · rw [ev_pos (by omega)]
    exact laws_eqIntS.ev_l a b hl h a.length 0 (by omega)
  · rw [ev_neg (by omega), ev_now]
    have : a ≠ b := fun e => h (by rw [e])
    simp [this]
/-- The numbers from k on, as many as are asked. -/
def marks (k : Int) (n : Nat) : List Int := (List.range n).map fun (i : Nat) => k + (i : Int)
theorem marks_length (k : Int) (n : Nat) : (marks k n).length = n := by simp [marks]
theorem marks_get (k : Int) (n i : Nat) (h : i < (marks k n).length) : (marks k n)[i] = k + (i : Int) := by simp [marks]
theorem laws_markIntS.ev_l (n : Nat) (c : Int) (hn : n ≤ 9223372036854775807) (hc0 : 0 ≤ c) (hc : c + (n : Int) ≤ 9223372036854775807) : ∀ (d i : Nat) (acc : List Int), i + d = n → acc.length = n → acc.take i = (marks c n).take i → Ev (fun k => laws_markIntS.l0 k acc (c + (i : Int)) (i : Int)) (c + (n : Int), marks c n) := by
  intro d
  induction d with
  | zero =>
    intro i acc h hlen ht
    refine ev_step ?_
    simp only [laws_markIntS.l0]
    rw [ev_neg (by omega), ev_now]
    rw [List.take_of_length_le (by omega), List.take_of_length_le (by rw [marks_length]; omega)] at ht
    rw [ht, show i = n by omega]
  | succ d ih =>
    intro i acc h hlen ht
    refine ev_step ?_
    simp only [laws_markIntS.l0]
    have hi : i < n := by omega
    rw [ev_pos (by omega), ev_pos (by omega), w64i (i := (i : Int)) (n := n) (by omega) (by omega) hn, w64 (x := c + (i : Int) + 1) (by omega) (by omega), Int.toNat_natCast]
    rw [show c + (i : Int) + 1 = c + ((i + 1 : Nat) : Int) by omega]
    refine ih (i + 1) _ (by omega) (by simpa using hlen) ?_
    rw [List.take_succ_eq_append_getElem (by simp; omega), List.take_succ_eq_append_getElem (by rw [marks_length]; omega), List.take_set_of_le (by omega), ht, marks_get]
    simp
theorem laws_markIntS.ev (l : List Int) (c : Int) (hc0 : 0 ≤ c) (hc : c + (l.length : Int) ≤ 9223372036854775807) : Ev (fun k => laws_markIntS.f k l c) (c + (l.length : Int), marks c l.length) := by
  have := laws_markIntS.ev_l l.length c (by omega) hc0 hc l.length 0 l (by omega) rfl (by simp)
  simpa [laws_markIntS.f] using this
theorem laws_heldIntS.ev_l (n : Nat) (c : Int) (hn : n ≤ 9223372036854775807) (hc0 : 0 ≤ c) (hc : c + (n : Int) ≤ 9223372036854775807) : ∀ (d i : Nat), i + d = n → Ev (fun k => laws_heldIntS.l0 k (marks c n) (c + (i : Int)) (i : Int)) (c + (n : Int)) := by
  intro d
  induction d with
  | zero =>
    intro i h
    refine ev_step ?_
    simp only [laws_heldIntS.l0]
    rw [marks_length, ev_neg (by omega), ev_now]
    omega
  | succ d ih =>
    intro i h
    refine ev_step ?_
    simp only [laws_heldIntS.l0]
    have hi : i < (marks c n).length := by rw [marks_length]; omega
    rw [rd_lt _ i hi, marks_get, marks_length, ev_pos (by omega), ev_pos (by omega), ev_pos rfl, w64i (i := (i : Int)) (n := n) (by omega) (by omega) hn, w64 (x := c + (i : Int) + 1) (by omega) (by omega)]
    rw [show c + (i : Int) + 1 = c + ((i + 1 : Nat) : Int) by omega]
    exact ih (i + 1) (by omega)
theorem laws_heldIntS.ev (n : Nat) (c : Int) (hc0 : 0 ≤ c) (hc : c + (n : Int) ≤ 9223372036854775807) : Ev (fun k => laws_heldIntS.f k (marks c n) c) (c + (n : Int)) := by
  have := laws_heldIntS.ev_l n c (by omega) hc0 hc n 0 (by omega)
  simpa [laws_heldIntS.f] using this
theorem laws_szIntS.v (l : List Int) (c : Int) (hc : c ≤ 9223372036854775807) (hl : (l.length : Int) ≤ 9223372036854775807 + c) : laws_szIntS.f l c = some (if c - (l.length : Int) < 0 then -1 else c - (l.length : Int)) := by
  unfold laws_szIntS.f
  rw [w64 (by omega) (by omega)]
  split <;> rfl
end Go.Proofs.Ytmmmblfghhcndaa.Q

namespace Go.Proofs.Ytmmmblfghhcndaa.Q
open Go.RowKit Go.Proofs.YtmmmblfghhcndaaW.PrintWords Go.Proofs.YtmmmblfghhcndaaW.PrintLast Go.Proofs.YtmmmblfghhcndaaW.PrintMore Go.Proofs.YtmmmblfghhcndaaM
set_option linter.unusedVariables false
set_option linter.unusedSimpArgs false
theorem laws_toIntSS.ev_l (l : List (List Int)) (hl : l.length ≤ 11728124029610) (hx : ∀ x ∈ l, x.length ≤ 35184372088832) : ∀ (d i : Nat) (acc : List (List Int)), i + d = l.length → acc.length = l.length → acc.take i = l.take i → Ev (fun k => laws_toIntSS.l0 k l acc (i : Int)) l := by
  intro d
  induction d with
  | zero =>
    intro i acc h ha ht
    refine ev_step ?_
    simp only [laws_toIntSS.l0]
    rw [List.take_of_length_le (by omega), List.take_of_length_le (by omega)] at ht
    rw [ev_neg (by omega), ev_now, ht]
  | succ d ih =>
    intro i acc h ha ht
    refine ev_step ?_
    simp only [laws_toIntSS.l0]
    have hi : i < l.length := by omega
    rw [ev_pos (by omega), ev_pos (by omega), rd_L2_lt l i hi, ev_bind (laws_toIntS.ev l[i] (hx _ (List.getElem_mem hi))), ev_pos (by omega), w64i (n := l.length) (by omega) (by omega) (by omega), Int.toNat_natCast]
    refine ih (i + 1) _ (by omega) (by simpa using ha) ?_
    rw [List.take_succ_eq_append_getElem (by rw [List.length_set]; omega), List.take_succ_eq_append_getElem hi, List.take_set_of_le (by omega), ht, List.getElem_set_self]
theorem laws_toIntSS.ev (l : List (List Int)) (hl : l.length ≤ 11728124029610) (hx : ∀ x ∈ l, x.length ≤ 35184372088832) : Ev (fun k => laws_toIntSS.f k l) l := by
  simp only [laws_toIntSS.f]
  rw [ev_pos (by omega), ev_pos (by omega), Int.toNat_natCast]
  exact laws_toIntSS.ev_l l hl hx l.length 0 _ (by omega) (by simp) (by simp)
theorem laws_eqIntSS.ev_l (a b : List (List Int)) (hl : a.length ≤ 9223372036854775807) (hab : a.length = b.length) (hx : ∀ x ∈ a, x.length ≤ 9223372036854775807) : ∀ (d i : Nat), i + d = a.length → Ev (fun k => laws_eqIntSS.l0 k a b (i : Int)) (decide (a.drop i = b.drop i)) := by
  intro d
  induction d with
  | zero =>
    intro i h
    refine ev_step ?_
    simp only [laws_eqIntSS.l0]
    rw [ev_neg (by omega), ev_now, List.drop_of_length_le (by omega), List.drop_of_length_le (by omega)]
    rfl
  | succ d ih =>
    intro i h
    refine ev_step ?_
    simp only [laws_eqIntSS.l0]
    have hi : i < a.length := by omega
    have hib : i < b.length := by omega
    have e : decide (a.drop i = b.drop i) = (decide (a[i] = b[i]) && decide (a.drop (i + 1) = b.drop (i + 1))) := by
      rw [List.drop_eq_getElem_cons hi, List.drop_eq_getElem_cons hib, Bool.eq_iff_iff]
      simp only [Bool.and_eq_true, decide_eq_true_eq, List.cons.injEq]
    rw [ev_pos (by omega), ev_pos (by omega), ev_pos (by omega), rd_L2_lt a i hi, rd_L2_lt b i hib, ev_bind (laws_eqIntS.ev a[i] b[i] (hx _ (List.getElem_mem hi))), w64i (n := a.length) (by omega) (by omega) hl, e]
    by_cases c : a[i] = b[i]
    · rw [ev_pos (decide_eq_true c), decide_eq_true c, Bool.true_and]
      exact ih (i + 1) (by omega)
    · rw [ev_neg (by simp [c]), ev_now, decide_eq_false c]
      rfl
theorem laws_eqIntSS.ev (a b : List (List Int)) (hl : a.length ≤ 9223372036854775807) (hx : ∀ x ∈ a, x.length ≤ 9223372036854775807) : Ev (fun k => laws_eqIntSS.f k a b) (decide (a = b)) := by
  simp only [laws_eqIntSS.f]
  by_cases c : (a.length : Int) = (b.length : Int)
  · rw [ev_pos c]
    exact laws_eqIntSS.ev_l a b hl (by omega) hx a.length 0 (by omega)
  · rw [ev_neg c, ev_now, decide_eq_false (fun h => c (by rw [h]))]
theorem laws_szIntSS.ev_l (l : List (List Int)) (hl : l.length ≤ 9223372036854775807) (hx : ∀ x ∈ l, x.length ≤ 9223372036854775807) : ∀ (d i : Nat) (c : Int), i + d = l.length → 0 ≤ c → c ≤ 1048576 → ∃ r : Int, r ≤ 1048576 ∧ Ev (fun k => laws_szIntSS.l0 k l c (i : Int)) r ∧ (0 ≤ r → ∀ j (h : j < l.length), i ≤ j → l[j].length ≤ 1048576) := by
  intro d
  induction d with
  | zero =>
    intro i c h h0 h1
    refine ⟨c, h1, ev_step ?_, fun _ j hj hij => by omega⟩
    simp only [laws_szIntSS.l0]
    rw [ev_neg (by omega), ev_now]
  | succ d ih =>
    intro i c h h0 h1
    have hi : i < l.length := by omega
    have hxi := hx _ (List.getElem_mem hi)
    by_cases hc : c - (l[i].length : Int) < 0
    · refine ⟨-1, by omega, ev_step ?_, fun h => by omega⟩
      simp only [laws_szIntSS.l0]
      rw [ev_pos (by omega), ev_pos (by omega), rd_L2_lt l i hi, ev_bind (ev_of (laws_szIntS.v l[i] c (by omega) (by omega))), if_pos hc, ev_pos (by omega), ev_now]
    · obtain ⟨r, hr1, hr2, hr3⟩ := ih (i + 1) (c - (l[i].length : Int)) (by omega) (by omega) (by omega)
      refine ⟨r, hr1, ev_step ?_, fun h0 j hj hij => ?_⟩
      · simp only [laws_szIntSS.l0]
        rw [ev_pos (by omega), ev_pos (by omega), rd_L2_lt l i hi, ev_bind (ev_of (laws_szIntS.v l[i] c (by omega) (by omega))), if_neg hc, ev_neg hc, w64i (n := l.length) (by omega) (by omega) hl]
        exact hr2
      · by_cases e : j = i
        · subst e
          omega
        · exact hr3 h0 j hj (by omega)
/-- What szIntSS answers of rows that came in: too much, or all rows are short. -/
theorem laws_szIntSS.ev (l : List (List Int)) (c : Int) (hl : l.length ≤ 9223372036854775807) (hx : ∀ x ∈ l, x.length ≤ 9223372036854775807) (h0 : 0 ≤ c) (h1 : c ≤ 1048576) : ∃ r : Int, r ≤ 1048576 ∧ Ev (fun k => laws_szIntSS.f k l c) r ∧ (0 ≤ r → l.length ≤ 1048576 ∧ ∀ x ∈ l, x.length ≤ 1048576) := by
  simp only [laws_szIntSS.f]
  rw [w64 (by omega) (by omega)]
  by_cases hc : c - (l.length : Int) < 0
  · exact ⟨-1, by omega, by rw [ev_pos hc, ev_now], fun h => by omega⟩
  · obtain ⟨r, hr1, hr2, hr3⟩ := laws_szIntSS.ev_l l hl hx l.length 0 (c - (l.length : Int)) (by omega) (by omega) (by omega)
    refine ⟨r, hr1, by rw [ev_neg hc]; exact hr2, fun h => ⟨by omega, fun x hx' => ?_⟩⟩
    obtain ⟨j, hj, rfl⟩ := List.getElem_of_mem hx'
    exact hr3 h j hj (by omega)
theorem laws_szGame.ev (n : Int) (l : List (List Int)) (c : Int) (hl : l.length ≤ 9223372036854775807) (hx : ∀ x ∈ l, x.length ≤ 9223372036854775807) (h0 : 0 ≤ c) (h1 : c ≤ 1048576) : ∃ r : Int, r ≤ 1048576 ∧ Ev (fun k => laws_szGame.f k n l c) r ∧ (0 ≤ r → l.length ≤ 1048576 ∧ ∀ x ∈ l, x.length ≤ 1048576) := by
  obtain ⟨r, hr1, hr2, hr3⟩ := laws_szIntSS.ev l c hl hx h0 h1
  simp only [laws_szGame.f]
  by_cases hc : r < 0
  · exact ⟨-1, by omega, by rw [ev_bind hr2, ev_pos hc, ev_now], fun h => by omega⟩
  · exact ⟨r, hr1, by rw [ev_bind hr2, ev_neg hc, ev_now], hr3⟩
theorem laws_toGame.ev (n : Int) (l : List (List Int)) (hl : l.length ≤ 11728124029610) (hx : ∀ x ∈ l, x.length ≤ 35184372088832) : Ev (fun k => laws_toGame.f k n l) (n, l) := by
  simp only [laws_toGame.f]
  rw [ev_bind (laws_toIntSS.ev l hl hx), ev_now]
theorem laws_eqGame.ev_same (n : Int) (l : List (List Int)) (hl : l.length ≤ 9223372036854775807) (hx : ∀ x ∈ l, x.length ≤ 9223372036854775807) : Ev (fun k => laws_eqGame.f k n l n l) true := by
  simp only [laws_eqGame.f]
  rw [ev_pos trivial, ev_bind (laws_eqIntSS.ev l l hl hx), ev_pos (by simp), ev_now]
end Go.Proofs.Ytmmmblfghhcndaa.Q

namespace Go.Proofs.Ytmmmblfghhcndaa.Q
open Go.RowKit Go.Proofs.YtmmmblfghhcndaaW.PrintWords Go.Proofs.YtmmmblfghhcndaaW.PrintLast Go.Proofs.YtmmmblfghhcndaaW.PrintMore Go.Proofs.YtmmmblfghhcndaaM
set_option linter.unusedVariables false
set_option linter.unusedSimpArgs false
def marksSS : Int → List (List Int) → List (List Int)
  | _, [] => []
  | c, s :: L => marks c s.length :: marksSS (c + (s.length : Int)) L
def totSS : List (List Int) → Int
  | [] => 0
  | s :: L => (s.length : Int) + totSS L
theorem marksSS_len : ∀ (L : List (List Int)) (c : Int), (marksSS c L).length = L.length
  | [], _ => rfl
  | s :: L, c => by
    show (marksSS _ L).length + 1 = L.length + 1
    rw [marksSS_len L]
theorem totSS_nonneg : ∀ L : List (List Int), 0 ≤ totSS L
  | [] => Int.le_refl _
  | s :: L => by
    have := totSS_nonneg L
    show 0 ≤ (s.length : Int) + totSS L
    omega
theorem totSS_le : ∀ (L : List (List Int)) (n : Nat), (∀ s ∈ L, s.length ≤ n) → totSS L ≤ (n : Int) * (L.length : Int)
  | [], n, _ => by simp [totSS]
  | s :: L, n, h => by
    have h1 := h s List.mem_cons_self
    have h2 := totSS_le L n (fun t ht => h t (List.mem_cons_of_mem _ ht))
    show (s.length : Int) + totSS L ≤ (n : Int) * ((L.length + 1 : Nat) : Int)
    rw [Int.natCast_add, Int.mul_add]
    simp only [Int.natCast_one, Int.mul_one]
    omega
theorem laws_markIntSS.ev_l : ∀ (L done : List (List Int)) (c : Int), (done ++ L).length ≤ 9223372036854775807 → 0 ≤ c → c + totSS L ≤ 9223372036854775807 → Ev (fun k => laws_markIntSS.l0 k (done ++ L) c (done.length : Int)) (c + totSS L, done ++ marksSS c L)
  | [], done, c, hl, h0, hc => by
    refine ev_step ?_
    simp only [laws_markIntSS.l0]
    rw [ev_neg (by simp), ev_now]
    simp [totSS, marksSS]
  | s :: L, done, c, hl, h0, hc => by
    refine ev_step ?_
    simp only [laws_markIntSS.l0]
    have ht := totSS_nonneg L
    have hc' : c + ((s.length : Int) + totSS L) ≤ 9223372036854775807 := hc
    have hll : (done ++ s :: L).length = done.length + (L.length + 1) := by simp
    have hget : rdOf [] (done ++ s :: L) (done.length : Int) = s := by simp [rdOf]
    have hset : (done ++ s :: L).set ((done.length : Int)).toNat (marks c s.length) = (done ++ [marks c s.length]) ++ L := by simp
    rw [ev_pos (by rw [hll]; omega), ev_pos (by omega), hget, ev_bind (laws_markIntS.ev s c h0 (by omega)), hset, w64 (by omega) (by omega)]
    have := laws_markIntSS.ev_l L (done ++ [marks c s.length]) (c + (s.length : Int)) (by simp at hl ⊢; omega) (by omega) (by omega)
    rw [List.length_append, List.length_singleton] at this
    show Ev _ (c + ((s.length : Int) + totSS L), done ++ (marks c s.length :: marksSS (c + (s.length : Int)) L))
    rw [← Int.add_assoc, show done ++ (marks c s.length :: marksSS (c + (s.length : Int)) L) = (done ++ [marks c s.length]) ++ marksSS (c + (s.length : Int)) L by simp]
    exact this
theorem laws_markIntSS.ev (L : List (List Int)) (c : Int) (hl : L.length ≤ 9223372036854775807) (h0 : 0 ≤ c) (hc : c + totSS L ≤ 9223372036854775807) : Ev (fun k => laws_markIntSS.f k L c) (c + totSS L, marksSS c L) := laws_markIntSS.ev_l L [] c (by simpa using hl) h0 hc
theorem laws_heldIntSS.ev_l (M : List (List Int)) (hM : M.length ≤ 9223372036854775807) : ∀ (L : List (List Int)) (i : Nat) (c : Int), M.drop i = marksSS c L → 0 ≤ c → c + totSS L ≤ 9223372036854775807 → Ev (fun k => laws_heldIntSS.l0 k M c (i : Int)) (c + totSS L)
  | [], i, c, h, h0, hc => by
    refine ev_step ?_
    simp only [laws_heldIntSS.l0]
    have : M.length ≤ i := by
      have h1 : (M.drop i).length = 0 := by rw [h]; rfl
      rw [List.length_drop] at h1
      omega
    rw [ev_neg (by omega), ev_now]
    simp [totSS]
  | s :: L, i, c, h, h0, hc => by
    refine ev_step ?_
    simp only [laws_heldIntSS.l0]
    have ht := totSS_nonneg L
    have hc' : c + ((s.length : Int) + totSS L) ≤ 9223372036854775807 := hc
    have hi : i < M.length := by
      rcases Nat.lt_or_ge i M.length with h1 | h1
      · exact h1
      · rw [List.drop_of_length_le h1] at h
        cases h
    rw [List.drop_eq_getElem_cons hi] at h
    have h1 : M[i] = marks c s.length := (List.cons.inj h).1
    have h2 : M.drop (i + 1) = marksSS (c + (s.length : Int)) L := (List.cons.inj h).2
    rw [ev_pos (by omega), ev_pos (by omega), rd_L2_lt M i hi, h1, ev_bind (laws_heldIntS.ev s.length c h0 (by omega)), ev_neg (by omega), w64i (n := M.length) (by omega) (by omega) hM]
    have := laws_heldIntSS.ev_l M hM L (i + 1) (c + (s.length : Int)) h2 (by omega) (by omega)
    show Ev _ (c + ((s.length : Int) + totSS L))
    rw [← Int.add_assoc]
    exact this
theorem laws_heldIntSS.ev (L : List (List Int)) (c : Int) (hl : L.length ≤ 9223372036854775807) (h0 : 0 ≤ c) (hc : c + totSS L ≤ 9223372036854775807) : Ev (fun k => laws_heldIntSS.f k (marksSS c L) c) (c + totSS L) := laws_heldIntSS.ev_l (marksSS c L) (by rw [marksSS_len]; exact hl) L 0 c (by simp) h0 hc
end Go.Proofs.Ytmmmblfghhcndaa.Q

namespace Go.Proofs.Ytmmmblfghhcndaa.Q
open Go.RowKit Go.Proofs.YtmmmblfghhcndaaW.PrintWords Go.Proofs.YtmmmblfghhcndaaW.PrintLast Go.Proofs.YtmmmblfghhcndaaW.PrintMore Go.Proofs.YtmmmblfghhcndaaM
set_option linter.unusedVariables false
set_option linter.unusedSimpArgs false
theorem laws_eqGame.ev (n : Int) (l : List (List Int)) (m : Int) (u : List (List Int)) (hl : l.length ≤ 9223372036854775807) (hx : ∀ x ∈ l, x.length ≤ 9223372036854775807) : Ev (fun k => laws_eqGame.f k n l m u) (decide (n = m) && decide (l = u)) := by
  simp only [laws_eqGame.f]
  by_cases h : n = m
  · rw [ev_pos h, ev_bind (laws_eqIntSS.ev l u hl hx)]
    by_cases e : l = u
    · rw [ev_pos (by simpa using e), ev_now]; simp [h, e]
    · rw [ev_neg (by simpa using e), ev_now]; simp [e]
  · rw [ev_neg h, ev_now]; simp [h]
theorem laws_markGame.ev (n : Int) (L : List (List Int)) (c : Int) (hl : L.length ≤ 9223372036854775807) (h0 : 0 ≤ c) (hc : c + totSS L ≤ 9223372036854775807) : Ev (fun k => laws_markGame.f k n L c) (c + totSS L, marksSS c L) := laws_markIntSS.ev L c hl h0 hc
theorem laws_heldGame.ev (n : Int) (L : List (List Int)) (c : Int) (hl : L.length ≤ 9223372036854775807) (h0 : 0 ≤ c) (hc : c + totSS L ≤ 9223372036854775807) : Ev (fun k => laws_heldGame.f k n (marksSS c L) c) (c + totSS L) := by
  have ht := totSS_nonneg L
  simp only [laws_heldGame.f]
  rw [ev_bind (laws_heldIntSS.ev L c hl h0 hc), ev_neg (by omega), ev_now]
end Go.Proofs.Ytmmmblfghhcndaa.Q

namespace Go.Proofs.Ytmmmblfghhcndaa.Q
open Go.RowKit Go.Proofs.YtmmmblfghhcndaaW.PrintWords Go.Proofs.YtmmmblfghhcndaaW.PrintLast Go.Proofs.YtmmmblfghhcndaaW.PrintMore Go.Proofs.YtmmmblfghhcndaaM
set_option linter.unusedVariables false
set_option linter.unusedSimpArgs false
theorem laws_FnExactDualGame.law (a0_0 : Int) (l0 : List (List Int)) (ok0_0 : OkI a0_0) (ok0 : OkLL l0) : Ev (fun k => laws_FnExactDualGame.f k a0_0 l0) true := by
  have hl0 := ok0.len
  have hx0 : ∀ x ∈ l0, x.length ≤ 9223372036854775807 := fun x hx => (ok0.2 x hx).len
  simp only [laws_FnExactDualGame.f]
  obtain ⟨r0, hr01, hr02, hr03⟩ := laws_szGame.ev a0_0 l0 1048576 hl0 hx0 (by omega) (by omega)
  rw [ev_bind hr02]
  by_cases hz0 : r0 < 0
  · rw [ev_pos hz0, ev_now]
  rw [ev_neg hz0]
  obtain ⟨hn0, hy0⟩ := hr03 (by omega)
  have ht0 := totSS_le l0 1048576 hy0
  have hp0 := totSS_nonneg l0
  have to0 := laws_toGame.ev a0_0 l0 (by omega) (fun x hx => by have := hy0 x hx; omega)
  have eq0 := laws_eqGame.ev_same a0_0 l0 hl0 hx0
  have mk0 := laws_markGame.ev a0_0 l0 (1) (by omega) (by omega) (by omega)
  have hs := spec_DualGame.ev a0_0 l0 hl0 hx0
  have hi := impl_DualGame.ev a0_0 l0 hl0 hx0
  have hn := dgV_few a0_0 l0
  generalize dgV a0_0 l0 = r at hs hi hn
  obtain ⟨n, L, b⟩ := r
  have hn1 : L.length ≤ 512 := hn.1
  have htt := totSS_le L 9 hn.2
  have ht := totSS_nonneg L
  have he := laws_eqGame.ev_same n L (by omega) (fun s h => by have := hn.2 s h; omega)
  have hm := laws_markGame.ev n L 1 (by omega) (by omega) (by omega)
  have hh := laws_heldGame.ev n L 1 (by omega) (by omega) (by omega)
  rw [ev_bind to0, ev_bind hs, ev_bind hi, ev_bind he, ev_bind eq0, ev_bind mk0, ev_bind hm, ev_bind hh, ev_pos ⟨rfl, rfl, rfl, by show ¬ (1 + totSS l0 < 0); omega, by omega, rfl⟩, ev_now]
end Go.Proofs.Ytmmmblfghhcndaa.Q

namespace Go.Proofs.YtmmmblfghhcndaaO
open Go.RowKit Go.ChangeShapes Go.WideShapes Go.ChangeAt Go.Proofs.YtmmmblfghhcndaaW.PrintWords Go.Proofs.YtmmmblfghhcndaaM
section
variable {H : Type} {enc : TypeId × Value → H} {P : Program} {w : World} {α : Type}
/-- One cell of type t reads as a value of kind d. -/
def Reads1 (enc : TypeId × Value → H) (P : Program) (w : World) (t : TypeId) (d : Kd α) (ok : α → Prop) : Prop :=
  ∀ fuel v x, DataW.trod enc P w 0 (fun _ => true) true fuel t [v] = some x → ∃ a, d.K w a [v] ∧ ok a
theorem reads_int {t : TypeId} {k : IntKind} (hu : P.underlying t = some (.int k)) : Reads1 enc P w t (Kd.int k) (fun n => (Lit.int k n).wf = true) := by
  intro fuel v x h
  obtain ⟨n, e, _, hw⟩ := DataW.trod_int hu h
  exact ⟨n, e, hw⟩
theorem reads_slice {t e : TypeId} {d : Kd α} {ok : α → Prop} (hu : P.underlying t = some (.slice e)) (hc : P.cellsOf e = 1) (hs : d.sz = 1) (he : Reads1 enc P w e d ok) :
    Reads1 enc P w t (Kd.slice e d) (fun l => l.length ≤ maxLen ∧ ∀ x ∈ l, ok x) := by
  intro fuel v x h
  rcases Go.Deep.open_slice1 hu hc h with ⟨hcs, _⟩ | ⟨a, len, cap, m, n, V, D, Pl, hcs, _, hl, hm, hmm, _, hx⟩
  · obtain rfl : v = .slice none 0 0 := by simpa using hcs
    refine ⟨[], ⟨none, 0, rfl, Nat.le_refl _, rfl, Nat.zero_le _, fun h => absurd h (Nat.lt_irrefl _)⟩, Nat.zero_le _, fun _ h => by cases h⟩
  · obtain rfl : v = .slice (some a) len cap := by simpa using hcs
    have hlm : len ≤ m := by rw [hmm]; simpa using hl
    have hall : ∀ i, i < len → ∃ b, d.K w b [V i] ∧ ok b := fun i hi => he n (V i) _ (hx i (by omega)).2
    have key : ∀ j, j ≤ len → ∃ l : List α, l.length = j ∧ (∀ i b, l[i]? = some b → d.K w b [V i] ∧ ok b) := by
      intro j
      induction j with
      | zero => exact fun _ => ⟨[], rfl, fun i b h => by simp at h⟩
      | succ j ih =>
        intro hj
        obtain ⟨l, hl1, hl2⟩ := ih (by omega)
        obtain ⟨b, hb⟩ := hall j (by omega)
        refine ⟨l ++ [b], by simp [hl1], fun i c h => ?_⟩
        rcases Nat.lt_or_ge i l.length with hi | hi
        · rw [List.getElem?_append_left hi] at h
          exact hl2 i c h
        · have e : i = l.length := by
            have := (List.getElem?_eq_some_iff.1 h).1
            rw [List.length_append, List.length_singleton] at this
            omega
          subst e
          obtain rfl : b = c := by simpa using h
          rw [hl1]
          exact hb
    obtain ⟨l, hl1, hl2⟩ := key len (Nat.le_refl _)
    subst hl1
    refine ⟨l, ⟨some a, cap, rfl, hl, rfl, by unfold maxLen at hm; omega, fun _ => ⟨a, rfl, fun j p hj => ⟨[V j], by rw [hs]; rfl, (hl2 j p hj).1, fun i u hi => ?_⟩⟩⟩, Nat.le_trans hl hm, fun x hxm => ?_⟩
    · match i, hi with
      | 0, hi =>
        obtain rfl : V j = u := by simpa using hi
        have hj' := (List.getElem?_eq_some_iff.1 hj).1
        rw [hs, Nat.mul_one, Nat.add_zero]
        exact (hx j (by omega)).1
      | i + 1, hi => simp at hi
    · obtain ⟨i, hi, rfl⟩ := List.mem_iff_getElem.1 hxm
      exact (hl2 i _ (List.getElem?_eq_getElem hi)).2
/-- A slice that is an argument. -/
theorem open_slice_arg {r : Reach} {b0 : Nat} {t e : TypeId} {d : Kd α} {ok' : List α → Prop} {v : Value} {dd : DataW H} {ps : List MemPlace} (hu : P.underlying t = some (.slice e)) (hr : Reads1 enc P w t (Kd.slice e d) ok') (hv : Value.okWide P w r b0 t v)
    (h : DataW.Trod enc P w 0 (fun _ => true) true t v dd ps) : ∃ (A : Option Addr) (c : Nat) (l : List α), v = .slice A l.length c ∧ l.length ≤ c ∧ d.C w A l.length l ∧ ok' l := by
  obtain ⟨a, len, cap, rfl⟩ := okWide_slice hu hv
  obtain ⟨fuel, hf⟩ := h
  obtain ⟨l, ⟨A, c, hcs, hlc, hC⟩, ho⟩ := hr fuel _ _ hf
  exact ⟨A, c, l, by simpa using hcs, hlc, hC, ho⟩
end
end Go.Proofs.YtmmmblfghhcndaaO
