/- Printed functions, their contracts and plain facts on them: PLawInts; PRdL2; PLawGame; PLawSets; PLawGameMark; PSetN; PVoList; PVoBefore; PVoSorted; PVoLeast; PAndNot; PHas; PSetOf; PVotesLeast; PGameVal; PSperner; PSetFacts; PIsSet; PMaskOf; PSlicesCompare; PWithin; PIsGame; PL1In; PVoBits; PVoSet; PGmGood; PVoAll; PGmWins; PGoodSets; PVotesOf; PVotesBy; PJoinGames; PProductGames; PLFnExactProductGames. Conditions: as each theorem states. -/
import Derived.Test.YtmmmblfghhcndaaGProductGamesx0
import Derived.Test.YtmmmblfghhcndaaGProductGamesx1
import Derived.Test.YtmmmblfghhcndaaGProductGamesx2
namespace Go.Proofs.Ytmmmblfghhcndaa.Q
open Go.RowKit Go.Proofs.YtmmmblfghhcndaaW.PrintWords Go.Proofs.YtmmmblfghhcndaaW.PrintLast Go.Proofs.YtmmmblfghhcndaaW.PrintMore Go.Proofs.YtmmmblfghhcndaaM
set_option linter.unusedVariables false
set_option linter.unusedSimpArgs false
theorem laws_toIntS.ev_l (l : List Int) (hl : l.length ≤ 35184372088832) : ∀ (d i : Nat) (acc : List Int), i + d = l.length → acc.length = l.length → acc.take i = l.take i → Ev (fun k => laws_toIntS.l0 k l acc (i : Int)) l := by
  intro d
  induction d with
  | zero =>
    intro i acc h hlen ht
    refine ev_step ?_
    simp only [laws_toIntS.l0]
    rw [ev_neg (by omega), ev_now]
    rwa [List.take_of_length_le (by omega), List.take_of_length_le (by omega)] at ht
  | succ d ih =>
    intro i acc h hlen ht
    refine ev_step ?_
    simp only [laws_toIntS.l0]
    have hi : i < l.length := by omega
    rw [ev_pos (by omega), ev_pos (by omega), ev_pos (by omega), w64i (n := l.length) (by omega) (by omega) (by omega), rd_lt l i hi, Int.toNat_natCast]
    refine ih (i + 1) _ (by omega) (by simpa using hlen) ?_
    rw [List.take_succ_eq_append_getElem (by simp; omega), List.take_succ_eq_append_getElem hi, List.take_set_of_le (by omega), ht]
    simp
theorem laws_toIntS.ev (l : List Int) (hl : l.length ≤ 35184372088832) : Ev (fun k => laws_toIntS.f k l) l := by
  simp only [laws_toIntS.f]
  rw [ev_pos (by omega), ev_pos (by omega)]
  exact laws_toIntS.ev_l l hl l.length 0 _ (by omega) (by simp) (by simp)
theorem laws_eqIntS.ev_l (a b : List Int) (hl : a.length ≤ 9223372036854775807) (hab : a.length = b.length) : ∀ (d i : Nat), i + d = a.length → Ev (fun k => laws_eqIntS.l0 k a b (i : Int)) (decide (a.drop i = b.drop i)) := by
  intro d
  induction d with
  | zero =>
    intro i h
    refine ev_step ?_
    simp only [laws_eqIntS.l0]
    rw [ev_neg (by omega), ev_now, List.drop_of_length_le (by omega), List.drop_of_length_le (by omega)]
    rfl
  | succ d ih =>
    intro i h
    refine ev_step ?_
    simp only [laws_eqIntS.l0]
    have hi : i < a.length := by omega
    have hj : i < b.length := by omega
    rw [ev_pos (by omega), ev_pos (by omega), ev_pos (by omega), rd_lt a i hi, rd_lt b i hj, w64i (n := a.length) (by omega) (by omega) (by omega)]
    have ed : decide (a.drop i = b.drop i) = (decide (a[i] = b[i]) && decide (a.drop (i + 1) = b.drop (i + 1))) := by
      rw [List.drop_eq_getElem_cons hi, List.drop_eq_getElem_cons hj, ← Bool.decide_and]
      simp only [List.cons.injEq]
    rw [ed]
    by_cases e : a[i] = b[i]
    · rw [ev_pos e, decide_eq_true e, Bool.true_and]
      exact ih (i + 1) (by omega)
    · rw [ev_neg e, ev_now, decide_eq_false e, Bool.false_and]
theorem laws_eqIntS.ev (a b : List Int) (hl : a.length ≤ 9223372036854775807) : Ev (fun k => laws_eqIntS.f k a b) (decide (a = b)) := by
  simp only [laws_eqIntS.f]
  by_cases h : a.length = b.length
  · rw [ev_pos (by omega)]
    exact laws_eqIntS.ev_l a b hl h a.length 0 (by omega)
  · rw [ev_neg (by omega), ev_now]
    have : a ≠ b := fun e => h (by rw [e])
    simp [this]
def marks (k : Int) (n : Nat) : List Int := (List.range n).map fun (i : Nat) => k + (i : Int)
theorem marks_length (k : Int) (n : Nat) : (marks k n).length = n := by simp [marks]
theorem marks_get (k : Int) (n i : Nat) (h : i < (marks k n).length) : (marks k n)[i] = k + (i : Int) := by simp [marks]
theorem laws_markIntS.ev_l (n : Nat) (c : Int) (hn : n ≤ 9223372036854775807) (hc0 : 0 ≤ c) (hc : c + (n : Int) ≤ 9223372036854775807) : ∀ (d i : Nat) (acc : List Int), i + d = n → acc.length = n → acc.take i = (marks c n).take i → Ev (fun k => laws_markIntS.l0 k acc (c + (i : Int)) (i : Int)) (c + (n : Int), marks c n) := by
  intro d
  induction d with
  | zero =>
    intro i acc h hlen ht
    refine ev_step ?_
    simp only [laws_markIntS.l0]
    rw [ev_neg (by omega), ev_now]
    rw [List.take_of_length_le (by omega), List.take_of_length_le (by rw [marks_length]; omega)] at ht
    rw [ht, show i = n by omega]
  | succ d ih =>
    intro i acc h hlen ht
    refine ev_step ?_
    simp only [laws_markIntS.l0]
    have hi : i < n := by omega
    rw [ev_pos (by omega), ev_pos (by omega), w64i (i := (i : Int)) (n := n) (by omega) (by omega) hn, w64 (x := c + (i : Int) + 1) (by omega) (by omega), Int.toNat_natCast]
    rw [show c + (i : Int) + 1 = c + ((i + 1 : Nat) : Int) by omega]
    refine ih (i + 1) _ (by omega) (by simpa using hlen) ?_
    rw [List.take_succ_eq_append_getElem (by simp; omega), List.take_succ_eq_append_getElem (by rw [marks_length]; omega), List.take_set_of_le (by omega), ht, marks_get]
    simp
theorem laws_markIntS.ev (l : List Int) (c : Int) (hc0 : 0 ≤ c) (hc : c + (l.length : Int) ≤ 9223372036854775807) : Ev (fun k => laws_markIntS.f k l c) (c + (l.length : Int), marks c l.length) := by
  have := laws_markIntS.ev_l l.length c (by omega) hc0 hc l.length 0 l (by omega) rfl (by simp)
  simpa [laws_markIntS.f] using this
theorem laws_heldIntS.ev_l (n : Nat) (c : Int) (hn : n ≤ 9223372036854775807) (hc0 : 0 ≤ c) (hc : c + (n : Int) ≤ 9223372036854775807) : ∀ (d i : Nat), i + d = n → Ev (fun k => laws_heldIntS.l0 k (marks c n) (c + (i : Int)) (i : Int)) (c + (n : Int)) := by
  intro d
  induction d with
  | zero =>
    intro i h
    refine ev_step ?_
    simp only [laws_heldIntS.l0]
    rw [marks_length, ev_neg (by omega), ev_now]
    omega
  | succ d ih =>
    intro i h
    refine ev_step ?_
    simp only [laws_heldIntS.l0]
    have hi : i < (marks c n).length := by rw [marks_length]; omega
    rw [rd_lt _ i hi, marks_get, marks_length, ev_pos (by omega), ev_pos (by omega), ev_pos rfl, w64i (i := (i : Int)) (n := n) (by omega) (by omega) hn, w64 (x := c + (i : Int) + 1) (by omega) (by omega)]
    rw [show c + (i : Int) + 1 = c + ((i + 1 : Nat) : Int) by omega]
    exact ih (i + 1) (by omega)
theorem laws_heldIntS.ev (n : Nat) (c : Int) (hc0 : 0 ≤ c) (hc : c + (n : Int) ≤ 9223372036854775807) : Ev (fun k => laws_heldIntS.f k (marks c n) c) (c + (n : Int)) := by
  have := laws_heldIntS.ev_l n c (by omega) hc0 hc n 0 (by omega)
  simpa [laws_heldIntS.f] using this
theorem laws_szIntS.v (l : List Int) (c : Int) (hc : c ≤ 9223372036854775807) (hl : (l.length : Int) ≤ 9223372036854775807 + c) : laws_szIntS.f l c = some (if c - (l.length : Int) < 0 then -1 else c - (l.length : Int)) := by
  unfold laws_szIntS.f
  rw [w64 (by omega) (by omega)]
  split <;> rfl
theorem rd_L2_lt (l : List (List Int)) (i : Nat) (h : i < l.length) : rd_L2 l (i : Int) = l[i] := by simp [rd_L2, h]
theorem laws_toIntSS.ev_l (l : List (List Int)) (hl : l.length ≤ 11728124029610) (hx : ∀ x ∈ l, x.length ≤ 35184372088832) : ∀ (d i : Nat) (acc : List (List Int)), i + d = l.length → acc.length = l.length → acc.take i = l.take i → Ev (fun k => laws_toIntSS.l0 k l acc (i : Int)) l := by
  intro d
  induction d with
  | zero =>
    intro i acc h ha ht
    refine ev_step ?_
    simp only [laws_toIntSS.l0]
    rw [List.take_of_length_le (by omega), List.take_of_length_le (by omega)] at ht
    rw [ev_neg (by omega), ev_now, ht]
  | succ d ih =>
    intro i acc h ha ht
    refine ev_step ?_
    simp only [laws_toIntSS.l0]
    have hi : i < l.length := by omega
    rw [ev_pos (by omega), ev_pos (by omega), rd_L2_lt l i hi, ev_bind (laws_toIntS.ev l[i] (hx _ (List.getElem_mem hi))), ev_pos (by omega), w64i (n := l.length) (by omega) (by omega) (by omega), Int.toNat_natCast]
    refine ih (i + 1) _ (by omega) (by simpa using ha) ?_
    rw [List.take_succ_eq_append_getElem (by rw [List.length_set]; omega), List.take_succ_eq_append_getElem hi, List.take_set_of_le (by omega), ht, List.getElem_set_self]
theorem laws_toIntSS.ev (l : List (List Int)) (hl : l.length ≤ 11728124029610) (hx : ∀ x ∈ l, x.length ≤ 35184372088832) : Ev (fun k => laws_toIntSS.f k l) l := by
  simp only [laws_toIntSS.f]
  rw [ev_pos (by omega), ev_pos (by omega), Int.toNat_natCast]
  exact laws_toIntSS.ev_l l hl hx l.length 0 _ (by omega) (by simp) (by simp)
theorem laws_eqIntSS.ev_l (a b : List (List Int)) (hl : a.length ≤ 9223372036854775807) (hab : a.length = b.length) (hx : ∀ x ∈ a, x.length ≤ 9223372036854775807) : ∀ (d i : Nat), i + d = a.length → Ev (fun k => laws_eqIntSS.l0 k a b (i : Int)) (decide (a.drop i = b.drop i)) := by
  intro d
  induction d with
  | zero =>
    intro i h
    refine ev_step ?_
    simp only [laws_eqIntSS.l0]
    rw [ev_neg (by omega), ev_now, List.drop_of_length_le (by omega), List.drop_of_length_le (by omega)]
    rfl
  | succ d ih =>
    intro i h
    refine ev_step ?_
    simp only [laws_eqIntSS.l0]
    have hi : i < a.length := by omega
    have hib : i < b.length := by omega
    have e : decide (a.drop i = b.drop i) = (decide (a[i] = b[i]) && decide (a.drop (i + 1) = b.drop (i + 1))) := by
      rw [List.drop_eq_getElem_cons hi, List.drop_eq_getElem_cons hib, Bool.eq_iff_iff]
      simp only [Bool.and_eq_true, decide_eq_true_eq, List.cons.injEq]
    rw [ev_pos (by omega), ev_pos (by omega), ev_pos (by omega), rd_L2_lt a i hi, rd_L2_lt b i hib, ev_bind (laws_eqIntS.ev a[i] b[i] (hx _ (List.getElem_mem hi))), w64i (n := a.length) (by omega) (by omega) hl, e]
    by_cases c : a[i] = b[i]
    · rw [ev_pos (decide_eq_true c), decide_eq_true c, Bool.true_and]
      exact ih (i + 1) (by omega)
    · rw [ev_neg (by simp [c]), ev_now, decide_eq_false c]
      rfl
theorem laws_eqIntSS.ev (a b : List (List Int)) (hl : a.length ≤ 9223372036854775807) (hx : ∀ x ∈ a, x.length ≤ 9223372036854775807) : Ev (fun k => laws_eqIntSS.f k a b) (decide (a = b)) := by
  simp only [laws_eqIntSS.f]
  by_cases c : (a.length : Int) = (b.length : Int)
  · rw [ev_pos c]
    exact laws_eqIntSS.ev_l a b hl (by omega) hx a.length 0 (by omega)
  · rw [ev_neg c, ev_now, decide_eq_false (fun h => c (by rw [h]))]
theorem laws_szIntSS.ev_l (l : List (List Int)) (hl : l.length ≤ 9223372036854775807) (hx : ∀ x ∈ l, x.length ≤ 9223372036854775807) : ∀ (d i : Nat) (c : Int), i + d = l.length → 0 ≤ c → c ≤ 1048576 → ∃ r : Int, r ≤ 1048576 ∧ Ev (fun k => laws_szIntSS.l0 k l c (i : Int)) r ∧ (0 ≤ r → ∀ j (h : j < l.length), i ≤ j → l[j].length ≤ 1048576) := by
  intro d
  induction d with
  | zero =>
    intro i c h h0 h1
    refine ⟨c, h1, ev_step ?_, fun _ j hj hij => by omega⟩
    simp only [laws_szIntSS.l0]
    rw [ev_neg (by omega), ev_now]
  | succ d ih =>
    intro i c h h0 h1
    have hi : i < l.length := by omega
    have hxi := hx _ (List.getElem_mem hi)
    by_cases hc : c - (l[i].length : Int) < 0
    · refine ⟨-1, by omega, ev_step ?_, fun h => by omega⟩
      simp only [laws_szIntSS.l0]
      rw [ev_pos (by omega), ev_pos (by omega), rd_L2_lt l i hi, ev_bind (ev_of (laws_szIntS.v l[i] c (by omega) (by omega))), if_pos hc, ev_pos (by omega), ev_now]
    · obtain ⟨r, hr1, hr2, hr3⟩ := ih (i + 1) (c - (l[i].length : Int)) (by omega) (by omega) (by omega)
      refine ⟨r, hr1, ev_step ?_, fun h0 j hj hij => ?_⟩
      · simp only [laws_szIntSS.l0]
        rw [ev_pos (by omega), ev_pos (by omega), rd_L2_lt l i hi, ev_bind (ev_of (laws_szIntS.v l[i] c (by omega) (by omega))), if_neg hc, ev_neg hc, w64i (n := l.length) (by omega) (by omega) hl]
        exact hr2
      · by_cases e : j = i
        · subst e
          omega
        · exact hr3 h0 j hj (by omega)
theorem laws_szIntSS.ev (l : List (List Int)) (c : Int) (hl : l.length ≤ 9223372036854775807) (hx : ∀ x ∈ l, x.length ≤ 9223372036854775807) (h0 : 0 ≤ c) (h1 : c ≤ 1048576) : ∃ r : Int, r ≤ 1048576 ∧ Ev (fun k => laws_szIntSS.f k l c) r ∧ (0 ≤ r → l.length ≤ 1048576 ∧ ∀ x ∈ l, x.length ≤ 1048576) := by
  simp only [laws_szIntSS.f]
  rw [w64 (by omega) (by omega)]
  by_cases hc : c - (l.length : Int) < 0
  · exact ⟨-1, by omega, by rw [ev_pos hc, ev_now], fun h => by omega⟩
  · obtain ⟨r, hr1, hr2, hr3⟩ := laws_szIntSS.ev_l l hl hx l.length 0 (c - (l.length : Int)) (by omega) (by omega) (by omega)
    refine ⟨r, hr1, by rw [ev_neg hc]; exact hr2, fun h => ⟨by omega, fun x hx' => ?_⟩⟩
    obtain ⟨j, hj, rfl⟩ := List.getElem_of_mem hx'
    exact hr3 h j hj (by omega)
theorem laws_szGame.ev (n : Int) (l : List (List Int)) (c : Int) (hl : l.length ≤ 9223372036854775807) (hx : ∀ x ∈ l, x.length ≤ 9223372036854775807) (h0 : 0 ≤ c) (h1 : c ≤ 1048576) : ∃ r : Int, r ≤ 1048576 ∧ Ev (fun k => laws_szGame.f k n l c) r ∧ (0 ≤ r → l.length ≤ 1048576 ∧ ∀ x ∈ l, x.length ≤ 1048576) := by
  obtain ⟨r, hr1, hr2, hr3⟩ := laws_szIntSS.ev l c hl hx h0 h1
  simp only [laws_szGame.f]
  by_cases hc : r < 0
  · exact ⟨-1, by omega, by rw [ev_bind hr2, ev_pos hc, ev_now], fun h => by omega⟩
  · exact ⟨r, hr1, by rw [ev_bind hr2, ev_neg hc, ev_now], hr3⟩
theorem laws_toGame.ev (n : Int) (l : List (List Int)) (hl : l.length ≤ 11728124029610) (hx : ∀ x ∈ l, x.length ≤ 35184372088832) : Ev (fun k => laws_toGame.f k n l) (n, l) := by
  simp only [laws_toGame.f]
  rw [ev_bind (laws_toIntSS.ev l hl hx), ev_now]
theorem laws_eqGame.ev_same (n : Int) (l : List (List Int)) (hl : l.length ≤ 9223372036854775807) (hx : ∀ x ∈ l, x.length ≤ 9223372036854775807) : Ev (fun k => laws_eqGame.f k n l n l) true := by
  simp only [laws_eqGame.f]
  rw [ev_pos trivial, ev_bind (laws_eqIntSS.ev l l hl hx), ev_pos (by simp), ev_now]
def marksSS : Int → List (List Int) → List (List Int)
  | _, [] => []
  | c, s :: L => marks c s.length :: marksSS (c + (s.length : Int)) L
def totSS : List (List Int) → Int
  | [] => 0
  | s :: L => (s.length : Int) + totSS L
theorem marksSS_len : ∀ (L : List (List Int)) (c : Int), (marksSS c L).length = L.length
  | [], _ => rfl
  | s :: L, c => by
    show (marksSS _ L).length + 1 = L.length + 1
    rw [marksSS_len L]
theorem totSS_nonneg : ∀ L : List (List Int), 0 ≤ totSS L
  | [] => Int.le_refl _
  | s :: L => by
    have := totSS_nonneg L
    show 0 ≤ (s.length : Int) + totSS L
    omega
theorem totSS_le : ∀ (L : List (List Int)) (n : Nat), (∀ s ∈ L, s.length ≤ n) → totSS L ≤ (n : Int) * (L.length : Int)
  | [], n, _ => by simp [totSS]
  | s :: L, n, h => by
    have h1 := h s List.mem_cons_self
    have h2 := totSS_le L n (fun t ht => h t (List.mem_cons_of_mem _ ht))
    show (s.length : Int) + totSS L ≤ (n : Int) * ((L.length + 1 : Nat) : Int)
    rw [Int.natCast_add, Int.mul_add]
    simp only [Int.natCast_one, Int.mul_one]
    omega
theorem laws_markIntSS.ev_l : ∀ (L done : List (List Int)) (c : Int), (done ++ L).length ≤ 9223372036854775807 → 0 ≤ c → c + totSS L ≤ 9223372036854775807 → Ev (fun k => laws_markIntSS.l0 k (done ++ L) c (done.length : Int)) (c + totSS L, done ++ marksSS c L)
  | [], done, c, hl, h0, hc => by
    refine ev_step ?_
    simp only [laws_markIntSS.l0]
    rw [ev_neg (by simp), ev_now]
    simp [totSS, marksSS]
  | s :: L, done, c, hl, h0, hc => by
    refine ev_step ?_
    simp only [laws_markIntSS.l0]
    have ht := totSS_nonneg L
    have hc' : c + ((s.length : Int) + totSS L) ≤ 9223372036854775807 := hc
    have hll : (done ++ s :: L).length = done.length + (L.length + 1) := by simp
    have hget : rdOf [] (done ++ s :: L) (done.length : Int) = s := by simp [rdOf]
    have hset : (done ++ s :: L).set ((done.length : Int)).toNat (marks c s.length) = (done ++ [marks c s.length]) ++ L := by simp
    rw [ev_pos (by rw [hll]; omega), ev_pos (by omega), hget, ev_bind (laws_markIntS.ev s c h0 (by omega)), hset, w64 (by omega) (by omega)]
    have := laws_markIntSS.ev_l L (done ++ [marks c s.length]) (c + (s.length : Int)) (by simp at hl ⊢; omega) (by omega) (by omega)
    rw [List.length_append, List.length_singleton] at this
    show Ev _ (c + ((s.length : Int) + totSS L), done ++ (marks c s.length :: marksSS (c + (s.length : Int)) L))
    rw [← Int.add_assoc, show done ++ (marks c s.length :: marksSS (c + (s.length : Int)) L) = (done ++ [marks c s.length]) ++ marksSS (c + (s.length : Int)) L by simp]
    exact this
theorem laws_markIntSS.ev (L : List (List Int)) (c : Int) (hl : L.length ≤ 9223372036854775807) (h0 : 0 ≤ c) (hc : c + totSS L ≤ 9223372036854775807) : Ev (fun k => laws_markIntSS.f k L c) (c + totSS L, marksSS c L) := laws_markIntSS.ev_l L [] c (by simpa using hl) h0 hc
theorem laws_heldIntSS.ev_l (M : List (List Int)) (hM : M.length ≤ 9223372036854775807) : ∀ (L : List (List Int)) (i : Nat) (c : Int), M.drop i = marksSS c L → 0 ≤ c → c + totSS L ≤ 9223372036854775807 → Ev (fun k => laws_heldIntSS.l0 k M c (i : Int)) (c + totSS L)
  | [], i, c, h, h0, hc => by
    refine ev_step ?_
    simp only [laws_heldIntSS.l0]
    have : M.length ≤ i := by
      have h1 : (M.drop i).length = 0 := by rw [h]; rfl
      rw [List.length_drop] at h1
      omega
    rw [ev_neg (by omega), ev_now]
    simp [totSS]
  | s :: L, i, c, h, h0, hc => by
    refine ev_step ?_
    simp only [laws_heldIntSS.l0]
    have ht := totSS_nonneg L
    have hc' : c + ((s.length : Int) + totSS L) ≤ 9223372036854775807 := hc
    have hi : i < M.length := by
      rcases Nat.lt_or_ge i M.length with h1 | h1
      · exact h1
      · rw [List.drop_of_length_le h1] at h
        cases h
    rw [List.drop_eq_getElem_cons hi] at h
    have h1 : M[i] = marks c s.length := (List.cons.inj h).1
    have h2 : M.drop (i + 1) = marksSS (c + (s.length : Int)) L := (List.cons.inj h).2
    rw [ev_pos (by omega), ev_pos (by omega), rd_L2_lt M i hi, h1, ev_bind (laws_heldIntS.ev s.length c h0 (by omega)), ev_neg (by omega), w64i (n := M.length) (by omega) (by omega) hM]
    have := laws_heldIntSS.ev_l M hM L (i + 1) (c + (s.length : Int)) h2 (by omega) (by omega)
    show Ev _ (c + ((s.length : Int) + totSS L))
    rw [← Int.add_assoc]
    exact this
theorem laws_heldIntSS.ev (L : List (List Int)) (c : Int) (hl : L.length ≤ 9223372036854775807) (h0 : 0 ≤ c) (hc : c + totSS L ≤ 9223372036854775807) : Ev (fun k => laws_heldIntSS.f k (marksSS c L) c) (c + totSS L) := laws_heldIntSS.ev_l (marksSS c L) (by rw [marksSS_len]; exact hl) L 0 c (by simp) h0 hc
theorem laws_markGame.ev (n : Int) (L : List (List Int)) (c : Int) (hl : L.length ≤ 9223372036854775807) (h0 : 0 ≤ c) (hc : c + totSS L ≤ 9223372036854775807) : Ev (fun k => laws_markGame.f k n L c) (c + totSS L, marksSS c L) := laws_markIntSS.ev L c hl h0 hc
theorem laws_heldGame.ev (n : Int) (L : List (List Int)) (c : Int) (hl : L.length ≤ 9223372036854775807) (h0 : 0 ≤ c) (hc : c + totSS L ≤ 9223372036854775807) : Ev (fun k => laws_heldGame.f k n (marksSS c L) c) (c + totSS L) := by
  have ht := totSS_nonneg L
  simp only [laws_heldGame.f]
  rw [ev_bind (laws_heldIntSS.ev L c hl h0 hc), ev_neg (by omega), ev_now]
def bitB (m i : Nat) : Bool := decide (m / 2 ^ i % 2 = 1)
def setN (m : Nat) : List Int := ((List.range 62).filter (bitB m)).map fun (i : Nat) => (i : Int)
def setTo (m i : Nat) : List Int := ((List.range i).filter (bitB m)).map fun (i : Nat) => (i : Int)
theorem bitB_high {m i j : Nat} (h : m / 2 ^ i = 0) (hij : i ≤ j) : bitB m j = false := by
  unfold bitB
  have : m < 2 ^ i := by
    rcases Nat.lt_or_ge m (2 ^ i) with h1 | h1
    · exact h1
    · have := Nat.div_pos h1 (Nat.two_pow_pos i)
      omega
  have h2 : 2 ^ i ≤ 2 ^ j := Nat.pow_le_pow_right (by omega) hij
  rw [Nat.div_eq_of_lt (by omega)]
  rfl
theorem setTo_done {m i : Nat} (h : m / 2 ^ i = 0) (hi : i ≤ 62) : setTo m i = setN m := by
  unfold setTo setN
  rw [show List.range 62 = List.range i ++ (List.range (62 - i)).map (i + ·) by rw [← List.range_add]; congr 1; omega, List.filter_append]
  have : ((List.range (62 - i)).map (i + ·)).filter (bitB m) = [] := by
    rw [List.filter_eq_nil_iff]
    intro j hj
    obtain ⟨a, _, rfl⟩ := List.mem_map.1 hj
    rw [bitB_high h (by omega)]
    decide
  rw [this, List.append_nil]
theorem setTo_succ (m i : Nat) : setTo m (i + 1) = if bitB m i = true then setTo m i ++ [(i : Int)] else setTo m i := by
  unfold setTo
  rw [List.range_succ, List.filter_append, List.map_append]
  by_cases h : bitB m i = true
  · rw [if_pos h]
    simp [h]
  · rw [if_neg h]
    simp [h]
theorem setTo_len (m i : Nat) : (setTo m i).length ≤ i := by
  unfold setTo
  rw [List.length_map]
  have := List.length_filter_le (bitB m) (List.range i)
  rw [List.length_range] at this
  exact this
theorem setN_to {m n : Nat} (h : m < 2 ^ n) (hn : n ≤ 62) : setN m = setTo m n := (setTo_done (Nat.div_eq_of_lt h) hn).symm
theorem setTo_in {m n : Nat} : ∀ x ∈ setTo m n, 0 ≤ x ∧ x < (n : Int) ∧ bitB m x.toNat = true := by
  intro x hx
  obtain ⟨i, hi, rfl⟩ := List.mem_map.1 hx
  rw [List.mem_filter, List.mem_range] at hi
  exact ⟨by omega, by omega, by rw [Int.toNat_natCast]; exact hi.2⟩
theorem setTo_all (m n : Nat) (q : Nat → Bool) : ((setTo m n).all fun x => q x.toNat) = (List.range n).all fun i => !(bitB m i) || q i := by
  unfold setTo
  rw [List.all_map, List.all_filter]
  rfl
def leastB (W : List Bool) (n m : Nat) : Bool := W.getD m false && (List.range n).all fun i => !(bitB m i) || !(W.getD (m - 2 ^ i) false)
def takeL (P : Nat → Bool) (i : Nat) : List (List Int) := ((List.range i).filter P).map setN
theorem takeL_succ (P : Nat → Bool) (i : Nat) : takeL P (i + 1) = if P i = true then takeL P i ++ [setN i] else takeL P i := by
  unfold takeL
  rw [List.range_succ, List.filter_append, List.map_append]
  by_cases h : P i = true
  · rw [if_pos h]
    simp [h]
  · rw [if_neg h]
    simp [h]
theorem takeL_len (P : Nat → Bool) (i : Nat) : (takeL P i).length ≤ i := by
  unfold takeL
  rw [List.length_map]
  have := List.length_filter_le P (List.range i)
  rw [List.length_range] at this
  exact this
theorem takeL_mem {P : Nat → Bool} {i : Nat} : ∀ x ∈ takeL P i, ∃ m, m < i ∧ P m = true ∧ x = setN m := by
  intro x hx
  obtain ⟨m, hm, rfl⟩ := List.mem_map.1 hx
  rw [List.mem_filter, List.mem_range] at hm
  exact ⟨m, hm.1, hm.2, rfl⟩
theorem spec_voList.ev_l (m : Nat) (hm : m < 2 ^ 62) : ∀ (d i : Nat), i + d = 62 → Ev (fun k => spec_voList.l0 k (m : Int) (setTo m i) (i : Int)) (setN m) := by
  intro d
  induction d with
  | zero =>
    intro i h
    refine ev_step ?_
    simp only [spec_voList.l0]
    have e : m / 2 ^ i = 0 := by rw [show i = 62 by omega]; exact Nat.div_eq_of_lt hm
    rw [ev_pos (by omega), shr_nat m i (by omega), e, ev_neg (by omega), ev_now, setTo_done e (by omega)]
  | succ d ih =>
    intro i h
    refine ev_step ?_
    simp only [spec_voList.l0]
    have hl := setTo_len m i
    have et : Int.tmod ((m / 2 ^ i : Nat) : Int) 2 = ((m / 2 ^ i % 2 : Nat) : Int) := (Int.ofNat_tmod (m / 2 ^ i) 2).symm
    rw [ev_pos (by omega), shr_nat m i (by omega), w64 (by omega) (by omega)]
    by_cases e : m / 2 ^ i = 0
    · rw [ev_neg (by omega), ev_now, setTo_done e (by omega)]
    · rw [ev_pos (Int.natCast_pos.2 (Nat.pos_of_ne_zero e)), et]
      have := ih (i + 1) (by omega)
      rw [setTo_succ] at this
      by_cases hb : m / 2 ^ i % 2 = 1
      · rw [if_pos (by simp [bitB, hb])] at this
        rw [ev_pos (by rw [hb]; rfl), ev_pos (by omega)]
        exact this
      · rw [if_neg (by simp [bitB]; omega)] at this
        rw [ev_neg (c := ((m / 2 ^ i % 2 : Nat) : Int) = 1) (fun h_ => hb (Int.ofNat_inj.1 h_))]
        exact this
theorem spec_voList.ev (m : Nat) (hm : m < 2 ^ 62) : Ev (fun k => spec_voList.f k (m : Int)) (setN m) := spec_voList.ev_l m hm 62 0 (by omega)
theorem spec_voBefore.ev_l (a b : List Int) (ha : a.length ≤ 9223372036854775807) : ∀ (d i : Nat), i + d = a.length → i ≤ b.length → Ev (fun k => spec_voBefore.l0 k a b (i : Int)) (decide (cmpL (a.drop i) (b.drop i) < 0)) := by
  intro d
  induction d with
  | zero =>
    intro i h hb
    refine ev_step ?_
    simp only [spec_voBefore.l0]
    rw [ev_neg (by omega)]
    refine ev_step ?_
    simp only [spec_voBefore.j1]
    rw [ev_neg (by simp), ev_now, List.drop_of_length_le (by omega)]
    by_cases hc : (a.length : Int) < (b.length : Int)
    · rw [decide_eq_true hc, List.drop_eq_getElem_cons (by omega)]
      rfl
    · rw [decide_eq_false hc, List.drop_of_length_le (by omega)]
      rfl
  | succ d ih =>
    intro i h hb
    refine ev_step ?_
    simp only [spec_voBefore.l0]
    have hi : i < a.length := by omega
    rw [ev_pos (by omega)]
    refine ev_step ?_
    simp only [spec_voBefore.j1]
    by_cases hc : (i : Int) < (b.length : Int)
    · have hib : i < b.length := by omega
      rw [ev_pos (decide_eq_true hc), ev_pos (by omega), ev_pos (by omega), ev_pos (by omega), rd_lt a i hi, rd_lt b i hib, w64i (n := a.length) (by omega) (by omega) ha, List.drop_eq_getElem_cons hi, List.drop_eq_getElem_cons hib]
      by_cases h1 : a[i] = b[i]
      · have e : cmpL (a[i] :: a.drop (i + 1)) (b[i] :: b.drop (i + 1)) = cmpL (a.drop (i + 1)) (b.drop (i + 1)) := by simp only [cmpL]; rw [if_neg (by omega), if_neg (by omega)]
        rw [ev_pos h1, e]
        exact ih (i + 1) (by omega) (by omega)
      · rw [ev_neg h1, ev_now]
        by_cases h2 : a[i] < b[i]
        · have e : cmpL (a[i] :: a.drop (i + 1)) (b[i] :: b.drop (i + 1)) = -1 := by simp only [cmpL]; rw [if_pos h2]
          rw [e, decide_eq_true h2]; rfl
        · have e : cmpL (a[i] :: a.drop (i + 1)) (b[i] :: b.drop (i + 1)) = 1 := by simp only [cmpL]; rw [if_neg h2, if_pos (by omega)]
          rw [e, decide_eq_false h2]; rfl
    · rw [ev_neg (by simp; omega), ev_now, List.drop_eq_getElem_cons hi, List.drop_of_length_le (by omega : b.length ≤ i), decide_eq_false (by omega)]
      rfl
theorem spec_voBefore.ev (a b : List Int) (ha : a.length ≤ 9223372036854775807) : Ev (fun k => spec_voBefore.f k a b) (decide (cmpL a b < 0)) := spec_voBefore.ev_l a b ha a.length 0 (by omega) (by omega)
def upL (xs : List (List Int)) : Prop := xs.Pairwise fun a b => cmpL a b ≤ 0
theorem upL_sorted {xs ys : List (List Int)} (hp : ys.Perm xs) (h : upL ys) : ys = Go.Proofs.YtmmmblfghhcndaaS.sortL xs := by
  refine Go.Proofs.YtmmmblfghhcndaaS.sortL_of hp (List.Pairwise.imp (fun {a b} hab => ?_) h)
  have := cmpL_swap a b
  show decide (cmpL b a < 0) = false
  exact decide_eq_false (by omega)
theorem upL_insert {xs : List (List Int)} {s : List Int} {y : Nat} (h : upL xs) (h1 : ∀ j (hj : j < xs.length), j < y → cmpL xs[j] s < 0) (h2 : ∀ hy : y < xs.length, ¬ (cmpL xs[y] s < 0)) : upL (xs.take y ++ s :: xs.drop y) := by
  have hp := h
  rw [← List.take_append_drop y xs, upL, List.pairwise_append] at hp
  rw [upL, List.pairwise_append, List.pairwise_cons]
  have hd : ∀ b ∈ xs.drop y, cmpL s b ≤ 0 := by
    intro b hb
    obtain ⟨j, hj, rfl⟩ := List.getElem_of_mem hb
    rw [List.length_drop] at hj
    have hy : y < xs.length := by omega
    rw [List.getElem_drop]
    have h3 := h2 hy
    have h4 := cmpL_swap s xs[y]
    have h5 : cmpL xs[y] xs[y + j] ≤ 0 := by
      rcases Nat.eq_zero_or_pos j with e | e
      · subst e
        simp only [Nat.add_zero]
        rw [cmpL_self]
        omega
      · rw [upL, List.pairwise_iff_getElem] at h
        exact h y (y + j) hy (by omega) (by omega)
    exact cmpL_le_trans s xs[y] xs[y + j] (by omega) h5
  refine ⟨hp.1, ⟨hd, hp.2.1⟩, fun a ha b hb => ?_⟩
  obtain ⟨j, hj, rfl⟩ := List.getElem_of_mem ha
  rw [List.length_take] at hj
  rw [List.getElem_take]
  have h3 := h1 j (by omega) (by omega)
  rcases List.mem_cons.1 hb with rfl | hb
  · omega
  · exact cmpL_le_trans _ s b (by omega) (hd b hb)
theorem spec_voSorted.ev_l1 (l : List (List Int)) (hl : l.length < 1000000) (hx : ∀ x ∈ l, x.length ≤ 9223372036854775807) (i : Nat) (hi : i < l.length) (out : List (List Int)) (ho : out.length = i) (hup : upL out) (hpm : out.Perm (l.take i)) (hnext : ∀ out' : List (List Int), out'.length = i + 1 → upL out' → out'.Perm (l.take (i + 1)) → Ev (fun k => spec_voSorted.l0 k out' l ((i : Int) + 1)) (Go.Proofs.YtmmmblfghhcndaaS.sortL l)) : ∀ (d y : Nat), y + d = out.length → (∀ j (hj : j < out.length), j < y → cmpL out[j] l[i] < 0) → Ev (fun k => spec_voSorted.l1 k out l (i : Int) l[i] (y : Int)) (Go.Proofs.YtmmmblfghhcndaaS.sortL l) := by
  have hgo : ∀ y : Nat, y ≤ out.length → (∀ j (hj : j < out.length), j < y → cmpL out[j] l[i] < 0) → (∀ hy : y < out.length, ¬ (cmpL out[y] l[i] < 0)) → Ev (fun k => if out.length < 5000000000000 then spec_voSorted.l0 k (out.take ((y : Int)).toNat ++ l[i] :: out.drop ((y : Int)).toNat) l (wrap64 ((i : Int) + 1)) else none) (Go.Proofs.YtmmmblfghhcndaaS.sortL l) := by
    intro y hy h1 h2
    rw [ev_pos (by omega), Int.toNat_natCast, w64 (by omega) (by omega)]
    refine hnext _ ?_ (upL_insert hup h1 h2) ?_
    · rw [List.length_append, List.length_cons, List.length_take, List.length_drop]
      omega
    · refine List.perm_middle.trans ?_
      rw [List.take_append_drop, List.take_succ_eq_append_getElem hi]
      exact (List.Perm.cons _ hpm).trans (List.perm_append_singleton _ _).symm
  intro d
  induction d with
  | zero =>
    intro y hy h1
    refine ev_step ?_
    simp only [spec_voSorted.l1]
    rw [ev_neg (by omega)]
    exact hgo y (by omega) h1 (fun h => by omega)
  | succ d ih =>
    intro y hy h1
    refine ev_step ?_
    simp only [spec_voSorted.l1]
    have hyl : y < out.length := by omega
    have hmem : out[y] ∈ l := List.mem_of_mem_take (hpm.mem_iff.1 (List.getElem_mem hyl))
    rw [ev_pos (by omega), rdOf_lt [] out y hyl, ev_bind (spec_voBefore.ev out[y] l[i] (hx _ hmem))]
    by_cases c : cmpL out[y] l[i] < 0
    · rw [ev_pos (decide_eq_true c), w64 (by omega) (by omega)]
      refine ih (y + 1) (by omega) (fun j hj hjy => ?_)
      rcases Nat.lt_or_ge j y with e | e
      · exact h1 j hj e
      · have : j = y := by omega
        subst this
        exact c
    · rw [ev_neg (by simp [c])]
      exact hgo y (by omega) h1 (fun _ => c)
theorem spec_voSorted.ev_l0 (l : List (List Int)) (hl : l.length < 1000000) (hx : ∀ x ∈ l, x.length ≤ 9223372036854775807) : ∀ (d i : Nat) (out : List (List Int)), i + d = l.length → out.length = i → upL out → out.Perm (l.take i) → Ev (fun k => spec_voSorted.l0 k out l (i : Int)) (Go.Proofs.YtmmmblfghhcndaaS.sortL l) := by
  intro d
  induction d with
  | zero =>
    intro i out h ho hup hpm
    refine ev_step ?_
    simp only [spec_voSorted.l0]
    rw [List.take_of_length_le (by omega)] at hpm
    rw [ev_neg (by omega), ev_now]
    exact upL_sorted hpm hup
  | succ d ih =>
    intro i out h ho hup hpm
    refine ev_step ?_
    simp only [spec_voSorted.l0]
    have hi : i < l.length := by omega
    rw [ev_pos (by omega), ev_pos (by omega), rdOf_lt [] l i hi]
    exact spec_voSorted.ev_l1 l hl hx i hi out ho hup hpm (fun out' h1 h2 h3 => ih (i + 1) out' (by omega) h1 h2 h3) out.length 0 (by omega) (fun j _ hj => by omega)
theorem spec_voSorted.ev (l : List (List Int)) (hl : l.length < 1000000) (hx : ∀ x ∈ l, x.length ≤ 9223372036854775807) : Ev (fun k => spec_voSorted.f k l) (Go.Proofs.YtmmmblfghhcndaaS.sortL l) := spec_voSorted.ev_l0 l hl hx l.length 0 [] (by omega) rfl List.Pairwise.nil (by simp)
theorem spec_voLeast.ev_l1 (W : List Bool) (n : Nat) (hW : W.length = 2 ^ n) (hn : n ≤ 18) (m : Nat) (hm : m < W.length) (out : List (List Int)) (ho : out.length ≤ 1000000) (R : List (List Int)) : ∀ (d j : Nat) (b : Bool), j + d = (setN m).length → Ev (fun k => spec_voLeast.l0 k W (if (b && ((setN m).drop j).all fun x => !(W.getD (m - 2 ^ x.toNat) false)) = true then out ++ [setN m] else out) W (W.length : Int) ((m : Int) + 1)) R → Ev (fun k => spec_voLeast.l1 k W out (m : Int) b W (W.length : Int) (m : Int) (setN m) ((setN m).length : Int) (j : Int)) R := by
  have hp : 2 ^ n ≤ 2 ^ 18 := Nat.pow_le_pow_right (by omega) hn
  have hto := setN_to (m := m) (n := n) (by omega) (by omega)
  have hln : (setN m).length ≤ n := by rw [hto]; exact setTo_len m n
  intro d
  induction d with
  | zero =>
    intro j b h hR
    refine ev_step ?_
    simp only [spec_voLeast.l1]
    rw [List.drop_of_length_le (by omega), List.all_nil, Bool.and_true] at hR
    rw [ev_neg (by omega), w64 (x := (m : Int) + 1) (by omega) (by omega)]
    cases b with
    | true =>
      rw [if_pos rfl] at hR
      rw [ev_pos rfl, ev_bind (spec_voList.ev m (by omega)), ev_pos (by omega)]
      exact hR
    | false =>
      rw [if_neg (by decide)] at hR
      rw [ev_neg (by decide)]
      exact hR
  | succ d ih =>
    intro j b h hR
    refine ev_step ?_
    simp only [spec_voLeast.l1]
    have hj : j < (setN m).length := by omega
    have hx := setTo_in (m := m) (n := n) (setN m)[j] (by rw [← hto]; exact List.getElem_mem hj)
    rw [List.drop_eq_getElem_cons hj, List.all_cons] at hR
    rw [ev_pos (by omega), ev_pos (by omega), ev_pos (by omega), w64 (x := (j : Int) + 1) (by omega) (by omega), rd_lt (setN m) j hj]
    cases b with
    | true =>
      obtain ⟨c, hc⟩ := Int.eq_ofNat_of_zero_le hx.1
      have hcb : bitB m c = true := by have := hx.2.2; rw [hc, Int.toNat_natCast] at this; exact this
      have hcn : c < n := by have := hx.2.1; omega
      have hge : 2 ^ c ≤ m := by
        have hbb : m / 2 ^ c % 2 = 1 := by simpa [bitB] using hcb
        rcases Nat.lt_or_ge m (2 ^ c) with h1 | h1
        · rw [Nat.div_eq_of_lt h1] at hbb; omega
        · exact h1
      have h0 : 0 < 2 ^ c := Nat.two_pow_pos c
      have e1 : wrap64 ((m : Int) - ((2 ^ c : Nat) : Int)) = ((m - 2 ^ c : Nat) : Int) := by
        rw [w64 (by omega) (by omega)]
        omega
      rw [hc, Int.toNat_natCast, Bool.true_and] at hR
      rw [ev_pos rfl, hc, ev_pos (by omega), shl_one c (by omega), e1, ev_pos (by omega), ev_pos (by omega), rdOf_nat]
      exact ih (j + 1) _ (by omega) hR
    | false =>
      rw [Bool.false_and] at hR
      rw [ev_neg (by decide)]
      exact ih (j + 1) false (by omega) (by rw [Bool.false_and]; exact hR)
theorem leastB_set (W : List Bool) (n m : Nat) (hm : m < 2 ^ n) (hn : n ≤ 62) : leastB W n m = (W.getD m false && (setN m).all fun x => !(W.getD (m - 2 ^ x.toNat) false)) := by
  rw [leastB, setN_to hm hn]
  congr 1
  exact (setTo_all m n (fun i => !(W.getD (m - 2 ^ i) false))).symm
theorem spec_voLeast.ev_l0 (W : List Bool) (n : Nat) (hW : W.length = 2 ^ n) (hn : n ≤ 18) : ∀ (d m : Nat), m + d = W.length → Ev (fun k => spec_voLeast.l0 k W (takeL (leastB W n) m) W (W.length : Int) (m : Int)) (Go.Proofs.YtmmmblfghhcndaaS.sortL (takeL (leastB W n) W.length)) := by
  have hp : 2 ^ n ≤ 2 ^ 18 := Nat.pow_le_pow_right (by omega) hn
  intro d
  induction d with
  | zero =>
    intro m h
    refine ev_step ?_
    simp only [spec_voLeast.l0]
    have hl := takeL_len (leastB W n) m
    rw [ev_neg (by omega), ev_bind (spec_voSorted.ev _ (by omega) (fun x hx => by
      obtain ⟨a, ha, _, rfl⟩ := takeL_mem x hx
      have := setTo_len a n
      rw [← setN_to (m := a) (n := n) (by omega) (by omega)] at this
      omega)), ev_now, show m = W.length by omega]
  | succ d ih =>
    intro m h
    refine ev_step ?_
    simp only [spec_voLeast.l0]
    have hm : m < W.length := by omega
    have hl := takeL_len (leastB W n) m
    have hih := ih (m + 1) (by omega)
    rw [takeL_succ, leastB_set W n m (by omega) (by omega)] at hih
    have ew : W.getD m false = W[m] := by simp [hm]
    rw [ev_pos (by omega), ev_pos (by omega), ev_pos (by omega), rdOf_lt false W m hm]
    cases hw : W[m] with
    | true =>
      rw [ew, hw] at hih
      rw [ev_pos rfl, ev_bind (spec_voList.ev m (by omega))]
      refine spec_voLeast.ev_l1 W n hW hn m hm _ (by omega) _ (setN m).length 0 true (by omega) ?_
      rw [List.drop_zero]
      exact hih
    | false =>
      rw [ew, hw, Bool.false_and, if_neg (by decide)] at hih
      rw [ev_neg (by decide), w64 (by omega) (by omega)]
      exact hih
theorem spec_voLeast.ev (W : List Bool) (n : Nat) (hW : W.length = 2 ^ n) (hn : n ≤ 18) : Ev (fun k => spec_voLeast.f k W) (Go.Proofs.YtmmmblfghhcndaaS.sortL (takeL (leastB W n) W.length)) := spec_voLeast.ev_l0 W n hW hn W.length 0 (by omega)
theorem andNot_pow (m i : Nat) (hm : m < 2 ^ 62) (hi : i ≤ 61) (h : bitB m i = true) : Go.bits .andNot .i64 (m : Int) ((2 ^ i : Nat) : Int) = ((m - 2 ^ i : Nat) : Int) := by
  have hp : 2 ^ i ≤ 2 ^ 61 := Nat.pow_le_pow_right (by omega) hi
  have hb : m / 2 ^ i % 2 = 1 := by simpa [bitB] using h
  have hmi : m - 2 ^ i < 2 ^ 62 := Nat.lt_of_le_of_lt (Nat.sub_le _ _) hm
  have key : m &&& (2 ^ 64 - 1 - 2 ^ i) = m - 2 ^ i := by
    have hge : 2 ^ i ≤ m := by
      rcases Nat.lt_or_ge m (2 ^ i) with h1 | h1
      · rw [Nat.div_eq_of_lt h1] at hb; omega
      · exact h1
    have h0 : (m - 2 ^ i) / 2 ^ i % 2 = 0 := by
      have e : m = (m - 2 ^ i) + 2 ^ i := by omega
      have e2 : m / 2 ^ i = (m - 2 ^ i) / 2 ^ i + 1 := by
        conv => lhs; rw [e]
        exact Nat.add_div_right _ (Nat.two_pow_pos i)
      omega
    have hor := or_pow i (m - 2 ^ i) h0
    rw [Nat.sub_add_cancel hge] at hor
    apply Nat.eq_of_testBit_eq
    intro j
    rw [Nat.testBit_and, show 2 ^ 64 - 1 - 2 ^ i = 2 ^ 64 - (2 ^ i + 1) by omega, Nat.testBit_two_pow_sub_succ (by omega : 2 ^ i < 2 ^ 64)]
    have hmj : m.testBit j = ((m - 2 ^ i).testBit j || (2 ^ i).testBit j) := by rw [← Nat.testBit_or, hor]
    by_cases e : j = i
    · subst e
      have : (m - 2 ^ j).testBit j = false := by
        rw [Nat.testBit_eq_decide_div_mod_eq, h0]
        rfl
      rw [this, Nat.testBit_two_pow_self]
      simp
    · have h2 : (2 ^ i).testBit j = false := Nat.testBit_two_pow_of_ne (fun h => e h.symm)
      rw [hmj, h2]
      by_cases hj : j < 64
      · simp [hj]
      · have : (m - 2 ^ i).testBit j = false := Nat.testBit_lt_two_pow (Nat.lt_of_lt_of_le hmi (Nat.pow_le_pow_right (by omega) (by omega)))
        rw [this]
        simp
  have hbv : ((BitVec.ofInt 64 (m : Int)) &&& ~~~(BitVec.ofInt 64 ((2 ^ i : Nat) : Int))).toNat = m - 2 ^ i := by
    rw [BitVec.toNat_and, BitVec.toNat_not, BitVec.ofInt_natCast, BitVec.ofInt_natCast, BitVec.toNat_ofNat, BitVec.toNat_ofNat, Nat.mod_eq_of_lt (by omega : m < 2 ^ 64), Nat.mod_eq_of_lt (by omega : 2 ^ i < 2 ^ 64)]
    exact key
  show IntKind.i64.wrap (((BitVec.ofInt 64 (m : Int)) &&& ~~~(BitVec.ofInt 64 ((2 ^ i : Nat) : Int))).toNat : Int) = _
  rw [hbv]
  exact (fun (x : Nat) (hx : x < 2 ^ 62) => i64_wrap (x := (x : Int)) (by omega) (by omega)) (m - 2 ^ i) hmi
theorem impl_has.v (m i : Nat) (hm : m < 2 ^ 62) (hi : i ≤ 62) : impl_has.f (m : Int) (i : Int) = some (decide (m / 2 ^ i % 2 = 1)) := by
  unfold impl_has.f
  have hlt : m / 2 ^ i < 2 ^ 62 := Nat.lt_of_le_of_lt (Nat.div_le_self _ _) hm
  rw [if_pos (by omega), shr_nat m i (by omega), and_one _ hlt]
  congr 1
  by_cases h : m / 2 ^ i % 2 = 1
  · simp [h]
  · have : m / 2 ^ i % 2 = 0 := by omega
    simp [this]
theorem impl_setOf.ev_l (m : Nat) (hm : m < 2 ^ 62) : ∀ (d i : Nat), i + d = 62 → Ev (fun k => impl_setOf.l0 k (m : Int) (setTo m i) (i : Int)) (setN m) := by
  intro d
  induction d with
  | zero =>
    intro i h
    refine ev_step ?_
    simp only [impl_setOf.l0]
    have e : m / 2 ^ i = 0 := by rw [show i = 62 by omega]; exact Nat.div_eq_of_lt hm
    rw [ev_pos (by omega), shr_nat m i (by omega), e, ev_neg (by omega), ev_now, setTo_done e (by omega)]
  | succ d ih =>
    intro i h
    refine ev_step ?_
    simp only [impl_setOf.l0]
    have hlt : m / 2 ^ i < 2 ^ 62 := Nat.lt_of_le_of_lt (Nat.div_le_self _ _) hm
    have hl := setTo_len m i
    rw [ev_pos (by omega), shr_nat m i (by omega), w64 (by omega) (by omega)]
    by_cases e : m / 2 ^ i = 0
    · rw [ev_neg (by omega), ev_now, setTo_done e (by omega)]
    · rw [ev_pos (Int.natCast_pos.2 (Nat.pos_of_ne_zero e)), and_one _ hlt]
      have := ih (i + 1) (by omega)
      rw [setTo_succ] at this
      by_cases hb : m / 2 ^ i % 2 = 1
      · rw [if_pos (by simp [bitB, hb])] at this
        rw [ev_pos (by rw [hb]; rfl), ev_pos (by omega)]
        exact this
      · rw [if_neg (by simp [bitB]; omega)] at this
        rw [ev_neg (c := ((m / 2 ^ i % 2 : Nat) : Int) = 1) (fun h_ => hb (Int.ofNat_inj.1 h_))]
        exact this
theorem impl_setOf.ev (m : Nat) (hm : m < 2 ^ 62) : Ev (fun k => impl_setOf.f k (m : Int)) (setN m) := impl_setOf.ev_l m hm 62 0 (by omega)
theorem impl_votes_isLeast.ev_l (W : List Bool) (n m : Nat) (hW : W.length = 2 ^ n) (hn : n ≤ 18) (hm : m < 2 ^ n) : ∀ (d i : Nat), i + d = n → Ev (fun k => impl_votes_isLeast.l0 k (m : Int) (n : Int) (i : Int) (n : Int) W) ((List.range' i d).all fun i => !(bitB m i) || !(W.getD (m - 2 ^ i) false)) := by
  have hp : 2 ^ n ≤ 2 ^ 18 := Nat.pow_le_pow_right (by omega) hn
  intro d
  induction d with
  | zero =>
    intro i h
    refine ev_step ?_
    simp only [impl_votes_isLeast.l0]
    rw [ev_neg (by omega), ev_now]
    rfl
  | succ d ih =>
    intro i h
    refine ev_step ?_
    simp only [impl_votes_isLeast.l0]
    have hih := ih (i + 1) (by omega)
    rw [ev_pos (by omega), ev_bind (ev_of (show impl_has.f (m : Int) (i : Int) = some (bitB m i) from impl_has.v m i (by omega) (by omega))), w64 (by omega) (by omega), List.range'_succ, List.all_cons]
    by_cases hb : bitB m i = true
    · have hpi : 2 ^ i ≤ 2 ^ n := Nat.pow_le_pow_right (by omega) (by omega)
      have hsub : m - 2 ^ i < W.length := by rw [hW]; exact Nat.lt_of_le_of_lt (Nat.sub_le _ _) hm
      rw [ev_pos hb, ev_pos (by omega), shl_one i (by omega), andNot_pow m i (by omega) (by omega) hb, ev_pos (Int.natCast_nonneg _), ev_pos (Int.ofNat_lt.2 hsub), rdOf_nat, hb]
      cases hw : W.getD (m - 2 ^ i) false with
      | true =>
        rw [ev_pos rfl, ev_now]
        rfl
      | false =>
        rw [ev_neg (by decide)]
        exact hih
    · rw [ev_neg hb, Bool.eq_false_iff.2 hb]
      exact hih
theorem impl_votes_isLeast.ev (W : List Bool) (n m : Nat) (hW : W.length = 2 ^ n) (hn : n ≤ 18) (hm : m < 2 ^ n) : Ev (fun k => impl_votes_isLeast.f k (n : Int) W (m : Int)) (leastB W n m) := by
  simp only [impl_votes_isLeast.f]
  rw [ev_pos (by omega), ev_pos (by omega), rdOf_nat, leastB]
  cases hw : W.getD m false with
  | true =>
    rw [ev_pos rfl, Bool.true_and, List.range_eq_range']
    exact impl_votes_isLeast.ev_l W n m hW hn hm n 0 (by omega)
  | false =>
    rw [ev_neg (by decide), ev_now]
    rfl
theorem impl_votes_sets.at_l (W : List Bool) (hW : W.length ≤ 1000000) (P : Int → Option Bool) (p : Nat → Bool) (K : Nat) (hP : ∀ m, m < W.length → P (m : Int) = some (p m)) (hS : ∀ k, K ≤ k → ∀ m, m < W.length → impl_setOf.f k (m : Int) = some (setN m)) : ∀ (d i k : Nat), i + d = W.length → K + d < k → impl_votes_sets.l0 k P W (takeL p i) (i : Int) = some (takeL p W.length) := by
  intro d
  induction d with
  | zero =>
    intro i k h hk
    obtain ⟨k, rfl⟩ : ∃ j, k = j + 1 := ⟨k - 1, by omega⟩
    simp only [impl_votes_sets.l0]
    rw [if_neg (by omega), show i = W.length by omega]
  | succ d ih =>
    intro i k h hk
    obtain ⟨k, rfl⟩ : ∃ j, k = j + 1 := ⟨k - 1, by omega⟩
    have hi : i < W.length := by omega
    have hl := takeL_len p i
    have hih := ih (i + 1) k (by omega) (by omega)
    rw [takeL_succ] at hih
    simp only [impl_votes_sets.l0]
    rw [if_pos (by omega), hP i hi, Option.bind_some, w64 (by omega) (by omega), hS k (by omega) i hi, Option.bind_some]
    cases hp : p i with
    | true =>
      rw [hp, if_pos rfl] at hih
      rw [if_pos rfl, if_pos (by omega)]
      exact hih
    | false =>
      rw [hp, if_neg (by decide)] at hih
      rw [if_neg (by decide)]
      exact hih
theorem impl_votes_sets.ev (W : List Bool) (hW : W.length ≤ 1000000) (P : Nat → Int → Option Bool) (p : Nat → Bool) (hP : ∀ m, m < W.length → Ev (fun k => P k (m : Int)) (p m)) : Ev (fun k => impl_votes_sets.g k W (P k)) (Go.Proofs.YtmmmblfghhcndaaS.sortL (takeL p W.length)) := by
  obtain ⟨K1, h1⟩ := ev_all W.length (fun k m => P k (m : Int)) p hP
  obtain ⟨K2, h2⟩ := ev_all W.length (fun k m => impl_setOf.f k (m : Int)) setN (fun m hm => impl_setOf.ev m (by omega))
  refine ⟨max K1 (K2 + W.length + 1), fun k hk => ?_⟩
  have hl := takeL_len p W.length
  simp only [impl_votes_sets.g]
  rw [show impl_votes_sets.l0 k (P k) W [] 0 = some (takeL p W.length) from impl_votes_sets.at_l W hW (P k) p K2 (fun m hm => h1 k (by omega) m hm) h2 W.length 0 k (by omega) (by omega), Option.bind_some, if_pos (by omega)]
theorem impl_votes_least.ev (W : List Bool) (n : Nat) (hW : W.length = 2 ^ n) (hn : n ≤ 18) : Ev (fun k => impl_votes_least.f k (n : Int) W) (Go.Proofs.YtmmmblfghhcndaaS.sortL (takeL (leastB W n) W.length)) := by
  have hp : 2 ^ n ≤ 2 ^ 18 := Nat.pow_le_pow_right (by omega) hn
  exact impl_votes_sets.ev W (by omega) (fun k x => impl_votes_isLeast.f k (n : Int) W x) (leastB W n) (fun m hm => impl_votes_isLeast.ev W n m hW hn (by omega))
theorem sortL_in {P : Nat → Bool} {n N : Nat} (hN : N ≤ 2 ^ n) (hn : n ≤ 62) : ∀ x ∈ Go.Proofs.YtmmmblfghhcndaaS.sortL (takeL P N), x.length ≤ n ∧ ∀ y ∈ x, 0 ≤ y ∧ y < (n : Int) := by
  intro x hx
  obtain ⟨a, ha, _, rfl⟩ := takeL_mem x ((Go.Proofs.YtmmmblfghhcndaaS.sortL_perm _).mem_iff.1 hx)
  rw [setN_to (m := a) (n := n) (by omega) hn]
  exact ⟨setTo_len a n, fun y hy => by have := setTo_in y hy; omega⟩
theorem sortL_len (xs : List (List Int)) : (Go.Proofs.YtmmmblfghhcndaaS.sortL xs).length = xs.length := (Go.Proofs.YtmmmblfghhcndaaS.sortL_perm xs).length_eq
def gmL (n : Nat) (W : List Bool) : List (List Int) := Go.Proofs.YtmmmblfghhcndaaS.sortL (takeL (leastB W n) W.length)
theorem impl_votes_game.ev (W : List Bool) (n : Nat) (hW : W.length = 2 ^ n) (hn : n ≤ 18) : Ev (fun k => impl_votes_game.f k (n : Int) W) ((n : Int), gmL n W) := by
  simp only [impl_votes_game.f]
  rw [ev_bind (impl_votes_least.ev W n hW hn), ev_now]
  rfl
theorem spec_gmOf.ev (W : List Bool) (n : Nat) (hW : W.length = 2 ^ n) (hn : n ≤ 18) : Ev (fun k => spec_gmOf.f k (n : Int) W) ((n : Int), gmL n W) := by
  simp only [spec_gmOf.f]
  rw [ev_bind (spec_voLeast.ev W n hW hn), ev_now]
  rfl
theorem gmL_few {n : Nat} {W : List Bool} (hW : W.length = 2 ^ n) (hn : n ≤ 9) : (gmL n W).length ≤ 512 ∧ ∀ s ∈ gmL n W, s.length ≤ 9 := by
  have hp : 2 ^ n ≤ 2 ^ 9 := Nat.pow_le_pow_right (by omega) hn
  have hlen := takeL_len (leastB W n) W.length
  exact ⟨by unfold gmL; rw [sortL_len]; omega, fun s hs => by have := (sortL_in (n := n) (by omega) (by omega) s hs).1; omega⟩
def chainsC : List (List Nat) := [[0, 1, 3, 7, 15, 31, 63, 127, 255, 511], [256, 257, 259, 263, 271, 287, 319, 383], [128, 129, 131, 135, 143, 159, 191, 447], [384, 385, 387, 391, 399, 415], [64, 65, 67, 71, 79, 95, 223, 479], [320, 321, 323, 327, 335, 351], [192, 193, 195, 199, 207, 463], [448, 449, 451, 455], [32, 33, 35, 39, 47, 111, 239, 495], [288, 289, 291, 295, 303, 367], [160, 161, 163, 167, 175, 431], [416, 417, 419, 423], [96, 97, 99, 103, 231, 487], [352, 353, 355, 359], [224, 225, 227, 483], [480, 481], [16, 17, 19, 23, 55, 119, 247, 503], [272, 273, 275, 279, 311, 375], [144, 145, 147, 151, 183, 439], [400, 401, 403, 407], [80, 81, 83, 87, 215, 471], [336, 337, 339, 343], [208, 209, 211, 467], [464, 465], [48, 49, 51, 115, 243, 499], [304, 305, 307, 371], [176, 177, 179, 435], [432, 433], [112, 113, 241, 497], [368, 369], [240, 496], [8, 9, 11, 27, 59, 123, 251, 507], [264, 265, 267, 283, 315, 379], [136, 137, 139, 155, 187, 443], [392, 393, 395, 411], [72, 73, 75, 91, 219, 475], [328, 329, 331, 347], [200, 201, 203, 459], [456, 457], [40, 41, 43, 107, 235, 491], [296, 297, 299, 363], [168, 169, 171, 427], [424, 425], [104, 105, 233, 489], [360, 361], [232, 488], [24, 25, 57, 121, 249, 505], [280, 281, 313, 377], [152, 153, 185, 441], [408, 409], [88, 89, 217, 473], [344, 345], [216, 472], [56, 120, 248, 504], [312, 376], [184, 440], [4, 5, 13, 29, 61, 125, 253, 509], [260, 261, 269, 285, 317, 381], [132, 133, 141, 157, 189, 445], [388, 389, 397, 413], [68, 69, 77, 93, 221, 477], [324, 325, 333, 349], [196, 197, 205, 461], [452, 453], [36, 37, 45, 109, 237, 493], [292, 293, 301, 365], [164, 165, 173, 429], [420, 421], [100, 101, 229, 485], [356, 357], [228, 484], [20, 21, 53, 117, 245, 501], [276, 277, 309, 373], [148, 149, 181, 437], [404, 405], [84, 85, 213, 469], [340, 341], [212, 468], [52, 116, 244, 500], [308, 372], [180, 436], [12, 28, 60, 124, 252, 508], [268, 284, 316, 380], [140, 156, 188, 444], [396, 412], [76, 92, 220, 476], [332, 348], [204, 460], [44, 108, 236, 492], [300, 364], [172, 428], [2, 6, 14, 30, 62, 126, 254, 510], [258, 262, 270, 286, 318, 382], [130, 134, 142, 158, 190, 446], [386, 390, 398, 414], [66, 70, 78, 94, 222, 478], [322, 326, 334, 350], [194, 198, 206, 462], [450, 454], [34, 38, 46, 110, 238, 494], [290, 294, 302, 366], [162, 166, 174, 430], [418, 422], [98, 102, 230, 486], [354, 358], [226, 482], [18, 22, 54, 118, 246, 502], [274, 278, 310, 374], [146, 150, 182, 438], [402, 406], [82, 86, 214, 470], [338, 342], [210, 466], [50, 114, 242, 498], [306, 370], [178, 434], [10, 26, 58, 122, 250, 506], [266, 282, 314, 378], [138, 154, 186, 442], [394, 410], [74, 90, 218, 474], [330, 346], [202, 458], [42, 106, 234, 490], [298, 362], [170, 426]]
def chainOf : List Nat := [0, 0, 91, 0, 56, 56, 91, 0, 31, 31, 116, 31, 81, 56, 91, 0, 16, 16, 106, 16, 71, 71, 106, 16, 46, 46, 116, 31, 81, 56, 91, 0, 8, 8, 99, 8, 64, 64, 99, 8, 39, 39, 123, 39, 88, 64, 99, 8, 24, 24, 113, 24, 78, 71, 106, 16, 53, 46, 116, 31, 81, 56, 91, 0, 4, 4, 95, 4, 60, 60, 95, 4, 35, 35, 120, 35, 85, 60, 95, 4, 20, 20, 110, 20, 75, 75, 110, 20, 50, 50, 120, 35, 85, 60, 95, 4, 12, 12, 103, 12, 68, 68, 103, 12, 43, 43, 123, 39, 88, 64, 99, 8, 28, 28, 113, 24, 78, 71, 106, 16, 53, 46, 116, 31, 81, 56, 91, 0, 2, 2, 93, 2, 58, 58, 93, 2, 33, 33, 118, 33, 83, 58, 93, 2, 18, 18, 108, 18, 73, 73, 108, 18, 48, 48, 118, 33, 83, 58, 93, 2, 10, 10, 101, 10, 66, 66, 101, 10, 41, 41, 125, 41, 90, 66, 101, 10, 26, 26, 115, 26, 80, 73, 108, 18, 55, 48, 118, 33, 83, 58, 93, 2, 6, 6, 97, 6, 62, 62, 97, 6, 37, 37, 122, 37, 87, 62, 97, 6, 22, 22, 112, 22, 77, 75, 110, 20, 52, 50, 120, 35, 85, 60, 95, 4, 14, 14, 105, 14, 70, 68, 103, 12, 45, 43, 123, 39, 88, 64, 99, 8, 30, 28, 113, 24, 78, 71, 106, 16, 53, 46, 116, 31, 81, 56, 91, 0, 1, 1, 92, 1, 57, 57, 92, 1, 32, 32, 117, 32, 82, 57, 92, 1, 17, 17, 107, 17, 72, 72, 107, 17, 47, 47, 117, 32, 82, 57, 92, 1, 9, 9, 100, 9, 65, 65, 100, 9, 40, 40, 124, 40, 89, 65, 100, 9, 25, 25, 114, 25, 79, 72, 107, 17, 54, 47, 117, 32, 82, 57, 92, 1, 5, 5, 96, 5, 61, 61, 96, 5, 36, 36, 121, 36, 86, 61, 96, 5, 21, 21, 111, 21, 76, 76, 111, 21, 51, 51, 121, 36, 86, 61, 96, 5, 13, 13, 104, 13, 69, 69, 104, 13, 44, 44, 124, 40, 89, 65, 100, 9, 29, 29, 114, 25, 79, 72, 107, 17, 54, 47, 117, 32, 82, 57, 92, 1, 3, 3, 94, 3, 59, 59, 94, 3, 34, 34, 119, 34, 84, 59, 94, 3, 19, 19, 109, 19, 74, 74, 109, 19, 49, 49, 119, 34, 84, 59, 94, 3, 11, 11, 102, 11, 67, 67, 102, 11, 42, 42, 125, 41, 90, 66, 101, 10, 27, 27, 115, 26, 80, 73, 108, 18, 55, 48, 118, 33, 83, 58, 93, 2, 7, 7, 98, 7, 63, 63, 98, 7, 38, 38, 122, 37, 87, 62, 97, 6, 23, 23, 112, 22, 77, 75, 110, 20, 52, 50, 120, 35, 85, 60, 95, 4, 15, 15, 105, 14, 70, 68, 103, 12, 45, 43, 123, 39, 88, 64, 99, 8, 30, 28, 113, 24, 78, 71, 106, 16, 53, 46, 116, 31, 81, 56, 91, 0]
def cmpB (a b : Nat) : Bool := (a &&& b == a) || (a &&& b == b)
def allPairs (c : List Nat) : Bool := c.all fun a => c.all fun b => cmpB a b
theorem chains_ok : chainsC.all allPairs = true := by decide +kernel
theorem chain_in : ((List.range 512).all fun a => decide (chainOf.getD a 0 < 126) && ((chainsC.getD (chainOf.getD a 0) []).contains a)) = true := by decide +kernel
theorem chain_lt (a : Nat) (h : a < 512) : chainOf.getD a 0 < 126 := by
  have := List.all_eq_true.1 chain_in a (List.mem_range.2 h)
  simp only [Bool.and_eq_true, decide_eq_true_eq] at this
  exact this.1
theorem chain_mem (a : Nat) (h : a < 512) : a ∈ chainsC.getD (chainOf.getD a 0) [] := by
  have := List.all_eq_true.1 chain_in a (List.mem_range.2 h)
  simp only [Bool.and_eq_true, List.contains_iff_mem] at this
  exact this.2
theorem chain_cmp (a b : Nat) (ha : a < 512) (hb : b < 512) (h : chainOf.getD a 0 = chainOf.getD b 0) : a &&& b = a ∨ a &&& b = b := by
  have h1 := chain_mem a ha
  have h2 := chain_mem b hb
  rw [← h] at h2
  generalize chainOf.getD a 0 = t at h1 h2
  have ht : t < chainsC.length := by
    rcases Nat.lt_or_ge t chainsC.length with h | h
    · exact h
    · rw [List.getD_eq_getElem?_getD, List.getElem?_eq_none h] at h1
      simp at h1
  rw [List.getD_eq_getElem?_getD, List.getElem?_eq_getElem ht, Option.getD_some] at h1 h2
  have h3 := List.all_eq_true.1 (List.all_eq_true.1 (List.all_eq_true.1 chains_ok _ (List.getElem_mem ht)) a h1) b h2
  simpa [cmpB] using h3
theorem nodup_le : ∀ (n : Nat) (l : List Nat), l.Nodup → (∀ x ∈ l, x < n) → l.length ≤ n
  | 0, l, _, h => by
    cases l with
    | nil => exact Nat.le_refl _
    | cons x l => exact absurd (h x List.mem_cons_self) (Nat.not_lt_zero _)
  | n + 1, l, hd, h => by
    have h1 := nodup_le n (l.erase n) (hd.erase n) (fun x hx => by
      have h2 := (hd.mem_erase_iff.1 hx)
      have := h x h2.2
      omega)
    rw [List.length_erase] at h1
    split at h1 <;> omega
theorem sperner (l : List Nat) (hl : ∀ x ∈ l, x < 512) (hp : l.Pairwise fun a b => ¬ (a &&& b = a) ∧ ¬ (a &&& b = b)) : l.length ≤ 126 := by
  have h := nodup_le 126 (l.map fun a => chainOf.getD a 0) (by
    rw [List.Nodup, List.pairwise_map]
    refine List.Pairwise.imp_of_mem (fun {a b} ha hb hab he => ?_) hp
    rcases chain_cmp a b (hl a ha) (hl b hb) he with e | e
    · exact hab.1 e
    · exact hab.2 e) (fun x hx => by
    obtain ⟨a, ha, rfl⟩ := List.mem_map.1 hx
    exact chain_lt a (hl a ha))
  simpa using h
def incB : List Int → Bool
  | a :: b :: l => decide (a < b) && incB (b :: l)
  | _ => true
theorem incB_short {l : List Int} (h : l.length ≤ 1) : incB l = true := by
  cases l with
  | nil => rfl
  | cons a l =>
    cases l with
    | nil => rfl
    | cons b l => simp at h
theorem incB_at (l : List Int) (i : Nat) (h0 : 0 < i) (h : i < l.length) : incB (l.drop (i - 1)) = (decide (l[i - 1] < l[i]) && incB (l.drop i)) := by
  rw [List.drop_eq_getElem_cons (show i - 1 < l.length by omega), show i - 1 + 1 = i by omega, List.drop_eq_getElem_cons h]
  rfl
theorem incB_lt {a : Int} {l : List Int} (h : incB (a :: l) = true) : ∀ x ∈ l, a < x := by
  induction l generalizing a with
  | nil => intro x hx; simp at hx
  | cons b l ih =>
    intro x hx
    simp only [incB, Bool.and_eq_true, decide_eq_true_eq] at h
    rcases List.mem_cons.1 hx with rfl | hx
    · exact h.1
    · have := ih h.2 x hx
      omega
theorem incB_tail {a : Int} {l : List Int} (h : incB (a :: l) = true) : incB l = true := by
  cases l with
  | nil => rfl
  | cons b l =>
    simp only [incB, Bool.and_eq_true] at h
    exact h.2
theorem incB_len (hi : Int) : ∀ (l : List Int) (lo : Int), incB l = true → lo ≤ hi → (∀ x ∈ l, lo ≤ x ∧ x < hi) → (l.length : Int) ≤ hi - lo
  | [], lo, _, h, _ => by simp; omega
  | a :: l, lo, h, _, hb => by
    have h1 := hb a List.mem_cons_self
    have h2 := incB_len hi l (a + 1) (incB_tail h) (by omega) (fun x hx => ⟨by have := incB_lt h x hx; omega, (hb x (List.mem_cons_of_mem _ hx)).2⟩)
    simp only [List.length_cons, Int.natCast_add]
    omega
def setB (n : Int) (l : List Int) : Bool := (l.all fun x => decide (0 ≤ x) && decide (x ≤ n - 1)) && incB l
theorem setB_in {n : Int} {l : List Int} (h : setB n l = true) : ∀ x ∈ l, 0 ≤ x ∧ x < n := by
  intro x hx
  simp only [setB, Bool.and_eq_true, List.all_eq_true] at h
  have := h.1 x hx
  simp at this
  omega
theorem setB_len {n : Int} {l : List Int} (h : setB n l = true) (h0 : 0 ≤ n) : (l.length : Int) ≤ n := by
  have h1 := setB_in h
  simp only [setB, Bool.and_eq_true] at h
  have := incB_len n l 0 h.2 h0 h1
  omega
def orBits (m : Nat) (l : List Int) : Nat := l.foldl (fun m x => m ||| 2 ^ x.toNat) m
def maskN (l : List Int) : Nat := orBits 0 l
theorem orBits_lt (n : Nat) : ∀ (l : List Int) (m : Nat), m < 2 ^ n → (∀ x ∈ l, 0 ≤ x ∧ x < (n : Int)) → orBits m l < 2 ^ n
  | [], m, h, _ => h
  | a :: l, m, h, hb => by
    have h1 := hb a List.mem_cons_self
    refine orBits_lt n l (m ||| 2 ^ a.toNat) (Nat.or_lt_two_pow h (Nat.pow_lt_pow_right (by omega) (by omega))) (fun x hx => hb x (List.mem_cons_of_mem _ hx))
theorem maskN_lt (n : Nat) (l : List Int) (hb : ∀ x ∈ l, 0 ≤ x ∧ x < (n : Int)) : maskN l < 2 ^ n := orBits_lt n l 0 (Nat.two_pow_pos n) hb
def mAt (l : List (List Int)) (i : Nat) : Nat := maskN (l.getD i [])
def gOrd (l : List (List Int)) (i : Nat) : Bool := decide (i = 0) || decide (cmpL (l.getD (i - 1) []) (l.getD i []) < 0)
def gInI (l : List (List Int)) (i j : Nat) : Bool := decide (j = i) || !(decide (mAt l i &&& mAt l j = mAt l j))
def gInS (l : List (List Int)) (i j : Nat) : Bool := !(decide (mAt l i &&& mAt l j = mAt l i)) && !(decide (mAt l i &&& mAt l j = mAt l j))
def gI (l : List (List Int)) (i : Nat) : Bool := gOrd l i && (List.range' 0 l.length).all (gInI l i)
def gS (l : List (List Int)) (i : Nat) : Bool := gOrd l i && (List.range' 0 i).all (gInS l i)
theorem gIS (l : List (List Int)) : (List.range' 0 l.length).all (gI l) = (List.range' 0 l.length).all (gS l) := by
  rw [Bool.eq_iff_iff, List.all_eq_true, List.all_eq_true]
  constructor
  · intro h i hi
    have h1 := h i hi
    rw [List.mem_range'_1] at hi
    simp only [gI, gS, Bool.and_eq_true, List.all_eq_true] at h1 ⊢
    refine ⟨h1.1, fun j hj => ?_⟩
    rw [List.mem_range'_1] at hj
    have h2 := h1.2 j (by rw [List.mem_range'_1]; omega)
    have h3 := h j (by rw [List.mem_range'_1]; omega)
    simp only [gI, Bool.and_eq_true, List.all_eq_true] at h3
    have h4 := h3.2 i (by rw [List.mem_range'_1]; omega)
    simp only [gInI, Bool.or_eq_true, decide_eq_true_eq, Bool.not_eq_true', decide_eq_false_iff_not] at h2 h4
    simp only [gInS, Bool.and_eq_true, Bool.not_eq_true', decide_eq_false_iff_not]
    refine ⟨fun e => ?_, fun e => ?_⟩
    · rcases h4 with h4 | h4
      · omega
      · rw [Nat.and_comm] at h4
        exact h4 e
    · rcases h2 with h2 | h2
      · omega
      · exact h2 e
  · intro h i hi
    have h1 := h i hi
    rw [List.mem_range'_1] at hi
    simp only [gI, gS, Bool.and_eq_true, List.all_eq_true] at h1 ⊢
    refine ⟨h1.1, fun j hj => ?_⟩
    rw [List.mem_range'_1] at hj
    simp only [gInI, Bool.or_eq_true, decide_eq_true_eq, Bool.not_eq_true', decide_eq_false_iff_not]
    by_cases e : j = i
    · exact .inl e
    · refine .inr fun e2 => ?_
      rcases Nat.lt_or_gt_of_ne e with hlt | hlt
      · have h2 := h1.2 j (by rw [List.mem_range'_1]; omega)
        simp only [gInS, Bool.and_eq_true, Bool.not_eq_true', decide_eq_false_iff_not] at h2
        exact h2.2 e2
      · have h3 := h j (by rw [List.mem_range'_1]; omega)
        simp only [gS, Bool.and_eq_true, List.all_eq_true] at h3
        have h4 := h3.2 i (by rw [List.mem_range'_1]; omega)
        simp only [gInS, Bool.and_eq_true, Bool.not_eq_true', decide_eq_false_iff_not] at h4
        rw [Nat.and_comm] at e2
        exact h4.1 e2
def setsB (n : Int) (l : List (List Int)) : Bool := l.all fun x => !(decide ((x.length : Int) = 0)) && setB n x
def gameB (n : Int) (l : List (List Int)) : Bool := (decide (1 ≤ n) && decide (n ≤ 9)) && (!(decide ((l.length : Int) = 0)) && (setsB n l && (List.range' 0 l.length).all (gS l)))
structure GoodG (n : Int) (l : List (List Int)) : Prop where
  n1 : 1 ≤ n
  n9 : n ≤ 9
  ne : l.length ≠ 0
  sets : ∀ x ∈ l, x.length ≠ 0 ∧ setB n x = true
  gs : ∀ i, i < l.length → gS l i = true
theorem game_iff (n : Int) (l : List (List Int)) : gameB n l = true ↔ GoodG n l := by
  simp only [gameB, setsB, Bool.and_eq_true, decide_eq_true_eq, Bool.not_eq_true', decide_eq_false_iff_not, List.all_eq_true]
  constructor
  · rintro ⟨⟨h1, h2⟩, h3, h4, h5⟩
    exact ⟨h1, h2, by omega, fun x hx => ⟨by have := (h4 x hx).1; omega, (h4 x hx).2⟩, fun i hi => h5 i (by rw [List.mem_range'_1]; omega)⟩
  · intro h
    exact ⟨⟨h.n1, h.n9⟩, by have := h.ne; omega, fun x hx => ⟨by have := (h.sets x hx).1; omega, (h.sets x hx).2⟩, fun i hi => h.gs i (by rw [List.mem_range'_1] at hi; omega)⟩
theorem setsB_mask {n : Int} {l : List (List Int)} (h : setsB n l = true) (h9 : n ≤ 9) : ∀ x ∈ l, (∀ y ∈ x, 0 ≤ y ∧ y ≤ 8) ∧ maskN x < 512 := by
  intro x hx
  simp only [setsB, List.all_eq_true, Bool.and_eq_true] at h
  have h1 := setB_in (h x hx).2
  have h2 : ∀ y ∈ x, 0 ≤ y ∧ y < ((9 : Nat) : Int) := fun y hy => by have := h1 y hy; omega
  exact ⟨fun y hy => by have := h1 y hy; omega, maskN_lt 9 x h2⟩
theorem game_few {n : Int} {l : List (List Int)} (h9 : n ≤ 9) (hs : setsB n l = true) (hg : (List.range' 0 l.length).all (gS l) = true) : l.length ≤ 126 := by
  have h := sperner (l.map maskN) (fun m hm => by
    obtain ⟨x, hx, rfl⟩ := List.mem_map.1 hm
    exact (setsB_mask hs h9 x hx).2) (by
    rw [List.pairwise_iff_getElem]
    intro i j hi hj hij
    rw [List.length_map] at hi hj
    have h1 := List.all_eq_true.1 hg j (by rw [List.mem_range'_1]; omega)
    simp only [gS, Bool.and_eq_true, List.all_eq_true] at h1
    have h2 := h1.2 i (by rw [List.mem_range'_1]; omega)
    simp only [gInS, Bool.and_eq_true, Bool.not_eq_true', decide_eq_false_iff_not] at h2
    rw [show mAt l i = maskN l[i] by simp [mAt, hi], show mAt l j = maskN l[j] by simp [mAt, hj]] at h2
    rw [List.getElem_map, List.getElem_map]
    refine ⟨fun e => h2.2 ?_, fun e => h2.1 ?_⟩
    · rw [Nat.and_comm]; exact e
    · rw [Nat.and_comm]; exact e)
  simpa using h
def winsG (n : Nat) (l : List (List Int)) : List Bool := (List.range (2 ^ n)).map fun m => l.any fun x => decide (m &&& maskN x = maskN x)
theorem winsG_length (n : Nat) (l : List (List Int)) : (winsG n l).length = 2 ^ n := by simp [winsG]
theorem winsG_get (n : Nat) (l : List (List Int)) (m : Nat) (h : m < (winsG n l).length) : (winsG n l)[m] = l.any fun x => decide (m &&& maskN x = maskN x) := by simp [winsG]
theorem impl_isIncreasing.ev_l (l : List Int) (hl : l.length ≤ 9223372036854775807) : ∀ (d i : Nat), i + d = l.length → Ev (fun k => impl_isIncreasing.l0 k l (l.length : Int) (i : Int)) (incB (l.drop (i - 1))) := by
  intro d
  induction d with
  | zero =>
    intro i h
    refine ev_step ?_
    simp only [impl_isIncreasing.l0]
    rw [ev_neg (by omega), ev_now, incB_short (by rw [List.length_drop]; omega)]
  | succ d ih =>
    intro i h
    refine ev_step ?_
    simp only [impl_isIncreasing.l0]
    have hi : i < l.length := by omega
    rw [ev_pos (by omega), w64i (n := l.length) (by omega) (by omega) hl]
    by_cases h0 : i = 0
    · subst h0
      rw [ev_neg (by omega)]
      exact ih 1 (by omega)
    · have e1 : (i : Int) - 1 = ((i - 1 : Nat) : Int) := by omega
      rw [ev_pos (by omega), ev_pos (by omega), ev_pos (by omega), w64 (by omega) (by omega), e1, ev_pos (by omega), ev_pos (by omega), rd_lt l i hi, rd_lt l (i - 1) (by omega), incB_at l i (by omega) hi]
      by_cases hc : l[i] ≤ l[i - 1]
      · rw [ev_pos hc, ev_now, decide_eq_false (by omega), Bool.false_and]
      · rw [ev_neg hc, decide_eq_true (by omega), Bool.true_and]
        have := ih (i + 1) (by omega)
        rw [Nat.add_sub_cancel] at this
        exact this
theorem impl_isIncreasing.ev (l : List Int) (hl : l.length ≤ 9223372036854775807) : Ev (fun k => impl_isIncreasing.f k l) (incB l) := impl_isIncreasing.ev_l l hl l.length 0 (by omega)
theorem impl_isSet.ev (l : List Int) (n : Int) (h0 : 0 ≤ n) (h9 : n ≤ 1000) (hl : l.length ≤ 9223372036854775807) : Ev (fun k => impl_isSet.f k l n) (setB n l) := by
  simp only [impl_isSet.f]
  rw [w64 (by omega) (by omega), ev_bind (ev_of (show impl_areIn.f l 0 (n - 1) = some _ from rfl))]
  unfold setB
  cases (l.all fun x => decide (0 ≤ x) && decide (x ≤ n - 1)) with
  | true => rw [ev_pos rfl, ev_bind (impl_isIncreasing.ev l hl), ev_now, Bool.true_and]
  | false => rw [ev_neg (by simp), ev_now, Bool.false_and]
theorem orBits_lt61 (l : List Int) (m : Nat) (hm : m < 2 ^ 61) (h : ∀ x ∈ l, 0 ≤ x ∧ x ≤ 60) : orBits m l < 2 ^ 61 := orBits_lt 61 l m hm (fun x hx => by have := h x hx; omega)
theorem impl_maskOf.ev_l (l : List Int) (hl : l.length ≤ 9223372036854775807) (hx : ∀ x ∈ l, 0 ≤ x ∧ x ≤ 60) : ∀ (d i m : Nat), i + d = l.length → m < 2 ^ 61 → Ev (fun k => impl_maskOf.l0 k (m : Int) l (l.length : Int) (i : Int)) ((orBits m (l.drop i) : Nat) : Int) := by
  intro d
  induction d with
  | zero =>
    intro i m h hm
    refine ev_step ?_
    simp only [impl_maskOf.l0]
    rw [ev_neg (by omega), ev_now, List.drop_of_length_le (by omega)]
    rfl
  | succ d ih =>
    intro i m h hm
    refine ev_step ?_
    simp only [impl_maskOf.l0]
    have hi : i < l.length := by omega
    have hxi := hx l[i] (List.getElem_mem hi)
    obtain ⟨c, hc⟩ := Int.eq_ofNat_of_zero_le hxi.1
    have hp : 2 ^ c ≤ 2 ^ 60 := Nat.pow_le_pow_right (by omega) (by omega)
    have ho : m ||| 2 ^ c < 2 ^ 61 := Nat.or_lt_two_pow hm (by omega)
    rw [ev_pos (by omega), ev_pos (by omega), ev_pos (by omega), rd_lt l i hi, hc, ev_pos (by omega), w64i (n := l.length) (by omega) (by omega) hl, shl_one c (by omega), or_nat m (2 ^ c) (by omega) (by omega)]
    have := ih (i + 1) (m ||| 2 ^ c) (by omega) ho
    rw [List.drop_eq_getElem_cons hi]
    show Ev _ ((orBits (m ||| 2 ^ l[i].toNat) (l.drop (i + 1)) : Nat) : Int)
    rw [hc]
    exact this
theorem impl_maskOf.ev (l : List Int) (hl : l.length ≤ 9223372036854775807) (hx : ∀ x ∈ l, 0 ≤ x ∧ x ≤ 60) : Ev (fun k => impl_maskOf.f k l) ((maskN l : Nat) : Int) := impl_maskOf.ev_l l hl hx l.length 0 0 (by omega) (by omega)
theorem cmp_Compare_int.v (a b : Int) : cmp_Compare_int.f a b = some (if a < b then -1 else if b < a then 1 else 0) := by
  have h : ∀ x : Int, cmp_isNaN_int.f x = some false := fun x => by simp [cmp_isNaN_int.f]
  simp only [cmp_Compare_int.f, h, Option.bind_some, Bool.false_eq_true, if_false]
  by_cases h1 : a < b
  · rw [if_pos h1, if_pos h1]
  · by_cases h2 : b < a
    · rw [if_neg h1, if_pos h2, if_neg h1, if_pos h2]
    · rw [if_neg h1, if_neg h2, if_neg h1, if_neg h2]
theorem slices_Compare_int_int.ev_l (a b : List Int) (ha : a.length ≤ 9223372036854775807) : ∀ (d i : Nat), i + d = a.length → i ≤ b.length → a.take i = b.take i → Ev (fun k => slices_Compare_int_int.l0 k a b a (a.length : Int) (i : Int)) (cmpL (a.drop i) (b.drop i)) := by
  intro d
  induction d with
  | zero =>
    intro i h hb _
    refine ev_step ?_
    simp only [slices_Compare_int_int.l0]
    rw [ev_neg (by omega), List.drop_of_length_le (by omega)]
    by_cases hc : (a.length : Int) < (b.length : Int)
    · rw [ev_pos hc, ev_now, List.drop_eq_getElem_cons (by omega)]
      rfl
    · rw [ev_neg hc, ev_now, List.drop_of_length_le (by omega)]
      rfl
  | succ d ih =>
    intro i h hb ht
    refine ev_step ?_
    simp only [slices_Compare_int_int.l0]
    have hi : i < a.length := by omega
    rw [ev_pos (by omega), ev_pos (by omega), ev_pos (by omega)]
    by_cases hc : (i : Int) ≥ (b.length : Int)
    · rw [ev_pos hc, ev_now, List.drop_eq_getElem_cons hi, List.drop_of_length_le (by omega : b.length ≤ i)]
      rfl
    · have hib : i < b.length := by omega
      rw [ev_neg hc, ev_pos (by omega), rd_lt a i hi, rd_lt b i hib, ev_bind (ev_of (cmp_Compare_int.v _ _)), w64i (n := a.length) (by omega) (by omega) ha, List.drop_eq_getElem_cons hi, List.drop_eq_getElem_cons hib]
      simp only [cmpL]
      by_cases h1 : a[i] < b[i]
      · rw [if_pos h1, ev_neg (by decide), ev_now, if_pos h1]
      · by_cases h2 : b[i] < a[i]
        · rw [if_neg h1, if_pos h2, ev_neg (by decide), ev_now, if_neg h1, if_pos h2]
        · rw [if_neg h1, if_neg h2, ev_pos rfl, if_neg h1, if_neg h2]
          refine ih (i + 1) (by omega) (by omega) ?_
          rw [List.take_succ_eq_append_getElem hi, List.take_succ_eq_append_getElem hib, ht, show a[i] = b[i] by omega]
theorem slices_Compare_int_int.ev (a b : List Int) (ha : a.length ≤ 9223372036854775807) : Ev (fun k => slices_Compare_int_int.f k a b) (cmpL a b) := slices_Compare_int_int.ev_l a b ha a.length 0 (by omega) (by omega) (by simp)
theorem impl_within.v (a b c : Int) : impl_within.f a b c = some (decide (b ≤ a) && decide (a ≤ c)) := by
  unfold impl_within.f
  by_cases h : b ≤ a
  · rw [if_pos h]; simp [h]
  · rw [if_neg h]; simp [h]
theorem impl_areSets.ev (l : List (List Int)) (n : Int) (h0 : 0 ≤ n) (h9 : n ≤ 1000) (hl : ∀ x ∈ l, x.length ≤ 9223372036854775807) : Ev (fun k => impl_areSets.f k l n) (setsB n l) := by
  simp only [impl_areSets.f]
  have h : Ev (fun k => anyO (impl_areSets_1.f k n) l) (l.any fun x => decide ((x.length : Int) = 0) || !(setB n x)) := by
    refine ev_anyO (fun x hx => ?_)
    simp only [impl_areSets_1.f]
    by_cases hc : (x.length : Int) = 0
    · rw [ev_pos hc, ev_now, decide_eq_true hc, Bool.true_or]
    · rw [ev_neg hc, ev_bind (impl_isSet.ev x n h0 h9 (hl x hx)), ev_now, decide_eq_false hc, Bool.false_or]
  rw [ev_bind h, ev_now, setsB]
  clear h hl
  induction l with
  | nil => rfl
  | cons x l ih => rw [List.any_cons, List.all_cons, ← ih, Bool.not_or, Bool.not_or, Bool.not_not]
theorem gOrd_pos (l : List (List Int)) (i : Nat) (h0 : i ≠ 0) (hi : i < l.length) : gOrd l i = decide (cmpL (l[i - 1]'(by omega)) l[i] < 0) := by
  unfold gOrd
  rw [decide_eq_false h0, Bool.false_or, List.getD_eq_getElem?_getD, List.getD_eq_getElem?_getD, List.getElem?_eq_getElem hi, List.getElem?_eq_getElem (show i - 1 < l.length by omega)]
  rfl
theorem mAt_lt (l : List (List Int)) (i : Nat) (hi : i < l.length) : mAt l i = maskN l[i] := by simp [mAt, hi]
theorem impl_IsGame.ev_l1 (n : Int) (l : List (List Int)) (hl : l.length ≤ 9223372036854775807) (hs : ∀ x ∈ l, x.length ≤ 9223372036854775807 ∧ (∀ y ∈ x, 0 ≤ y ∧ y ≤ 8) ∧ maskN x < 512) (i : Nat) (hi : i < l.length) (R : Bool) (hR : Ev (fun k => impl_IsGame.l0 k l (l.length : Int) ((i : Int) + 1) n l) R) : ∀ (d j : Nat), j + d = l.length → Ev (fun k => impl_IsGame.l1 k (i : Int) l[i] l (l.length : Int) (i : Int) l (l.length : Int) (j : Int) n l) ((List.range' j d).all (gInI l i) && R) := by
  intro d
  induction d with
  | zero =>
    intro j h
    refine ev_step ?_
    simp only [impl_IsGame.l1]
    rw [ev_neg (by omega), w64i (n := l.length) (by omega) (by omega) hl]
    exact hR
  | succ d ih =>
    intro j h
    refine ev_step ?_
    simp only [impl_IsGame.l1]
    have hj : j < l.length := by omega
    rw [ev_pos (by omega), ev_pos (by omega), ev_pos (by omega), w64i (i := (j : Int)) (n := l.length) (by omega) (by omega) hl, List.range'_succ, List.all_cons]
    by_cases e : j = i
    · rw [ev_pos (by omega), show gInI l i j = true by simp [gInI, e], Bool.true_and]
      exact ih (j + 1) (by omega)
    · obtain ⟨hx1, hx2, hx3⟩ := hs l[i] (List.getElem_mem hi)
      obtain ⟨hy1, hy2, hy3⟩ := hs l[j] (List.getElem_mem hj)
      have m1 := impl_maskOf.ev l[i] hx1 (fun y hy => by have := hx2 y hy; omega)
      have m2 := impl_maskOf.ev l[j] hy1 (fun y hy => by have := hy2 y hy; omega)
      rw [ev_neg (by omega), ev_bind m1, rd_L2_lt l j hj, ev_bind m2, ev_bind m2, and_nat _ _ (by omega) (by omega)]
      by_cases c : maskN l[i] &&& maskN l[j] = maskN l[j]
      · rw [ev_pos (by rw [c]), ev_now, gInI, mAt_lt l i hi, mAt_lt l j hj, decide_eq_false e, decide_eq_true c]
        rfl
      · rw [ev_neg (by omega), gInI, mAt_lt l i hi, mAt_lt l j hj, decide_eq_false e, decide_eq_false c]
        exact ih (j + 1) (by omega)
theorem impl_IsGame.ev_l0 (n : Int) (l : List (List Int)) (hl : l.length ≤ 9223372036854775807) (hs : ∀ x ∈ l, x.length ≤ 9223372036854775807 ∧ (∀ y ∈ x, 0 ≤ y ∧ y ≤ 8) ∧ maskN x < 512) : ∀ (d i : Nat), i + d = l.length → Ev (fun k => impl_IsGame.l0 k l (l.length : Int) (i : Int) n l) ((List.range' i d).all (gI l)) := by
  intro d
  induction d with
  | zero =>
    intro i h
    refine ev_step ?_
    simp only [impl_IsGame.l0]
    rw [ev_neg (by omega), ev_now]
    rfl
  | succ d ih =>
    intro i h
    refine ev_step ?_
    simp only [impl_IsGame.l0]
    have hi : i < l.length := by omega
    rw [ev_pos (by omega), ev_pos (by omega), ev_pos (by omega), rd_L2_lt l i hi, List.range'_succ, List.all_cons]
    have hin : Ev (fun k => impl_IsGame.l1 k (i : Int) l[i] l (l.length : Int) (i : Int) l (l.length : Int) ((0 : Nat) : Int) n l) ((List.range' 0 l.length).all (gInI l i) && (List.range' (i + 1) d).all (gI l)) := impl_IsGame.ev_l1 n l hl hs i hi _ (by have := ih (i + 1) (by omega); exact this) l.length 0 (by omega)
    by_cases e : i = 0
    · rw [ev_neg (by omega)]
      refine ev_step ?_
      simp only [impl_IsGame.j2]
      rw [ev_neg (by decide), gI, show gOrd l i = true by simp [gOrd, e], Bool.true_and]
      exact hin
    · have e1 : (i : Int) - 1 = ((i - 1 : Nat) : Int) := by omega
      rw [ev_pos (by omega), w64 (by omega) (by omega), e1, ev_pos (by omega), ev_pos (by omega), rd_L2_lt l (i - 1) (by omega), ev_bind (slices_Compare_int_int.ev _ _ (hs _ (List.getElem_mem (by omega))).1)]
      refine ev_step ?_
      simp only [impl_IsGame.j2]
      rw [gI, gOrd_pos l i e hi]
      by_cases c : cmpL (l[i - 1]'(by omega)) l[i] < 0
      · rw [ev_neg (by simp; omega), decide_eq_true c, Bool.true_and]
        exact hin
      · rw [ev_pos (by simp; omega), ev_now, decide_eq_false c]
        rfl
theorem impl_IsGame.ev (n : Int) (l : List (List Int)) (hl : l.length ≤ 9223372036854775807) (hx : ∀ x ∈ l, x.length ≤ 9223372036854775807) : Ev (fun k => impl_IsGame.f k n l) (gameB n l) := by
  simp only [impl_IsGame.f]
  rw [ev_bind (ev_of (impl_within.v _ _ _)), gameB]
  cases h1 : (decide (1 ≤ n) && decide (n ≤ 9)) with
  | false =>
    rw [ev_neg (by decide)]
    refine ev_step ?_
    simp only [impl_IsGame.j0]
    rw [ev_pos trivial, ev_now]
    rfl
  | true =>
    simp only [Bool.and_eq_true, decide_eq_true_eq] at h1
    rw [ev_pos rfl, Bool.true_and]
    by_cases h2 : (l.length : Int) = 0
    · rw [ev_pos h2, decide_eq_true h2]
      refine ev_step ?_
      simp only [impl_IsGame.j0]
      rw [ev_pos trivial, ev_now]
      rfl
    · rw [ev_neg h2, decide_eq_false h2, ev_bind (impl_areSets.ev l n (by omega) (by omega) hx)]
      refine ev_step ?_
      simp only [impl_IsGame.j0]
      cases h3 : setsB n l with
      | false =>
        rw [ev_pos (by decide), ev_now]
        rfl
      | true =>
        rw [ev_neg (by decide), ← gIS]
        exact impl_IsGame.ev_l0 n l hl (fun x hx' => ⟨hx x hx', setsB_mask h3 (by omega) x hx'⟩) l.length 0 (by omega)
theorem spec_l1In.v (a b c : Int) : spec_l1In.f a b c = some (decide (b ≤ a) && decide (a ≤ c)) := by
  unfold spec_l1In.f
  by_cases h : b ≤ a
  · rw [if_pos h]; simp [h]
  · rw [if_neg h]; simp [h]
theorem spec_voBits.ev_l (l : List Int) (hl : l.length ≤ 9223372036854775807) (hx : ∀ x ∈ l, 0 ≤ x ∧ x ≤ 60) : ∀ (d i m : Nat), i + d = l.length → m < 2 ^ 61 → Ev (fun k => spec_voBits.l0 k (m : Int) l (l.length : Int) (i : Int)) ((orBits m (l.drop i) : Nat) : Int) := by
  intro d
  induction d with
  | zero =>
    intro i m h hm
    refine ev_step ?_
    simp only [spec_voBits.l0]
    rw [ev_neg (by omega), ev_now, List.drop_of_length_le (by omega)]
    rfl
  | succ d ih =>
    intro i m h hm
    refine ev_step ?_
    simp only [spec_voBits.l0]
    have hi : i < l.length := by omega
    have hxi := hx l[i] (List.getElem_mem hi)
    obtain ⟨c, hc⟩ := Int.eq_ofNat_of_zero_le hxi.1
    have hp : 2 ^ c ≤ 2 ^ 60 := Nat.pow_le_pow_right (by omega) (by omega)
    have ho : m ||| 2 ^ c < 2 ^ 61 := Nat.or_lt_two_pow hm (by omega)
    rw [ev_pos (by omega), ev_pos (by omega), ev_pos (by omega), rd_lt l i hi, hc, ev_pos (by omega), w64i (n := l.length) (by omega) (by omega) hl, shl_one c (by omega), or_nat m (2 ^ c) (by omega) (by omega)]
    have := ih (i + 1) (m ||| 2 ^ c) (by omega) ho
    rw [List.drop_eq_getElem_cons hi]
    show Ev _ ((orBits (m ||| 2 ^ l[i].toNat) (l.drop (i + 1)) : Nat) : Int)
    rw [hc]
    exact this
theorem spec_voBits.ev (l : List Int) (hl : l.length ≤ 9223372036854775807) (hx : ∀ x ∈ l, 0 ≤ x ∧ x ≤ 60) : Ev (fun k => spec_voBits.f k l) ((maskN l : Nat) : Int) := spec_voBits.ev_l l hl hx l.length 0 0 (by omega) (by omega)
theorem spec_l1Rising.ev_l (l : List Int) (lo hi : Int) (hl : l.length ≤ 9223372036854775807) : ∀ (d i : Nat), i + d = l.length → Ev (fun k => spec_l1Rising.l0 k l lo hi l (l.length : Int) (i : Int)) (((l.drop i).all fun x => decide (lo ≤ x) && decide (x ≤ hi)) && incB (l.drop (i - 1))) := by
  intro d
  induction d with
  | zero =>
    intro i h
    refine ev_step ?_
    simp only [spec_l1Rising.l0]
    rw [ev_neg (by omega), ev_now, incB_short (by rw [List.length_drop]; omega), List.drop_of_length_le (by omega)]
    rfl
  | succ d ih =>
    intro i h
    refine ev_step ?_
    simp only [spec_l1Rising.l0]
    have hi' : i < l.length := by omega
    rw [ev_pos (by omega), ev_pos (by omega), ev_pos (by omega), w64i (n := l.length) (by omega) (by omega) hl, rd_lt l i hi', ev_bind (ev_of (spec_l1In.v _ _ _)), show (l.drop i).all (fun x => decide (lo ≤ x) && decide (x ≤ hi)) = ((decide (lo ≤ l[i]) && decide (l[i] ≤ hi)) && (l.drop (i + 1)).all fun x => decide (lo ≤ x) && decide (x ≤ hi)) by rw [List.drop_eq_getElem_cons hi', List.all_cons]]
    cases hb : (decide (lo ≤ l[i]) && decide (l[i] ≤ hi)) with
    | false =>
      rw [ev_neg (by decide), ev_now]
      simp
    | true =>
      rw [ev_pos rfl, Bool.true_and]
      by_cases h0 : i = 0
      · subst h0
        rw [ev_neg (by omega)]
        exact ih 1 (by omega)
      · have e1 : (i : Int) - 1 = ((i - 1 : Nat) : Int) := by omega
        rw [ev_pos (by omega), w64 (by omega) (by omega), e1, ev_pos (by omega), ev_pos (by omega), rd_lt l (i - 1) (by omega), incB_at l i (by omega) hi']
        by_cases hc : l[i - 1] ≥ l[i]
        · rw [ev_pos hc, ev_now, decide_eq_false (by omega)]
          simp
        · rw [ev_neg hc, decide_eq_true (by omega), Bool.true_and]
          have := ih (i + 1) (by omega)
          rw [Nat.add_sub_cancel] at this
          exact this
theorem spec_voSet.ev (n : Int) (l : List Int) (h0 : 0 ≤ n) (h9 : n ≤ 1000) (hl : l.length ≤ 9223372036854775807) : Ev (fun k => spec_voSet.f k n l) (setB n l) := by
  simp only [spec_voSet.f]
  have h := spec_l1Rising.ev_l l 0 (n - 1) hl l.length 0 (by omega)
  rw [List.drop_zero] at h
  rw [w64 (by omega) (by omega), ev_bind (show Ev (fun k => spec_l1Rising.f k l 0 (n - 1)) (setB n l) from h), ev_now]
theorem spec_gmSets.ev_l (n : Int) (l : List (List Int)) (h0 : 0 ≤ n) (h9 : n ≤ 1000) (hl : l.length ≤ 9223372036854775807) (hx : ∀ x ∈ l, x.length ≤ 9223372036854775807) : ∀ (d i : Nat), i + d = l.length → Ev (fun k => spec_gmSets.l0 k n l (l.length : Int) (i : Int)) (setsB n (l.drop i)) := by
  intro d
  induction d with
  | zero =>
    intro i h
    refine ev_step ?_
    simp only [spec_gmSets.l0]
    rw [ev_neg (by omega), ev_now, List.drop_of_length_le (by omega)]
    rfl
  | succ d ih =>
    intro i h
    refine ev_step ?_
    simp only [spec_gmSets.l0]
    have hi : i < l.length := by omega
    have e : setsB n (l.drop i) = ((!(decide ((l[i].length : Int) = 0)) && setB n l[i]) && setsB n (l.drop (i + 1))) := by
      unfold setsB
      rw [List.drop_eq_getElem_cons hi, List.all_cons]
    rw [ev_pos (by omega), ev_pos (by omega), ev_pos (by omega), w64i (n := l.length) (by omega) (by omega) hl, rd_L2_lt l i hi, e]
    by_cases hc : (l[i].length : Int) = 0
    · rw [ev_pos hc, ev_now, decide_eq_true hc]
      rfl
    · rw [ev_neg hc, decide_eq_false hc, ev_bind (spec_voSet.ev n l[i] h0 h9 (hx _ (List.getElem_mem hi)))]
      cases setB n l[i] with
      | true =>
        rw [ev_pos rfl]
        exact ih (i + 1) (by omega)
      | false =>
        rw [ev_neg (by decide), ev_now]
        rfl
theorem spec_gmSets.ev (n : Int) (l : List (List Int)) (most : Int) (hl : l.length ≤ 9223372036854775807) (hx : ∀ x ∈ l, x.length ≤ 9223372036854775807) : Ev (fun k => spec_gmSets.f k n l most) ((decide (1 ≤ n) && decide (n ≤ 9)) && ((decide (1 ≤ (l.length : Int)) && decide ((l.length : Int) ≤ most)) && setsB n l)) := by
  simp only [spec_gmSets.f]
  rw [ev_bind (ev_of (spec_l1In.v _ _ _))]
  cases h1 : (decide (1 ≤ n) && decide (n ≤ 9)) with
  | false =>
    rw [ev_neg (by decide)]
    refine ev_step ?_
    simp only [spec_gmSets.j0]
    rw [ev_pos trivial, ev_now]
    rfl
  | true =>
    simp only [Bool.and_eq_true, decide_eq_true_eq] at h1
    rw [ev_pos rfl, ev_bind (ev_of (spec_l1In.v _ _ _)), Bool.true_and]
    refine ev_step ?_
    simp only [spec_gmSets.j0]
    cases (decide (1 ≤ (l.length : Int)) && decide ((l.length : Int) ≤ most)) with
    | false =>
      rw [ev_pos (by decide), ev_now]
      rfl
    | true =>
      rw [ev_neg (by decide), Bool.true_and]
      exact spec_gmSets.ev_l n l (by omega) (by omega) hl hx l.length 0 (by omega)
theorem spec_gmGood.ev_l1 (n : Int) (l : List (List Int)) (hl : l.length ≤ 9223372036854775807) (hs : ∀ x ∈ l, x.length ≤ 9223372036854775807 ∧ (∀ y ∈ x, 0 ≤ y ∧ y ≤ 8) ∧ maskN x < 512) (i : Nat) (hi : i < l.length) (R : Bool) (hR : Ev (fun k => spec_gmGood.l0 k l (l.length : Int) ((i : Int) + 1) n l) R) : ∀ (d j : Nat), j + d = i → Ev (fun k => spec_gmGood.l1 k ((maskN l[i] : Nat) : Int) l (l.length : Int) (i : Int) (l.take i) ((l.take i).length : Int) (j : Int) n l) ((List.range' j d).all (gInS l i) && R) := by
  have ht : (l.take i).length = i := by rw [List.length_take]; omega
  intro d
  induction d with
  | zero =>
    intro j h
    refine ev_step ?_
    simp only [spec_gmGood.l1]
    rw [ev_neg (by omega), w64i (n := l.length) (by omega) (by omega) hl]
    exact hR
  | succ d ih =>
    intro j h
    refine ev_step ?_
    simp only [spec_gmGood.l1]
    have hj : j < l.length := by omega
    have hjt : j < (l.take i).length := by omega
    obtain ⟨hx1, hx2, hx3⟩ := hs l[i] (List.getElem_mem hi)
    obtain ⟨hy1, hy2, hy3⟩ := hs l[j] (List.getElem_mem hj)
    have m2 := spec_voBits.ev l[j] hy1 (fun y hy => by have := hy2 y hy; omega)
    rw [ev_pos (by omega), ev_pos (by omega), ev_pos (by omega), w64i (i := (j : Int)) (n := l.length) (by omega) (by omega) hl, List.range'_succ, List.all_cons, rd_L2_lt (l.take i) j hjt, List.getElem_take, ev_bind m2, and_nat _ _ (by omega) (by omega), gInS, mAt_lt l i hi, mAt_lt l j hj]
    by_cases c : maskN l[i] &&& maskN l[j] = maskN l[i]
    · rw [ev_pos (by rw [c]), ev_now, decide_eq_true c]
      rfl
    · rw [ev_neg (by omega), decide_eq_false c]
      by_cases c2 : maskN l[i] &&& maskN l[j] = maskN l[j]
      · rw [ev_pos (by rw [c2]), ev_now, decide_eq_true c2]
        rfl
      · rw [ev_neg (by omega), decide_eq_false c2]
        exact ih (j + 1) (by omega)
theorem spec_gmGood.ev_l0 (n : Int) (l : List (List Int)) (hl : l.length ≤ 9223372036854775807) (hs : ∀ x ∈ l, x.length ≤ 9223372036854775807 ∧ (∀ y ∈ x, 0 ≤ y ∧ y ≤ 8) ∧ maskN x < 512) : ∀ (d i : Nat), i + d = l.length → Ev (fun k => spec_gmGood.l0 k l (l.length : Int) (i : Int) n l) ((List.range' i d).all (gS l)) := by
  intro d
  induction d with
  | zero =>
    intro i h
    refine ev_step ?_
    simp only [spec_gmGood.l0]
    rw [ev_neg (by omega), ev_now]
    rfl
  | succ d ih =>
    intro i h
    refine ev_step ?_
    simp only [spec_gmGood.l0]
    have hi : i < l.length := by omega
    obtain ⟨hx1, hx2, hx3⟩ := hs l[i] (List.getElem_mem hi)
    have m1 := spec_voBits.ev l[i] hx1 (fun y hy => by have := hx2 y hy; omega)
    rw [ev_pos (by omega), ev_pos (by omega), ev_pos (by omega), rd_L2_lt l i hi, List.range'_succ, List.all_cons]
    have hin : Ev (fun k => spec_gmGood.l1 k ((maskN l[i] : Nat) : Int) l (l.length : Int) (i : Int) (l.take i) ((l.take i).length : Int) ((0 : Nat) : Int) n l) ((List.range' 0 i).all (gInS l i) && (List.range' (i + 1) d).all (gS l)) := spec_gmGood.ev_l1 n l hl hs i hi _ (by have := ih (i + 1) (by omega); exact this) i 0 (by omega)
    by_cases e : i = 0
    · rw [ev_neg (by omega)]
      refine ev_step ?_
      simp only [spec_gmGood.j1]
      rw [ev_neg (by decide), ev_bind m1, ev_pos (by omega), ev_pos (by omega), Int.toNat_natCast, gS, show gOrd l i = true by simp [gOrd, e], Bool.true_and]
      exact hin
    · have e1 : (i : Int) - 1 = ((i - 1 : Nat) : Int) := by omega
      rw [ev_pos (by omega), w64 (by omega) (by omega), e1, ev_pos (by omega), ev_pos (by omega), rd_L2_lt l (i - 1) (by omega), ev_bind (spec_voBefore.ev _ _ (hs _ (List.getElem_mem (by omega))).1)]
      refine ev_step ?_
      simp only [spec_gmGood.j1]
      rw [gS, gOrd_pos l i e hi]
      by_cases c : cmpL (l[i - 1]'(by omega)) l[i] < 0
      · rw [ev_neg (by simp [c]), decide_eq_true c, Bool.true_and, ev_bind m1, ev_pos (by omega), ev_pos (by omega), Int.toNat_natCast]
        exact hin
      · rw [ev_pos (by simp; omega), ev_now, decide_eq_false c]
        rfl
theorem spec_gmGood.ev (n : Int) (l : List (List Int)) (hl : l.length ≤ 9223372036854775807) (hx : ∀ x ∈ l, x.length ≤ 9223372036854775807) : Ev (fun k => spec_gmGood.f k n l) (gameB n l) := by
  simp only [spec_gmGood.f]
  rw [ev_bind (spec_gmSets.ev n l 126 hl hx), gameB]
  cases h1 : (decide (1 ≤ n) && decide (n ≤ 9)) with
  | false =>
    rw [ev_neg (by simp), ev_now]
    rfl
  | true =>
    simp only [Bool.and_eq_true, decide_eq_true_eq] at h1
    rw [Bool.true_and, Bool.true_and]
    by_cases h2 : (l.length : Int) = 0
    · rw [decide_eq_false (show ¬ (1 ≤ (l.length : Int)) by omega), ev_neg (by simp), ev_now, decide_eq_true h2]
      rfl
    · rw [decide_eq_true (show 1 ≤ (l.length : Int) by omega), decide_eq_false h2]
      cases h3 : setsB n l with
      | false =>
        rw [ev_neg (by simp), ev_now]
        rfl
      | true =>
        have hs : ∀ x ∈ l, x.length ≤ 9223372036854775807 ∧ (∀ y ∈ x, 0 ≤ y ∧ y ≤ 8) ∧ maskN x < 512 := fun x hx' => ⟨hx x hx', setsB_mask h3 (by omega) x hx'⟩
        have hfull := spec_gmGood.ev_l0 n l hl hs l.length 0 (by omega)
        by_cases h4 : (l.length : Int) ≤ 126
        · rw [ev_pos (by simp [h4])]
          exact hfull
        · rw [ev_neg (by simp [h4]), ev_now]
          cases h5 : (List.range' 0 l.length).all (gS l) with
          | false => rfl
          | true => exact absurd (game_few (by omega) h3 h5) (by omega)
theorem spec_voAll.v (n : Nat) (hn : n ≤ 60) : spec_voAll.f (n : Int) = some ((2 ^ n - 1 : Nat) : Int) := by
  unfold spec_voAll.f
  have h0 : 0 < 2 ^ n := Nat.two_pow_pos n
  have h : 2 ^ n ≤ 2 ^ 60 := Nat.pow_le_pow_right (by omega) hn
  rw [if_pos (by omega), shl_one n (by omega), w64 (by omega) (by omega)]
  congr 1
  omega
theorem spec_gmWins.ev_l1 (l : List (List Int)) (hl : l.length ≤ 1000000) (hs : ∀ x ∈ l, x.length ≤ 9223372036854775807 ∧ (∀ y ∈ x, 0 ≤ y ∧ y ≤ 60)) (N m : Nat) (hm : m < N) (hN : N ≤ 1000000) (R : List Bool) : ∀ (d j : Nat) (acc : List Bool) (ha : acc.length = N), j + d = l.length → Ev (fun k => spec_gmWins.l0 k l (acc.set m ((acc[m]'(by omega)) || ((l.drop j).any fun x => decide (m &&& maskN x = maskN x)))) (N : Int) ((m : Int) + 1)) R → Ev (fun k => spec_gmWins.l1 k l acc (m : Int) (N : Int) (m : Int) l (l.length : Int) (j : Int)) R := by
  intro d
  induction d with
  | zero =>
    intro j acc ha h hR
    refine ev_step ?_
    simp only [spec_gmWins.l1]
    rw [List.drop_of_length_le (by omega), List.any_nil, Bool.or_false, List.set_getElem_self] at hR
    rw [ev_neg (by omega), w64i (n := N) (by omega) (by omega) (by omega)]
    exact hR
  | succ d ih =>
    intro j acc ha h hR
    refine ev_step ?_
    simp only [spec_gmWins.l1]
    have hj : j < l.length := by omega
    have hma : m < acc.length := by omega
    have hx := hs l[j] (List.getElem_mem hj)
    have hlt : maskN l[j] < 2 ^ 61 := orBits_lt61 l[j] 0 (by omega) hx.2
    rw [ev_pos (by omega), ev_pos (by omega), ev_pos (by omega), w64i (i := (j : Int)) (n := l.length) (by omega) (by omega) (by omega), rd_L2_lt l j hj, ev_bind (spec_voBits.ev l[j] hx.1 hx.2), ev_pos (by omega), ev_pos (by omega), rdOf_lt false acc m hma, Int.toNat_natCast, and_nat m (maskN l[j]) (by omega) (by omega)]
    rw [List.drop_eq_getElem_cons hj, List.any_cons] at hR
    by_cases c : acc[m] = true
    · rw [ev_pos c]
      refine ih (j + 1) (acc.set m true) (by simpa using ha) (by omega) ?_
      rw [c, Bool.true_or] at hR
      rw [List.getElem_set_self, List.set_set, Bool.true_or]
      exact hR
    · rw [ev_neg c]
      refine ih (j + 1) (acc.set m _) (by simpa using ha) (by omega) ?_
      rw [List.getElem_set_self, List.set_set]
      rw [Bool.eq_false_iff.2 c, Bool.false_or] at hR
      have e : ((((m &&& maskN l[j] : Nat) : Int) == ((maskN l[j] : Nat) : Int))) = decide (m &&& maskN l[j] = maskN l[j]) := by
        by_cases c2 : m &&& maskN l[j] = maskN l[j]
        · rw [decide_eq_true c2, c2, beq_self_eq_true]
        · rw [decide_eq_false c2]
          exact beq_eq_false_iff_ne.2 (by omega)
      rw [e]
      exact hR
theorem spec_gmWins.ev_l0 (n : Nat) (hn : n ≤ 18) (l : List (List Int)) (hl : l.length ≤ 1000000) (hs : ∀ x ∈ l, x.length ≤ 9223372036854775807 ∧ (∀ y ∈ x, 0 ≤ y ∧ y ≤ 60)) : ∀ (d m : Nat) (acc : List Bool), m + d = 2 ^ n → acc.length = 2 ^ n → acc.take m = (winsG n l).take m → (∀ j (h : j < acc.length), m ≤ j → acc[j] = false) → Ev (fun k => spec_gmWins.l0 k l acc ((2 ^ n : Nat) : Int) (m : Int)) (winsG n l) := by
  have hp : 2 ^ n ≤ 2 ^ 18 := Nat.pow_le_pow_right (by omega) hn
  have hwl := winsG_length n l
  intro d
  induction d with
  | zero =>
    intro m acc h ha ht hf
    refine ev_step ?_
    simp only [spec_gmWins.l0]
    rw [ev_neg (by omega), ev_now]
    rw [List.take_of_length_le (by omega), List.take_of_length_le (by omega)] at ht
    exact ht
  | succ d ih =>
    intro m acc h ha ht hf
    refine ev_step ?_
    simp only [spec_gmWins.l0]
    have hma : m < acc.length := by omega
    rw [ev_pos (by omega)]
    refine spec_gmWins.ev_l1 l hl hs (2 ^ n) m (by omega) (by omega) (winsG n l) l.length 0 acc ha (by omega) ?_
    rw [hf m hma (Nat.le_refl m), Bool.false_or, List.drop_zero]
    refine ih (m + 1) _ (by omega) (by simpa using ha) ?_ ?_
    · rw [List.take_succ_eq_append_getElem (by simpa using hma), List.take_succ_eq_append_getElem (by omega), List.take_set_of_le (by omega), ht, List.getElem_set_self, winsG_get]
    · intro j hj hmj
      rw [List.length_set] at hj
      rw [List.getElem_set_ne (by omega)]
      exact hf j hj (by omega)
theorem spec_gmWins.ev (n : Nat) (hn : n ≤ 18) (l : List (List Int)) (hl : l.length ≤ 1000000) (hs : ∀ x ∈ l, x.length ≤ 9223372036854775807 ∧ (∀ y ∈ x, 0 ≤ y ∧ y ≤ 60)) : Ev (fun k => spec_gmWins.f k (n : Int) l) (winsG n l) := by
  have hp : 2 ^ n ≤ 2 ^ 18 := Nat.pow_le_pow_right (by omega) hn
  have h0 : 0 < 2 ^ n := Nat.two_pow_pos n
  simp only [spec_gmWins.f]
  have e : (((2 ^ n - 1 : Nat) : Int) + 1) = ((2 ^ n : Nat) : Int) := by omega
  rw [ev_bind (ev_of (spec_voAll.v n (by omega))), e, w64 (by omega) (by omega), ev_pos (by omega), ev_pos (by rw [Int.toNat_natCast]; omega), Int.toNat_natCast]
  simp only [Option.bind_some, List.length_replicate]
  exact spec_gmWins.ev_l0 n hn l hl hs (2 ^ n) 0 _ (by omega) (by simp) (by simp) (fun j h _ => by simp)
theorem spec_gmAll.ev (n : Nat) (hn : n ≤ 18) (l : List (List Int)) (hl : l.length ≤ 1000000) (hs : ∀ x ∈ l, x.length ≤ 9223372036854775807 ∧ (∀ y ∈ x, 0 ≤ y ∧ y ≤ 60)) : Ev (fun k => spec_gmAll.f k (n : Int) l) (winsG n l) := by
  simp only [spec_gmAll.f]
  rw [ev_bind (spec_gmWins.ev n hn l hl hs), ev_now]
theorem good_sets {n : Int} {l : List (List Int)} (h : GoodG n l) : l.length ≤ 126 ∧ ∀ x ∈ l, x.length ≤ 9223372036854775807 ∧ (∀ y ∈ x, 0 ≤ y ∧ y ≤ 60) := by
  have h9 := h.n9
  have h1 := h.n1
  have hg := (game_iff n l).2 h
  simp only [gameB, Bool.and_eq_true] at hg
  refine ⟨game_few h9 hg.2.2.1 hg.2.2.2, fun x hx => ⟨?_, fun y hy => ?_⟩⟩
  · have := setB_len (h.sets x hx).2 (by omega)
    omega
  · have := setB_in (h.sets x hx).2 y hy
    omega
theorem impl_votesOf.at_l (n N : Nat) (hN : N ≤ 1000000) (P : Int → Option Bool) (p : Nat → Bool) (hP : ∀ m, m < N → P (m : Int) = some (p m)) : ∀ (d m k : Nat) (acc : List Bool), m + d = N → d < k → acc.length = N → acc.take m = ((List.range N).map p).take m → impl_votesOf.l0 k P (N : Int) (m : Int) (n : Int) acc = some ((n : Int), (List.range N).map p) := by
  intro d
  induction d with
  | zero =>
    intro m k acc h hk hlen ht
    obtain ⟨k, rfl⟩ : ∃ j, k = j + 1 := ⟨k - 1, by omega⟩
    simp only [impl_votesOf.l0]
    rw [List.take_of_length_le (by omega), List.take_of_length_le (by simp; omega)] at ht
    rw [if_neg (by omega), ht]
  | succ d ih =>
    intro m k acc h hk hlen ht
    obtain ⟨k, rfl⟩ : ∃ j, k = j + 1 := ⟨k - 1, by omega⟩
    have hm : m < N := by omega
    simp only [impl_votesOf.l0]
    rw [if_pos (by omega), hP m hm, Option.bind_some, if_pos (by omega), if_pos (by omega), w64i (n := N) (by omega) (by omega) (by omega), Int.toNat_natCast]
    refine ih (m + 1) k (acc.set m (p m)) (by omega) (by omega) (by simpa using hlen) ?_
    rw [List.take_succ_eq_append_getElem (by simp; omega), List.take_succ_eq_append_getElem (by simp; omega), List.take_set_of_le (by omega), ht]
    simp
theorem impl_votesOf.ev (n : Nat) (hn : n ≤ 19) (g : Nat → Int → Option Bool) (p : Nat → Bool) (hg : ∀ m : Nat, m < 2 ^ n → Ev (fun k => g k (m : Int)) (p m)) : Ev (fun k => impl_votesOf.f k (n : Int) (g k)) ((n : Int), (List.range (2 ^ n)).map p) := by
  have hp : 2 ^ n ≤ 2 ^ 19 := Nat.pow_le_pow_right (by omega) hn
  have h0 : 0 < 2 ^ n := Nat.two_pow_pos n
  generalize hN : 2 ^ n = N at *
  obtain ⟨K, hK⟩ := ev_all N (fun k m => g k (m : Int)) p hg
  refine ⟨max K (N + 1), fun k hk => ?_⟩
  simp only [impl_votesOf.f]
  rw [if_pos (by omega), shl_one n (by omega), hN, if_pos (by omega), Int.toNat_natCast, if_pos (by omega), Option.bind_some, List.length_replicate]
  exact impl_votesOf.at_l n N (by omega) (g k) p (fun m hm => hK k (by omega) m hm) N 0 k _ (by omega) (by omega) (by simp) (by simp)
theorem impl_votesBy.ev_l (l : List (List Int)) (hl : l.length ≤ 1000000) (hs : ∀ x ∈ l, x.length ≤ 9223372036854775807 ∧ (∀ y ∈ x, 0 ≤ y ∧ y ≤ 60)) : ∀ (d i : Nat), i + d = l.length → Ev (fun k => impl_votesBy.l0 k ((l.map fun x => ((maskN x : Nat) : Int)).take i) l (i : Int)) (l.map fun x => ((maskN x : Nat) : Int)) := by
  have hml : (l.map fun x => ((maskN x : Nat) : Int)).length = l.length := by simp
  intro d
  induction d with
  | zero =>
    intro i h
    refine ev_step ?_
    simp only [impl_votesBy.l0]
    rw [ev_neg (by omega), ev_now, List.take_of_length_le (by omega)]
  | succ d ih =>
    intro i h
    refine ev_step ?_
    simp only [impl_votesBy.l0]
    have hi : i < l.length := by omega
    have hx := hs l[i] (List.getElem_mem hi)
    rw [ev_pos (by omega), ev_pos (by omega), rdOf_lt [] l i hi, ev_bind (impl_maskOf.ev l[i] hx.1 hx.2), ev_pos (by rw [List.length_take]; omega), w64i (n := l.length) (by omega) (by omega) (by omega)]
    have := ih (i + 1) (by omega)
    rw [List.take_succ_eq_append_getElem (by omega), List.getElem_map] at this
    exact this
theorem impl_votesBy.ev (n : Nat) (hn : n ≤ 18) (l : List (List Int)) (hl : l.length ≤ 1000000) (hs : ∀ x ∈ l, x.length ≤ 9223372036854775807 ∧ (∀ y ∈ x, 0 ≤ y ∧ y ≤ 60)) : Ev (fun k => impl_votesBy.f k (n : Int) l) ((n : Int), winsG n l) := by
  have hp : 2 ^ n ≤ 2 ^ 18 := Nat.pow_le_pow_right (by omega) hn
  simp only [impl_votesBy.f]
  have h0 := impl_votesBy.ev_l l hl hs l.length 0 (by omega)
  rw [List.take_zero] at h0
  rw [ev_bind (show Ev (fun k => impl_votesBy.l0 k ([] : List Int) l 0) _ from h0)]
  refine impl_votesOf.ev n (by omega) (fun _ x => some (impl_votesBy_1.p (l.map fun x => ((maskN x : Nat) : Int)) x)) (fun m => l.any fun x => decide (m &&& maskN x = maskN x)) (fun m hm => ?_)
  rw [ev_now, impl_votesBy_1.p]
  clear h0 hl
  induction l with
  | nil => rfl
  | cons x l ih =>
    have hx := hs x List.mem_cons_self
    have hlt := orBits_lt61 x 0 (by omega) hx.2
    have hm2 : maskN x < 2 ^ 61 := hlt
    rw [List.map_cons, List.any_cons, List.any_cons, ih (fun y hy => hs y (List.mem_cons_of_mem _ hy)), and_nat m (maskN x) (by omega) (by omega)]
    congr 1
    by_cases c : m &&& maskN x = maskN x
    · rw [decide_eq_true c, c, decide_eq_true rfl]
    · rw [decide_eq_false c, decide_eq_false (by omega)]
theorem impl_Game_votes.ev (n : Nat) (hn : n ≤ 18) (l : List (List Int)) (hl : l.length ≤ 1000000) (hs : ∀ x ∈ l, x.length ≤ 9223372036854775807 ∧ (∀ y ∈ x, 0 ≤ y ∧ y ≤ 60)) : Ev (fun k => impl_Game_votes.f k (n : Int) l) ((n : Int), winsG n l) := by
  simp only [impl_Game_votes.f]
  rw [ev_bind (impl_votesBy.ev n hn l hl hs), ev_now]
def joinW (p : Bool → Bool → Bool) (n m : Nat) (V U : List Bool) : List Bool := (List.range (2 ^ (n + m))).map fun b => p (V.getD (b % 2 ^ n) false) (U.getD (b / 2 ^ n) false)
theorem joinW_length (p : Bool → Bool → Bool) (n m : Nat) (V U : List Bool) : (joinW p n m V U).length = 2 ^ (n + m) := by simp [joinW]
def joinB (n1 : Int) (l1 : List (List Int)) (n2 : Int) (l2 : List (List Int)) : Bool := gameB n1 l1 && (gameB n2 l2 && decide (n1 + n2 ≤ 9))
def joinZ (p : Bool → Bool → Bool) (n1 : Int) (l1 : List (List Int)) (n2 : Int) (l2 : List (List Int)) : List Bool := joinW p n1.toNat n2.toNat (winsG n1.toNat l1) (winsG n2.toNat l2)
def joinV (p : Bool → Bool → Bool) (n1 : Int) (l1 : List (List Int)) (n2 : Int) (l2 : List (List Int)) : Int × List (List Int) × Bool := if joinB n1 l1 n2 l2 = true then (n1 + n2, gmL (n1.toNat + n2.toNat) (joinZ p n1 l1 n2 l2), true) else (0, [], false)
theorem div_lt_pow {n m b : Nat} (h : b < 2 ^ (n + m)) : b / 2 ^ n < 2 ^ m := by
  rw [Nat.div_lt_iff_lt_mul (Nat.two_pow_pos n), ← Nat.pow_add, Nat.add_comm m n]
  exact h
theorem impl_joinGames.ev (p : Bool → Bool → Bool) (n1 : Int) (l1 : List (List Int)) (n2 : Int) (l2 : List (List Int)) (hl1 : l1.length ≤ 9223372036854775807) (hx1 : ∀ x ∈ l1, x.length ≤ 9223372036854775807) (hl2 : l2.length ≤ 9223372036854775807) (hx2 : ∀ x ∈ l2, x.length ≤ 9223372036854775807) : Ev (fun k => impl_joinGames.g k p n1 l1 n2 l2) (joinV p n1 l1 n2 l2) := by
  simp only [impl_joinGames.g]
  rw [ev_bind (impl_IsGame.ev n1 l1 hl1 hx1)]
  unfold joinV joinB
  cases hg1 : gameB n1 l1 with
  | false => rw [ev_neg (by decide), ev_now]; rfl
  | true =>
    rw [ev_pos rfl, ev_bind (impl_IsGame.ev n2 l2 hl2 hx2)]
    cases hg2 : gameB n2 l2 with
    | false => rw [ev_neg (by decide), ev_now]; rfl
    | true =>
      have hc1 := (game_iff n1 l1).1 hg1
      have hc2 := (game_iff n2 l2).1 hg2
      have a1 := hc1.n1
      have a9 := hc1.n9
      have b1 := hc2.n1
      have b9 := hc2.n9
      obtain ⟨h3, h4⟩ := good_sets hc1
      obtain ⟨h5, h6⟩ := good_sets hc2
      rw [ev_pos rfl, w64 (x := n1 + n2) (by omega) (by omega), Bool.true_and, Bool.true_and]
      by_cases c : n1 + n2 > 9
      · rw [ev_pos c, ev_now, if_neg (by simp; omega)]
      · have hv := impl_Game_votes.ev n1.toNat (by omega) l1 (by omega) h4
        have hu := impl_Game_votes.ev n2.toNat (by omega) l2 (by omega) h6
        have hp : 2 ^ (n1.toNat + n2.toNat) ≤ 2 ^ 9 := Nat.pow_le_pow_right (by omega) (by omega)
        have hp1 : 2 ^ n1.toNat ≤ 2 ^ 9 := Nat.pow_le_pow_right (by omega) (by omega)
        have h0 : 0 < 2 ^ n1.toNat := Nat.two_pow_pos _
        have hall : impl_votes_all.f ((n1.toNat : Nat) : Int) (winsG n1.toNat l1) = some ((2 ^ n1.toNat - 1 : Nat) : Int) := by
          simp only [impl_votes_all.f]
          rw [if_pos (by omega), shl_one n1.toNat (by omega), w64 (by omega) (by omega)]
          congr 1
          omega
        have hvo : Ev (fun k => impl_votesOf.f k ((n1.toNat + n2.toNat : Nat) : Int) (impl_joinGames_1.f p ((n1.toNat : Nat) : Int) (winsG n1.toNat l1) (winsG n2.toNat l2))) (((n1.toNat + n2.toNat : Nat) : Int), joinZ p n1 l1 n2 l2) := by
          refine impl_votesOf.ev (n1.toNat + n2.toNat) (by omega) (fun _ => impl_joinGames_1.f p ((n1.toNat : Nat) : Int) (winsG n1.toNat l1) (winsG n2.toNat l2)) (fun b => p ((winsG n1.toNat l1).getD (b % 2 ^ n1.toNat) false) ((winsG n2.toNat l2).getD (b / 2 ^ n1.toNat) false)) (fun b hb => ev_of ?_)
          have hd := div_lt_pow hb
          have hm := Nat.mod_lt b h0
          simp only [impl_joinGames_1.f]
          rw [hall, Option.bind_some, and_nat b (2 ^ n1.toNat - 1) (by omega) (by omega), Nat.and_two_pow_sub_one_eq_mod, shr_nat b n1.toNat (by omega), if_pos (Int.natCast_nonneg _), if_pos (Int.ofNat_lt.2 (by rw [winsG_length]; exact hm)), if_pos (Int.natCast_nonneg _), if_pos (Int.natCast_nonneg _), if_pos (Int.ofNat_lt.2 (by rw [winsG_length]; exact hd)), rdOf_nat, rdOf_nat]
        have hgm := impl_votes_game.ev (joinZ p n1 l1 n2 l2) (n1.toNat + n2.toNat) (joinW_length _ _ _ _ _) (by omega)
        rw [show ((n1.toNat : Nat) : Int) = n1 by omega] at hv hvo
        rw [show ((n2.toNat : Nat) : Int) = n2 by omega] at hu
        rw [show ((n1.toNat + n2.toNat : Nat) : Int) = n1 + n2 by omega] at hvo hgm
        rw [ev_neg c, ev_bind hv, ev_bind hu, w64 (x := n1 + n2) (by omega) (by omega), ev_bind hvo, ev_bind hgm, ev_now, if_pos (by simp; omega)]
def joinP (both x y : Bool) : Bool := x && y || !both && (x || y)
theorem spec_gmJoin.ev_l (both : Bool) (n m : Nat) (hnm : n + m ≤ 9) (V U : List Bool) (hV : V.length = 2 ^ n) (hU : U.length = 2 ^ m) (n1 : Int) (l1 : List (List Int)) (n2 : Int) (l2 : List (List Int)) (R : Int × List (List Int) × Bool) (hR : Ev (fun k => spec_gmJoin.l0 k both V U (joinW (joinP both) n m V U) ((2 ^ (n + m) : Nat) : Int) ((2 ^ (n + m) : Nat) : Int) n1 l1 n2 l2) R) : ∀ (d b : Nat) (acc : List Bool), b + d = 2 ^ (n + m) → acc.length = 2 ^ (n + m) → acc.take b = (joinW (joinP both) n m V U).take b → Ev (fun k => spec_gmJoin.l0 k both V U acc ((2 ^ (n + m) : Nat) : Int) (b : Int) n1 l1 n2 l2) R := by
  have hp : 2 ^ (n + m) ≤ 2 ^ 9 := Nat.pow_le_pow_right (by omega) hnm
  have hp1 : 2 ^ n ≤ 2 ^ 9 := Nat.pow_le_pow_right (by omega) (by omega)
  have h0 : 0 < 2 ^ n := Nat.two_pow_pos n
  intro d
  induction d with
  | zero =>
    intro b acc h ha ht
    rw [List.take_of_length_le (by omega), List.take_of_length_le (by rw [joinW_length]; omega)] at ht
    rw [ht, show b = 2 ^ (n + m) by omega]
    exact hR
  | succ d ih =>
    intro b acc h ha ht
    refine ev_step ?_
    simp only [spec_gmJoin.l0]
    have hb : b < 2 ^ (n + m) := by omega
    have hd := div_lt_pow hb
    have hm := Nat.mod_lt b h0
    have hbI : (b : Int) < ((2 ^ (n + m) : Nat) : Int) := Int.ofNat_lt.2 hb
    have hne : ¬ (V.length : Int) = 0 := by omega
    have hmod : Int.tmod (b : Int) (V.length : Int) = ((b % 2 ^ n : Nat) : Int) := by rw [hV]; exact (Int.ofNat_tmod b (2 ^ n)).symm
    have hle : b / 2 ^ n ≤ b := Nat.div_le_self _ _
    have hdiv : wrap64 (Int.tdiv (b : Int) (V.length : Int)) = ((b / 2 ^ n : Nat) : Int) := by
      rw [hV, show Int.tdiv (b : Int) ((2 ^ n : Nat) : Int) = ((b / 2 ^ n : Nat) : Int) from (Int.ofNat_tdiv b (2 ^ n)).symm]
      generalize b / 2 ^ n = y at *
      exact w64 (by omega) (by omega)
    have hacc : (b : Int) < (acc.length : Int) := Int.ofNat_lt.2 (by rw [ha]; exact hb)
    have hbw : wrap64 ((b : Int) + 1) = (b : Int) + 1 := w64i (n := 2 ^ (n + m)) (by omega) (by omega) (by omega)
    have hset : ∀ v : Bool, v = joinP both (V.getD (b % 2 ^ n) false) (U.getD (b / 2 ^ n) false) → Ev (fun k => spec_gmJoin.l0 k both V U (acc.set b v) ((2 ^ (n + m) : Nat) : Int) ((b : Int) + 1) n1 l1 n2 l2) R := by
      intro v hv
      refine ih (b + 1) _ (by omega) (by simpa using ha) ?_
      have hm : b < (joinW (joinP both) n m V U).length := by rw [joinW_length]; exact hb
      rw [List.take_succ_eq_append_getElem (by rw [List.length_set, ha]; exact hb), List.take_succ_eq_append_getElem hm, List.take_set_of_le (Nat.le_refl _), ht, List.getElem_set_self, hv]
      simp [joinW]
    rw [ev_pos hbI, ev_neg hne, hmod, hdiv, ev_pos (Int.natCast_nonneg _), ev_pos (Int.ofNat_lt.2 (by rw [hV]; exact hm)), ev_pos (Int.natCast_nonneg _), ev_pos (Int.ofNat_lt.2 (by rw [hU]; exact hd)), rdOf_nat, rdOf_nat, hbw, Int.toNat_natCast]
    generalize V.getD (b % 2 ^ n) false = x at *
    generalize U.getD (b / 2 ^ n) false = y at *
    have hs := fun v hv => hset v hv
    clear hset ih hmod hdiv hm hd hR ht
    cases x with
    | true =>
      rw [ev_pos rfl]
      cases y with
      | true => rw [ev_pos rfl, ev_pos (Int.natCast_nonneg _), ev_pos hacc]; exact hs true rfl
      | false =>
        rw [ev_neg (by decide)]
        cases both with
        | true => rw [ev_pos rfl, ev_pos (Int.natCast_nonneg _), ev_pos hacc]; exact hs false rfl
        | false => rw [ev_neg (by decide), ev_pos (Int.natCast_nonneg _), ev_pos hacc]; exact hs true rfl
    | false =>
      rw [ev_neg (by decide)]
      cases both with
      | true => rw [ev_pos rfl, ev_pos (Int.natCast_nonneg _), ev_pos hacc]; exact hs false rfl
      | false => rw [ev_neg (by decide), ev_pos (Int.natCast_nonneg _), ev_pos hacc]; exact hs y (by cases y <;> rfl)
theorem spec_gmJoin.ev (both : Bool) (n1 : Int) (l1 : List (List Int)) (n2 : Int) (l2 : List (List Int)) (hl1 : l1.length ≤ 9223372036854775807) (hx1 : ∀ x ∈ l1, x.length ≤ 9223372036854775807) (hl2 : l2.length ≤ 9223372036854775807) (hx2 : ∀ x ∈ l2, x.length ≤ 9223372036854775807) : Ev (fun k => spec_gmJoin.f k n1 l1 n2 l2 both) (joinV (joinP both) n1 l1 n2 l2) := by
  have hz : Ev (fun k => spec_gmJoin.j0 k both true n1 l1 n2 l2) (0, [], false) := by
    refine ev_step ?_
    simp only [spec_gmJoin.j0]
    rw [ev_pos trivial, ev_now]
  simp only [spec_gmJoin.f]
  rw [ev_bind (spec_gmGood.ev n1 l1 hl1 hx1)]
  unfold joinV joinB
  cases hg1 : gameB n1 l1 with
  | false => rw [ev_neg (by decide)]; exact hz
  | true =>
    rw [ev_pos rfl, ev_bind (spec_gmGood.ev n2 l2 hl2 hx2)]
    cases hg2 : gameB n2 l2 with
    | false => rw [ev_neg (by decide)]; exact hz
    | true =>
      have hc1 := (game_iff n1 l1).1 hg1
      have hc2 := (game_iff n2 l2).1 hg2
      have a1 := hc1.n1
      have a9 := hc1.n9
      have b1 := hc2.n1
      have b9 := hc2.n9
      obtain ⟨h3, h4⟩ := good_sets hc1
      obtain ⟨h5, h6⟩ := good_sets hc2
      rw [ev_pos rfl, w64 (x := n1 + n2) (by omega) (by omega), Bool.true_and, Bool.true_and]
      by_cases c : n1 + n2 > 9
      · rw [decide_eq_true c, if_neg (by simp; omega)]
        exact hz
      · have hv := spec_gmAll.ev n1.toNat (by omega) l1 (by omega) h4
        have hu := spec_gmAll.ev n2.toNat (by omega) l2 (by omega) h6
        have hp : 2 ^ (n1.toNat + n2.toNat) ≤ 2 ^ 9 := Nat.pow_le_pow_right (by omega) (by omega)
        have hgm := spec_gmOf.ev (joinZ (joinP both) n1 l1 n2 l2) (n1.toNat + n2.toNat) (joinW_length _ _ _ _ _) (by omega)
        rw [show ((n1.toNat : Nat) : Int) = n1 by omega] at hv
        rw [show ((n2.toNat : Nat) : Int) = n2 by omega] at hu
        rw [show ((n1.toNat + n2.toNat : Nat) : Int) = n1 + n2 by omega] at hgm
        have hlen : wrap64 (((winsG n1.toNat l1).length : Int) * ((winsG n2.toNat l2).length : Int)) = ((2 ^ (n1.toNat + n2.toNat) : Nat) : Int) := by
          rw [winsG_length, winsG_length, ← Int.natCast_mul, ← Nat.pow_add]
          generalize 2 ^ (n1.toNat + n2.toNat) = y at *
          exact w64 (by omega) (by omega)
        rw [decide_eq_false c, if_pos (by simp; omega)]
        refine ev_step ?_
        simp only [spec_gmJoin.j0]
        rw [ev_neg (by decide), ev_bind hv, ev_bind hu, hlen, ev_pos (Int.natCast_nonneg _), ev_pos (by rw [Int.toNat_natCast]; omega), Int.toNat_natCast]
        simp only [Option.bind_some, List.length_replicate]
        have hmain := spec_gmJoin.ev_l both n1.toNat n2.toNat (by omega) (winsG n1.toNat l1) (winsG n2.toNat l2) (winsG_length _ _) (winsG_length _ _) n1 l1 n2 l2 (n1 + n2, gmL (n1.toNat + n2.toNat) (joinZ (joinP both) n1 l1 n2 l2), true) (by
          refine ev_step ?_
          simp only [spec_gmJoin.l0]
          rw [ev_neg (by omega), w64 (x := n1 + n2) (by omega) (by omega)]
          exact (ev_bind hgm).2 (ev_now.2 rfl)) (2 ^ (n1.toNat + n2.toNat)) 0 (List.replicate (2 ^ (n1.toNat + n2.toNat)) false) (by omega) (by simp) (by simp)
        exact hmain
theorem joinV_few (p : Bool → Bool → Bool) (n1 : Int) (l1 : List (List Int)) (n2 : Int) (l2 : List (List Int)) : (joinV p n1 l1 n2 l2).2.1.length ≤ 512 ∧ ∀ s ∈ (joinV p n1 l1 n2 l2).2.1, s.length ≤ 9 := by
  unfold joinV
  split
  · next h =>
    simp only [joinB, Bool.and_eq_true, decide_eq_true_eq] at h
    have a1 := ((game_iff n1 l1).1 h.1).n1
    have b1 := ((game_iff n2 l2).1 h.2.1).n1
    exact gmL_few (joinW_length _ _ _ _ _) (by omega)
  · simp
def prodV (n1 : Int) (l1 : List (List Int)) (n2 : Int) (l2 : List (List Int)) : Int × List (List Int) × Bool := joinV (fun a b => a && b) n1 l1 n2 l2
theorem impl_ProductGames.ev (n1 : Int) (l1 : List (List Int)) (n2 : Int) (l2 : List (List Int)) (hl1 : l1.length ≤ 9223372036854775807) (hx1 : ∀ x ∈ l1, x.length ≤ 9223372036854775807) (hl2 : l2.length ≤ 9223372036854775807) (hx2 : ∀ x ∈ l2, x.length ≤ 9223372036854775807) : Ev (fun k => impl_ProductGames.f k n1 l1 n2 l2) (prodV n1 l1 n2 l2) := impl_joinGames.ev _ n1 l1 n2 l2 hl1 hx1 hl2 hx2
theorem spec_ProductGames.ev (n1 : Int) (l1 : List (List Int)) (n2 : Int) (l2 : List (List Int)) (hl1 : l1.length ≤ 9223372036854775807) (hx1 : ∀ x ∈ l1, x.length ≤ 9223372036854775807) (hl2 : l2.length ≤ 9223372036854775807) (hx2 : ∀ x ∈ l2, x.length ≤ 9223372036854775807) : Ev (fun k => spec_ProductGames.f k n1 l1 n2 l2) (prodV n1 l1 n2 l2) := by
  have h := spec_gmJoin.ev true n1 l1 n2 l2 hl1 hx1 hl2 hx2
  rw [show joinP true = (fun a b => a && b) by funext a b; cases a <;> cases b <;> rfl] at h
  simp only [spec_ProductGames.f]
  rw [ev_bind h, ev_now]
  rfl
theorem prodV_few (n1 : Int) (l1 : List (List Int)) (n2 : Int) (l2 : List (List Int)) : (prodV n1 l1 n2 l2).2.1.length ≤ 512 ∧ ∀ s ∈ (prodV n1 l1 n2 l2).2.1, s.length ≤ 9 := joinV_few _ n1 l1 n2 l2
theorem laws_FnExactProductGames.law (a0_0 : Int) (l0 : List (List Int)) (a1_0 : Int) (l1 : List (List Int)) (ok0_0 : OkI a0_0) (ok0 : OkLL l0) (ok1_0 : OkI a1_0) (ok1 : OkLL l1) : Ev (fun k => laws_FnExactProductGames.f k a0_0 l0 a1_0 l1) true := by
  have hl0 := ok0.len
  have hx0 : ∀ x ∈ l0, x.length ≤ 9223372036854775807 := fun x hx => (ok0.2 x hx).len
  have hl1 := ok1.len
  have hx1 : ∀ x ∈ l1, x.length ≤ 9223372036854775807 := fun x hx => (ok1.2 x hx).len
  simp only [laws_FnExactProductGames.f]
  obtain ⟨r0, hr01, hr02, hr03⟩ := laws_szGame.ev a0_0 l0 1048576 hl0 hx0 (by omega) (by omega)
  rw [ev_bind hr02]
  by_cases hz0 : r0 < 0
  · rw [ev_pos hz0, ev_now]
  rw [ev_neg hz0]
  obtain ⟨hn0, hy0⟩ := hr03 (by omega)
  have ht0 := totSS_le l0 1048576 hy0
  have hp0 := totSS_nonneg l0
  obtain ⟨r1, hr11, hr12, hr13⟩ := laws_szGame.ev a1_0 l1 r0 hl1 hx1 (by omega) (by omega)
  rw [ev_bind hr12]
  by_cases hz1 : r1 < 0
  · rw [ev_pos hz1, ev_now]
  rw [ev_neg hz1]
  obtain ⟨hn1, hy1⟩ := hr13 (by omega)
  have ht1 := totSS_le l1 1048576 hy1
  have hp1 := totSS_nonneg l1
  have to0 := laws_toGame.ev a0_0 l0 (by omega) (fun x hx => by have := hy0 x hx; omega)
  have eq0 := laws_eqGame.ev_same a0_0 l0 hl0 hx0
  have to1 := laws_toGame.ev a1_0 l1 (by omega) (fun x hx => by have := hy1 x hx; omega)
  have eq1 := laws_eqGame.ev_same a1_0 l1 hl1 hx1
  have mk0 := laws_markGame.ev a0_0 l0 (1) (by omega) (by omega) (by omega)
  have mk1 := laws_markGame.ev a1_0 l1 (1 + totSS l0) (by omega) (by omega) (by omega)
  have hs := spec_ProductGames.ev a0_0 l0 a1_0 l1 hl0 hx0 hl1 hx1
  have hi := impl_ProductGames.ev a0_0 l0 a1_0 l1 hl0 hx0 hl1 hx1
  have hn := prodV_few a0_0 l0 a1_0 l1
  generalize prodV a0_0 l0 a1_0 l1 = r at hs hi hn
  obtain ⟨n, L, b⟩ := r
  have hn1 : L.length ≤ 512 := hn.1
  have htt := totSS_le L 9 hn.2
  have ht := totSS_nonneg L
  have he := laws_eqGame.ev_same n L (by omega) (fun s h => by have := hn.2 s h; omega)
  have hm := laws_markGame.ev n L 1 (by omega) (by omega) (by omega)
  have hh := laws_heldGame.ev n L 1 (by omega) (by omega) (by omega)
  rw [ev_bind to0, ev_bind to1, ev_bind hs, ev_bind hi, ev_bind he, ev_bind eq0, ev_bind eq1, ev_bind mk0, ev_bind mk1, ev_bind hm, ev_bind hh, ev_pos ⟨rfl, rfl, rfl, rfl, by show ¬ (1 + totSS l0 + totSS l1 < 0); omega, by omega, rfl⟩, ev_now]
end Go.Proofs.Ytmmmblfghhcndaa.Q
