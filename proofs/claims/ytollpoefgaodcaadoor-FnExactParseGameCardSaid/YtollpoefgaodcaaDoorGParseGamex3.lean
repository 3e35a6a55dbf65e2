/- Printed functions, their contracts and plain facts on them: PLawGame; PLawIntsHeld; PTotSS; PLawSets; PLawGameMark; PTextSplit; PParseGame; PSetN; PMasks; PTextBound; PParseGame2; PLFnExactParseGame. Conditions: as each theorem states. -/
import Derived.Test.YtollpoefgaodcaaDoorGParseGamex1
import Derived.Test.YtollpoefgaodcaaDoorGParseGamex2
set_option maxHeartbeats 40000000
set_option maxRecDepth 100000
namespace Go.Proofs.YtollpoefgaodcaaDoor.Q
open Go.RowKit Go.Proofs.YtollpoefgaodcaaDoorW.PrintWords Go.Proofs.YtollpoefgaodcaaDoorW.PrintLast Go.Proofs.YtollpoefgaodcaaDoorW.PrintMore Go.Proofs.YtollpoefgaodcaaDoorM
set_option linter.unusedVariables false
set_option linter.unusedSimpArgs false
theorem laws_eqIntSS.ev_l (a b : List (List Int)) (hl : a.length ≤ 9223372036854775807) (hab : a.length = b.length) (hx : ∀ x ∈ a, x.length ≤ 9223372036854775807) : ∀ (d i : Nat), i + d = a.length → Ev (fun k => laws_eqIntSS.l0 k a b (i : Int)) (decide (a.drop i = b.drop i)) := by
  intro d
  induction d with
  | zero =>
    intro i h
    refine ev_step ?_
    simp only [laws_eqIntSS.l0]
    rw [ev_neg (by omega), ev_now, List.drop_of_length_le (by omega), List.drop_of_length_le (by omega)]
    rfl
  | succ d ih =>
    intro i h
    refine ev_step ?_
    simp only [laws_eqIntSS.l0]
    have hi : i < a.length := by omega
    have hib : i < b.length := by omega
    have e : decide (a.drop i = b.drop i) = (decide (a[i] = b[i]) && decide (a.drop (i + 1) = b.drop (i + 1))) := by
      rw [List.drop_eq_getElem_cons hi, List.drop_eq_getElem_cons hib, Bool.eq_iff_iff]
      simp only [Bool.and_eq_true, decide_eq_true_eq, List.cons.injEq]
    rw [ev_pos (by omega), ev_pos (by omega), ev_pos (by omega), rd_L2_lt a i hi, rd_L2_lt b i hib, ev_bind (laws_eqIntS.ev a[i] b[i] (hx _ (List.getElem_mem hi))), w64i (n := a.length) (by omega) (by omega) hl, e]
    by_cases c : a[i] = b[i]
    · rw [ev_pos (decide_eq_true c), decide_eq_true c, Bool.true_and]
      exact ih (i + 1) (by omega)
    · rw [ev_neg (by simp [c]), ev_now, decide_eq_false c]
      rfl
theorem laws_eqIntSS.ev (a b : List (List Int)) (hl : a.length ≤ 9223372036854775807) (hx : ∀ x ∈ a, x.length ≤ 9223372036854775807) : Ev (fun k => laws_eqIntSS.f k a b) (decide (a = b)) := by
  simp only [laws_eqIntSS.f]
  by_cases c : (a.length : Int) = (b.length : Int)
  · rw [ev_pos c]
    exact laws_eqIntSS.ev_l a b hl (by omega) hx a.length 0 (by omega)
  · rw [ev_neg c, ev_now, decide_eq_false (fun h => c (by rw [h]))]
theorem laws_eqGame.ev_same (n : Int) (l : List (List Int)) (hl : l.length ≤ 9223372036854775807) (hx : ∀ x ∈ l, x.length ≤ 9223372036854775807) : Ev (fun k => laws_eqGame.f k n l n l) true := by
  simp only [laws_eqGame.f]
  rw [ev_pos trivial, ev_bind (laws_eqIntSS.ev l l hl hx), ev_pos (by simp), ev_now]
theorem laws_heldIntS.ev_l (n : Nat) (c : Int) (hn : n ≤ 9223372036854775807) (hc0 : 0 ≤ c) (hc : c + (n : Int) ≤ 9223372036854775807) : ∀ (d i : Nat), i + d = n → Ev (fun k => laws_heldIntS.l0 k (marks c n) (c + (i : Int)) (i : Int)) (c + (n : Int)) := by
  intro d
  induction d with
  | zero =>
    intro i h
    refine ev_step ?_
    simp only [laws_heldIntS.l0]
    rw [marks_length, ev_neg (by omega), ev_now]
    omega
  | succ d ih =>
    intro i h
    refine ev_step ?_
    simp only [laws_heldIntS.l0]
    have hi : i < (marks c n).length := by rw [marks_length]; omega
    rw [rd_lt _ i hi, marks_get, marks_length, ev_pos (by omega), ev_pos (by omega), ev_pos rfl, w64i (i := (i : Int)) (n := n) (by omega) (by omega) hn, w64 (x := c + (i : Int) + 1) (by omega) (by omega)]
    rw [show c + (i : Int) + 1 = c + ((i + 1 : Nat) : Int) by omega]
    exact ih (i + 1) (by omega)
theorem laws_heldIntS.ev (n : Nat) (c : Int) (hc0 : 0 ≤ c) (hc : c + (n : Int) ≤ 9223372036854775807) : Ev (fun k => laws_heldIntS.f k (marks c n) c) (c + (n : Int)) := by
  have := laws_heldIntS.ev_l n c (by omega) hc0 hc n 0 (by omega)
  simpa [laws_heldIntS.f] using this
def totSS : List (List Int) → Int
  | [] => 0
  | s :: L => (s.length : Int) + totSS L
theorem totSS_nonneg : ∀ L : List (List Int), 0 ≤ totSS L
  | [] => Int.le_refl _
  | s :: L => by
    have := totSS_nonneg L
    show 0 ≤ (s.length : Int) + totSS L
    omega
def marksSS : Int → List (List Int) → List (List Int)
  | _, [] => []
  | c, s :: L => marks c s.length :: marksSS (c + (s.length : Int)) L
theorem marksSS_len : ∀ (L : List (List Int)) (c : Int), (marksSS c L).length = L.length
  | [], _ => rfl
  | s :: L, c => by
    show (marksSS _ L).length + 1 = L.length + 1
    rw [marksSS_len L]
theorem laws_markIntSS.ev_l : ∀ (L done : List (List Int)) (c : Int), (done ++ L).length ≤ 9223372036854775807 → 0 ≤ c → c + totSS L ≤ 9223372036854775807 → Ev (fun k => laws_markIntSS.l0 k (done ++ L) c (done.length : Int)) (c + totSS L, done ++ marksSS c L)
  | [], done, c, hl, h0, hc => by
    refine ev_step ?_
    simp only [laws_markIntSS.l0]
    rw [ev_neg (by simp), ev_now]
    simp [totSS, marksSS]
  | s :: L, done, c, hl, h0, hc => by
    refine ev_step ?_
    simp only [laws_markIntSS.l0]
    have ht := totSS_nonneg L
    have hc' : c + ((s.length : Int) + totSS L) ≤ 9223372036854775807 := hc
    have hll : (done ++ s :: L).length = done.length + (L.length + 1) := by simp
    have hget : rdOf [] (done ++ s :: L) (done.length : Int) = s := by simp [rdOf]
    have hset : (done ++ s :: L).set ((done.length : Int)).toNat (marks c s.length) = (done ++ [marks c s.length]) ++ L := by simp
    rw [ev_pos (by rw [hll]; omega), ev_pos (by omega), hget, ev_bind (laws_markIntS.ev s c h0 (by omega)), hset, w64 (by omega) (by omega)]
    have := laws_markIntSS.ev_l L (done ++ [marks c s.length]) (c + (s.length : Int)) (by simp at hl ⊢; omega) (by omega) (by omega)
    rw [List.length_append, List.length_singleton] at this
    show Ev _ (c + ((s.length : Int) + totSS L), done ++ (marks c s.length :: marksSS (c + (s.length : Int)) L))
    rw [← Int.add_assoc, show done ++ (marks c s.length :: marksSS (c + (s.length : Int)) L) = (done ++ [marks c s.length]) ++ marksSS (c + (s.length : Int)) L by simp]
    exact this
theorem laws_markIntSS.ev (L : List (List Int)) (c : Int) (hl : L.length ≤ 9223372036854775807) (h0 : 0 ≤ c) (hc : c + totSS L ≤ 9223372036854775807) : Ev (fun k => laws_markIntSS.f k L c) (c + totSS L, marksSS c L) := laws_markIntSS.ev_l L [] c (by simpa using hl) h0 hc
theorem laws_heldIntSS.ev_l (M : List (List Int)) (hM : M.length ≤ 9223372036854775807) : ∀ (L : List (List Int)) (i : Nat) (c : Int), M.drop i = marksSS c L → 0 ≤ c → c + totSS L ≤ 9223372036854775807 → Ev (fun k => laws_heldIntSS.l0 k M c (i : Int)) (c + totSS L)
  | [], i, c, h, h0, hc => by
    refine ev_step ?_
    simp only [laws_heldIntSS.l0]
    have : M.length ≤ i := by
      have h1 : (M.drop i).length = 0 := by rw [h]; rfl
      rw [List.length_drop] at h1
      omega
    rw [ev_neg (by omega), ev_now]
    simp [totSS]
  | s :: L, i, c, h, h0, hc => by
    refine ev_step ?_
    simp only [laws_heldIntSS.l0]
    have ht := totSS_nonneg L
    have hc' : c + ((s.length : Int) + totSS L) ≤ 9223372036854775807 := hc
    have hi : i < M.length := by
      rcases Nat.lt_or_ge i M.length with h1 | h1
      · exact h1
      · rw [List.drop_of_length_le h1] at h
        cases h
    rw [List.drop_eq_getElem_cons hi] at h
    have h1 : M[i] = marks c s.length := (List.cons.inj h).1
    have h2 : M.drop (i + 1) = marksSS (c + (s.length : Int)) L := (List.cons.inj h).2
    rw [ev_pos (by omega), ev_pos (by omega), rd_L2_lt M i hi, h1, ev_bind (laws_heldIntS.ev s.length c h0 (by omega)), ev_neg (by omega), w64i (n := M.length) (by omega) (by omega) hM]
    have := laws_heldIntSS.ev_l M hM L (i + 1) (c + (s.length : Int)) h2 (by omega) (by omega)
    show Ev _ (c + ((s.length : Int) + totSS L))
    rw [← Int.add_assoc]
    exact this
theorem laws_heldIntSS.ev (L : List (List Int)) (c : Int) (hl : L.length ≤ 9223372036854775807) (h0 : 0 ≤ c) (hc : c + totSS L ≤ 9223372036854775807) : Ev (fun k => laws_heldIntSS.f k (marksSS c L) c) (c + totSS L) := laws_heldIntSS.ev_l (marksSS c L) (by rw [marksSS_len]; exact hl) L 0 c (by simp) h0 hc
theorem laws_markGame.ev (n : Int) (L : List (List Int)) (c : Int) (hl : L.length ≤ 9223372036854775807) (h0 : 0 ≤ c) (hc : c + totSS L ≤ 9223372036854775807) : Ev (fun k => laws_markGame.f k n L c) (c + totSS L, marksSS c L) := laws_markIntSS.ev L c hl h0 hc
theorem laws_heldGame.ev (n : Int) (L : List (List Int)) (c : Int) (hl : L.length ≤ 9223372036854775807) (h0 : 0 ≤ c) (hc : c + totSS L ≤ 9223372036854775807) : Ev (fun k => laws_heldGame.f k n (marksSS c L) c) (c + totSS L) := by
  have ht := totSS_nonneg L
  simp only [laws_heldGame.f]
  rw [ev_bind (laws_heldIntSS.ev L c hl h0 hc), ev_neg (by omega), ev_now]
def spl : List UInt8 → List (List UInt8)
  | [] => [[]]
  | b :: t => if b = 46 then [] :: spl t else match spl t with
    | x :: r => (b :: x) :: r
    | [] => [[b]]
theorem spl_cons (l : List UInt8) : ∃ x r, spl l = x :: r := by
  cases l with
  | nil => exact ⟨_, _, rfl⟩
  | cons b t =>
    unfold spl
    by_cases h : b = 46
    · rw [if_pos h]; exact ⟨_, _, rfl⟩
    · rw [if_neg h]
      cases spl t with
      | nil => exact ⟨_, _, rfl⟩
      | cons x r => exact ⟨_, _, rfl⟩
theorem spl_dot (t : List UInt8) : spl (46 :: t) = [] :: spl t := by rw [spl, if_pos rfl]
theorem spl_else {b : UInt8} {t x : List UInt8} {r : List (List UInt8)} (h : b ≠ 46) (e : spl t = x :: r) : spl (b :: t) = (b :: x) :: r := by rw [spl, if_neg h, e]
theorem join_spl : ∀ l : List UInt8, Go.Lib.join (spl l) [46] = l
  | [] => by rw [spl, Go.Lib.join_one]
  | b :: t => by
    obtain ⟨x, r, e⟩ := spl_cons t
    have ih := join_spl t
    rw [e, Go.Lib.join_cons] at ih
    by_cases h : b = 46
    · subst h
      rw [spl_dot, Go.Lib.join_cons, e, List.nil_append, ← ih]
      simp [Go.Lib.joinTail]
    · rw [spl_else h e, Go.Lib.join_cons, ← ih]
      rfl
theorem spl_one : ∀ p : List UInt8, (∀ b ∈ p, b ≠ 46) → spl p = [p]
  | [], _ => rfl
  | b :: p, h => spl_else (h b (List.mem_cons_self ..)) (spl_one p (fun c hc => h c (List.mem_cons_of_mem _ hc)))
theorem spl_app : ∀ (p t : List UInt8), (∀ b ∈ p, b ≠ 46) → spl (p ++ 46 :: t) = p :: spl t
  | [], t, _ => spl_dot t
  | b :: p, t, h => spl_else (h b (List.mem_cons_self ..)) (spl_app p t (fun c hc => h c (List.mem_cons_of_mem _ hc)))
theorem spl_join : ∀ (ps : List (List UInt8)), ps ≠ [] → (∀ p ∈ ps, ∀ b ∈ p, b ≠ 46) → spl (Go.Lib.join ps [46]) = ps
  | [], h, _ => absurd rfl h
  | [p], _, h => by rw [Go.Lib.join_one]; exact spl_one p (h p (List.mem_cons_self ..))
  | p :: q :: r, _, h => by
    have ih := spl_join (q :: r) (by simp) (fun x hx => h x (List.mem_cons_of_mem _ hx))
    have e : Go.Lib.join (p :: q :: r) [46] = p ++ 46 :: Go.Lib.join (q :: r) [46] := by
      rw [Go.Lib.join_cons, Go.Lib.join_cons]
      simp [Go.Lib.joinTail]
    rw [e, spl_app p _ (h p (List.mem_cons_self ..)), ih]
theorem splitK_spl : ∀ l : List UInt8, Go.Lib.splitK [46] 0 (Go.Lib.count l [46]) l = spl l
  | [] => by rw [Go.Lib.count_one]; rfl
  | b :: t => by
    have ih := splitK_spl t
    by_cases h : b = 46
    · subst h
      have hix : Go.Lib.index (46 :: t) [46] = ((0 : Nat) : Int) := by rw [Go.Lib.index]; simp [List.isPrefixOf]
      rw [Go.Lib.count_cons_eq, Nat.add_comm, Go.Lib.splitK, hix, spl_dot]
      simp only [Int.toNat_natCast]
      rw [if_neg (by decide)]
      simp only [Nat.add_zero, List.take_zero, Nat.zero_add, List.length_singleton, List.drop_succ_cons, List.drop_zero, ih]
    · have hp : ([46] : List UInt8).isPrefixOf (b :: t) = false := by simp [List.isPrefixOf, Ne.symm h]
      have hix : Go.Lib.index (b :: t) [46] = if Go.Lib.index t [46] == -1 then -1 else Go.Lib.index t [46] + 1 := by rw [Go.Lib.index, hp]; simp
      rw [Go.Lib.count_cons_ne b 46 t h]
      by_cases hm : Go.Lib.index t [46] = -1
      · rw [Go.Lib.count_miss hm] at ih ⊢
        have e : spl t = [t] := by rw [← ih]; rfl
        rw [spl_else h e]
        rfl
      · have hge := Go.Lib.index_ge t [46]
        obtain ⟨j, hj⟩ : ∃ j : Nat, Go.Lib.index t [46] = j := ⟨(Go.Lib.index t [46]).toNat, by omega⟩
        have hix' : Go.Lib.index (b :: t) [46] = ((j + 1 : Nat) : Int) := by rw [hix, if_neg (fun e => hm (beq_iff_eq.1 e)), hj]; omega
        have hc := Go.Lib.count_hit (by simp) hj
        obtain ⟨n, hn⟩ : ∃ n, Go.Lib.count t [46] = n + 1 := ⟨_, by rw [hc, Nat.add_comm]⟩
        rw [hn] at ih ⊢
        rw [Go.Lib.splitK, hj, if_neg (by rw [beq_iff_eq]; omega)] at ih
        rw [Go.Lib.splitK, hix', if_neg (by rw [beq_iff_eq]; omega)]
        simp only [Int.toNat_natCast, Nat.add_zero, List.length_singleton] at ih ⊢
        rw [spl_else h ih.symm]
        simp
theorem strings_Split.v (l : List UInt8) (h : l.length ≤ 1048576) : strings_Split.f (txb l) (txb [46]) = some ((spl l).map txb) := by
  unfold strings_Split.f
  rw [if_pos ⟨by rw [txb_size]; exact h, by rw [txb_size]; exact Nat.le_refl _⟩]
  congr 1
  have e := Go.Lib.splitB_data (txb [46]) 0 (Go.Lib.countB (txb l) (txb [46])) (txb l)
  have e2 : Go.Lib.splitK (txb [46]).data.toList 0 (Go.Lib.countB (txb l) (txb [46])) (txb l).data.toList = spl l := splitK_spl l
  rw [e2] at e
  rw [← e, List.map_map]
  conv => lhs; rw [← List.map_id (Go.Lib.splitB (txb [46]) 0 (Go.Lib.countB (txb l) (txb [46])) (txb l))]
  exact List.map_congr_left (fun a _ => txb_of a)
theorem bt_txb (l : List UInt8) (i : Nat) (h : i < l.length) : bt (txb l) (i : Int) = ((l[i].toNat : Nat) : Int) := by
  unfold bt
  rw [dif_pos (by rw [txb_size, Int.toNat_natCast]; exact h)]
  simp only [Int.toNat_natCast]
  rfl
theorem txb_inj {a b : List UInt8} (h : txb a = txb b) : a = b := by
  have := congrArg (fun z : ByteArray => z.data.toList) h
  exact this
theorem txb_toList (a b : ByteArray) : a.toList = b.toList ↔ a = b := by
  constructor
  · intro h
    rw [Go.Lib.toList_data, Go.Lib.toList_data] at h
    rw [txb_of a, txb_of b, h]
  · rintro rfl; rfl
theorem txb_extract (l : List UInt8) (a b : Nat) : (txb l).extract a b = txb ((l.drop a).take (b - a)) := by
  rw [txb_of ((txb l).extract a b), Go.Lib.extract_data, txb_data]
theorem rd_txb (L : List (List UInt8)) (j : Nat) (h : j < L.length) : rdOf ByteArray.empty (L.map txb) (j : Int) = txb L[j] := by
  unfold rdOf
  simp [h]
def inL (q : List UInt8) : List Int := q.map fun b => ((b.toNat : Nat) : Int) - 48
def digB (b : UInt8) : Bool := decide (48 ≤ b.toNat) && decide (b.toNat ≤ 57)
def pgN : Int × List (List Int) × Bool := (0, [], false)
def pgV (s : ByteArray) (ok : Bool) (n : Int) (L : List (List Int)) : Int × List (List Int) × Bool := if ok = true ∧ gameB n L = true ∧ txb (gmT n L) = s then (n, L, true) else pgN
theorem inL_len (q : List UInt8) : (inL q).length = q.length := by simp [inL]
theorem impl_ParseGame.ev_end (s : ByteArray) (ok : Bool) (n : Int) (L : List (List Int)) (PS : List ByteArray) (j : Nat) (hj : PS.length = j) (hl : L.length ≤ 9223372036854775807) (hx : ∀ x ∈ L, x.length ≤ 9223372036854775807) : Ev (fun k => impl_ParseGame.l0 k s ok PS (PS.length : Int) (j : Int) n L) (pgV s ok n L) := by
  refine ev_step ?_
  simp only [impl_ParseGame.l0]
  rw [ev_neg (by omega)]
  unfold pgV
  cases ok with
  | false => rw [ev_neg (by decide), ev_now, if_neg (by simp)]; rfl
  | true =>
    rw [ev_pos rfl, ev_bind (impl_IsGame.ev n L hl hx)]
    cases hg : gameB n L with
    | false => rw [ev_neg (by decide), ev_now, if_neg (by simp)]; rfl
    | true =>
      obtain ⟨⟨a0, a1, a2, a3⟩, a4⟩ := good_small hg
      rw [ev_pos rfl, ev_bind (impl_gameText.ev n L a0 a1 a2 a3 (fun x hx => ⟨(a4 x hx).1, fun y hy => by have := (a4 x hx).2 y hy; omega⟩))]
      by_cases c : txb (gmT n L) = s
      · rw [ev_pos ((txb_toList _ _).2 c), ev_now, if_pos ⟨rfl, rfl, c⟩]
      · rw [ev_neg (fun h => c ((txb_toList _ _).1 h)), ev_now, if_neg (fun h => c h.2.2)]; rfl
theorem impl_ParseGame.ev_l1 (s : ByteArray) (ok : Bool) (n : Int) (acc : List (List Int)) (ha : acc.length ≤ 2000000) (PS : List ByteArray) (j : Nat) (q : List UInt8) (hq : q.length ≤ 2000000) (R : Int × List (List Int) × Bool) (hR : Ev (fun k => impl_ParseGame.l0 k s ok PS (PS.length : Int) (wrap64 ((j : Int) + 1)) n (acc ++ [inL q])) R) : ∀ (d i : Nat), i + d = q.length → Ev (fun k => impl_ParseGame.l1 k s ok (txb q) ((inL q).take i) PS (PS.length : Int) (j : Int) ((txb q).size : Int) (i : Int) n acc) R := by
  have hs := txb_size q
  intro d
  induction d with
  | zero =>
    intro i h
    refine ev_step ?_
    simp only [impl_ParseGame.l1]
    rw [ev_neg (by omega), ev_pos (by omega), List.take_of_length_le (by rw [inL_len]; omega)]
    exact hR
  | succ d ih =>
    intro i h
    refine ev_step ?_
    simp only [impl_ParseGame.l1]
    have hi : i < q.length := by omega
    have hb := q[i].toNat_lt
    have hih := ih (i + 1) (by omega)
    have e : (inL q).take (i + 1) = (inL q).take i ++ [((q[i].toNat : Nat) : Int) - 48] := by
      rw [List.take_succ_eq_append_getElem (by rw [inL_len]; exact hi)]
      simp [inL]
    rw [e] at hih
    rw [ev_pos (by omega), ev_pos (by omega), ev_pos (by omega), ev_pos (by rw [List.length_take, inL_len]; omega), bt_txb q i hi, w64 (x := ((q[i].toNat : Nat) : Int)) (by omega) (by omega), w64 (x := ((q[i].toNat : Nat) : Int) - 48) (by omega) (by omega), w64 (x := (i : Int) + 1) (by omega) (by omega)]
    exact hih
theorem impl_ParseGame.ev_l0 (s : ByteArray) (ok : Bool) (n : Int) (P : List (List UInt8)) (hP : P.length ≤ 1100000) (hq : ∀ q ∈ P, q.length ≤ 2000000) : ∀ (d j : Nat), j + d = P.length → Ev (fun k => impl_ParseGame.l0 k s ok (P.map txb) ((P.map txb).length : Int) (j : Int) n ((P.take j).map inL)) (pgV s ok n (P.map inL)) := by
  have hpl : (P.map txb).length = P.length := List.length_map ..
  intro d
  induction d with
  | zero =>
    intro j h
    rw [List.take_of_length_le (by omega)]
    exact impl_ParseGame.ev_end s ok n (P.map inL) (P.map txb) j (by omega) (by rw [List.length_map]; omega) (fun x hx => by obtain ⟨q, hq', rfl⟩ := List.mem_map.1 hx; rw [inL_len]; have := hq q hq'; omega)
  | succ d ih =>
    intro j h
    refine ev_step ?_
    simp only [impl_ParseGame.l0]
    have hj : j < P.length := by omega
    have hih := ih (j + 1) (by omega)
    rw [List.take_succ_eq_append_getElem hj, List.map_append, List.map_singleton] at hih
    rw [ev_pos (by omega), ev_pos (by omega), ev_pos (by omega), rd_txb P j hj]
    exact impl_ParseGame.ev_l1 s ok n ((P.take j).map inL) (by rw [List.length_map, List.length_take]; omega) (P.map txb) j P[j] (hq _ (List.getElem_mem hj)) _ (by rw [w64 (by omega) (by omega)]; exact hih) P[j].length 0 (Nat.zero_add _)
theorem spl_small : ∀ l : List UInt8, (spl l).length ≤ l.length + 1 ∧ ∀ q ∈ spl l, q.length ≤ l.length
  | [] => by simp [spl]
  | b :: t => by
    obtain ⟨x, r, e⟩ := spl_cons t
    have ih := spl_small t
    rw [e] at ih
    by_cases h : b = 46
    · subst h
      rw [spl_dot, e]
      refine ⟨by have := ih.1; simp only [List.length_cons] at this ⊢; omega, fun q hq => ?_⟩
      rcases List.mem_cons.1 hq with rfl | hq
      · simp
      · have := ih.2 q hq; rw [List.length_cons]; omega
    · rw [spl_else h e]
      refine ⟨by have := ih.1; simp only [List.length_cons] at this ⊢; omega, fun q hq => ?_⟩
      rcases List.mem_cons.1 hq with rfl | hq
      · have := ih.2 x (List.mem_cons_self ..); rw [List.length_cons, List.length_cons]; omega
      · have := ih.2 q (List.mem_cons_of_mem _ hq); rw [List.length_cons]; omega
theorem impl_readNumber.tells (h : ByteArray) (hs : h.size ≤ 1048576) : ∃ n ok, impl_readNumber.f h 9 = some (n, ok) := by
  unfold impl_readNumber.f
  rw [if_pos ⟨hs, by decide⟩]
  exact ⟨_, _, rfl⟩
theorem impl_readNumber.digit {n : Int} (h1 : 1 ≤ n) (h9 : n ≤ 9) : impl_readNumber.f (txb [UInt8.ofNat (48 + n).toNat]) 9 = some (n, true) := by
  unfold impl_readNumber.f
  rw [if_pos ⟨by rw [txb_size, List.length_singleton]; omega, by decide⟩, txb_data]
  have ha : Go.Lib.atoiAll [UInt8.ofNat (48 + n).toNat] = .ok n := by
    have : n = 1 ∨ n = 2 ∨ n = 3 ∨ n = 4 ∨ n = 5 ∨ n = 6 ∨ n = 7 ∨ n = 8 ∨ n = 9 := by omega
    rcases this with rfl | rfl | rfl | rfl | rfl | rfl | rfl | rfl | rfl <;> rfl
  rw [ha]
  simp only
  rw [if_pos ⟨by omega, h9⟩, Go.Lib.decDigits_one (by omega), show 48 + n.toNat = (48 + n).toNat by omega]
  exact congrArg some (if_pos rfl)
theorem impl_ParseGame.ev (l : List UInt8) (hl : l.length ≤ 1048576) : ∃ n ok, impl_readNumber.f (txb (Go.Lib.cut l [59]).1) 9 = some (n, ok) ∧ Ev (fun k => impl_ParseGame.f k (txb l)) (pgV (txb l) ok n ((spl (Go.Lib.cut l [59]).2.1).map inL)) := by
  have hc1 : (Go.Lib.cut l [59]).1.length ≤ l.length := by
    unfold Go.Lib.cut
    split
    · simp only [List.length_take]; omega
    · exact Nat.le_refl _
  have hc2 : (Go.Lib.cut l [59]).2.1.length ≤ l.length := by
    unfold Go.Lib.cut
    split
    · simp only [List.length_drop]; omega
    · simp
  obtain ⟨n, ok, hn⟩ := impl_readNumber.tells (txb (Go.Lib.cut l [59]).1) (by rw [txb_size]; omega)
  refine ⟨n, ok, hn, ?_⟩
  have hcut : strings_Cut.f (txb l) (⟨#[59]⟩ : ByteArray) = some (txb (Go.Lib.cut l [59]).1, txb (Go.Lib.cut l [59]).2.1, (Go.Lib.cut l [59]).2.2) := by
    unfold strings_Cut.f
    rw [if_pos (by rw [txb_size]; exact hl)]
    rfl
  have hsm := spl_small (Go.Lib.cut l [59]).2.1
  simp only [impl_ParseGame.f]
  rw [ev_bind (ev_of hcut), ev_bind (ev_of hn), ev_bind (ev_of (show strings_Split.f (txb (Go.Lib.cut l [59]).2.1) (⟨#[46]⟩ : ByteArray) = _ from strings_Split.v _ (by omega)))]
  exact impl_ParseGame.ev_l0 (txb l) ok n (spl (Go.Lib.cut l [59]).2.1) (by omega) (fun q hq => by have := hsm.2 q hq; omega) _ 0 (Nat.zero_add _)
theorem spec_l1Split.ev_l (l : List UInt8) (hl : l.length ≤ 1048576) : ∀ (d i j : Nat) (out x : List (List UInt8)) (y : List UInt8) (r : List (List UInt8)), i + d = l.length → j ≤ i → out.length ≤ i → spl (l.drop i) = y :: r → Ev (fun k => spec_l1Split.l0 k (txb l) 46 (out.map txb) (j : Int) (i : Int)) ((out ++ (((l.drop j).take (i - j) ++ y) :: r)).map txb) := by
  have hs := txb_size l
  intro d
  induction d with
  | zero =>
    intro i j out x y r h hj ho he
    refine ev_step ?_
    simp only [spec_l1Split.l0]
    rw [List.drop_of_length_le (by omega)] at he
    simp only [spl, List.cons.injEq] at he
    obtain ⟨rfl, rfl⟩ := he
    rw [ev_neg (by omega), ev_pos (by omega), ev_pos (by omega), ev_pos (by rw [List.length_map]; omega), ev_now, Int.toNat_natCast, txb_extract, hs, List.append_nil, List.map_append, List.map_singleton, show i - j = l.length - j by omega]
  | succ d ih =>
    intro i j out x y r h hj ho he
    refine ev_step ?_
    simp only [spec_l1Split.l0]
    have hi : i < l.length := by omega
    have hb := l[i].toNat_lt
    rw [List.drop_eq_getElem_cons hi] at he
    obtain ⟨y', r', e'⟩ := spl_cons (l.drop (i + 1))
    rw [ev_pos (by omega), ev_pos (by omega), bt_txb l i hi]
    by_cases c : l[i] = 46
    · rw [c, spl_dot, e'] at he
      obtain ⟨rfl, rfl⟩ := List.cons.inj he
      have hih := ih (i + 1) (i + 1) (out ++ [(l.drop j).take (i - j)]) x y' r' (by omega) (Nat.le_refl _) (by rw [List.length_append, List.length_singleton]; omega) e'
      rw [Nat.sub_self, List.take_zero, List.nil_append, List.append_assoc, List.singleton_append, List.map_append, List.map_singleton] at hih
      rw [ev_pos (by rw [c]; rfl), ev_pos (by omega), ev_pos (by omega), ev_pos (by omega), ev_pos (by rw [List.length_map]; omega), Int.toNat_natCast, Int.toNat_natCast, txb_extract, w64 (x := (i : Int) + 1) (by omega) (by omega), List.append_nil]
      exact hih
    · rw [spl_else c e'] at he
      obtain ⟨rfl, rfl⟩ := List.cons.inj he
      have hih := ih (i + 1) j out x y' r' (by omega) (by omega) (by omega) e'
      have e3 : (l.drop j).take (i + 1 - j) = (l.drop j).take (i - j) ++ [l[i]] := by
        rw [show i + 1 - j = (i - j) + 1 by omega, List.take_succ_eq_append_getElem (by rw [List.length_drop]; omega), List.getElem_drop]
        congr 2
        congr 1
        omega
      rw [e3, List.append_assoc, List.singleton_append] at hih
      have c46 : ¬ ((l[i].toNat : Nat) : Int) = 46 := fun h => c (by
        have h2 : l[i].toNat = 46 := by omega
        exact UInt8.toNat.inj h2)
      rw [ev_neg c46, w64 (x := (i : Int) + 1) (by omega) (by omega)]
      exact hih
theorem spec_l1Split.ev (l : List UInt8) (hl : l.length ≤ 1048576) : Ev (fun k => spec_l1Split.f k (txb l) 46) ((spl l).map txb) := by
  obtain ⟨y, r, e⟩ := spl_cons l
  have h := spec_l1Split.ev_l l hl l.length 0 0 [] [] y r (Nat.zero_add _) (Nat.le_refl _) (Nat.le_refl _) e
  simp only [List.drop_zero, Nat.sub_self, List.take_zero, List.nil_append, List.map_nil] at h
  rw [e]
  exact h
theorem orBits_test : ∀ (x : List Int) (m i : Nat), (∀ y ∈ x, 0 ≤ y) → (orBits m x).testBit i = (m.testBit i || x.contains (i : Int))
  | [], m, i, _ => by simp [orBits]
  | y :: x, m, i, h => by
    have hy := h y List.mem_cons_self
    have ih := orBits_test x (m ||| 2 ^ y.toNat) i (fun z hz => h z (List.mem_cons_of_mem _ hz))
    show (orBits (m ||| 2 ^ y.toNat) x).testBit i = _
    rw [ih, Nat.testBit_or, Nat.testBit_two_pow, List.contains_cons, Bool.or_assoc]
    congr 2
    by_cases e : y.toNat = i
    · rw [decide_eq_true e, beq_iff_eq.2 (show (i : Int) = y by omega)]
    · rw [decide_eq_false e, beq_eq_false_iff_ne.2 (show (i : Int) ≠ y by omega)]
theorem maskN_test (x : List Int) (i : Nat) (h : ∀ y ∈ x, 0 ≤ y) : (maskN x).testBit i = x.contains (i : Int) := by
  rw [maskN, orBits_test x 0 i h]
  simp
theorem nodup_sum_le (f : Nat → Nat) : ∀ (n : Nat) (l : List Nat), l.Nodup → (∀ x ∈ l, x < n) → (l.map f).sum ≤ ((List.range n).map f).sum
  | 0, l, _, h => by
    cases l with
    | nil => exact Nat.le_refl _
    | cons x l => exact absurd (h x List.mem_cons_self) (Nat.not_lt_zero _)
  | n + 1, l, hd, h => by
    have h1 := nodup_sum_le f n (l.erase n) (hd.erase n) (fun x hx => by
      have h2 := (hd.mem_erase_iff.1 hx)
      have := h x h2.2
      omega)
    rw [List.range_succ, List.map_append, List.sum_append_nat, List.map_singleton, List.sum_singleton]
    by_cases hm : n ∈ l
    · have hp := (List.perm_cons_erase hm).map f
      have hs : (l.map f).sum = f n + ((l.erase n).map f).sum := by rw [hp.sum_nat, List.map_cons, List.sum_cons]
      omega
    · rw [List.erase_of_not_mem hm] at h1
      omega
def cnt9 (m : Nat) : Nat := ((List.range 9).map fun i => if m.testBit i = true then 1 else 0).sum
def topL : List Nat := chainsC.map fun c => (c.map fun a => cnt9 a + 1).foldl max 0
theorem topL_sum : ((List.range 126).map fun i => topL.getD i 0).sum = 886 := by decide +kernel
theorem top_all : ((List.range 512).all fun a => decide (cnt9 a + 1 ≤ topL.getD (chainOf.getD a 0) 0)) = true := by decide +kernel
theorem cnt9_top {a : Nat} (h : a < 512) : cnt9 a + 1 ≤ topL.getD (chainOf.getD a 0) 0 := of_decide_eq_true (List.all_eq_true.1 top_all a (List.mem_range.2 h))
theorem anti_sum (l : List Nat) (hl : ∀ x ∈ l, x < 512) (hp : l.Pairwise fun a b => ¬ (a &&& b = a) ∧ ¬ (a &&& b = b)) : (l.map fun a => cnt9 a + 1).sum ≤ 886 := by
  have hd : (l.map fun a => chainOf.getD a 0).Nodup := by
    rw [List.Nodup, List.pairwise_map]
    refine List.Pairwise.imp_of_mem (fun {a b} ha hb hab he => ?_) hp
    rcases chain_cmp a b (hl a ha) (hl b hb) he with e | e
    · exact hab.1 e
    · exact hab.2 e
  have h := nodup_sum_le (fun i => topL.getD i 0) 126 _ hd (fun x hx => by
    obtain ⟨a, ha, rfl⟩ := List.mem_map.1 hx
    exact chain_lt a (hl a ha))
  rw [topL_sum, List.map_map] at h
  have h2 : ∀ (L : List Nat), (∀ x ∈ L, x < 512) → (L.map fun a => cnt9 a + 1).sum ≤ (L.map ((fun i => topL.getD i 0) ∘ fun a => chainOf.getD a 0)).sum := by
    intro L
    induction L with
    | nil => intro _; exact Nat.le_refl _
    | cons a L ih =>
      intro hL
      have h3 := cnt9_top (hL a (List.mem_cons_self ..))
      have h4 := ih (fun x hx => hL x (List.mem_cons_of_mem _ hx))
      simp only [List.map_cons, List.sum_cons, Function.comp_apply] at h4 ⊢
      omega
  have := h2 l hl
  omega
theorem inc_nodup : ∀ (l : List Int), incB l = true → (∀ y ∈ l, 0 ≤ y) → (l.map Int.toNat).Nodup
  | [], _, _ => List.nodup_nil
  | a :: l, h, h0 => by
    rw [List.map_cons, List.nodup_cons]
    refine ⟨fun hm => ?_, inc_nodup l (incB_tail h) (fun y hy => h0 y (List.mem_cons_of_mem _ hy))⟩
    obtain ⟨y, hy, e⟩ := List.mem_map.1 hm
    have h1 := incB_lt h y hy
    have h2 := h0 a (List.mem_cons_self ..)
    omega
theorem set_cnt {n : Int} {x : List Int} (h9 : n ≤ 9) (h : setB n x = true) : x.length ≤ cnt9 (maskN x) ∧ maskN x < 512 := by
  have hin := setB_in h
  have hm : maskN x < 512 := maskN_lt 9 x (fun y hy => by have := hin y hy; omega)
  simp only [setB, Bool.and_eq_true] at h
  have hs := nodup_sum_le (fun i => if (maskN x).testBit i = true then 1 else 0) 9 (x.map Int.toNat) (inc_nodup x h.2 (fun y hy => (hin y hy).1)) (fun z hz => by
    obtain ⟨y, hy, rfl⟩ := List.mem_map.1 hz
    have := hin y hy
    omega)
  have e : ∀ (L : List Int), (∀ y ∈ L, y ∈ x) → ((L.map Int.toNat).map fun i => if (maskN x).testBit i = true then 1 else 0).sum = L.length := by
    intro L
    induction L with
    | nil => intro _; rfl
    | cons y L ih =>
      intro hL
      have hy := hL y (List.mem_cons_self ..)
      have ht : (maskN x).testBit y.toNat = true := by
        rw [maskN_test x y.toNat (fun z hz => (hin z hz).1), List.contains_iff_mem, show ((y.toNat : Nat) : Int) = y by have := (hin y hy).1; omega]
        exact hy
      have := ih (fun z hz => hL z (List.mem_cons_of_mem _ hz))
      simp only [List.map_cons, List.sum_cons, ht, if_true, this, List.length_cons]
      omega
  rw [e x (fun y hy => hy)] at hs
  exact ⟨hs, hm⟩
theorem join_len : ∀ (ps : List (List UInt8)), ps ≠ [] → (Go.Lib.join ps [46]).length + 1 = (ps.map fun p => p.length + 1).sum
  | [], h => absurd rfl h
  | [p], _ => by simp [Go.Lib.join_one]
  | p :: q :: r, _ => by
    have ih := join_len (q :: r) (by simp)
    have e : Go.Lib.join (p :: q :: r) [46] = p ++ 46 :: Go.Lib.join (q :: r) [46] := by
      rw [Go.Lib.join_cons, Go.Lib.join_cons]
      simp [Go.Lib.joinTail]
    rw [e, List.map_cons, List.sum_cons, ← ih, List.length_append, List.length_cons]
    omega
theorem text_short {n : Int} {l : List (List Int)} (h : gameB n l = true) : (gmT n l).length ≤ 1000 := by
  have hg := (game_iff n l).1 h
  have h9 := hg.n9
  have hf := h
  simp only [gameB, Bool.and_eq_true] at hf
  have hgs := hf.2.2.2
  have hset : ∀ x ∈ l, x.length ≤ cnt9 (maskN x) ∧ maskN x < 512 := fun x hx => set_cnt h9 (hg.sets x hx).2
  have ha := anti_sum (l.map maskN) (fun m hm => by
    obtain ⟨x, hx, rfl⟩ := List.mem_map.1 hm
    exact (hset x hx).2) (by
    rw [List.pairwise_iff_getElem]
    intro i j hi hj hij
    rw [List.length_map] at hi hj
    have h1 := List.all_eq_true.1 hgs j (by rw [List.mem_range'_1]; omega)
    simp only [gS, Bool.and_eq_true, List.all_eq_true] at h1
    have h2 := h1.2 i (by rw [List.mem_range'_1]; omega)
    simp only [gInS, Bool.and_eq_true, Bool.not_eq_true', decide_eq_false_iff_not] at h2
    rw [show mAt l i = maskN l[i] by simp [mAt, hi], show mAt l j = maskN l[j] by simp [mAt, hj]] at h2
    rw [List.getElem_map, List.getElem_map]
    refine ⟨fun e => h2.2 ?_, fun e => h2.1 ?_⟩
    · rw [Nat.and_comm]; exact e
    · rw [Nat.and_comm]; exact e)
  have hne : l ≠ [] := fun e => hg.ne (by rw [e]; rfl)
  have hj := join_len (l.map dgL) (by simpa using hne)
  have hle : ∀ (L : List (List Int)), (∀ x ∈ L, x ∈ l) → ((L.map dgL).map fun p => p.length + 1).sum ≤ ((L.map maskN).map fun a => cnt9 a + 1).sum := by
    intro L
    induction L with
    | nil => intro _; exact Nat.le_refl _
    | cons x L ih =>
      intro hL
      have h3 := (hset x (hL x (List.mem_cons_self ..))).1
      have h4 := ih (fun z hz => hL z (List.mem_cons_of_mem _ hz))
      simp only [List.map_cons, List.sum_cons, dgL_len]
      omega
  have h5 := hle l (fun x hx => hx)
  unfold gmT
  simp only [List.length_append, List.length_cons, List.length_nil]
  omega
def pgtS (m : Int) (P : List (List UInt8)) : Int × List (List Int) × Bool := if (P.all fun q => q.all digB) = true ∧ gameB m (P.map inL) = true then (m, P.map inL, true) else pgN
theorem spec_gmParse.ev_l1 (m : Int) (acc : List (List Int)) (ha : acc.length ≤ 2000000) (PS : List ByteArray) (j : Nat) (q : List UInt8) (hq : q.length ≤ 2000000) (R : Int × List (List Int) × Bool) (hR : q.all digB = true → Ev (fun k => spec_gmParse.l0 k PS (PS.length : Int) (wrap64 ((j : Int) + 1)) m (acc ++ [inL q])) R) (hN : q.all digB = false → R = pgN) : ∀ (d i : Nat), i + d = q.length → (q.take i).all digB = true → Ev (fun k => spec_gmParse.l1 k (txb q) ((inL q).take i) (i : Int) PS (PS.length : Int) (j : Int) m acc) R := by
  have hs := txb_size q
  intro d
  induction d with
  | zero =>
    intro i h hd
    refine ev_step ?_
    simp only [spec_gmParse.l1]
    rw [List.take_of_length_le (by omega)] at hd
    rw [ev_neg (by omega), ev_pos (by omega), List.take_of_length_le (by rw [inL_len]; omega)]
    exact hR hd
  | succ d ih =>
    intro i h hd
    refine ev_step ?_
    simp only [spec_gmParse.l1]
    have hi : i < q.length := by omega
    have hb := q[i].toNat_lt
    have hbad : digB q[i] = false → q.all digB = false := fun hf => by
      cases ha2 : q.all digB with
      | false => rfl
      | true =>
        have := List.all_eq_true.1 ha2 q[i] (List.getElem_mem hi)
        rw [hf] at this; cases this
    rw [ev_pos (by omega), ev_pos (by omega), bt_txb q i hi]
    by_cases c1 : ((q[i].toNat : Nat) : Int) < 48
    · rw [ev_pos c1, hN (hbad (by unfold digB; rw [decide_eq_false (by omega), Bool.false_and])), ev_now]
      rfl
    · rw [ev_neg c1]
      by_cases c2 : ((q[i].toNat : Nat) : Int) > 57
      · rw [ev_pos c2, hN (hbad (by unfold digB; rw [decide_eq_false (p := q[i].toNat ≤ 57) (by omega), Bool.and_false])), ev_now]
        rfl
      · have hdi : digB q[i] = true := by unfold digB; rw [decide_eq_true (by omega), decide_eq_true (by omega)]; rfl
        have hih := ih (i + 1) (by omega) (by rw [List.take_succ_eq_append_getElem hi, List.all_append, hd, Bool.true_and, List.all_cons, hdi]; rfl)
        have e : (inL q).take (i + 1) = (inL q).take i ++ [((q[i].toNat : Nat) : Int) - 48] := by
          rw [List.take_succ_eq_append_getElem (by rw [inL_len]; exact hi)]
          simp [inL]
        rw [e] at hih
        rw [ev_neg c2, ev_pos (by rw [List.length_take, inL_len]; omega), show (((q[i].toNat : Nat) : Int) - 48) % 256 = ((q[i].toNat : Nat) : Int) - 48 by omega, w64 (x := (i : Int) + 1) (by omega) (by omega)]
        exact hih
theorem spec_gmParse.ev_l0 (m : Int) (P : List (List UInt8)) (hP : P.length ≤ 1100000) (hq : ∀ q ∈ P, q.length ≤ 2000000) : ∀ (d j : Nat), j + d = P.length → ((P.take j).all fun q => q.all digB) = true → Ev (fun k => spec_gmParse.l0 k (P.map txb) ((P.map txb).length : Int) (j : Int) m ((P.take j).map inL)) (pgtS m P) := by
  have hpl : (P.map txb).length = P.length := List.length_map ..
  intro d
  induction d with
  | zero =>
    intro j h hd
    refine ev_step ?_
    simp only [spec_gmParse.l0]
    rw [List.take_of_length_le (by omega)] at hd ⊢
    rw [ev_neg (by omega), ev_bind (spec_gmGood.ev m (P.map inL) (by rw [List.length_map]; omega) (fun x hx => by obtain ⟨q, hq', rfl⟩ := List.mem_map.1 hx; rw [inL_len]; have := hq q hq'; omega))]
    unfold pgtS
    cases hg : gameB m (P.map inL) with
    | false => rw [ev_neg (by decide), ev_now, if_neg (by simp)]; rfl
    | true => rw [ev_pos rfl, ev_now, if_pos ⟨hd, rfl⟩]
  | succ d ih =>
    intro j h hd
    refine ev_step ?_
    simp only [spec_gmParse.l0]
    have hj : j < P.length := by omega
    rw [ev_pos (by omega), ev_pos (by omega), ev_pos (by omega), rd_txb P j hj]
    refine spec_gmParse.ev_l1 m ((P.take j).map inL) (by rw [List.length_map, List.length_take]; omega) (P.map txb) j P[j] (hq _ (List.getElem_mem hj)) _ (fun hdj => ?_) (fun hdj => ?_) P[j].length 0 (Nat.zero_add _) rfl
    · have hih := ih (j + 1) (by omega) (by rw [List.take_succ_eq_append_getElem hj, List.all_append, hd, Bool.true_and, List.all_cons, hdj]; rfl)
      rw [List.take_succ_eq_append_getElem hj, List.map_append, List.map_singleton] at hih
      rw [w64 (by omega) (by omega)]
      exact hih
    · unfold pgtS
      rw [if_neg]
      rintro ⟨h1, _⟩
      have := List.all_eq_true.1 h1 P[j] (List.getElem_mem hj)
      rw [hdj] at this
      cases this
def pgtR (l : List UInt8) : Int × List (List Int) × Bool := if 3 ≤ l.length ∧ l.length ≤ 1000 ∧ (49 ≤ (l.getD 0 0).toNat ∧ (l.getD 0 0).toNat ≤ 57) ∧ l.getD 1 0 = 59 then pgtS ((((l.getD 0 0).toNat : Nat) : Int) - 48) (spl (l.drop 2)) else pgN
theorem spec_gmParse.ev (l : List UInt8) (hl : l.length ≤ 1048576) : Ev (fun k => spec_gmParse.f k (txb l)) (pgtR l) := by
  have hs := txb_size l
  have hz : Ev (fun k => spec_gmParse.j0 k (txb l) true) pgN := by
    refine ev_step ?_
    simp only [spec_gmParse.j0]
    rw [ev_pos trivial, ev_now]
    rfl
  simp only [spec_gmParse.f]
  unfold pgtR
  by_cases c3 : ((txb l).size : Int) < 3
  · rw [ev_pos c3, if_neg (fun h => by omega)]; exact hz
  rw [ev_neg c3]
  by_cases c1000 : ((txb l).size : Int) > 1000
  · rw [ev_pos c1000, if_neg (fun h => by omega)]; exact hz
  have h0 : 0 < l.length := by omega
  have h1 : 1 < l.length := by omega
  have e0 : l.getD 0 0 = l[0] := by simp [List.getD_eq_getElem?_getD, h0]
  have e1 : l.getD 1 0 = l[1] := by simp [List.getD_eq_getElem?_getD, h1]
  have b0 := bt_txb l 0 h0
  have b1 := bt_txb l 1 h1
  have n0 := l[0].toNat_lt
  have e48 : ∀ b : Nat, 49 ≤ (b : Int) → b < 256 → ((b : Int) - 48) % 256 = (b : Int) - 48 := fun b h h2 => by omega
  rw [e0, e1, ev_neg c1000, ev_pos (by omega), show bt (txb l) 0 = ((l[0].toNat : Nat) : Int) from b0]
  by_cases c49 : ((l[0].toNat : Nat) : Int) < 49
  · rw [ev_pos c49, if_neg (fun h => by omega)]; exact hz
  rw [ev_neg c49]
  by_cases c57 : ((l[0].toNat : Nat) : Int) > 57
  · rw [ev_pos c57, if_neg (fun h => by omega)]; exact hz
  rw [ev_neg c57, ev_pos (by omega), show bt (txb l) 1 = ((l[1].toNat : Nat) : Int) from b1]
  refine ev_step ?_
  simp only [spec_gmParse.j0]
  by_cases c59 : l[1] = 59
  · have hdr : (l.drop 2).length ≤ 1048576 := by rw [List.length_drop]; omega
    have hsm := spl_small (l.drop 2)
    rw [ev_neg (by rw [c59]; decide), ev_pos (by omega), ev_pos (by omega), if_pos ⟨by omega, by omega, by omega, c59⟩, txb_extract, hs, List.take_of_length_le (by rw [List.length_drop]; omega), ev_bind (spec_l1Split.ev (l.drop 2) hdr), show bt (txb l) 0 = ((l[0].toNat : Nat) : Int) from b0, e48 _ (by omega) n0]
    exact spec_gmParse.ev_l0 _ (spl (l.drop 2)) (by omega) (fun q hq => by have := hsm.2 q hq; omega) _ 0 (Nat.zero_add _) rfl
  · have hne : ((l[1].toNat : Nat) : Int) ≠ 59 := fun h => c59 (UInt8.toNat.inj (by show l[1].toNat = 59; omega))
    rw [ev_pos (by simpa using hne), if_neg (fun h => c59 h.2.2.2), ev_now]
    rfl
theorem spec_ParseGame.ev (l : List UInt8) (hl : l.length ≤ 1048576) : Ev (fun k => spec_ParseGame.f k (txb l)) (pgtR l) := by
  simp only [spec_ParseGame.f]
  rw [ev_bind (spec_gmParse.ev l hl), ev_now]
theorem dg_digits {x : List Int} (hx : ∀ y ∈ x, 0 ≤ y ∧ y ≤ 9) : (dgL x).all digB = true ∧ inL (dgL x) = x ∧ ∀ b ∈ dgL x, b ≠ 46 := by
  have hb : ∀ y ∈ x, (UInt8.ofNat (48 + y).toNat).toNat = 48 + y.toNat := fun y hy => by
    have := hx y hy
    simp only [UInt8.toNat_ofNat']
    omega
  refine ⟨?_, ?_, ?_⟩
  · rw [List.all_eq_true]
    intro b hb'
    obtain ⟨y, hy, rfl⟩ := List.mem_map.1 hb'
    have h1 := hb y hy
    have h2 := hx y hy
    unfold digB
    rw [h1, decide_eq_true (by omega), decide_eq_true (by omega)]
    rfl
  · unfold inL dgL
    rw [List.map_map]
    conv => rhs; rw [← List.map_id x]
    refine List.map_congr_left (fun y hy => ?_)
    have h1 := hb y hy
    have h2 := hx y hy
    simp only [Function.comp_apply, h1, id_eq]
    omega
  · intro b hb' e
    obtain ⟨y, hy, rfl⟩ := List.mem_map.1 hb'
    have h1 := hb y hy
    rw [e] at h1
    have : (46 : UInt8).toNat = 46 := rfl
    omega
theorem digits_dg {q : List UInt8} (h : q.all digB = true) : dgL (inL q) = q := by
  unfold dgL inL
  rw [List.map_map]
  conv => rhs; rw [← List.map_id q]
  refine List.map_congr_left (fun b hb => ?_)
  have h1 := List.all_eq_true.1 h b hb
  have h2 := b.toNat_lt
  simp only [digB, Bool.and_eq_true, decide_eq_true_eq] at h1
  simp only [Function.comp_apply, id_eq]
  rw [show (48 + (((b.toNat : Nat) : Int) - 48)).toNat = b.toNat by omega]
  exact UInt8.ofNat_toNat
theorem text_parts {n : Int} {L : List (List Int)} (h : gameB n L = true) : spl (Go.Lib.join (L.map dgL) [46]) = L.map dgL ∧ (L.map dgL).map inL = L ∧ ((L.map dgL).all fun q => q.all digB) = true := by
  obtain ⟨⟨a0, a1, a2, a3⟩, a4⟩ := good_small h
  refine ⟨spl_join _ (fun e => by have h5 : L.length = 0 := by { have h6 := congrArg List.length e; rw [List.length_map] at h6; exact h6 }; omega) (fun p hp => by obtain ⟨x, hx, rfl⟩ := List.mem_map.1 hp; exact (dg_digits (a4 x hx).2).2.2), ?_, ?_⟩
  · rw [List.map_map]
    conv => rhs; rw [← List.map_id L]
    exact List.map_congr_left (fun x hx => (dg_digits (a4 x hx).2).2.1)
  · rw [List.all_eq_true]
    intro q hq
    obtain ⟨x, hx, rfl⟩ := List.mem_map.1 hq
    exact (dg_digits (a4 x hx).2).1
theorem impl_ParseGame.ev_game {n : Int} {L : List (List Int)} (h : gameB n L = true) : Ev (fun k => impl_ParseGame.f k (txb (gmT n L))) (n, L, true) := by
  have hg := (game_iff n L).1 h
  have h1 := hg.n1
  have h9 := hg.n9
  have hsh := text_short h
  obtain ⟨p1, p2, p3⟩ := text_parts h
  obtain ⟨n', ok, hn, hev⟩ := impl_ParseGame.ev (gmT n L) (by omega)
  have hcut : Go.Lib.cut (gmT n L) [59] = ([UInt8.ofNat (48 + n).toNat], Go.Lib.join (L.map dgL) [46], true) := by
    have hne : UInt8.ofNat (48 + n).toNat ≠ 59 := fun e => by
      have h2 := congrArg UInt8.toNat e
      simp only [UInt8.toNat_ofNat'] at h2
      have : (59 : UInt8).toNat = 59 := rfl
      omega
    have hix : Go.Lib.index (gmT n L) [59] = 1 := by
      unfold gmT
      rw [List.cons_append, List.cons_append, List.nil_append, Go.Lib.index, Go.Lib.index]
      simp [List.isPrefixOf, Ne.symm hne]
    unfold Go.Lib.cut
    rw [hix]
    rfl
  rw [hcut] at hn hev
  rw [impl_readNumber.digit h1 h9] at hn
  simp only [Option.some.injEq, Prod.mk.injEq] at hn
  obtain ⟨rfl, rfl⟩ := hn
  dsimp only at hev
  rw [p1, p2] at hev
  unfold pgV at hev
  rw [if_pos ⟨rfl, h, rfl⟩] at hev
  exact hev
theorem impl_ParseGame.ev_none {l : List UInt8} (hl : l.length ≤ 1048576) (h : ∀ n L, gameB n L = true → gmT n L ≠ l) : Ev (fun k => impl_ParseGame.f k (txb l)) (0, [], false) := by
  obtain ⟨n', ok, hn, hev⟩ := impl_ParseGame.ev l hl
  unfold pgV at hev
  rw [if_neg (fun hh => h _ _ hh.2.1 (txb_inj hh.2.2))] at hev
  exact hev
theorem spec_ParseGame.ev_game {n : Int} {L : List (List Int)} (h : gameB n L = true) : Ev (fun k => spec_ParseGame.f k (txb (gmT n L))) (n, L, true) := by
  have hg := (game_iff n L).1 h
  have h1 := hg.n1
  have h9 := hg.n9
  have hsh := text_short h
  obtain ⟨p1, p2, p3⟩ := text_parts h
  have hev := spec_ParseGame.ev (gmT n L) (by omega)
  have hne : L ≠ [] := fun e => hg.ne (by rw [e]; rfl)
  have hj := join_len (L.map dgL) (by simpa using hne)
  have hpos : 2 ≤ ((L.map dgL).map fun p => p.length + 1).sum := by
    cases L with
    | nil => exact absurd rfl hne
    | cons x L =>
      have hx := (hg.sets x (List.mem_cons_self ..)).1
      simp only [List.map_cons, List.sum_cons, dgL_len]
      have : x.length ≠ 0 := by simpa using hx
      omega
  have hn0 : (UInt8.ofNat (48 + n).toNat).toNat = 48 + n.toNat := by
    simp only [UInt8.toNat_ofNat']
    omega
  have e0 : (gmT n L).getD 0 0 = UInt8.ofNat (48 + n).toNat := rfl
  have e1 : (gmT n L).getD 1 0 = 59 := rfl
  have e2 : (gmT n L).drop 2 = Go.Lib.join (L.map dgL) [46] := rfl
  have e3 : (gmT n L).length = 2 + (Go.Lib.join (L.map dgL) [46]).length := by
    unfold gmT
    rw [List.length_append]
    rfl
  unfold pgtR at hev
  rw [e0, e1, e2, hn0, if_pos ⟨by omega, hsh, by omega, rfl⟩, p1] at hev
  unfold pgtS at hev
  rw [p2, show ((48 + n.toNat : Nat) : Int) - 48 = n by omega, if_pos ⟨p3, h⟩] at hev
  exact hev
theorem spec_ParseGame.ev_none {l : List UInt8} (hl : l.length ≤ 1048576) (h : ∀ n L, gameB n L = true → gmT n L ≠ l) : Ev (fun k => spec_ParseGame.f k (txb l)) (0, [], false) := by
  have hev := spec_ParseGame.ev l hl
  have e : pgtR l = (0, [], false) := by
    unfold pgtR
    split
    · rename_i hc
      obtain ⟨c3, c1000, ⟨c49, c57⟩, c59⟩ := hc
      unfold pgtS
      rw [if_neg]
      · rfl
      rintro ⟨hd, hg⟩
      refine h _ _ hg ?_
      have h0 : 0 < l.length := by omega
      have h1 : 1 < l.length := by omega
      have e0 : l.getD 0 0 = l[0] := by simp [List.getD_eq_getElem?_getD, h0]
      have e1 : l.getD 1 0 = l[1] := by simp [List.getD_eq_getElem?_getD, h1]
      have hm : ((spl (l.drop 2)).map inL).map dgL = spl (l.drop 2) := by
        rw [List.map_map]
        conv => rhs; rw [← List.map_id (spl (l.drop 2))]
        exact List.map_congr_left (fun q hq => digits_dg (List.all_eq_true.1 hd q hq))
      unfold gmT
      rw [hm, join_spl, show (48 + ((((l.getD 0 0).toNat : Nat) : Int) - 48)).toNat = (l.getD 0 0).toNat by omega, UInt8.ofNat_toNat, ← c59, e0, e1]
      conv => rhs; rw [← List.take_append_drop 2 l]
      congr 1
      match l, h1 with
      | a :: b :: r, _ => rfl
    · rfl
  rw [e] at hev
  exact hev
theorem laws_FnExactParseGame.law (s : ByteArray) (ok : s.size ≤ 140737488351232) : Ev (fun k => laws_FnExactParseGame.f k s) true := by
  obtain ⟨l, rfl⟩ : ∃ l, s = txb l := ⟨_, txb_of s⟩
  have hs := txb_size l
  simp only [laws_FnExactParseGame.f]
  by_cases c : 1048576 < ((txb l).size : Int)
  · rw [ev_pos c, ev_now]
  rw [ev_neg c]
  have hl : l.length ≤ 1048576 := by omega
  obtain ⟨n, L, b, h1, h2, hL, hx⟩ : ∃ (n : Int) (L : List (List Int)) (b : Bool), Ev (fun k => impl_ParseGame.f k (txb l)) (n, L, b) ∧ Ev (fun k => spec_ParseGame.f k (txb l)) (n, L, b) ∧ L.length ≤ 1000 ∧ ∀ x ∈ L, x.length ≤ 100 := by
    by_cases hg : ∃ n L, gameB n L = true ∧ gmT n L = l
    · obtain ⟨n, L, hgb, rfl⟩ := hg
      obtain ⟨⟨a0, a1, a2, a3⟩, a4⟩ := good_small hgb
      exact ⟨n, L, true, impl_ParseGame.ev_game hgb, spec_ParseGame.ev_game hgb, a3, fun x hx => (a4 x hx).1⟩
    · have hno : ∀ n L, gameB n L = true → gmT n L ≠ l := fun n L h1 h2 => hg ⟨n, L, h1, h2⟩
      exact ⟨0, [], false, impl_ParseGame.ev_none hl hno, spec_ParseGame.ev_none hl hno, by simp, fun x hx => by cases hx⟩
  have he := laws_eqGame.ev_same n L (by omega) (fun x hx' => by have := hx x hx'; omega)
  have ht : totSS L ≤ 1000000 := by
    have h3 : ∀ (M : List (List Int)), (∀ x ∈ M, x.length ≤ 100) → totSS M ≤ 101 * (M.length : Int) := by
      intro M
      induction M with
      | nil => intro _; simp [totSS]
      | cons x M ih =>
        intro hM
        have h4 := hM x (List.mem_cons_self ..)
        have h5 := ih (fun y hy => hM y (List.mem_cons_of_mem _ hy))
        simp only [totSS, List.length_cons] at h5 ⊢
        omega
    have := h3 L hx
    omega
  have hp := totSS_nonneg L
  have hm := laws_markGame.ev n L 1 (by omega) (by omega) (by omega)
  have hh := laws_heldGame.ev n L 1 (by omega) (by omega) (by omega)
  rw [ev_bind h2, ev_bind h1, ev_bind he, ev_bind hm, ev_bind hh, ev_pos ⟨rfl, rfl, by show ¬ (1 + totSS L < 0); omega, rfl⟩, ev_now]
end Go.Proofs.YtollpoefgaodcaaDoor.Q
