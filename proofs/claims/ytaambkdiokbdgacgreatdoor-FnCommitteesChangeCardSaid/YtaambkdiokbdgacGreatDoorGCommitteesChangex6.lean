/- Printed functions, their contracts and plain facts on them: PParseCommittee; PGreatestLosing; PSubSets; PSwingSets; PSwingNum; PAgree; PPermWins; PSlicesEqualBool; PSameV; PVoAll; PVoWeight; PVoWins; PRename; PRenameBack. Conditions: as each theorem states. -/
import Derived.Test.YtaambkdiokbdgacGreatDoorGCommitteesChangex1
import Derived.Test.YtaambkdiokbdgacGreatDoorGCommitteesChangex5
import Derived.Test.YtaambkdiokbdgacGreatDoorGCommitteesChangex2
import Derived.Test.YtaambkdiokbdgacGreatDoorGCommitteesChangex3
import Derived.Test.YtaambkdiokbdgacGreatDoorGCommitteesChangex4
set_option maxHeartbeats 40000000
set_option maxRecDepth 100000
namespace Go.Proofs.YtaambkdiokbdgacGreatDoor.Q
open Go.RowKit Go.Proofs.YtaambkdiokbdgacGreatDoorW.PrintWords Go.Proofs.YtaambkdiokbdgacGreatDoorW.PrintLast Go.Proofs.YtaambkdiokbdgacGreatDoorW.PrintMore Go.Proofs.YtaambkdiokbdgacGreatDoorM
set_option linter.unusedVariables false
set_option linter.unusedSimpArgs false
theorem index_none : ∀ (l : List UInt8) (c : UInt8), (∀ b ∈ l, b ≠ c) → Go.Lib.index l [c] = -1
  | [], c, _ => by rw [Go.Lib.index]; simp [List.isPrefixOf]
  | b :: t, c, h => by
    have hb := h b (List.mem_cons_self ..)
    have hp : ([c] : List UInt8).isPrefixOf (b :: t) = false := by simp [List.isPrefixOf, Ne.symm hb]
    rw [Go.Lib.index, hp, index_none t c (fun x hx => h x (List.mem_cons_of_mem _ hx))]
    simp
theorem index_at : ∀ (p t : List UInt8) (c : UInt8), (∀ b ∈ p, b ≠ c) → Go.Lib.index (p ++ c :: t) [c] = ((p.length : Nat) : Int)
  | [], t, c, _ => by rw [List.nil_append, Go.Lib.index]; simp [List.isPrefixOf]
  | b :: p, t, c, h => by
    have hb := h b (List.mem_cons_self ..)
    have hp : ([c] : List UInt8).isPrefixOf (b :: (p ++ c :: t)) = false := by simp [List.isPrefixOf, Ne.symm hb]
    rw [List.cons_append, Go.Lib.index, hp, index_at p t c (fun x hx => h x (List.mem_cons_of_mem _ hx))]
    simp only [Bool.false_eq_true, if_false]
    rw [if_neg (by rw [beq_iff_eq]; omega), List.length_cons]
    omega
theorem cut_at (p t : List UInt8) (c : UInt8) (h : ∀ b ∈ p, b ≠ c) : Go.Lib.cut (p ++ c :: t) [c] = (p, t, true) := by
  unfold Go.Lib.cut
  rw [index_at p t c h, if_pos (by omega), Int.toNat_natCast, List.length_singleton, List.take_left' rfl]
  congr 2
  rw [List.drop_append, List.drop_eq_nil_of_le (by omega), List.nil_append, show p.length + 1 - p.length = 1 by omega]
  rfl
theorem cut_cases (l : List UInt8) (c : UInt8) : (∃ a b, Go.Lib.cut l [c] = (a, b, true) ∧ l = a ++ c :: b) ∨ Go.Lib.cut l [c] = (l, [], false) := by
  by_cases h : c ∈ l
  · obtain ⟨a, b, e, hn⟩ := List.append_of_mem h |>.elim (fun a ⟨b, e⟩ => (⟨a, b, e, trivial⟩ : ∃ a b, l = a ++ c :: b ∧ True))
    left
    -- the first place
    have : ∃ a b, l = a ++ c :: b ∧ ∀ x ∈ a, x ≠ c := by
      clear e hn a b
      induction l with
      | nil => cases h
      | cons x t ih =>
        by_cases hx : x = c
        · exact ⟨[], t, by rw [hx]; rfl, fun y hy => by cases hy⟩
        · have ht : c ∈ t := by
            rcases List.mem_cons.1 h with h1 | h1
            · exact absurd h1.symm hx
            · exact h1
          obtain ⟨a, b, e, ha⟩ := ih ht
          refine ⟨x :: a, b, by rw [e]; rfl, fun y hy => ?_⟩
          rcases List.mem_cons.1 hy with rfl | hy
          · exact hx
          · exact ha y hy
    obtain ⟨a, b, e, ha⟩ := this
    exact ⟨a, b, by rw [e]; exact cut_at a b c ha, e⟩
  · right
    unfold Go.Lib.cut
    rw [index_none l c (fun b hb e => h (e ▸ hb)), if_neg (by decide)]
theorem spc_small (c : UInt8) : ∀ l : List UInt8, (spc c l).length ≤ l.length + 1 ∧ ∀ q ∈ spc c l, q.length ≤ l.length
  | [] => by simp [spc]
  | b :: t => by
    obtain ⟨x, r, e⟩ := spc_cons c t
    have ih := spc_small c t
    rw [e] at ih
    by_cases h : b = c
    · rw [h, spc_dot, e]
      refine ⟨by have := ih.1; simp only [List.length_cons] at this ⊢; omega, fun q hq => ?_⟩
      rcases List.mem_cons.1 hq with rfl | hq
      · simp
      · have := ih.2 q hq; rw [List.length_cons]; omega
    · rw [spc_else h e]
      refine ⟨by have := ih.1; simp only [List.length_cons] at this ⊢; omega, fun q hq => ?_⟩
      rcases List.mem_cons.1 hq with rfl | hq
      · have := ih.2 x (List.mem_cons_self ..); rw [List.length_cons, List.length_cons]; omega
      · have := ih.2 q (List.mem_cons_of_mem _ hq); rw [List.length_cons]; omega
theorem mem_join44 : ∀ (ps : List (List UInt8)) (b : UInt8), b ∈ Go.Lib.join ps [44] → b = 44 ∨ ∃ p ∈ ps, b ∈ p
  | [], b, h => by rw [Go.Lib.join_nil] at h; cases h
  | [p], b, h => by
    rw [Go.Lib.join_one] at h
    exact .inr ⟨p, List.mem_cons_self .., h⟩
  | p :: q :: r, b, h => by
    have e : Go.Lib.join (p :: q :: r) [44] = p ++ 44 :: Go.Lib.join (q :: r) [44] := by
      rw [Go.Lib.join_cons, Go.Lib.join_cons]
      simp [Go.Lib.joinTail]
    rw [e] at h
    rcases List.mem_append.1 h with h | h
    · exact .inr ⟨p, List.mem_cons_self .., h⟩
    · rcases List.mem_cons.1 h with h | h
      · exact .inl h
      · rcases mem_join44 (q :: r) b h with h | ⟨x, hx, hb⟩
        · exact .inl h
        · exact .inr ⟨x, List.mem_cons_of_mem _ hx, hb⟩
theorem byte_ne {b c : UInt8} (h : b.toNat ≠ c.toNat) : b ≠ c := fun e => h (by rw [e])
theorem nm_split {ws : List Int} (h : ∀ w ∈ ws, 0 ≤ w ∧ w ≤ 1000) (h1 : 1 ≤ ws.length) : spc 44 (Go.Lib.join (nmL ws) [44]) = nmL ws := by
  refine spc_join 44 (nmL ws) (fun e => by have := nmL_len ws; rw [e] at this; simp at this; omega) (fun p hp b hb => byte_ne ?_)
  have := (nmL_in h p hp).2.2 b hb
  have e : (44 : UInt8).toNat = 44 := rfl
  omega
theorem cm_split {q : Int} {ws : List Int} (hq : 0 ≤ q ∧ q ≤ 9000) (h : ∀ w ∈ ws, 0 ≤ w ∧ w ≤ 1000) : spc 58 (cmT q ws) = [dgt q.toNat, Go.Lib.join (nmL ws) [44]] ∧ Go.Lib.cut (cmT q ws) [58] = (dgt q.toNat, Go.Lib.join (nmL ws) [44], true) := by
  have hd := (dgt_facts (n := q.toNat) (by omega)).2.2
  have e58 : (58 : UInt8).toNat = 58 := rfl
  have h1 : ∀ b ∈ dgt q.toNat, b ≠ 58 := fun b hb => byte_ne (by have := hd b hb; omega)
  have h2 : ∀ b ∈ Go.Lib.join (nmL ws) [44], b ≠ 58 := fun b hb => by
    rcases mem_join44 _ b hb with rfl | ⟨p, hp, hb⟩
    · decide
    · have := (nmL_in h p hp).2.2 b hb
      exact byte_ne (by omega)
  unfold cmT
  exact ⟨by rw [spc_app 58 _ _ h1, spc_one 58 _ h2], cut_at _ _ 58 h1⟩
theorem impl_readNumbers.hit {ws : List Int} (h : ∀ w ∈ ws, 0 ≤ w ∧ w ≤ 1000) (h9 : ws.length ≤ 9) (h1 : 1 ≤ ws.length) : Ev (fun k => impl_readNumbers.f k (txb (Go.Lib.join (nmL ws) [44])) 1000) (ws, true) := by
  have hl := nmL_len ws
  have hj := nmL_join h h9 ws.length (Nat.le_refl _)
  rw [List.take_of_length_le (by omega)] at hj
  have key : ∀ (d i : Nat), i + d = ws.length → Ev (fun k => impl_readNumbers.l0 k 1000 (ws.take i) ((nmL ws).map txb) (((nmL ws).map txb).length : Int) (i : Int)) (ws, true) := by
    intro d
    induction d with
    | zero =>
      intro i hi
      refine ev_step ?_
      simp only [impl_readNumbers.l0]
      rw [ev_neg (by rw [List.length_map]; omega), ev_now, List.take_of_length_le (by omega)]
    | succ d ih =>
      intro i hi
      refine ev_step ?_
      simp only [impl_readNumbers.l0]
      have hil : i < ws.length := by omega
      have hx := h ws[i] (List.getElem_mem hil)
      have hih := ih (i + 1) (by omega)
      have e : (nmL ws)[i]'(by omega) = dgt (ws[i]).toNat := by simp [nmL]
      rw [List.take_succ_eq_append_getElem hil, show ((i + 1 : Nat) : Int) = (i : Int) + 1 by omega] at hih
      rw [ev_pos (by rw [List.length_map]; omega), ev_pos (by omega), ev_pos (by rw [List.length_map]; omega), rd_txb _ i (by omega), e, ev_bind (ev_of (impl_readNumber.hit hx.1 hx.2 (by omega))), ev_pos rfl, ev_pos (by rw [List.length_take]; omega), w64 (by omega) (by omega)]
      exact hih
  simp only [impl_readNumbers.f]
  have hs := strings_Split.vc 44 (Go.Lib.join (nmL ws) [44]) (by omega)
  rw [nm_split h h1] at hs
  rw [ev_bind (ev_of (show strings_Split.f (txb (Go.Lib.join (nmL ws) [44])) (⟨#[44]⟩ : ByteArray) = _ from hs))]
  exact key ws.length 0 (Nat.zero_add _)
theorem impl_readNumbers.is (l : List UInt8) (hl : l.length ≤ 1048576) : ∃ L ok, Ev (fun k => impl_readNumbers.f k (txb l) 1000) (L, ok) ∧ (ok = true → (∀ w ∈ L, 0 ≤ w ∧ w ≤ 1000) ∧ spc 44 l = nmL L) ∧ L.length ≤ 2000000 := by
  have hsm := spc_small 44 l
  have key : ∀ (d i : Nat) (acc : List Int), i + d = (spc 44 l).length → (∀ w ∈ acc, 0 ≤ w ∧ w ≤ 1000) → (spc 44 l).take i = nmL acc → acc.length = i → ∃ L ok, Ev (fun k => impl_readNumbers.l0 k 1000 acc ((spc 44 l).map txb) (((spc 44 l).map txb).length : Int) (i : Int)) (L, ok) ∧ (ok = true → (∀ w ∈ L, 0 ≤ w ∧ w ≤ 1000) ∧ spc 44 l = nmL L) ∧ L.length ≤ 2000000 := by
    intro d
    induction d with
    | zero =>
      intro i acc hi ha ht hlen
      refine ⟨acc, true, ev_step ?_, fun _ => ⟨ha, by rw [← ht, List.take_of_length_le (by omega)]⟩, by omega⟩
      simp only [impl_readNumbers.l0]
      rw [ev_neg (by rw [List.length_map]; omega), ev_now]
    | succ d ih =>
      intro i acc hi ha ht hlen
      have hil : i < (spc 44 l).length := by omega
      obtain ⟨n, ok, hn, hok⟩ := impl_readNumber.is (s := (spc 44 l)[i]) (m := 1000) (by have := hsm.2 _ (List.getElem_mem hil); omega) (by omega)
      cases ok with
      | false =>
        refine ⟨[], false, ev_step ?_, (fun h => by cases h), by simp⟩
        simp only [impl_readNumbers.l0]
        rw [ev_pos (by rw [List.length_map]; omega), ev_pos (by omega), ev_pos (by rw [List.length_map]; omega), rd_txb _ i hil, ev_bind (ev_of hn), ev_neg (by simp), ev_now]
      | true =>
        obtain ⟨n0, n1, e⟩ := hok rfl
        obtain ⟨L, ok, hL, h2, h3⟩ := ih (i + 1) (acc ++ [n]) (by omega) (fun w hw => by
          rcases List.mem_append.1 hw with hw | hw
          · exact ha w hw
          · rw [List.mem_singleton] at hw; omega) (by rw [List.take_succ_eq_append_getElem hil, ht, e, nmL, nmL, List.map_append, List.map_singleton]) (by rw [List.length_append, List.length_singleton]; omega)
        refine ⟨L, ok, ev_step ?_, h2, h3⟩
        simp only [impl_readNumbers.l0]
        rw [ev_pos (by rw [List.length_map]; omega), ev_pos (by omega), ev_pos (by rw [List.length_map]; omega), rd_txb _ i hil, ev_bind (ev_of hn), ev_pos rfl, ev_pos (by omega), w64 (by omega) (by omega)]
        exact hL
  simp only [impl_readNumbers.f]
  obtain ⟨L, ok, h1, h2, h3⟩ := key (spc 44 l).length 0 [] (Nat.zero_add _) (fun w hw => by cases hw) rfl rfl
  refine ⟨L, ok, ?_, h2, h3⟩
  rw [ev_bind (ev_of (show strings_Split.f (txb l) (⟨#[44]⟩ : ByteArray) = _ from strings_Split.vc 44 l hl))]
  exact h1
theorem cut_text (l : List UInt8) (hl : l.length ≤ 1048576) : strings_Cut.f (txb l) (⟨#[58]⟩ : ByteArray) = some (txb (Go.Lib.cut l [58]).1, txb (Go.Lib.cut l [58]).2.1, (Go.Lib.cut l [58]).2.2) := by
  unfold strings_Cut.f
  rw [if_pos (by rw [txb_size]; exact hl)]
  rfl
theorem impl_ParseCommittee.hit {q : Int} {ws : List Int} (hc : GoodC q ws) : Ev (fun k => impl_ParseCommittee.f k (txb (cmT q ws))) (q, ws, true) := by
  have hs := hc.sum
  have hqs := hc.qs
  have h1 := hc.q1
  have hl := cmT_len hc
  have hcut := cut_text (cmT q ws) (by omega)
  rw [(cm_split ⟨by omega, by omega⟩ hc.w).2] at hcut
  simp only [impl_ParseCommittee.f]
  rw [ev_bind (ev_of hcut)]
  dsimp only
  rw [ev_bind (ev_of (impl_readNumber.hit (n := q) (by omega) (by omega) (by omega))), ev_bind (impl_readNumbers.hit hc.w hc.l9 hc.l1), ev_pos rfl, ev_pos rfl, ev_bind (impl_ifCommittee.ev q ws (by have := hc.l9; omega)), ev_now, ifGood, if_pos ((good_iff q ws).2 hc)]
theorem impl_ParseCommittee.miss (l : List UInt8) (hl : l.length ≤ 1048576) (hn : ∀ q ws, goodB q ws = true → cmT q ws ≠ l) : Ev (fun k => impl_ParseCommittee.f k (txb l)) (0, [], false) := by
  have hcut := cut_text l hl
  simp only [impl_ParseCommittee.f]
  rw [ev_bind (ev_of hcut)]
  dsimp only
  rcases cut_cases l 58 with ⟨a, b, e, el⟩ | e
  · have hla : a.length ≤ 1048576 ∧ b.length ≤ 1048576 := by rw [el, List.length_append, List.length_cons] at hl; omega
    rw [e]
    dsimp only
    obtain ⟨n, ok, hn1, hok⟩ := impl_readNumber.is (s := a) (m := 9000) hla.1 (by omega)
    obtain ⟨L, ok2, hL, hok2, hLl⟩ := impl_readNumbers.is b hla.2
    rw [ev_bind (ev_of hn1), ev_bind hL]
    cases ok with
    | false => rw [ev_neg (by simp), ev_now]
    | true =>
      cases ok2 with
      | false => rw [ev_pos rfl, ev_neg (by simp), ev_now]
      | true =>
        obtain ⟨n0, n1, ea⟩ := hok rfl
        obtain ⟨hw, eb⟩ := hok2 rfl
        rw [ev_pos rfl, ev_pos rfl, ev_bind (impl_ifCommittee.ev n L (by omega)), ev_now, ifGood]
        have hg : ¬ goodB n L = true := fun hg => by
          refine hn n L hg ?_
          unfold cmT
          rw [← ea, ← eb, join_spc, el]
        rw [if_neg hg]
  · rw [e]
    dsimp only
    obtain ⟨n, ok, hn1, hok⟩ := impl_readNumber.is (s := l) (m := 9000) hl (by omega)
    obtain ⟨L, ok2, hL, hok2, hLl⟩ := impl_readNumbers.is [] (by simp)
    have h2 : ok2 = false := by
      cases ok2 with
      | false => rfl
      | true =>
        exfalso
        obtain ⟨hw, eb⟩ := hok2 rfl
        have hlen := nmL_len L
        rw [← eb] at hlen
        simp only [spc, List.length_singleton] at hlen
        have hm : ([] : List UInt8) ∈ nmL L := by rw [← eb]; simp [spc]
        have := (nmL_in hw [] hm).1
        simp at this
    subst h2
    rw [ev_bind (ev_of hn1), ev_bind hL]
    cases ok with
    | false => rw [ev_neg (by simp), ev_now]
    | true => rw [ev_pos rfl, ev_neg (by simp), ev_now]
theorem spec_split58 (l : List UInt8) (hl : l.length ≤ 1048576) : Ev (fun k => spec_l1Split.f k (txb l) 58) ((spc 58 l).map txb) := spec_l1Split.evc 58 l hl
theorem spec_split44 (l : List UInt8) (hl : l.length ≤ 1048576) : Ev (fun k => spec_l1Split.f k (txb l) 44) ((spc 44 l).map txb) := spec_l1Split.evc 44 l hl
theorem spec_ParseCommittee.hit {q : Int} {ws : List Int} (hc : GoodC q ws) : Ev (fun k => spec_ParseCommittee.f k (txb (cmT q ws))) (q, ws, true) := by
  have hs := hc.sum
  have hqs := hc.qs
  have h1 := hc.q1
  have hw9 := hc.l9
  have hl := cmT_len hc
  have hsz := txb_size (cmT q ws)
  have hj := nmL_join hc.w hc.l9 ws.length (Nat.le_refl _)
  have hnl := nmL_len ws
  rw [List.take_of_length_le (by omega)] at hj
  have s1 := spec_split58 (cmT q ws) (by omega)
  rw [(cm_split ⟨by omega, by omega⟩ hc.w).1] at s1
  have s2 := spec_split44 (Go.Lib.join (nmL ws) [44]) (by omega)
  rw [nm_split hc.w hc.l1] at s2
  have key : ∀ (d i : Nat), i + d = ws.length → Ev (fun k => spec_voParse.l0 k (txb (cmT q ws)) ((nmL ws).map txb) (((nmL ws).map txb).length : Int) (i : Int) q (ws.take i)) (q, ws, true) := by
    intro d
    induction d with
    | zero =>
      intro i hi
      refine ev_step ?_
      simp only [spec_voParse.l0]
      rw [ev_neg (by rw [List.length_map]; omega), List.take_of_length_le (by omega), ev_bind (spec_voGood.ev q ws (by omega)), ev_pos ((good_iff q ws).2 hc), ev_bind (spec_voText.ev ⟨by omega, by omega⟩ hc.w hc.l9), ev_now]
      simp
    | succ d ih =>
      intro i hi
      refine ev_step ?_
      simp only [spec_voParse.l0]
      have hil : i < ws.length := by omega
      have hx := hc.w ws[i] (List.getElem_mem hil)
      have hih := ih (i + 1) (by omega)
      have e : (nmL ws)[i]'(by omega) = dgt (ws[i]).toNat := by simp [nmL]
      rw [List.take_succ_eq_append_getElem hil, show ((i + 1 : Nat) : Int) = (i : Int) + 1 by omega] at hih
      rw [ev_pos (by rw [List.length_map]; omega), ev_pos (by omega), ev_pos (by rw [List.length_map]; omega), rd_txb _ i (by omega), e, ev_bind (spec_l1Read.hit hx.1 (by omega)), ev_pos (by rw [List.length_take]; omega), w64 (by omega) (by omega)]
      exact hih
  have hp : Ev (fun k => spec_voParse.f k (txb (cmT q ws))) (q, ws, true) := by
    simp only [spec_voParse.f]
    rw [ev_bind s1, ev_neg (by omega)]
    refine ev_step ?_
    simp only [spec_voParse.j0]
    have r0 : rdOf ByteArray.empty ([dgt q.toNat, Go.Lib.join (nmL ws) [44]].map txb) 0 = txb (dgt q.toNat) := rfl
    have r1 : rdOf ByteArray.empty ([dgt q.toNat, Go.Lib.join (nmL ws) [44]].map txb) 1 = txb (Go.Lib.join (nmL ws) [44]) := rfl
    rw [ev_neg (by simp), ev_pos (by simp), r0, ev_bind (spec_l1Read.hit (n := q) (by omega) (by omega)), ev_pos (by simp), r1, ev_bind s2]
    exact key ws.length 0 (Nat.zero_add _)
  simp only [spec_ParseCommittee.f]
  rw [ev_bind hp, ev_pos rfl, ev_now]
theorem spec_ParseCommittee.miss (l : List UInt8) (hl : l.length ≤ 1048576) (hn : ∀ q ws, goodB q ws = true → cmT q ws ≠ l) : Ev (fun k => spec_ParseCommittee.f k (txb l)) (0, [], false) := by
  have hsz := txb_size l
  have hp : ∃ a b, Ev (fun k => spec_voParse.f k (txb l)) (a, b, false) := by
    have hbad : Ev (fun k => spec_voParse.j0 k (txb l) ((spc 58 l).map txb) true) (0, [], false) := by
      refine ev_step ?_
      simp only [spec_voParse.j0]
      rw [ev_pos trivial, ev_now]
    by_cases c : ((txb l).size : Int) > 60
    · refine ⟨0, [], ?_⟩
      simp only [spec_voParse.f]
      rw [ev_bind (spec_split58 l hl), ev_pos c]
      exact hbad
    · by_cases c2 : (spc 58 l).length = 2
      · have hb : ((((spc 58 l).map txb).length : Int) != 2) = false := by rw [List.length_map, c2]; rfl
        have hsm := spc_small 58 l
        obtain ⟨q, hq⟩ := spec_l1Read.ex ((spc 58 l)[0]'(by omega))
        have h1l := hsm.2 ((spc 58 l)[1]'(by omega)) (List.getElem_mem _)
        generalize hP : (spc 58 l)[1]'(by omega) = P at h1l
        have hsm2 := spc_small 44 P
        have key : ∀ (d i : Nat) (acc : List Int), i + d = (spc 44 P).length → acc.length = i → ∃ a b, Ev (fun k => spec_voParse.l0 k (txb l) ((spc 44 P).map txb) (((spc 44 P).map txb).length : Int) (i : Int) q acc) (a, b, false) := by
          intro d
          induction d with
          | zero =>
            intro i acc hi hal
            cases hg : goodB q acc with
            | false =>
              refine ⟨q, acc, ev_step ?_⟩
              simp only [spec_voParse.l0]
              rw [ev_neg (by rw [List.length_map]; omega), ev_bind (spec_voGood.ev q acc (by omega)), ev_neg (by rw [hg]; decide), ev_now]
            | true =>
              have hc := (good_iff q acc).1 hg
              have hs := hc.sum
              have hqs := hc.qs
              have hq1 := hc.q1
              refine ⟨q, acc, ev_step ?_⟩
              simp only [spec_voParse.l0]
              rw [ev_neg (by rw [List.length_map]; omega), ev_bind (spec_voGood.ev q acc (by omega)), ev_pos hg, ev_bind (spec_voText.ev ⟨by omega, by omega⟩ hc.w hc.l9), ev_now]
              have : ((txb (cmT q acc)).toList == (txb l).toList) = false := by
                rw [beq_eq_false_iff_ne]
                intro h
                rw [txb_toList] at h
                exact hn q acc hg (txb_inj h)
              rw [this]
          | succ d ih =>
            intro i acc hi hal
            have hil : i < (spc 44 P).length := by omega
            obtain ⟨v, hv⟩ := spec_l1Read.ex (spc 44 P)[i]
            obtain ⟨a, b, hab⟩ := ih (i + 1) (acc ++ [v]) (by omega) (by rw [List.length_append, List.length_singleton]; omega)
            refine ⟨a, b, ev_step ?_⟩
            simp only [spec_voParse.l0]
            rw [ev_pos (by rw [List.length_map]; omega), ev_pos (by omega), ev_pos (by rw [List.length_map]; omega), rd_txb _ i hil, ev_bind hv, ev_pos (by omega), w64 (by omega) (by omega)]
            exact hab
        obtain ⟨a, b, hab⟩ := key (spc 44 P).length 0 [] (Nat.zero_add _) rfl
        refine ⟨a, b, ?_⟩
        simp only [spec_voParse.f]
        rw [ev_bind (spec_split58 l hl), ev_neg c, hb]
        refine ev_step ?_
        simp only [spec_voParse.j0]
        have r0 : rdOf ByteArray.empty ((spc 58 l).map txb) 0 = txb ((spc 58 l)[0]'(by omega)) := rd_txb (spc 58 l) 0 (by omega)
        have r1 : rdOf ByteArray.empty ((spc 58 l).map txb) 1 = txb P := by rw [← hP]; exact rd_txb (spc 58 l) 1 (by omega)
        rw [ev_neg (by decide), ev_pos (by rw [List.length_map]; omega), r0, ev_bind hq, ev_pos (by rw [List.length_map]; omega), r1, ev_bind (spec_split44 P (by omega))]
        exact hab
      · refine ⟨0, [], ?_⟩
        have hb : ((((spc 58 l).map txb).length : Int) != 2) = true := by
          rw [List.length_map, bne_iff_ne]
          omega
        simp only [spec_voParse.f]
        rw [ev_bind (spec_split58 l hl), ev_neg c, hb]
        exact hbad
  obtain ⟨a, b, hab⟩ := hp
  simp only [spec_ParseCommittee.f]
  rw [ev_bind hab, ev_neg (by simp), ev_now]
theorem parse_cases (l : List UInt8) (hl : l.length ≤ 1048576) : ∃ q ws ok, Ev (fun k => impl_ParseCommittee.f k (txb l)) (q, ws, ok) ∧ Ev (fun k => spec_ParseCommittee.f k (txb l)) (q, ws, ok) ∧ ws.length ≤ 9 ∧ (ok = true → GoodC q ws ∧ cmT q ws = l) := by
  by_cases h : ∃ q ws, goodB q ws = true ∧ cmT q ws = l
  · obtain ⟨q, ws, hg, rfl⟩ := h
    have hc := (good_iff q ws).1 hg
    exact ⟨q, ws, true, impl_ParseCommittee.hit hc, spec_ParseCommittee.hit hc, hc.l9, fun _ => ⟨hc, rfl⟩⟩
  · have hn : ∀ q ws, goodB q ws = true → cmT q ws ≠ l := fun q ws hg e => h ⟨q, ws, hg, e⟩
    exact ⟨0, [], false, impl_ParseCommittee.miss l hl hn, spec_ParseCommittee.miss l hl hn, by simp, fun h => by cases h⟩
theorem wsum_mono (ws : List Int) (h : ∀ x ∈ ws, 0 ≤ x) : ∀ m m' : Nat, (∀ i, m.testBit i = true → m'.testBit i = true) → wsum ws m ≤ wsum ws m' := by
  induction ws with
  | nil => intro m m' _; simp [wsum]
  | cons w ws ih =>
    intro m m' hs
    have h1 := ih (fun x hx => h x (List.mem_cons_of_mem _ hx)) (m / 2) (m' / 2) (fun i hi => by
      have := hs (i + 1) (by rw [Nat.testBit_succ]; exact hi)
      rw [Nat.testBit_succ] at this
      exact this)
    have h2 := hs 0
    have h3 := h w List.mem_cons_self
    simp only [Nat.testBit_zero, decide_eq_true_eq] at h2
    simp only [wsum]
    split <;> split <;> omega
theorem wins_mono {q : Int} {ws : List Int} (h : ∀ x ∈ ws, 0 ≤ x) {m m' : Nat} (hm : m < 2 ^ ws.length) (hm' : m' < 2 ^ ws.length) (hs : ∀ i, m.testBit i = true → m'.testBit i = true) (hw : (winsL q ws).getD m false = true) : (winsL q ws).getD m' false = true := by
  rw [winsL_getD _ _ _ hm, decide_eq_true_eq] at hw
  rw [winsL_getD _ _ _ hm', decide_eq_true_eq]
  have := wsum_mono ws h m m' hs
  omega
theorem leastB_bits {W : List Bool} {n m : Nat} (h : leastB W n m = true) : W.getD m false = true ∧ ∀ i, i < n → m.testBit i = true → W.getD (m - 2 ^ i) false = false := by
  simp only [leastB, Bool.and_eq_true, List.all_eq_true, List.mem_range] at h
  refine ⟨h.1, fun i hi hb => ?_⟩
  have := h.2 i hi
  rw [bitB_test, hb] at this
  simpa using this
theorem leastB_of {W : List Bool} {n m : Nat} (h1 : W.getD m false = true) (h2 : ∀ i, i < n → m.testBit i = true → W.getD (m - 2 ^ i) false = false) : leastB W n m = true := by
  simp only [leastB, Bool.and_eq_true, List.all_eq_true, List.mem_range]
  refine ⟨h1, fun i hi => ?_⟩
  rw [bitB_test]
  cases hb : m.testBit i with
  | false => rfl
  | true => rw [h2 i hi hb]; rfl
theorem pow_le_of_bit {m i : Nat} (h : m.testBit i = true) : 2 ^ i ≤ m := by
  rcases Nat.lt_or_ge m (2 ^ i) with h2 | h2
  · rw [Nat.testBit_lt_two_pow h2] at h; cases h
  · exact h2
theorem least_sub (W : List Bool) (n : Nat) : ∀ m, m < 2 ^ n → W.getD m false = true → ∃ m', m' < 2 ^ n ∧ leastB W n m' = true ∧ ∀ i, m'.testBit i = true → m.testBit i = true := by
  intro m
  induction m using Nat.strongRecOn with
  | ind m ih =>
    intro hm hw
    by_cases h : ∀ i, i < n → m.testBit i = true → W.getD (m - 2 ^ i) false = false
    · exact ⟨m, hm, leastB_of hw h, fun _ h => h⟩
    · have h := Classical.not_forall.1 h
      obtain ⟨i, h⟩ := h
      simp only [Classical.not_imp, Bool.not_eq_false] at h
      obtain ⟨hi, hb, hv⟩ := h
      have hp := pow_le_of_bit hb
      have h0 := Nat.two_pow_pos i
      obtain ⟨m', a, b, c⟩ := ih (m - 2 ^ i) (by omega) (by omega) hv
      refine ⟨m', a, b, fun j hj => ?_⟩
      have := c j hj
      rw [sub_pow_test m i j hb] at this
      simp only [Bool.and_eq_true] at this
      exact this.1
def memB (q : Int) (ws : List Int) (a : Int) : Bool := goodB q ws && (decide (0 ≤ a) && decide (a ≤ (ws.length : Int) - 1))
theorem impl_isMember.ev (q : Int) (ws : List Int) (a : Int) (hl : ws.length ≤ 9223372036854775807) : Ev (fun k => impl_isMember.f k q ws a) (memB q ws a) := by
  simp only [impl_isMember.f]
  rw [ev_bind (impl_IsCommittee.ev q ws hl)]
  unfold memB
  cases hg : goodB q ws with
  | false => rw [ev_neg (by decide), ev_now]; rfl
  | true =>
    have h9 := ((good_iff q ws).1 hg).l9
    rw [ev_pos rfl, w64 (by omega) (by omega), ev_bind (ev_of (impl_within.v _ _ _)), ev_now]
    rfl
theorem cnt_sum (P : Nat → Bool) : ∀ N, ((List.range N).filter P).length = ((List.range N).map fun m => if P m = true then 1 else 0).sum := by
  intro N
  induction N with
  | zero => rfl
  | succ N ih =>
    rw [List.range_succ, List.filter_append, List.length_append, ih, List.map_append, List.sum_append_nat]
    by_cases h : P N = true
    · simp [h]
    · simp [h]
def cntR (q : Int) : List Int → Nat
  | [] => if q ≤ 0 then 1 else 0
  | w :: ws => cntR q ws + cntR (q - w) ws
theorem cntR_perm {l l' : List Int} (h : l.Perm l') : ∀ q, cntR q l = cntR q l' := by
  induction h with
  | nil => intro q; rfl
  | cons x _ ih => intro q; simp only [cntR, ih]
  | swap x y l =>
    intro q
    simp only [cntR]
    rw [show q - y - x = q - x - y by omega]
    omega
  | trans _ _ h1 h2 => intro q; rw [h1, h2]
theorem even_odd_sum (f : Nat → Nat) : ∀ N, ((List.range (2 * N)).map f).sum = ((List.range N).map fun m => f (2 * m) + f (2 * m + 1)).sum := by
  intro N
  induction N with
  | zero => rfl
  | succ N ih =>
    rw [show 2 * (N + 1) = 2 * N + 1 + 1 by omega, List.range_succ, List.range_succ, List.map_append, List.map_append, List.sum_append_nat, List.sum_append_nat, ih, List.range_succ, List.map_append, List.sum_append_nat]
    simp only [List.map_cons, List.map_nil, List.sum_cons, List.sum_nil]
    omega
theorem cnt_rec : ∀ (ws : List Int) (q : Int), ((List.range (2 ^ ws.length)).map fun m => if decide (q ≤ wsum ws m) = true then 1 else 0).sum = cntR q ws := by
  intro ws
  induction ws with
  | nil =>
    intro q
    by_cases h : q ≤ 0 <;> simp [cntR, wsum, h]
  | cons w ws ih =>
    intro q
    rw [List.length_cons, Nat.pow_succ, Nat.mul_comm, even_odd_sum, cntR, ← ih q, ← ih (q - w)]
    have e : ∀ m, ((if decide (q ≤ wsum (w :: ws) (2 * m)) = true then 1 else 0) + if decide (q ≤ wsum (w :: ws) (2 * m + 1)) = true then 1 else 0) = (if decide (q ≤ wsum ws m) = true then 1 else 0) + if decide (q - w ≤ wsum ws m) = true then 1 else 0 := by
      intro m
      have e1 : wsum (w :: ws) (2 * m) = wsum ws m := by
        show (if 2 * m % 2 = 1 then w else 0) + wsum ws (2 * m / 2) = _
        rw [if_neg (by omega), show 2 * m / 2 = m by omega]
        omega
      have e2 : wsum (w :: ws) (2 * m + 1) = w + wsum ws m := by
        show (if (2 * m + 1) % 2 = 1 then w else 0) + wsum ws ((2 * m + 1) / 2) = _
        rw [if_pos (by omega), show (2 * m + 1) / 2 = m by omega]
      rw [e1, e2]
      congr 1
      by_cases c : q - w ≤ wsum ws m
      · rw [decide_eq_true c, decide_eq_true (by omega)]
      · rw [decide_eq_false c, decide_eq_false (by omega)]
    have h2 : ∀ (L : List Nat), (L.map fun m => (if decide (q ≤ wsum (w :: ws) (2 * m)) = true then 1 else 0) + if decide (q ≤ wsum (w :: ws) (2 * m + 1)) = true then 1 else 0).sum = (L.map fun m => if decide (q ≤ wsum ws m) = true then 1 else 0).sum + (L.map fun m => if decide (q - w ≤ wsum ws m) = true then 1 else 0).sum := by
      intro L
      induction L with
      | nil => rfl
      | cons a L ih2 =>
        simp only [List.map_cons, List.sum_cons, e] at ih2 ⊢
        omega
    exact h2 _
theorem cntW_rec (q : Int) (ws : List Int) : cntW (winsL q ws) = ((cntR q ws : Nat) : Int) := by
  rw [cntW_range, cnt_sum, winsL_length, ← cnt_rec]
  congr 2
  refine List.map_congr_left (fun m hm => ?_)
  rw [winsL_getD q ws m (List.mem_range.1 hm)]
theorem cntW_perm {q : Int} {ws ws' : List Int} (h : ws.Perm ws') : cntW (winsL q ws) = cntW (winsL q ws') := by rw [cntW_rec, cntW_rec, cntR_perm h]
theorem slices_Equal_bool_bool.ev_l (a b : List Bool) (hl : a.length ≤ 9223372036854775807) (hab : a.length = b.length) : ∀ (d i : Nat), i + d = a.length → Ev (fun k => slices_Equal_bool_bool.l0 k a b (a.length : Int) (i : Int)) (decide (a.drop i = b.drop i)) := by
  intro d
  induction d with
  | zero =>
    intro i h
    refine ev_step ?_
    simp only [slices_Equal_bool_bool.l0]
    rw [ev_neg (by omega), ev_now, List.drop_of_length_le (by omega), List.drop_of_length_le (by omega)]
    rfl
  | succ d ih =>
    intro i h
    refine ev_step ?_
    simp only [slices_Equal_bool_bool.l0]
    have hi : i < a.length := by omega
    have hib : i < b.length := by omega
    have e : decide (a.drop i = b.drop i) = (decide (a[i] = b[i]) && decide (a.drop (i + 1) = b.drop (i + 1))) := by
      rw [List.drop_eq_getElem_cons hi, List.drop_eq_getElem_cons hib, Bool.eq_iff_iff]
      simp only [Bool.and_eq_true, decide_eq_true_eq, List.cons.injEq]
    rw [ev_pos (by omega), ev_pos (by omega), ev_pos (by omega), ev_pos (by omega), rdOf_lt false a i hi, rdOf_lt false b i hib, w64i (n := a.length) (by omega) (by omega) hl, e]
    by_cases c : a[i] = b[i]
    · rw [ev_neg (by simp [c]), decide_eq_true c, Bool.true_and]
      exact ih (i + 1) (by omega)
    · rw [ev_pos (by simp [c]), ev_now, decide_eq_false c]
      rfl
theorem slices_Equal_bool_bool.ev (a b : List Bool) (hl : a.length ≤ 9223372036854775807) : Ev (fun k => slices_Equal_bool_bool.f k a b) (decide (a = b)) := by
  simp only [slices_Equal_bool_bool.f]
  by_cases c : (a.length : Int) = (b.length : Int)
  · rw [ev_pos c]
    exact slices_Equal_bool_bool.ev_l a b hl (by omega) a.length 0 (by omega)
  · rw [ev_neg c, ev_now, decide_eq_false (fun h => c (by rw [h]))]
def asmV (q : Int) (ws : List Int) (q' : Int) (ws' : List Int) : Bool × Bool := if goodB q ws = true ∧ goodB q' ws' = true then (decide (winsL q ws = winsL q' ws'), true) else (false, false)
theorem impl_AreSameVotes.ev (q : Int) (ws : List Int) (q' : Int) (ws' : List Int) (hl : ws.length ≤ 9223372036854775807) (hl' : ws'.length ≤ 9223372036854775807) : Ev (fun k => impl_AreSameVotes.f k q ws q' ws') (asmV q ws q' ws') := by
  have hf : Ev (fun k => impl_AreSameVotes.j0 k true q ws q' ws') (false, false) := by
    refine ev_step ?_
    simp only [impl_AreSameVotes.j0]
    rw [ev_pos trivial, ev_now]
  simp only [impl_AreSameVotes.f]
  rw [ev_bind (impl_IsCommittee.ev q ws hl)]
  unfold asmV
  cases h1 : goodB q ws with
  | false =>
    rw [ev_neg (by decide), if_neg (by simp)]
    exact hf
  | true =>
    rw [ev_pos rfl, ev_bind (impl_IsCommittee.ev q' ws' hl')]
    cases h2 : goodB q' ws' with
    | false =>
      rw [if_neg (by simp)]
      exact hf
    | true =>
      have c1 := (good_iff q ws).1 h1
      have c2 := (good_iff q' ws').1 h2
      have hw := winsL_length q ws
      have hp := c1.pow
      refine ev_step ?_
      simp only [impl_AreSameVotes.j0, Bool.not_true]
      rw [ev_neg (by decide), ev_bind (impl_Committee_votes.ev q ws c1.l9 c1.wb), ev_bind (impl_Committee_votes.ev q' ws' c2.l9 c2.wb)]
      have hs : Ev (fun k => impl_votes_same.f k (ws.length : Int) (winsL q ws) (ws'.length : Int) (winsL q' ws')) (decide (winsL q ws = winsL q' ws')) := by
        simp only [impl_votes_same.f]
        rw [ev_bind (slices_Equal_bool_bool.ev (winsL q ws) (winsL q' ws') (by omega)), ev_now]
      rw [ev_bind hs, ev_now, if_pos (by simp)]
theorem spec_voAll.v (n : Nat) (hn : n ≤ 60) : spec_voAll.f (n : Int) = some ((2 ^ n - 1 : Nat) : Int) := by
  unfold spec_voAll.f
  have h0 : 0 < 2 ^ n := Nat.two_pow_pos n
  have h : 2 ^ n ≤ 2 ^ 60 := Nat.pow_le_pow_right (by omega) hn
  rw [if_pos (by omega), shl_one n (by omega), w64 (by omega) (by omega)]
  congr 1
  omega
theorem spec_bit (m i : Nat) (hm : m < 2 ^ 62) (hi : i ≤ 62) : Int.tmod (shr .i64 (m : Int) (i : Int)) 2 = ((m / 2 ^ i % 2 : Nat) : Int) := by
  rw [shr_nat m i (by omega)]
  generalize m / 2 ^ i = x
  rw [Int.tmod_eq_emod_of_nonneg (by omega)]
  omega
theorem spec_voWeight.ev_l (q : Int) (ws : List Int) (m : Nat) (hm : m < 2 ^ 62) (hl : ws.length ≤ 60) (hw : ∀ x ∈ ws, 0 ≤ x ∧ x ≤ 1000000000) : ∀ (d i : Nat) (s : Int), i + d = ws.length → 0 ≤ s → s + wsum (ws.drop i) (m / 2 ^ i) ≤ 1000000000000 → Ev (fun k => spec_voWeight.l0 k (m : Int) s ws (ws.length : Int) (i : Int)) (s + wsum (ws.drop i) (m / 2 ^ i)) := by
  intro d
  induction d with
  | zero =>
    intro i s h _ _
    refine ev_step ?_
    simp only [spec_voWeight.l0]
    rw [ev_neg (by omega), ev_now, List.drop_of_length_le (by omega)]
    simp [wsum]
  | succ d ih =>
    intro i s h h0 h1
    refine ev_step ?_
    simp only [spec_voWeight.l0]
    have hi : i < ws.length := by omega
    have hx := hw ws[i] (List.getElem_mem hi)
    have hd : wsum (ws.drop i) (m / 2 ^ i) = (if m / 2 ^ i % 2 = 1 then ws[i] else 0) + wsum (ws.drop (i + 1)) (m / 2 ^ (i + 1)) := by
      rw [wsum_drop ws i _ hi, Nat.div_div_eq_div_mul, ← Nat.pow_succ]
    have hb := wsum_bounds (ws.drop (i + 1)) (fun x hx => (hw x (List.mem_of_mem_drop hx)).1) (m / 2 ^ (i + 1))
    rw [ev_pos (by omega), ev_pos (by omega), ev_pos (by omega), spec_bit m i hm (by omega), w64i (n := ws.length) (by omega) (by omega) (by omega), rd_lt ws i hi, hd]
    rw [hd] at h1
    by_cases hbit : m / 2 ^ i % 2 = 1
    · rw [if_pos hbit] at h1 ⊢
      rw [ev_pos (by rw [hbit]; rfl), w64 (by omega) (by omega), ← Int.add_assoc]
      exact ih (i + 1) (s + ws[i]) (by omega) (by omega) (by omega)
    · rw [if_neg hbit] at h1 ⊢
      rw [ev_neg (by omega), Int.zero_add]
      exact ih (i + 1) s (by omega) h0 (by omega)
theorem spec_voWeight.ev (q : Int) (ws : List Int) (m : Nat) (hm : m < 2 ^ 62) (hl : ws.length ≤ 60) (hw : ∀ x ∈ ws, 0 ≤ x ∧ x ≤ 1000000000) : Ev (fun k => spec_voWeight.f k q ws (m : Int)) (wsum ws m) := by
  have hb := wsum_bounds ws (fun x hx => (hw x hx).1) m
  have hs := sum_bounds ws 1000000000 hw
  have := spec_voWeight.ev_l q ws m hm hl hw ws.length 0 0 (by omega) (by omega) (by simp; omega)
  simpa [spec_voWeight.f] using this
theorem winsL_take (q : Int) (ws : List Int) (m : Nat) (h : m < 2 ^ ws.length) : (winsL q ws).take (m + 1) = (winsL q ws).take m ++ [decide (q ≤ wsum ws m)] := by
  rw [List.take_succ_eq_append_getElem (by rw [winsL_length]; exact h), winsL_get]
theorem spec_voWins.ev_l (q : Int) (ws : List Int) (hl : ws.length ≤ 9) (hw : ∀ x ∈ ws, 0 ≤ x ∧ x ≤ 1000000000) : ∀ (d m : Nat), m + d = 2 ^ ws.length → Ev (fun k => spec_voWins.l0 k ((winsL q ws).take m) (m : Int) q ws) (winsL q ws) := by
  have hp : 2 ^ ws.length ≤ 2 ^ 9 := Nat.pow_le_pow_right (by omega) hl
  have h0 : 0 < 2 ^ ws.length := Nat.two_pow_pos _
  intro d
  induction d with
  | zero =>
    intro m h
    refine ev_step ?_
    simp only [spec_voWins.l0]
    rw [ev_bind (ev_of (spec_voAll.v ws.length (by omega))), ev_neg (by omega), ev_now, List.take_of_length_le (by rw [winsL_length]; omega)]
  | succ d ih =>
    intro m h
    refine ev_step ?_
    simp only [spec_voWins.l0]
    rw [ev_bind (ev_of (spec_voAll.v ws.length (by omega))), ev_pos (by omega), ev_bind (spec_voWeight.ev q ws m (by omega) (by omega) hw), ev_pos (by simp; omega), w64i (n := 512) (by omega) (by omega) (by omega)]
    have := ih (m + 1) (by omega)
    rw [winsL_take q ws m (by omega)] at this
    exact this
theorem spec_voWins.ev (q : Int) (ws : List Int) (hl : ws.length ≤ 9) (hw : ∀ x ∈ ws, 0 ≤ x ∧ x ≤ 1000000000) : Ev (fun k => spec_voWins.f k q ws) (winsL q ws) := by
  have := spec_voWins.ev_l q ws hl hw (2 ^ ws.length) 0 (by omega)
  simpa [spec_voWins.f] using this
def renC (ws o : List Int) : List Int := o.map fun i => ws.getD i.toNat 0
def renV (q : Int) (ws o : List Int) : Int × List Int × Bool := if goodB q ws = true ∧ orderB (ws.length : Int) o = true then (q, renC ws o, true) else (0, [], false)
theorem renC_len (ws o : List Int) : (renC ws o).length = o.length := by simp [renC]
theorem renC_get (ws o : List Int) (i : Nat) (h : i < o.length) : (renC ws o)[i]'(by rw [renC_len]; exact h) = ws.getD (o[i]).toNat 0 := by simp [renC]
theorem impl_RenameCommittee.ev_l {q : Int} {ws o : List Int} (hc : GoodC q ws) (ho : orderB (ws.length : Int) o = true) : ∀ (d i : Nat), i + d = o.length → Ev (fun k => impl_RenameCommittee.l0 k o (o.length : Int) (i : Int) q ws q ((renC ws o).take i)) (q, renC ws o, true) := by
  obtain ⟨hl, hin, _, _⟩ := order_facts ho
  have h9 := hc.l9
  have hrl := renC_len ws o
  intro d
  induction d with
  | zero =>
    intro i h
    refine ev_step ?_
    simp only [impl_RenameCommittee.l0]
    rw [ev_neg (by omega), ev_now, List.take_of_length_le (by omega)]
  | succ d ih =>
    intro i h
    refine ev_step ?_
    simp only [impl_RenameCommittee.l0]
    have hi : i < o.length := by omega
    have hx := hin o[i] (List.getElem_mem hi)
    have hih := ih (i + 1) (by omega)
    obtain ⟨c, hcx⟩ := Int.eq_ofNat_of_zero_le hx.1
    have e := renC_get ws o i hi
    rw [hcx, Int.toNat_natCast] at e
    rw [List.take_succ_eq_append_getElem (by omega), e, show ((i + 1 : Nat) : Int) = (i : Int) + 1 by omega] at hih
    rw [ev_pos (by omega), ev_pos (by omega), ev_pos (by omega), rd_lt o i hi, hcx, ev_pos (by omega), ev_pos (by omega), ev_pos (by rw [List.length_take]; omega), rd_nat, w64 (by omega) (by omega)]
    exact hih
theorem spec_RenameCommittee.ev_l {q : Int} {ws o : List Int} (hc : GoodC q ws) (ho : orderB (ws.length : Int) o = true) : ∀ (d i : Nat), i + d = o.length → Ev (fun k => spec_RenameCommittee.l0 k o (o.length : Int) (i : Int) q ws q ((renC ws o).take i)) (q, renC ws o, true) := by
  obtain ⟨hl, hin, _, _⟩ := order_facts ho
  have h9 := hc.l9
  have hrl := renC_len ws o
  intro d
  induction d with
  | zero =>
    intro i h
    refine ev_step ?_
    simp only [spec_RenameCommittee.l0]
    rw [ev_neg (by omega), ev_now, List.take_of_length_le (by omega)]
  | succ d ih =>
    intro i h
    refine ev_step ?_
    simp only [spec_RenameCommittee.l0]
    have hi : i < o.length := by omega
    have hx := hin o[i] (List.getElem_mem hi)
    have hih := ih (i + 1) (by omega)
    obtain ⟨c, hcx⟩ := Int.eq_ofNat_of_zero_le hx.1
    have e := renC_get ws o i hi
    rw [hcx, Int.toNat_natCast] at e
    rw [List.take_succ_eq_append_getElem (by omega), e, show ((i + 1 : Nat) : Int) = (i : Int) + 1 by omega] at hih
    rw [ev_pos (by omega), ev_pos (by omega), ev_pos (by omega), rd_lt o i hi, hcx, ev_pos (by omega), ev_pos (by omega), ev_pos (by rw [List.length_take]; omega), rd_nat, w64 (by omega) (by omega)]
    exact hih
theorem impl_RenameCommittee.ev (q : Int) (ws o : List Int) (hl : ws.length ≤ 9223372036854775807) (ho : o.length ≤ 9223372036854775807) : Ev (fun k => impl_RenameCommittee.f k q ws o) (renV q ws o) := by
  have hj : Ev (fun k => impl_RenameCommittee.j0 k o true q ws) (0, [], false) := by
    refine ev_step ?_
    simp only [impl_RenameCommittee.j0]
    rw [ev_pos trivial, ev_now]
  simp only [impl_RenameCommittee.f]
  rw [ev_bind (impl_IsCommittee.ev q ws hl)]
  unfold renV
  cases hg : goodB q ws with
  | false =>
    rw [ev_neg (by decide), if_neg (by simp)]
    exact hj
  | true =>
    have hc := (good_iff q ws).1 hg
    have h1 := hc.l1
    have h9 := hc.l9
    rw [ev_pos rfl, ev_bind (impl_isOrder.ev o (ws.length : Int) (by omega) (by omega) ho)]
    cases hr : orderB (ws.length : Int) o with
    | false =>
      rw [if_neg (by simp)]
      exact hj
    | true =>
      rw [if_pos ⟨rfl, rfl⟩]
      refine ev_step ?_
      simp only [impl_RenameCommittee.j0, Bool.not_true]
      rw [ev_neg (by decide)]
      exact impl_RenameCommittee.ev_l hc hr o.length 0 (Nat.zero_add _)
theorem spec_RenameCommittee.ev (q : Int) (ws o : List Int) (hl : ws.length ≤ 9223372036854775807) (ho : o.length ≤ 9223372036854775807) : Ev (fun k => spec_RenameCommittee.f k q ws o) (renV q ws o) := by
  have hj : Ev (fun k => spec_RenameCommittee.j0 k o true q ws) (0, [], false) := by
    refine ev_step ?_
    simp only [spec_RenameCommittee.j0]
    rw [ev_pos trivial, ev_now]
  simp only [spec_RenameCommittee.f]
  rw [ev_bind (spec_voGood.ev q ws hl)]
  unfold renV
  cases hg : goodB q ws with
  | false =>
    rw [ev_neg (by decide), if_neg (by simp)]
    exact hj
  | true =>
    have hc := (good_iff q ws).1 hg
    have h1 := hc.l1
    have h9 := hc.l9
    rw [ev_pos rfl, ev_bind (spec_voOrder.ev (ws.length : Int) o (by omega) (by omega) ho)]
    cases hr : orderB (ws.length : Int) o with
    | false =>
      rw [if_neg (by simp)]
      exact hj
    | true =>
      rw [if_pos ⟨rfl, rfl⟩]
      refine ev_step ?_
      simp only [spec_RenameCommittee.j0, Bool.not_true]
      rw [ev_neg (by decide)]
      exact spec_RenameCommittee.ev_l hc hr o.length 0 (Nat.zero_add _)
def dropW (ws : List Int) (a : Int) : List Int := ws.take a.toNat ++ ws.drop (a.toNat + 1)
def dropV (q : Int) (ws : List Int) (a : Int) : Int × List Int × Bool := if memB q ws a = true then ifGood q (dropW ws a) else (0, [], false)
theorem memB_in {q : Int} {ws : List Int} {a : Int} (h : memB q ws a = true) : GoodC q ws ∧ 0 ≤ a ∧ a < (ws.length : Int) := by
  simp only [memB, Bool.and_eq_true, decide_eq_true_eq] at h
  exact ⟨(good_iff q ws).1 (by simp_all), by omega, by omega⟩
theorem impl_DropMember.ev (q : Int) (ws : List Int) (a : Int) (hl : ws.length ≤ 9223372036854775807) : Ev (fun k => impl_DropMember.f k q ws a) (dropV q ws a) := by
  simp only [impl_DropMember.f]
  rw [ev_bind (impl_isMember.ev q ws a hl)]
  unfold dropV
  cases hm : memB q ws a with
  | false => rw [ev_neg (by decide), ev_now]; rfl
  | true =>
    obtain ⟨hc, h0, h1⟩ := memB_in hm
    have h9 := hc.l9
    obtain ⟨c, rfl⟩ := Int.eq_ofNat_of_zero_le h0
    have hw : wrap64 ((c : Int) + 1) = ((c + 1 : Nat) : Int) := by rw [w64 (by omega) (by omega)]; omega
    have hd : slices_Delete_int_int.f ws (c : Int) (wrap64 ((c : Int) + 1)) = some (dropW ws (c : Int)) := by
      rw [hw]
      unfold slices_Delete_int_int.f dropW
      rw [if_pos ⟨by omega, by omega, by omega, by omega⟩, Int.toNat_natCast, Int.toNat_natCast]
    have hdl : (dropW ws (c : Int)).length ≤ 9223372036854775807 := by
      unfold dropW
      rw [List.length_append, List.length_take, List.length_drop]
      omega
    rw [ev_pos rfl, ev_bind (ev_of (impl_Clone.v ws (by omega))), ev_bind (ev_of hd), ev_bind (impl_ifCommittee.ev q (dropW ws (c : Int)) hdl), ev_now, if_pos rfl]
theorem spec_DropMember.ev (q : Int) (ws : List Int) (a : Int) (hl : ws.length ≤ 9223372036854775807) : Ev (fun k => spec_DropMember.f k q ws a) (dropV q ws a) := by
  have hj : Ev (fun k => spec_DropMember.j0 k a true q ws) (0, [], false) := by
    refine ev_step ?_
    simp only [spec_DropMember.j0]
    rw [ev_pos trivial, ev_now]
  simp only [spec_DropMember.f]
  rw [ev_bind (spec_voGood.ev q ws hl)]
  unfold dropV
  cases hg : goodB q ws with
  | false =>
    rw [ev_neg (by decide), if_neg (by simp [memB, hg])]
    exact hj
  | true =>
    have hc := (good_iff q ws).1 hg
    have h1 := hc.l1
    have h9 := hc.l9
    have em : memB q ws a = (decide (0 ≤ a) && decide (a ≤ (ws.length : Int) - 1)) := by
      rw [Bool.eq_iff_iff]
      simp only [memB, hg, Bool.and_eq_true, decide_eq_true_eq]
      constructor
      · intro h; omega
      · intro h; simp; omega
    rw [ev_pos rfl, ev_bind (ev_of (spec_l1In.v a 0 (wrap64 ((ws.length : Int) - 1)))), w64 (by omega) (by omega), ← em]
    cases hm : memB q ws a with
    | false => rw [if_neg (by simp)]; exact hj
    | true =>
      obtain ⟨_, h0, h2⟩ := memB_in hm
      obtain ⟨c, rfl⟩ := Int.eq_ofNat_of_zero_le h0
      have hw : wrap64 ((c : Int) + 1) = ((c + 1 : Nat) : Int) := by rw [w64 (by omega) (by omega)]; omega
      have hdl : (dropW ws (c : Int)).length ≤ 9223372036854775807 := by
        unfold dropW
        rw [List.length_append, List.length_take, List.length_drop]
        omega
      refine ev_step ?_
      simp only [spec_DropMember.j0, Bool.not_true, Option.bind_some]
      rw [ev_neg (by decide), ev_pos (by omega), ev_pos (by omega), Int.toNat_natCast, ev_bind (ev_of (spec_Own.v (ws.take c) (by rw [List.length_take]; omega))), hw, ev_pos (by omega), ev_pos (by omega), Int.toNat_natCast, ev_pos (by rw [List.length_take, List.length_drop]; omega)]
      have e : ws.take c ++ ws.drop (c + 1) = dropW ws (c : Int) := by rw [dropW, Int.toNat_natCast]
      rw [e, ev_bind (spec_voGood.ev q (dropW ws (c : Int)) hdl), if_pos trivial, ifGood]
      cases hg2 : goodB q (dropW ws (c : Int)) with
      | false => rw [ev_neg (by decide), ev_now]; rfl
      | true => rw [ev_pos rfl, ev_now]; rfl
theorem spec_AreSameVotes.ev_l (a b : List Bool) (hl : a.length = b.length) (hs : a.length ≤ 1000000) : ∀ (d i : Nat), i + d = a.length → Ev (fun k => spec_AreSameVotes.l0 k a b (a.length : Int) (i : Int)) (decide (a.drop i = b.drop i), true) := by
  intro d
  induction d with
  | zero =>
    intro i h
    refine ev_step ?_
    simp only [spec_AreSameVotes.l0]
    rw [ev_neg (by omega), ev_now, List.drop_of_length_le (by omega), List.drop_of_length_le (by omega), decide_eq_true rfl]
  | succ d ih =>
    intro i h
    refine ev_step ?_
    simp only [spec_AreSameVotes.l0]
    have hi : i < a.length := by omega
    have hib : i < b.length := by omega
    have hih := ih (i + 1) (by omega)
    rw [show ((i + 1 : Nat) : Int) = (i : Int) + 1 by omega] at hih
    rw [ev_pos (by omega), ev_pos (by omega), ev_pos (by omega), ev_pos (by omega), rdOf_lt false a i hi, rdOf_lt false b i hib, List.drop_eq_getElem_cons hi, List.drop_eq_getElem_cons hib]
    by_cases c : a[i] = b[i]
    · rw [ev_neg (by simp [c]), w64 (by omega) (by omega)]
      have e : decide (a[i] :: a.drop (i + 1) = b[i] :: b.drop (i + 1)) = decide (a.drop (i + 1) = b.drop (i + 1)) := by
        rw [c, Bool.eq_iff_iff, decide_eq_true_eq, decide_eq_true_eq]
        exact ⟨fun h => (List.cons.inj h).2, fun h => by rw [h]⟩
      rw [e]
      exact hih
    · rw [ev_pos (by simpa using c), ev_now, decide_eq_false (fun e => c (List.cons.inj e).1)]
theorem spec_AreSameVotes.ev (q : Int) (ws : List Int) (q' : Int) (ws' : List Int) (hl : ws.length ≤ 9223372036854775807) (hl' : ws'.length ≤ 9223372036854775807) : Ev (fun k => spec_AreSameVotes.f k q ws q' ws') (asmV q ws q' ws') := by
  have hf : Ev (fun k => spec_AreSameVotes.j0 k true q ws q' ws') (false, false) := by
    refine ev_step ?_
    simp only [spec_AreSameVotes.j0]
    rw [ev_pos trivial, ev_now]
  simp only [spec_AreSameVotes.f]
  rw [ev_bind (spec_voGood.ev q ws hl)]
  unfold asmV
  cases h1 : goodB q ws with
  | false =>
    rw [ev_neg (by decide), if_neg (by simp)]
    exact hf
  | true =>
    rw [ev_pos rfl, ev_bind (spec_voGood.ev q' ws' hl')]
    cases h2 : goodB q' ws' with
    | false =>
      rw [if_neg (by simp)]
      exact hf
    | true =>
      have c1 := (good_iff q ws).1 h1
      have c2 := (good_iff q' ws').1 h2
      have hp := c1.pow
      have hw := winsL_length q ws
      refine ev_step ?_
      simp only [spec_AreSameVotes.j0, Bool.not_true]
      rw [ev_neg (by decide), ev_bind (spec_voWins.ev q ws c1.l9 c1.wb), ev_bind (spec_voWins.ev q' ws' c2.l9 c2.wb), if_pos (by simp)]
      by_cases c : (winsL q ws).length = (winsL q' ws').length
      · rw [ev_pos (by omega)]
        exact spec_AreSameVotes.ev_l _ _ c (by omega) (winsL q ws).length 0 (Nat.zero_add _)
      · rw [ev_neg (by omega), ev_now, decide_eq_false (fun e => c (by rw [e]))]
theorem back_at {n : Nat} {o b : List Int} (ho : orderB (n : Int) o = true) (hbl : b.length = n) (hb : ∀ j, (h : j < o.length) → b.getD (o[j]).toNat 0 = (j : Int)) : ∀ m, (h : m < b.length) → ∃ j, ∃ hj : j < o.length, (o[j]).toNat = m ∧ b[m] = (j : Int) := by
  obtain ⟨hl, hin, hnd, hp⟩ := order_facts ho
  intro m h
  have hm : m ∈ o.map Int.toNat := hp.mem_iff.2 (List.mem_range.2 (by omega))
  obtain ⟨x, hx, e⟩ := List.mem_map.1 hm
  obtain ⟨j, hj, rfl⟩ := List.mem_iff_getElem.1 hx
  have := hb j hj
  rw [e, List.getD_eq_getElem?_getD, List.getElem?_eq_getElem h, Option.getD_some] at this
  exact ⟨j, hj, e, this⟩
theorem order_back {n : Nat} {o b : List Int} (ho : orderB (n : Int) o = true) (hbl : b.length = n) (hb : ∀ j, (h : j < o.length) → b.getD (o[j]).toNat 0 = (j : Int)) : orderB (n : Int) b = true := by
  have hat := back_at ho hbl hb
  obtain ⟨hl, hin, hnd, hp⟩ := order_facts ho
  simp only [orderB, Bool.and_eq_true, decide_eq_true_eq]
  refine ⟨by omega, List.all_eq_true.2 fun x hx => ?_, List.all_eq_true.2 fun m hm => ?_⟩
  · obtain ⟨m, h, rfl⟩ := List.mem_iff_getElem.1 hx
    obtain ⟨j, hj, e, e2⟩ := hat m h
    rw [e2]
    simp only [Bool.and_eq_true, decide_eq_true_eq]
    omega
  · rw [List.mem_range'_1] at hm
    have h : m < b.length := by omega
    unfold newAt
    rw [List.getD_eq_getElem?_getD, List.getElem?_eq_getElem h, Option.getD_some, Bool.not_eq_true', List.contains_eq_mem, decide_eq_false_iff_not]
    intro hc
    obtain ⟨m2, h2, e3⟩ := List.mem_take_iff_getElem.1 hc
    obtain ⟨j, hj, e, e2⟩ := hat m h
    obtain ⟨j2, hj2, e4, e5⟩ := hat m2 (by omega)
    rw [e5, e2] at e3
    have e6 : j2 = j := by omega
    subst e6
    omega
theorem ren_back {ws o b : List Int} (ho : orderB (ws.length : Int) o = true) (hbl : b.length = ws.length) (hb : ∀ j, (h : j < o.length) → b.getD (o[j]).toNat 0 = (j : Int)) : renC (renC ws o) b = ws := by
  have hat := back_at ho hbl hb
  refine List.ext_getElem (by rw [renC_len, hbl]) fun m h1 h2 => ?_
  obtain ⟨j, hj, e, e2⟩ := hat m (by omega)
  have hr : j < (renC ws o).length := by rw [renC_len]; exact hj
  rw [renC_get _ _ m (by omega), e2, Int.toNat_natCast, List.getD_eq_getElem?_getD, List.getElem?_eq_getElem hr, Option.getD_some, renC_get ws o j hj, e, List.getD_eq_getElem?_getD, List.getElem?_eq_getElem h2, Option.getD_some]
theorem sum_perm {a b : List Int} (h : a.Perm b) : a.sum = b.sum := by
  induction h with
  | nil => rfl
  | cons x _ ih => rw [List.sum_cons, List.sum_cons, ih]
  | swap x y l => simp only [List.sum_cons]; omega
  | trans _ _ h1 h2 => rw [h1, h2]
theorem good_perm {q : Int} {a b : List Int} (h : a.Perm b) (hc : GoodC q a) : GoodC q b := by
  have hl := h.length_eq
  have h1 := hc.l1
  have h9 := hc.l9
  have hs := sum_perm h
  have hqs := hc.qs
  exact ⟨by omega, by omega, fun x hx => hc.w x (h.mem_iff.2 hx), hc.q1, by omega⟩
theorem drop_sum {ws : List Int} {a : Nat} (h : a < ws.length) : (dropW ws (a : Int)).sum + ws[a] = ws.sum ∧ (dropW ws (a : Int)).length + 1 = ws.length := by
  have e : ws = ws.take a ++ ws[a] :: ws.drop (a + 1) := by rw [List.getElem_cons_drop, List.take_append_drop]
  have h1 : ws.sum = (ws.take a).sum + (ws[a] + (ws.drop (a + 1)).sum) := by
    conv => lhs; rw [e]
    rw [List.sum_append, List.sum_cons]
  unfold dropW
  rw [Int.toNat_natCast, List.sum_append, List.length_append, List.length_take, List.length_drop]
  omega
theorem set_back {o bk : List Int} {n i : Nat} (ho : orderB (n : Int) o = true) (hb : bk.length = n) (hi : i < o.length) (h : ∀ j, j < i → (hj : j < o.length) → bk.getD (o[j]).toNat 0 = (j : Int)) : ∀ j, j < i + 1 → (hj : j < o.length) → (bk.set (o[i]).toNat (i : Int)).getD (o[j]).toNat 0 = (j : Int) := by
  obtain ⟨hl, hin, hnd, hp⟩ := order_facts ho
  intro j hj1 hj
  have hx := hin o[i] (List.getElem_mem hi)
  rw [List.getD_eq_getElem?_getD]
  by_cases c : j = i
  · subst c
    rw [List.getElem?_set_self (by omega)]
    rfl
  · have hne : (o[i]).toNat ≠ (o[j]).toNat := by
      intro e
      rw [List.Nodup, List.pairwise_map, List.pairwise_iff_getElem] at hnd
      exact hnd j i hj hi (by omega) e.symm
    rw [List.getElem?_set_ne hne, ← List.getD_eq_getElem?_getD]
    exact h j (by omega) hj
theorem setN_inj {m m' : Nat} (h1 : m < 2 ^ 62) (h2 : m' < 2 ^ 62) (h : setN m = setN m') : m = m' := by
  apply Nat.eq_of_testBit_eq
  intro i
  by_cases hi : i < 62
  · rw [← setN_contains m i hi, ← setN_contains m' i hi, h]
  · rw [Nat.testBit_lt_two_pow (Nat.lt_of_lt_of_le h1 (Nat.pow_le_pow_right (by omega) (by omega))), Nat.testBit_lt_two_pow (Nat.lt_of_lt_of_le h2 (Nat.pow_le_pow_right (by omega) (by omega)))]
theorem sortL_contains {P : Nat → Bool} {N m : Nat} (hN : N ≤ 2 ^ 62) (hm : m < N) : (Go.Proofs.YtaambkdiokbdgacGreatDoorS.sortL (takeL P N)).contains (setN m) = P m := by
  rw [Bool.eq_iff_iff, List.contains_iff_mem, (Go.Proofs.YtaambkdiokbdgacGreatDoorS.sortL_perm _).mem_iff]
  constructor
  · intro h
    obtain ⟨m', h1, h2, h3⟩ := takeL_mem _ h
    rw [setN_inj (by omega) (by omega) h3]
    exact h2
  · intro h
    exact List.mem_map.2 ⟨m, List.mem_filter.2 ⟨List.mem_range.2 hm, h⟩, rfl⟩
theorem wins_of_least {q : Int} {ws : List Int} (h0 : ∀ x ∈ ws, 0 ≤ x) {m : Nat} (hm : m < 2 ^ ws.length) : (winsL q ws).getD m false = true ↔ ∃ m', m' < 2 ^ ws.length ∧ leastB (winsL q ws) ws.length m' = true ∧ ∀ i, m'.testBit i = true → m.testBit i = true := by
  constructor
  · intro h
    exact least_sub (winsL q ws) ws.length m hm h
  · rintro ⟨m', h1, h2, h3⟩
    exact wins_mono h0 h1 hm h3 (leastB_bits h2).1
theorem same_of_least {q q' : Int} {ws ws' : List Int} (hc : GoodC q ws) (hc' : GoodC q' ws') (hl : ws.length = ws'.length) (h : (lwV q ws).1 = (lwV q' ws').1) : winsL q ws = winsL q' ws' := by
  have h9 := hc.l9
  have hp := hc.pow
  have g1 : goodB q ws = true := (good_iff q ws).2 hc
  have g2 : goodB q' ws' = true := (good_iff q' ws').2 hc'
  unfold lwV at h
  rw [if_pos g1, if_pos g2] at h
  simp only [winsL_length] at h
  have hlb : ∀ m, m < 2 ^ ws.length → leastB (winsL q ws) ws.length m = leastB (winsL q' ws') ws'.length m := fun m hm => by
    have e1 := sortL_contains (P := leastB (winsL q ws) ws.length) (N := 2 ^ ws.length) (m := m) (by omega) hm
    have e2 := sortL_contains (P := leastB (winsL q' ws') ws'.length) (N := 2 ^ ws'.length) (m := m) (by rw [← hl]; omega) (by rw [← hl]; exact hm)
    rw [← e1, ← e2, h]
  refine List.ext_getElem (by rw [winsL_length, winsL_length, hl]) (fun m h1 h2 => ?_)
  rw [winsL_length] at h1 h2
  have e3 : ∀ (W : List Bool) (hm : m < W.length), W[m] = W.getD m false := fun W hm => by simp [List.getD_eq_getElem?_getD, hm]
  rw [e3 _ (by rw [winsL_length]; exact h1), e3 _ (by rw [winsL_length]; exact h2), Bool.eq_iff_iff, wins_of_least hc.w0 h1, wins_of_least hc'.w0 h2]
  constructor
  · rintro ⟨m', a, b, c⟩
    exact ⟨m', by rw [← hl]; exact a, by rw [← hlb m' a]; exact b, c⟩
  · rintro ⟨m', a, b, c⟩
    rw [← hl] at a
    exact ⟨m', a, by rw [hlb m' a]; exact b, c⟩
theorem ifGood_len (q : Int) (l : List Int) : (ifGood q l).2.1.length ≤ 9 := by
  unfold ifGood
  split
  · next h => exact ((good_iff q l).1 h).l9
  · simp
theorem good_fold {q : Int} {ws : List Int} (hc : GoodC q ws) : wfold ws 0 = ws.sum := by
  have hs := hc.sum
  have h9 := hc.l9
  rw [wfold_sum ws 0 (fun x hx => by have := hc.w x hx; omega) (by omega) (by omega), Int.zero_add]
theorem laws_FnCommitteesChange.law_J3 (l : List UInt8) (q6 : Int) (w6 : List Int) (hl6 : w6.length ≤ 9223372036854775807) (qp : Int) (wp : List Int) (okp : Bool) (hp : okp = true → GoodC qp wp ∧ cmT qp wp = l) : Ev (fun k => laws_FnCommitteesChange.j3 k (ctV q6 w6).1 (ctV q6 w6).2 (txb l) okp q6 w6 qp wp) true := by
  have hlast : okp = true → Ev (fun k => impl_CommitteeText.f k qp wp) (txb l, true) := fun h => by
    obtain ⟨hc, e⟩ := hp h
    have v := impl_CommitteeText.ev qp wp (by have := hc.l9; omega)
    rw [ctV, if_pos ((good_iff qp wp).2 hc), e] at v
    exact v
  refine ev_step ?_
  simp only [laws_FnCommitteesChange.j3]
  by_cases c : goodB q6 w6 = true
  · have hc := (good_iff q6 w6).1 c
    have hm := laws_mCommittee.ev_same q6 w6 hl6
    rw [ctV, if_pos c]
    dsimp only
    rw [ev_pos rfl, ev_bind (impl_ParseCommittee.hit hc)]
    dsimp only
    rw [ev_pos rfl, ev_bind hm, ev_pos rfl]
    by_cases ho : okp = true
    · rw [ev_pos ho, ev_bind (hlast ho)]
      dsimp only
      rw [ev_pos rfl, beq_self_eq_true, ev_now]
    · rw [ev_neg ho, ev_now]
  · rw [ctV, if_neg c]
    dsimp only
    rw [ev_neg (by decide)]
    by_cases ho : okp = true
    · rw [ev_pos ho, ev_bind (hlast ho)]
      dsimp only
      rw [ev_pos rfl, beq_self_eq_true, ev_now]
    · rw [ev_neg ho, ev_now]
theorem laws_FnCommitteesChange.law_J2 (l : List UInt8) (q4 : Int) (w4 : List Int) (hl4 : w4.length ≤ 9223372036854775807) (q5 : Int) (w5 : List Int) (hl5 : w5.length ≤ 9223372036854775807) (q6 : Int) (w6 : List Int) (hl6 : w6.length ≤ 9223372036854775807) (qp : Int) (wp : List Int) (okp : Bool) (hp : okp = true → GoodC qp wp ∧ cmT qp wp = l) : Ev (fun k => laws_FnCommitteesChange.j2 k (asmV q4 w4 q5 w5).1 (asmV q4 w4 q5 w5).2 (ctV q6 w6).1 (ctV q6 w6).2 (txb l) okp false q4 w4 q5 w5 q6 w6 qp wp) true := by
  have hj4 := laws_FnCommitteesChange.law_J3 l q6 w6 hl6 qp wp okp hp
  refine ev_step ?_
  simp only [laws_FnCommitteesChange.j2]
  rw [ev_neg (by decide)]
  by_cases c : goodB q4 w4 = true ∧ goodB q5 w5 = true
  · have hc4 := (good_iff q4 w4).1 c.1
    have hc5 := (good_iff q5 w5).1 c.2
    have v4 := impl_LeastWinning.ev q4 w4 hl4
    have v5 := impl_LeastWinning.ev q5 w5 hl5
    have vb := impl_AreSameVotes.ev q5 w5 q4 w4 hl5 hl4
    have hf := lwV_few q4 w4
    have hm := laws_mSets.ev (lwV q4 w4).1 (lwV q5 w5).1 (by omega) (fun x hx => by have := hf.2 x hx; omega)
    have e4 : (lwV q4 w4).2 = true := by rw [lwV, if_pos c.1]
    have e5 : (lwV q5 w5).2 = true := by rw [lwV, if_pos c.2]
    rw [asmV, if_pos ⟨c.2, c.1⟩, show decide (winsL q5 w5 = winsL q4 w4) = decide (winsL q4 w4 = winsL q5 w5) from decide_eq_decide.2 eq_comm] at vb
    rw [asmV, if_pos c]
    dsimp only
    rw [ev_pos rfl, ev_bind v4, ev_bind v5, ev_bind vb, ev_pos e4, ev_pos e5]
    by_cases hlen : w4.length = w5.length
    · have hk : decide ((lwV q4 w4).1 = (lwV q5 w5).1) = decide (winsL q4 w4 = winsL q5 w5) := by
        refine decide_eq_decide.2 ⟨same_of_least hc4 hc5 hlen, fun h => ?_⟩
        rw [lwV, if_pos c.1, lwV, if_pos c.2, h, hlen]
      rw [hk] at hm
      rw [ev_pos (by omega), ev_bind hm, bne_self_eq_false, ev_neg (by decide), ev_pos rfl, ev_neg (by decide)]
      exact hj4
    · have hd : decide (winsL q4 w4 = winsL q5 w5) = false := by
        refine decide_eq_false fun h => hlen ?_
        have h2 := congrArg List.length h
        rw [winsL_length, winsL_length] at h2
        rcases Nat.lt_trichotomy w4.length w5.length with h3 | h3 | h3
        · have h4 := Nat.pow_lt_pow_right (show 1 < 2 by decide) h3; omega
        · exact h3
        · have h4 := Nat.pow_lt_pow_right (show 1 < 2 by decide) h3; omega
      rw [ev_neg (by omega), hd, bne_self_eq_false, ev_neg (by decide), ev_pos rfl, ev_neg (by decide)]
      exact hj4
  · rw [asmV, if_neg c]
    dsimp only
    rw [ev_neg (by decide)]
    exact hj4
theorem laws_FnCommitteesChange.law_J1 (x : List Int) (hb : ByteL x) : Ev (fun k => laws_FnCommitteesChange.j1 k x) true := by
  obtain ⟨q3, w3, a, g1, hD1⟩ := spec_DrawDropMember.ex hb
  obtain ⟨q4, w4, q5, w5, g2, h41, h51⟩ := spec_DrawAreSameVotes.ex hb
  obtain ⟨q6, w6, g3, hD3⟩ := spec_DrawCommitteeText.ex hb
  obtain ⟨t, g4, ht⟩ := spec_DrawParseCommittee.ex hb
  obtain ⟨l, rfl⟩ : ∃ l, t = txb l := ⟨_, txb_of t⟩
  have hl : l.length ≤ 1048576 := by rw [txb_size] at ht; omega
  have hl3 : w3.length ≤ 9223372036854775807 := Nat.le_trans hD1.l10 (by decide)
  have hl4 : w4.length ≤ 9223372036854775807 := Nat.le_trans h41 (by decide)
  have hl5 : w5.length ≤ 9223372036854775807 := Nat.le_trans h51 (by decide)
  have hl6 : w6.length ≤ 9223372036854775807 := Nat.le_trans hD3.l10 (by decide)
  obtain ⟨qp, wp, okp, hp1, hp2, hp9, hp⟩ := parse_cases l hl
  have hj3 := laws_FnCommitteesChange.law_J2 l q4 w4 hl4 q5 w5 hl5 q6 w6 hl6 qp wp okp hp
  have d1 := impl_DropMember.ev q3 w3 a hl3
  have d2 := spec_DropMember.ev q3 w3 a hl3
  have s1 := impl_AreSameVotes.ev q4 w4 q5 w5 hl4 hl5
  have s2 := spec_AreSameVotes.ev q4 w4 q5 w5 hl4 hl5
  have t1 := impl_CommitteeText.ev q6 w6 hl6
  have t2 := spec_CommitteeText.ev q6 w6 hl6
  have hmp := laws_mCommittee.ev_same qp wp (by omega)
  have hg := impl_IsCommittee.ev q6 w6 hl6
  have ect : (ctV q6 w6).2 = goodB q6 w6 := by
    unfold ctV
    split
    · rename_i h; exact h.symm
    · rename_i h; rw [Bool.not_eq_true] at h; exact h.symm
  have hdl : (dropV q3 w3 a).2.1.length ≤ 9 := by
    unfold dropV
    split
    · exact ifGood_len q3 _
    · simp
  have hmd := laws_mCommittee.ev_same (dropV q3 w3 a).1 (dropV q3 w3 a).2.1 (by omega)
  refine ev_step ?_
  simp only [laws_FnCommitteesChange.j1]
  rw [ev_bind g1]
  dsimp only
  rw [ev_bind d1, ev_bind d2, ev_bind g2]
  dsimp only
  rw [ev_bind s1, ev_bind s2, ev_bind g3]
  dsimp only
  rw [ev_bind t1, ev_bind t2, ev_bind g4, ev_bind hp1, ev_bind hp2]
  dsimp only
  simp only [bne_self_eq_false, Bool.false_eq_true, if_false, if_true]
  rw [ev_bind hmd]
  simp only [if_true]
  rw [ev_bind hmp]
  simp only [if_true]
  rw [ev_bind hg, ect]
  simp only [bne_self_eq_false, Bool.false_eq_true, if_false, if_true]
  rw [ect] at hj3
  by_cases c : (dropV q3 w3 a).2.2 = true
  · have hm : memB q3 w3 a = true := by
      unfold dropV at c
      split at c
      · assumption
      · simp at c
    obtain ⟨hc3, ha0, ha1⟩ := memB_in hm
    have hgd : goodB q3 (dropW w3 a) = true := by
      rw [dropV, if_pos hm, ifGood] at c
      split at c
      · assumption
      · simp at c
    have ed : dropV q3 w3 a = (q3, dropW w3 a, true) := by rw [dropV, if_pos hm, ifGood, if_pos hgd]
    have hcd := (good_iff _ _).1 hgd
    have h9 := hc3.l9
    have h9d := hcd.l9
    obtain ⟨i, rfl⟩ := Int.eq_ofNat_of_zero_le ha0
    have hi : i < w3.length := by omega
    obtain ⟨hs, hlen⟩ := drop_sum hi
    have hb3 := sum_bounds w3 1000 hc3.w
    have m1 := laws_mSum.ev (dropW w3 (i : Int)) (by omega)
    have m2 := laws_mSum.ev w3 hl3
    rw [good_fold hcd] at m1
    rw [good_fold hc3] at m2
    rw [ed]
    dsimp only
    rw [ev_pos rfl, ev_bind m1, ev_pos (by omega), ev_pos (by omega), ev_bind m2, rd_lt w3 i hi, hs, w64 (by omega) (by omega), ev_pos rfl, w64 (by omega) (by omega), ev_pos (by omega), bne_self_eq_false]
    exact hj3
  · rw [ev_neg c]
    exact hj3
theorem laws_FnCommitteesChange.law_L0 {q : Int} {ws o : List Int} (hc : GoodC q ws) (ho : orderB (ws.length : Int) o = true) (x : List Int) (hj : Ev (fun k => laws_FnCommitteesChange.j1 k x) true) : ∀ (d i : Nat) (bk : List Int), i + d = o.length → bk.length = ws.length → (∀ j, j < i → (h : j < o.length) → bk.getD (o[j]).toNat 0 = (j : Int)) → Ev (fun k => laws_FnCommitteesChange.l0 k x bk o (o.length : Int) (i : Int) q ws q (renC ws o)) true := by
  obtain ⟨hol, hin, hnd, hpm⟩ := order_facts ho
  have h9 := hc.l9
  have hrl := renC_len ws o
  intro d
  induction d with
  | zero =>
    intro i bk h hbl hb
    have hb2 : ∀ j, (h : j < o.length) → bk.getD (o[j]).toNat 0 = (j : Int) := fun j hj2 => hb j (by omega) hj2
    have hob := order_back ho hbl hb2
    have hrb := ren_back ho hbl hb2
    have hpr : ws.Perm (renC ws o) := (order_perm ho).symm
    have hcr := good_perm hpr hc
    have v1 := impl_RenameCommittee.ev q (renC ws o) bk (by omega) (by omega)
    rw [renV, if_pos ⟨(good_iff _ _).2 hcr, by rw [hrl, hol]; exact hob⟩, hrb] at v1
    have v2 := impl_CountWinning.ev q ws (by omega)
    have v3 := impl_CountWinning.ev q (renC ws o) (by omega)
    rw [cwV, if_pos ((good_iff _ _).2 hc)] at v2
    rw [cwV, if_pos ((good_iff _ _).2 hcr), ← cntW_perm hpr] at v3
    have hm := laws_mCommittee.ev_same q ws (by omega)
    refine ev_step ?_
    simp only [laws_FnCommitteesChange.l0]
    rw [ev_neg (by omega), ev_bind v1, ev_bind v2, ev_bind v3]
    dsimp only
    rw [ev_pos rfl, ev_bind hm, ev_pos rfl, ev_pos rfl, ev_pos rfl, ev_pos rfl]
    exact hj
  | succ d ih =>
    intro i bk h hbl hb
    refine ev_step ?_
    simp only [laws_FnCommitteesChange.l0]
    have hi : i < o.length := by omega
    have hxo := hin o[i] (List.getElem_mem hi)
    obtain ⟨c, hcx⟩ := Int.eq_ofNat_of_zero_le hxo.1
    have hih := ih (i + 1) (bk.set (o[i]).toNat (i : Int)) (by omega) (by rw [List.length_set]; exact hbl) (set_back ho hbl hi hb)
    have e := renC_get ws o i hi
    rw [hcx, Int.toNat_natCast] at e
    rw [hcx, Int.toNat_natCast, show ((i + 1 : Nat) : Int) = (i : Int) + 1 by omega] at hih
    rw [ev_pos (by omega), ev_pos (by omega), ev_pos (by omega), rd_lt o i hi, hcx, ev_pos (by omega), ev_pos (by omega), ev_pos (by omega), ev_pos (by omega), rd_lt (renC ws o) i (by omega), e, rd_nat, ev_pos rfl, Int.toNat_natCast, w64 (by omega) (by omega)]
    exact hih
theorem laws_FnCommitteesChange.law (l0 l1 : List Int) (ok0 : OkBL l0) (ok1 : OkBL l1) : Ev (fun k => laws_FnCommitteesChange.f k l0 l1) true := by
  simp only [laws_FnCommitteesChange.f]
  rcases laws_big.cases l0 l1 with ⟨b, hbg, rfl⟩ | ⟨hbg, h0, h1⟩
  · rw [ev_bind (ev_of hbg), ev_pos rfl, ev_now]
  have hb1 := ByteL.of ok1 h1
  have hj := laws_FnCommitteesChange.law_J1 l1 hb1
  obtain ⟨q, ws, o, hd, hD, ho⟩ := spec_DrawRenameCommittee.ex (ByteL.of ok0 h0)
  have hlw : ws.length ≤ 9223372036854775807 := Nat.le_trans hD.l10 (by decide)
  have r1 := impl_RenameCommittee.ev q ws o hlw (by omega)
  have r2 := spec_RenameCommittee.ev q ws o hlw (by omega)
  rw [ev_bind (ev_of hbg), ev_neg (by decide), ev_bind hd]
  dsimp only
  rw [ev_bind r1, ev_bind r2, bne_self_eq_false, ev_neg (by decide)]
  by_cases c : goodB q ws = true ∧ orderB (ws.length : Int) o = true
  · have hc := (good_iff q ws).1 c.1
    obtain ⟨hol, hin, _, _⟩ := order_facts c.2
    have hrl := renC_len ws o
    have hm := laws_mCommittee.ev_same q (renC ws o) (by omega)
    have hk := laws_FnCommitteesChange.law_L0 hc c.2 l1 hj o.length 0 (List.replicate o.length 0) (by omega) (by rw [List.length_replicate, hol]) (fun j h => absurd h (Nat.not_lt_zero j))
    rw [renV, if_pos c]
    dsimp only
    rw [ev_bind hm, ev_pos rfl, ev_pos rfl, ev_pos (by omega), ev_pos (by omega), Int.toNat_natCast]
    exact hk
  · have hm := laws_mCommittee.ev_same 0 [] (by simp)
    rw [renV, if_neg c]
    dsimp only
    rw [ev_bind hm, ev_pos rfl, ev_neg (by decide)]
    exact hj
end Go.Proofs.YtaambkdiokbdgacGreatDoor.Q
