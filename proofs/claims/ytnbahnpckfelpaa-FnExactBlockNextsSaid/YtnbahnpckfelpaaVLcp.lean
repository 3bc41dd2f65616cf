import Derived.Test.YtnbahnpckfelpaaVLco
import Derived.Test.YtnbahnpckfelpaaVLpa
import Derived.Test.YtnbahnpckfelpaaVLcm
/-! The law Leaders, walked. -/
namespace Go.Proofs.Ytnbahnpckfelpaa.VL
open Go.RowKit
set_option maxRecDepth 4000
set_option linter.unusedSimpArgs false

theorem mul7 (n : Nat) : n * 7 / 7 = n := by omega
theorem markL_head (l : List Ins) (k : Int) : sameHead (.nd false .own 7 (insL .own l)) (.nd false .own 7 (insL .own (markL k l))) = true := by simp [sameHead, insL_div, markL_len]
theorem szGo_tot : ∀ (l : List Ins) (b : Int), b ≤ 1048576 → 0 ≤ szGo l b → ((tot l : Nat) : Int) ≤ 6 * l.length + b
  | [], b, _, h => by simp only [szGo] at h; simp [tot]; omega
  | x :: l, b, hb, h => by
    simp only [szGo] at h
    split at h
    · omega
    · rename_i hn
      have h9 := szInts_le x.xs b
      have ih := szGo_tot l _ (by omega) h
      have h8 : szInts x.xs b = b - x.xs.length := by unfold szInts at hn ⊢; split <;> simp_all
      simp only [tot, List.length_cons]; push_cast; omega
theorem szIns_tot {l : List Ins} {b : Int} (hb : b ≤ 1048576) (h : 0 ≤ szIns l b) : tot l ≤ 100000000 := by
  have hk := (szIns_ok hb h).1
  unfold szIns at h
  split at h
  · omega
  · have := szGo_tot l _ (by omega) h; omega

theorem g28 (p : Pc) (k : Int) (hl : p.l.length ≤ 1048576) (hLs : ∀ i ∈ p.l, i.xs.length ≤ 1048576) (h0 : 0 ≤ k) (h1 : k ≤ 1000) (hT : tot p.l ≤ 100000000) : Gives Try.prog 28 [.ag (pcC .own p), .int k] (fun _ t => t = .int (k + tot p.l)) := by
  refine Gives.of_VW Try.func28 rfl (by rw [Try.ntmps28]; simp only [List.length_cons, List.length_nil]; decide) fun C hP hn hC => ?_
  have hn' := hn.trans Try.ntmps28
  have hb : True := trivial
  repeat' first
    | (exact Bool.noConfusion hb) | (exact False.elim hb)
    | (with_reducible refine go_cons ?_) | (with_reducible refine go_nil ?_) | (with_reducible refine q_nil ?_) | (with_reducible refine go_then ?_) | (with_reducible refine go_thenE ?_) | (with_reducible refine go_thenR ?_) | (with_reducible refine go_blkN ?_) | (with_reducible refine go_blkR ?_) | (with_reducible refine go_blkE ?_) | (with_reducible refine go_blkO (by decide) ?_) | (with_reducible refine VW_seq ?_) | (with_reducible refine VW_skip ?_) | (with_reducible refine VW_exit ?_) | (with_reducible refine VW_block ?_) | (with_reducible refine VW_ret ?_) | (with_reducible refine go_region ?_) | (with_reducible refine any_nil)
    | (with_reducible refine go_quiet hC (by rw [hP]; kernel_rfl) (by kernel_rfl) ?_)
    | ((with_reducible refine op_lend (f := 76) [false, false] 0 hC hP hn' fn76 fun F hF => ?_); simp only [go_sem, hb, setP_nil, List.cons_ne_nil, insL_len, mul7, Int.reduceToNat, ↓reduceIte, Int.reduceEq, Int.reduceLT, Int.reduceLE, Int.reduceNeg, Int.reduceBEq, Int.reduceBNe, reduceCtorEq, Nat.reduceEqDiff, Nat.reduceAdd, Nat.reduceLT, Nat.reduceMul, Nat.reduceSub, Nat.reduceDiv, Nat.reduceLeDiff]; refine hF _ _ _ _ _ ⟨_, g76 p.l k hl hLs h0 h1 hT, fun outs t hR => ?_⟩; obtain ⟨rfl, ho⟩ := hR; refine ⟨rfl, _, ho, nvL _, markL_head _ _, ?_⟩; clear hF F)
    | ((with_reducible refine op_op hC hP hn' fun K hK => ?_); simp only [go_sem, hb, setP_nil, List.cons_ne_nil, insL_len, mul7, Int.reduceToNat, ↓reduceIte, Int.reduceEq, Int.reduceLT, Int.reduceLE, Int.reduceNeg, Int.reduceBEq, Int.reduceBNe, reduceCtorEq, Nat.reduceEqDiff, Nat.reduceAdd, Nat.reduceLT, Nat.reduceMul, Nat.reduceSub, Nat.reduceDiv, Nat.reduceLeDiff]; refine hK _ ?_; clear hK K)
    | ((with_reducible refine q_op hC hP hn' fun K hK => ?_); simp only [go_sem, hb, setP_nil, List.cons_ne_nil, insL_len, mul7, Int.reduceToNat, ↓reduceIte, Int.reduceEq, Int.reduceLT, Int.reduceLE, Int.reduceNeg, Int.reduceBEq, Int.reduceBNe, reduceCtorEq, Nat.reduceEqDiff, Nat.reduceAdd, Nat.reduceLT, Nat.reduceMul, Nat.reduceSub, Nat.reduceDiv, Nat.reduceLeDiff]; refine hK _ ?_; clear hK K)
    | ((first | (with_reducible refine op_guard fun G hG => ?_) | (with_reducible refine q_guard fun G hG => ?_)); simp only [go_sem, setP_nil, List.cons_ne_nil, insL_len, mul7, Int.reduceToNat, ↓reduceIte, Int.reduceEq, Int.reduceLT, Int.reduceLE, Int.reduceNeg, Int.reduceBEq, Int.reduceBNe, reduceCtorEq, Nat.reduceEqDiff, Nat.reduceAdd, Nat.reduceLT, Nat.reduceMul, Nat.reduceSub, Nat.reduceDiv, Nat.reduceLeDiff]; first | (with_reducible refine hG (decide _) (fun hb => ?_) (fun hb => ?_)) | (with_reducible refine hG (B _) (fun hb => ?_) (fun hb => ?_)) | (with_reducible refine hG (!decide _) (fun hb => ?_) (fun hb => ?_)) | (with_reducible refine hG (!B _) (fun hb => ?_) (fun hb => ?_))) <;> clear hG G <;> rw [hb] <;> simp only [decide_eq_true_eq, decide_eq_false_iff_not, bne_iff_ne, ne_eq, beq_iff_eq, bne_eq_false_iff_eq, Bool.not_eq_true', Bool.not_eq_false', not_true_eq_false, not_false_eq_true, Bool.true_eq_false, Bool.false_eq_true, beq_eq_false_iff_ne, Int.not_lt, Int.not_le, gt_iff_lt, ge_iff_le, B, and_true, true_and, and_false, false_and, or_true, true_or, or_false, false_or, decide_true, decide_false] at hb
    | ((with_reducible refine go_if fun G hG => ?_); simp only [go_sem, Int.reduceToNat, ↓reduceIte, Int.reduceEq, Int.reduceLT, Int.reduceLE, Int.reduceNeg, Int.reduceBEq, Int.reduceBNe, reduceCtorEq, Nat.reduceEqDiff, Nat.reduceAdd, Nat.reduceLT, Nat.reduceMul, Nat.reduceSub, Nat.reduceDiv, Nat.reduceLeDiff]; refine hG _ (fun hb => ?_) (fun hb => ?_) <;> clear hG G <;> (try rw [hb]) <;> (try simp only [decide_eq_true_eq, decide_eq_false_iff_not, bne_iff_ne, ne_eq, beq_iff_eq, bne_eq_false_iff_eq, Bool.not_eq_true', Bool.not_eq_false', not_true_eq_false, not_false_eq_true, Bool.true_eq_false, Bool.false_eq_true, beq_eq_false_iff_ne, Int.not_lt, Int.not_le, gt_iff_lt, ge_iff_le, B, and_true, true_and, and_false, false_and, or_true, true_or, or_false, false_or, decide_true, decide_false] at hb) <;> try (exfalso; omega))
    | ((with_reducible refine go_retR fun F hF => ?_); simp only [go_sem, Try.f28, setP_nil, List.cons_ne_nil, insL_len, mul7, Int.reduceToNat, ↓reduceIte, Int.reduceEq, Int.reduceLT, Int.reduceLE, Int.reduceNeg, Int.reduceBEq, Int.reduceBNe, reduceCtorEq, Nat.reduceEqDiff, Nat.reduceAdd, Nat.reduceLT, Nat.reduceMul, Nat.reduceSub, Nat.reduceDiv, Nat.reduceLeDiff]; refine hF _ _ ?_; clear hF F)
    | ((with_reducible refine go_retN fun F hF => ?_); simp only [go_sem, Try.f28, setP_nil, List.cons_ne_nil, insL_len, mul7, Int.reduceToNat, ↓reduceIte, Int.reduceEq, Int.reduceLT, Int.reduceLE, Int.reduceNeg, Int.reduceBEq, Int.reduceBNe, reduceCtorEq, Nat.reduceEqDiff, Nat.reduceAdd, Nat.reduceLT, Nat.reduceMul, Nat.reduceSub, Nat.reduceDiv, Nat.reduceLeDiff]; refine hF _ _ ?_; clear hF F)
  rfl
/-- The leaders. -/
def leadV (p : Pc) : List Int := if okS p = true then leadL p.l else []
theorem leadV_len (p : Pc) : (leadV p).length ≤ 1048576 := by
  unfold leadV; split
  · have := okS_len0 ‹_›; have := leadL_len p.l; omega
  · simp
theorem leadV_I (p : Pc) : (if okI p = true then asc (leadI p.l) else []) = leadV p := by unfold leadV; rw [ok_eq, lead_eq]
set_option maxHeartbeats 8000000 in
theorem g5 (p : Pc) (hl : p.l.length ≤ 9223372036854775807) (hL : ∀ i ∈ p.l, i.xs.length ≤ 9223372036854775807) : Gives Try.prog 5 [.ag (pcC .vw p)] (fun _ t => t = .bool true) := by
  refine Gives.of_VW Try.func5 rfl (by rw [Try.ntmps5]; simp only [List.length_cons, List.length_nil]; decide) fun C hP hn hC => ?_
  have hn' := hn.trans Try.ntmps5
  have hb : True := trivial
  by_cases hs : 0 ≤ szIns p.l 1048576
  · have hp := pcok_of hs
    have hd : decide (szIns p.l 1048576 < 0) = false := decide_eq_false (by omega)
    have hself : decide (p = p) = true := decide_eq_true rfl
    have hT := szIns_tot (by omega) hs
    have h26 := g26 p hp
    rw [leadV_I] at h26
    have h25 := g25 p hp
    rw [show (if okS p = true then leadL p.l else []) = leadV p from rfl] at h25
    have hV := leadV_len p
    generalize leadV p = V at h26 h25 hV
    have hself2 : decide (V = V) = true := decide_eq_true rfl
    have hm1 : decide ((1 : Int) + ((tot p.l : Nat) : Int) < 0) = false := decide_eq_false (by omega)
    have hm2 : decide ((1 : Int) + (V.length : Int) < 0) = false := decide_eq_false (by omega)
    have hm3 : decide ((1 : Int) + (V.length : Int) = 1 + (V.length : Int)) = true := decide_eq_true rfl
    repeat' first
      | (exact Bool.noConfusion hb) | (exact False.elim hb)
      | (with_reducible refine go_cons ?_) | (with_reducible refine go_nil ?_) | (with_reducible refine q_nil ?_) | (with_reducible refine go_then ?_) | (with_reducible refine go_thenE ?_) | (with_reducible refine go_thenR ?_) | (with_reducible refine go_blkN ?_) | (with_reducible refine go_blkR ?_) | (with_reducible refine go_blkE ?_) | (with_reducible refine go_blkO (by decide) ?_) | (with_reducible refine VW_seq ?_) | (with_reducible refine VW_skip ?_) | (with_reducible refine VW_exit ?_) | (with_reducible refine VW_block ?_) | (with_reducible refine VW_ret ?_) | (with_reducible refine go_region ?_) | (with_reducible refine any_nil)
      | (refine go_any hC (by rw [hP]; kernel_rfl) _ _ (by rfl) (by rfl) ?_)
      | (refine any_done (by decide +kernel) ?_)
      | (refine any_go 0 [1] (by decide +kernel) ?_)
      | (refine any_go 1 [] (by decide +kernel) ?_)
      | (refine any_go 2 [] (by decide +kernel) ?_)
      | (refine any_go 3 [] (by decide +kernel) ?_)
      | (refine any_go 4 [] (by decide +kernel) ?_)
      | (refine any_go 0 [2] (by decide +kernel) ?_)
      | (refine any_go 0 [] (by decide +kernel) ?_)
      | (refine any_one (fun F hF => ?_) ?_)
      | (simp only [List.getElem?_toArray, List.getElem?_cons_zero, List.getElem?_cons_succ]; refine hF _ ?_; clear hF F)
      | ((with_reducible refine op_call (f := 20) [false, false] hC hP hn' fn20 fun F hF => ?_); simp only [go_sem, hb, hd, hself, hself2, hm1, hm2, hm3, eq_self, Int.reduceToNat, ↓reduceIte, Int.reduceEq, Int.reduceLT, Int.reduceLE, Int.reduceNeg, Int.reduceBEq, Int.reduceBNe, reduceCtorEq, Nat.reduceEqDiff, Nat.reduceAdd, Nat.reduceLT, Nat.reduceMul, Nat.reduceSub, Nat.reduceDiv, Nat.reduceLeDiff]; refine hF _ _ ⟨_, g20 p _ hl hL (by omega) (by omega), fun outs t hR => ?_⟩; subst hR; refine ⟨rfl, ?_⟩; clear hF F)
      | ((with_reducible refine op_call (f := 22) [false] hC hP hn' fn22 fun F hF => ?_); simp only [go_sem, hb, hd, hself, hself2, hm1, hm2, hm3, eq_self, Int.reduceToNat, ↓reduceIte, Int.reduceEq, Int.reduceLT, Int.reduceLE, Int.reduceNeg, Int.reduceBEq, Int.reduceBNe, reduceCtorEq, Nat.reduceEqDiff, Nat.reduceAdd, Nat.reduceLT, Nat.reduceMul, Nat.reduceSub, Nat.reduceDiv, Nat.reduceLeDiff]; refine hF _ _ ⟨_, g22 p hp.len hp.lens, fun outs t hR => ?_⟩; subst hR; refine ⟨nvPc _, ?_⟩; clear hF F)
      | ((with_reducible refine op_call (f := 25) [false] hC hP hn' fn25 fun F hF => ?_); simp only [go_sem, hb, hd, hself, hself2, hm1, hm2, hm3, eq_self, Int.reduceToNat, ↓reduceIte, Int.reduceEq, Int.reduceLT, Int.reduceLE, Int.reduceNeg, Int.reduceBEq, Int.reduceBNe, reduceCtorEq, Nat.reduceEqDiff, Nat.reduceAdd, Nat.reduceLT, Nat.reduceMul, Nat.reduceSub, Nat.reduceDiv, Nat.reduceLeDiff]; refine hF _ _ ⟨_, h25, fun outs t hR => ?_⟩; subst hR; refine ⟨nvi _, ?_⟩; clear hF F)
      | ((with_reducible refine op_call (f := 26) [false] hC hP hn' fn26 fun F hF => ?_); simp only [go_sem, hb, hd, hself, hself2, hm1, hm2, hm3, eq_self, Int.reduceToNat, ↓reduceIte, Int.reduceEq, Int.reduceLT, Int.reduceLE, Int.reduceNeg, Int.reduceBEq, Int.reduceBNe, reduceCtorEq, Nat.reduceEqDiff, Nat.reduceAdd, Nat.reduceLT, Nat.reduceMul, Nat.reduceSub, Nat.reduceDiv, Nat.reduceLeDiff]; refine hF _ _ ⟨_, h26, fun outs t hR => ?_⟩; subst hR; refine ⟨nvi _, ?_⟩; clear hF F)
      | ((with_reducible refine op_call (f := 24) [false, false] hC hP hn' fn24 fun F hF => ?_); simp only [go_sem, hb, hd, hself, hself2, hm1, hm2, hm3, eq_self, Int.reduceToNat, ↓reduceIte, Int.reduceEq, Int.reduceLT, Int.reduceLE, Int.reduceNeg, Int.reduceBEq, Int.reduceBNe, reduceCtorEq, Nat.reduceEqDiff, Nat.reduceAdd, Nat.reduceLT, Nat.reduceMul, Nat.reduceSub, Nat.reduceDiv, Nat.reduceLeDiff]; refine hF _ _ ⟨_, g24 p p hp.len hp.lens, fun outs t hR => ?_⟩; subst hR; refine ⟨rfl, ?_⟩; clear hF F)
      | ((with_reducible refine op_call (f := 27) [false, false] hC hP hn' fn27 fun F hF => ?_); simp only [go_sem, hb, hd, hself, hself2, hm1, hm2, hm3, eq_self, Int.reduceToNat, ↓reduceIte, Int.reduceEq, Int.reduceLT, Int.reduceLE, Int.reduceNeg, Int.reduceBEq, Int.reduceBNe, reduceCtorEq, Nat.reduceEqDiff, Nat.reduceAdd, Nat.reduceLT, Nat.reduceMul, Nat.reduceSub, Nat.reduceDiv, Nat.reduceLeDiff]; refine hF _ _ ⟨_, g27 V V hV, fun outs t hR => ?_⟩; subst hR; refine ⟨rfl, ?_⟩; clear hF F)
      | ((with_reducible refine op_call (f := 28) [true, false] hC hP hn' fn28 fun F hF => ?_); simp only [go_sem, hb, hd, hself, hself2, hm1, hm2, hm3, eq_self, Int.reduceToNat, ↓reduceIte, Int.reduceEq, Int.reduceLT, Int.reduceLE, Int.reduceNeg, Int.reduceBEq, Int.reduceBNe, reduceCtorEq, Nat.reduceEqDiff, Nat.reduceAdd, Nat.reduceLT, Nat.reduceMul, Nat.reduceSub, Nat.reduceDiv, Nat.reduceLeDiff]; refine hF _ _ ⟨_, g28 p 1 hp.len hp.lens (by omega) (by omega) hT, fun outs t hR => ?_⟩; subst hR; refine ⟨rfl, ?_⟩; clear hF F)
      | ((with_reducible refine op_lend (f := 29) [false, false] 0 hC hP hn' fn29 fun F hF => ?_); simp only [go_sem, hb, hd, hself, hself2, hm1, hm2, hm3, eq_self, Int.reduceToNat, ↓reduceIte, Int.reduceEq, Int.reduceLT, Int.reduceLE, Int.reduceNeg, Int.reduceBEq, Int.reduceBNe, reduceCtorEq, Nat.reduceEqDiff, Nat.reduceAdd, Nat.reduceLT, Nat.reduceMul, Nat.reduceSub, Nat.reduceDiv, Nat.reduceLeDiff]; refine hF _ _ _ _ _ ⟨_, g29 V 1 hV (by omega) (by omega), fun outs t hR => ?_⟩; obtain ⟨rfl, ho⟩ := hR; refine ⟨rfl, _, ho, nvi _, mark_head _ _, ?_⟩; clear hF F)
      | ((with_reducible refine op_call (f := 30) [false, false] hC hP hn' fn30 fun F hF => ?_); simp only [go_sem, hb, hd, hself, hself2, hm1, hm2, hm3, eq_self, Int.reduceToNat, ↓reduceIte, Int.reduceEq, Int.reduceLT, Int.reduceLE, Int.reduceNeg, Int.reduceBEq, Int.reduceBNe, reduceCtorEq, Nat.reduceEqDiff, Nat.reduceAdd, Nat.reduceLT, Nat.reduceMul, Nat.reduceSub, Nat.reduceDiv, Nat.reduceLeDiff]; refine hF _ _ ⟨_, g30 1 V.length hV (by omega) (by omega), fun outs t hR => ?_⟩; subst hR; refine ⟨rfl, ?_⟩; clear hF F)
      | ((with_reducible refine op_op hC hP hn' fun K hK => ?_); simp only [go_sem, hb, hd, hself, hself2, hm1, hm2, hm3, eq_self, Int.reduceToNat, ↓reduceIte, Int.reduceEq, Int.reduceLT, Int.reduceLE, Int.reduceNeg, Int.reduceBEq, Int.reduceBNe, reduceCtorEq, Nat.reduceEqDiff, Nat.reduceAdd, Nat.reduceLT, Nat.reduceMul, Nat.reduceSub, Nat.reduceDiv, Nat.reduceLeDiff]; refine hK _ ?_; clear hK K)
      | ((with_reducible refine q_op hC hP hn' fun K hK => ?_); simp only [go_sem, hb, hd, hself, hself2, hm1, hm2, hm3, eq_self, Int.reduceToNat, ↓reduceIte, Int.reduceEq, Int.reduceLT, Int.reduceLE, Int.reduceNeg, Int.reduceBEq, Int.reduceBNe, reduceCtorEq, Nat.reduceEqDiff, Nat.reduceAdd, Nat.reduceLT, Nat.reduceMul, Nat.reduceSub, Nat.reduceDiv, Nat.reduceLeDiff]; refine hK _ ?_; clear hK K)
      | ((first | (with_reducible refine op_guard fun G hG => ?_) | (with_reducible refine q_guard fun G hG => ?_)); simp only [go_sem, hd, hself, hself2, hm1, hm2, hm3, eq_self, Int.reduceToNat, ↓reduceIte, Int.reduceEq, Int.reduceLT, Int.reduceLE, Int.reduceNeg, Int.reduceBEq, Int.reduceBNe, reduceCtorEq, Nat.reduceEqDiff, Nat.reduceAdd, Nat.reduceLT, Nat.reduceMul, Nat.reduceSub, Nat.reduceDiv, Nat.reduceLeDiff]; first | (with_reducible refine hG (decide _) (fun hb => ?_) (fun hb => ?_)) | (with_reducible refine hG (B _) (fun hb => ?_) (fun hb => ?_)) | (with_reducible refine hG (!decide _) (fun hb => ?_) (fun hb => ?_)) | (with_reducible refine hG (!B _) (fun hb => ?_) (fun hb => ?_))) <;> clear hG G <;> rw [hb] <;> simp only [decide_eq_true_eq, decide_eq_false_iff_not, bne_iff_ne, ne_eq, beq_iff_eq, bne_eq_false_iff_eq, Bool.not_eq_true', Bool.not_eq_false', not_true_eq_false, not_false_eq_true, Bool.true_eq_false, Bool.false_eq_true, beq_eq_false_iff_ne, Int.not_lt, Int.not_le, gt_iff_lt, ge_iff_le, B, and_true, true_and, and_false, false_and, or_true, true_or, or_false, false_or, decide_true, decide_false] at hb
      | ((with_reducible refine go_if fun G hG => ?_); simp only [go_sem, hd, hself, hself2, hm1, hm2, hm3, Int.reduceToNat, ↓reduceIte, Int.reduceEq, Int.reduceLT, Int.reduceLE, Int.reduceNeg, Int.reduceBEq, Int.reduceBNe, reduceCtorEq, Nat.reduceEqDiff, Nat.reduceAdd, Nat.reduceLT, Nat.reduceMul, Nat.reduceSub, Nat.reduceDiv, Nat.reduceLeDiff]; refine hG _ (fun hb => ?_) (fun hb => ?_) <;> clear hG G <;> (try rw [hb]) <;> (try simp only [decide_eq_true_eq, decide_eq_false_iff_not, bne_iff_ne, ne_eq, beq_iff_eq, bne_eq_false_iff_eq, Bool.not_eq_true', Bool.not_eq_false', not_true_eq_false, not_false_eq_true, Bool.true_eq_false, Bool.false_eq_true, beq_eq_false_iff_ne, Int.not_lt, Int.not_le, gt_iff_lt, ge_iff_le, B, and_true, true_and, and_false, false_and, or_true, true_or, or_false, false_or, decide_true, decide_false] at hb) <;> try (exfalso; omega))
      | ((with_reducible refine go_retR fun F hF => ?_); simp only [go_sem, Try.f5, hd, hself, hself2, hm1, hm2, hm3, eq_self, Int.reduceToNat, ↓reduceIte, Int.reduceEq, Int.reduceLT, Int.reduceLE, Int.reduceNeg, Int.reduceBEq, Int.reduceBNe, reduceCtorEq, Nat.reduceEqDiff, Nat.reduceAdd, Nat.reduceLT, Nat.reduceMul, Nat.reduceSub, Nat.reduceDiv, Nat.reduceLeDiff]; refine hF _ _ ?_; clear hF F)
      | ((with_reducible refine go_retN fun F hF => ?_); simp only [go_sem, Try.f5, hd, hself, hself2, hm1, hm2, hm3, eq_self, Int.reduceToNat, ↓reduceIte, Int.reduceEq, Int.reduceLT, Int.reduceLE, Int.reduceNeg, Int.reduceBEq, Int.reduceBNe, reduceCtorEq, Nat.reduceEqDiff, Nat.reduceAdd, Nat.reduceLT, Nat.reduceMul, Nat.reduceSub, Nat.reduceDiv, Nat.reduceLeDiff]; refine hF _ _ ?_; clear hF F)
    all_goals rfl
  · have hd : decide (szIns p.l 1048576 < 0) = true := decide_eq_true (by omega)
    repeat' first
      | (exact Bool.noConfusion hb) | (exact False.elim hb)
      | (with_reducible refine go_cons ?_) | (with_reducible refine go_nil ?_) | (with_reducible refine q_nil ?_) | (with_reducible refine go_then ?_) | (with_reducible refine go_thenE ?_) | (with_reducible refine go_thenR ?_) | (with_reducible refine go_blkN ?_) | (with_reducible refine go_blkR ?_) | (with_reducible refine go_blkE ?_) | (with_reducible refine go_blkO (by decide) ?_) | (with_reducible refine VW_seq ?_) | (with_reducible refine VW_skip ?_) | (with_reducible refine VW_exit ?_) | (with_reducible refine VW_block ?_) | (with_reducible refine VW_ret ?_) | (with_reducible refine go_region ?_) | (with_reducible refine any_nil)
      | ((with_reducible refine op_call (f := 20) [false, false] hC hP hn' fn20 fun F hF => ?_); simp only [go_sem, hb, hd, eq_self, Int.reduceToNat, ↓reduceIte, Int.reduceEq, Int.reduceLT, Int.reduceLE, Int.reduceNeg, Int.reduceBEq, Int.reduceBNe, reduceCtorEq, Nat.reduceEqDiff, Nat.reduceAdd, Nat.reduceLT, Nat.reduceMul, Nat.reduceSub, Nat.reduceDiv, Nat.reduceLeDiff]; refine hF _ _ ⟨_, g20 p _ hl hL (by omega) (by omega), fun outs t hR => ?_⟩; subst hR; refine ⟨rfl, ?_⟩; clear hF F)
      | ((with_reducible refine op_op hC hP hn' fun K hK => ?_); simp only [go_sem, hb, hd, eq_self, Int.reduceToNat, ↓reduceIte, Int.reduceEq, Int.reduceLT, Int.reduceLE, Int.reduceNeg, Int.reduceBEq, Int.reduceBNe, reduceCtorEq, Nat.reduceEqDiff, Nat.reduceAdd, Nat.reduceLT, Nat.reduceMul, Nat.reduceSub, Nat.reduceDiv, Nat.reduceLeDiff]; refine hK _ ?_; clear hK K)
      | ((with_reducible refine q_op hC hP hn' fun K hK => ?_); simp only [go_sem, hb, hd, eq_self, Int.reduceToNat, ↓reduceIte, Int.reduceEq, Int.reduceLT, Int.reduceLE, Int.reduceNeg, Int.reduceBEq, Int.reduceBNe, reduceCtorEq, Nat.reduceEqDiff, Nat.reduceAdd, Nat.reduceLT, Nat.reduceMul, Nat.reduceSub, Nat.reduceDiv, Nat.reduceLeDiff]; refine hK _ ?_; clear hK K)
      | ((first | (with_reducible refine op_guard fun G hG => ?_) | (with_reducible refine q_guard fun G hG => ?_)); simp only [go_sem, hd, eq_self, Int.reduceToNat, ↓reduceIte, Int.reduceEq, Int.reduceLT, Int.reduceLE, Int.reduceNeg, Int.reduceBEq, Int.reduceBNe, reduceCtorEq, Nat.reduceEqDiff, Nat.reduceAdd, Nat.reduceLT, Nat.reduceMul, Nat.reduceSub, Nat.reduceDiv, Nat.reduceLeDiff]; first | (with_reducible refine hG (decide _) (fun hb => ?_) (fun hb => ?_)) | (with_reducible refine hG (B _) (fun hb => ?_) (fun hb => ?_)) | (with_reducible refine hG (!decide _) (fun hb => ?_) (fun hb => ?_)) | (with_reducible refine hG (!B _) (fun hb => ?_) (fun hb => ?_))) <;> clear hG G <;> rw [hb] <;> simp only [decide_eq_true_eq, decide_eq_false_iff_not, bne_iff_ne, ne_eq, beq_iff_eq, bne_eq_false_iff_eq, Bool.not_eq_true', Bool.not_eq_false', not_true_eq_false, not_false_eq_true, Bool.true_eq_false, Bool.false_eq_true, beq_eq_false_iff_ne, Int.not_lt, Int.not_le, gt_iff_lt, ge_iff_le, B, and_true, true_and, and_false, false_and, or_true, true_or, or_false, false_or, decide_true, decide_false] at hb
      | ((with_reducible refine go_if fun G hG => ?_); simp only [go_sem, hd, Int.reduceToNat, ↓reduceIte, Int.reduceEq, Int.reduceLT, Int.reduceLE, Int.reduceNeg, Int.reduceBEq, Int.reduceBNe, reduceCtorEq, Nat.reduceEqDiff, Nat.reduceAdd, Nat.reduceLT, Nat.reduceMul, Nat.reduceSub, Nat.reduceDiv, Nat.reduceLeDiff]; refine hG _ (fun hb => ?_) (fun hb => ?_) <;> clear hG G <;> (try rw [hb]) <;> (try simp only [decide_eq_true_eq, decide_eq_false_iff_not, bne_iff_ne, ne_eq, beq_iff_eq, bne_eq_false_iff_eq, Bool.not_eq_true', Bool.not_eq_false', not_true_eq_false, not_false_eq_true, Bool.true_eq_false, Bool.false_eq_true, beq_eq_false_iff_ne, Int.not_lt, Int.not_le, gt_iff_lt, ge_iff_le, B, and_true, true_and, and_false, false_and, or_true, true_or, or_false, false_or, decide_true, decide_false] at hb) <;> try (exfalso; omega))
      | ((with_reducible refine go_retR fun F hF => ?_); simp only [go_sem, Try.f5, hd, eq_self, Int.reduceToNat, ↓reduceIte, Int.reduceEq, Int.reduceLT, Int.reduceLE, Int.reduceNeg, Int.reduceBEq, Int.reduceBNe, reduceCtorEq, Nat.reduceEqDiff, Nat.reduceAdd, Nat.reduceLT, Nat.reduceMul, Nat.reduceSub, Nat.reduceDiv, Nat.reduceLeDiff]; refine hF _ _ ?_; clear hF F)
      | ((with_reducible refine go_retN fun F hF => ?_); simp only [go_sem, Try.f5, hd, eq_self, Int.reduceToNat, ↓reduceIte, Int.reduceEq, Int.reduceLT, Int.reduceLE, Int.reduceNeg, Int.reduceBEq, Int.reduceBNe, reduceCtorEq, Nat.reduceEqDiff, Nat.reduceAdd, Nat.reduceLT, Nat.reduceMul, Nat.reduceSub, Nat.reduceDiv, Nat.reduceLeDiff]; refine hF _ _ ?_; clear hF F)
    rfl
end Go.Proofs.Ytnbahnpckfelpaa.VL
