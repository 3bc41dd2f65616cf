import Derived.Test.YtnbahnpckfelpaaVLcp
import Derived.Test.YtnbahnpckfelpaaVLpd
import Derived.Test.YtnbahnpckfelpaaVLcm
/-! The law BlockNexts, walked. -/
namespace Go.Proofs.Ytnbahnpckfelpaa.VL
open Go.RowKit
set_option maxRecDepth 4000
set_option linter.unusedSimpArgs false

theorem inS_len (L : List Int) (k : Nat) (i : Int) : ∀ (r o : List Int), (inS L k i r o).length ≤ o.length + r.length
  | [], o => Nat.le_refl _
  | y :: r, o => by
    have h := inS_len L k i r (if y ≠ ((k + 1 : Nat) : Int) ∨ lastLe L y L.length ≠ i then addL o (lastLe L y L.length) else o)
    have h2 := addL_len o (lastLe L y L.length)
    have h3 : (if y ≠ ((k + 1 : Nat) : Int) ∨ lastLe L y L.length ≠ i then addL o (lastLe L y L.length) else o).length ≤ o.length + 1 := by split <;> omega
    simp only [inS, List.length_cons]; omega
theorem ouS_len (p : Pc) (L : List Int) (i : Int) : ∀ (l : List Ins) (k : Nat) (o : List Int), (ouS p L i k l o).length ≤ o.length + 3 * l.length
  | [], k, o => Nat.le_refl _
  | x :: l, k, o => by
    have h := ouS_len p L i l (k + 1) (if lastLe L k L.length ≠ i then o else inS L k i (nxS p k x) o)
    have h2 := inS_len L k i (nxS p k x) o
    have h4 := nxS_len p k x
    have h3 : (if lastLe L k L.length ≠ i then o else inS L k i (nxS p k x) o).length ≤ o.length + 3 := by split <;> omega
    simp only [ouS, List.length_cons]; omega
theorem bnS_len (p : Pc) (i : Int) : (bnS p i).length ≤ 1048576 := by
  unfold bnS; split
  · have := (leadL_len2 ‹_›).2
    have h2 := ouS_len p (leadL p.l) i p.l 0 []
    simp at h2; omega
  · simp
set_option maxHeartbeats 8000000 in
theorem g7 (p : Pc) (i : Int) (hl : p.l.length ≤ 9223372036854775807) (hL : ∀ i ∈ p.l, i.xs.length ≤ 9223372036854775807) : Gives Try.prog 7 [.ag (pcC .vw p), .int i] (fun _ t => t = .bool true) := by
  refine Gives.of_VW Try.func7 rfl (by rw [Try.ntmps7]; simp only [List.length_cons, List.length_nil]; decide) fun C hP hn hC => ?_
  have hn' := hn.trans Try.ntmps7
  have hb : True := trivial
  by_cases hs : 0 ≤ szIns p.l 1048576
  · have hp := pcok_of hs
    have hd : decide (szIns p.l 1048576 < 0) = false := decide_eq_false (by omega)
    have hself : decide (p = p) = true := decide_eq_true rfl
    have hT := szIns_tot (by omega) hs
    have h37 := g37 p hp i
    rw [bn_eq] at h37
    have h36 := g36 p hp i
    have hV := bnS_len p i
    generalize bnS p i = V at h36 h37 hV
    have hself2 : decide (V = V) = true := decide_eq_true rfl
    have hm1 : decide ((1 : Int) + ((tot p.l : Nat) : Int) < 0) = false := decide_eq_false (by omega)
    have hm2 : decide ((1 : Int) + (V.length : Int) < 0) = false := decide_eq_false (by omega)
    have hm3 : decide ((1 : Int) + (V.length : Int) = 1 + (V.length : Int)) = true := decide_eq_true rfl
    repeat' first
      | (exact Bool.noConfusion hb) | (exact False.elim hb)
      | (with_reducible refine go_cons ?_) | (with_reducible refine go_nil ?_) | (with_reducible refine q_nil ?_) | (with_reducible refine go_then ?_) | (with_reducible refine go_thenE ?_) | (with_reducible refine go_thenR ?_) | (with_reducible refine go_blkN ?_) | (with_reducible refine go_blkR ?_) | (with_reducible refine go_blkE ?_) | (with_reducible refine go_blkO (by decide) ?_) | (with_reducible refine VW_seq ?_) | (with_reducible refine VW_skip ?_) | (with_reducible refine VW_exit ?_) | (with_reducible refine VW_block ?_) | (with_reducible refine VW_ret ?_) | (with_reducible refine go_region ?_) | (with_reducible refine any_nil)
      | (refine go_any hC (by rw [hP]; kernel_rfl) _ _ (by rfl) (by rfl) ?_)
      | (refine any_done (by decide +kernel) ?_)
      | (refine any_go 0 [1] (by decide +kernel) ?_)
      | (refine any_go 1 [] (by decide +kernel) ?_)
      | (refine any_go 2 [] (by decide +kernel) ?_)
      | (refine any_go 3 [] (by decide +kernel) ?_)
      | (refine any_go 4 [] (by decide +kernel) ?_)
      | (refine any_go 0 [2] (by decide +kernel) ?_)
      | (refine any_go 0 [] (by decide +kernel) ?_)
      | (refine any_one (fun F hF => ?_) ?_)
      | (simp only [List.getElem?_toArray, List.getElem?_cons_zero, List.getElem?_cons_succ]; refine hF _ ?_; clear hF F)
      | ((with_reducible refine op_call (f := 20) [false, false] hC hP hn' fn20 fun F hF => ?_); simp only [go_sem, hb, hd, hself, hself2, hm1, hm2, hm3, eq_self, Int.reduceToNat, ↓reduceIte, Int.reduceEq, Int.reduceLT, Int.reduceLE, Int.reduceNeg, Int.reduceBEq, Int.reduceBNe, reduceCtorEq, Nat.reduceEqDiff, Nat.reduceAdd, Nat.reduceLT, Nat.reduceMul, Nat.reduceSub, Nat.reduceDiv, Nat.reduceLeDiff]; refine hF _ _ ⟨_, g20 p _ hl hL (by omega) (by omega), fun outs t hR => ?_⟩; subst hR; refine ⟨rfl, ?_⟩; clear hF F)
      | ((with_reducible refine op_call (f := 22) [false] hC hP hn' fn22 fun F hF => ?_); simp only [go_sem, hb, hd, hself, hself2, hm1, hm2, hm3, eq_self, Int.reduceToNat, ↓reduceIte, Int.reduceEq, Int.reduceLT, Int.reduceLE, Int.reduceNeg, Int.reduceBEq, Int.reduceBNe, reduceCtorEq, Nat.reduceEqDiff, Nat.reduceAdd, Nat.reduceLT, Nat.reduceMul, Nat.reduceSub, Nat.reduceDiv, Nat.reduceLeDiff]; refine hF _ _ ⟨_, g22 p hp.len hp.lens, fun outs t hR => ?_⟩; subst hR; refine ⟨nvPc _, ?_⟩; clear hF F)
      | ((with_reducible refine op_call (f := 36) [false, false] hC hP hn' fn36 fun F hF => ?_); simp only [go_sem, hb, hd, hself, hself2, hm1, hm2, hm3, eq_self, Int.reduceToNat, ↓reduceIte, Int.reduceEq, Int.reduceLT, Int.reduceLE, Int.reduceNeg, Int.reduceBEq, Int.reduceBNe, reduceCtorEq, Nat.reduceEqDiff, Nat.reduceAdd, Nat.reduceLT, Nat.reduceMul, Nat.reduceSub, Nat.reduceDiv, Nat.reduceLeDiff]; refine hF _ _ ⟨_, h36, fun outs t hR => ?_⟩; subst hR; refine ⟨nvi _, ?_⟩; clear hF F)
      | ((with_reducible refine op_call (f := 37) [false, false] hC hP hn' fn37 fun F hF => ?_); simp only [go_sem, hb, hd, hself, hself2, hm1, hm2, hm3, eq_self, Int.reduceToNat, ↓reduceIte, Int.reduceEq, Int.reduceLT, Int.reduceLE, Int.reduceNeg, Int.reduceBEq, Int.reduceBNe, reduceCtorEq, Nat.reduceEqDiff, Nat.reduceAdd, Nat.reduceLT, Nat.reduceMul, Nat.reduceSub, Nat.reduceDiv, Nat.reduceLeDiff]; refine hF _ _ ⟨_, h37, fun outs t hR => ?_⟩; subst hR; refine ⟨nvi _, ?_⟩; clear hF F)
      | ((with_reducible refine op_call (f := 24) [false, false] hC hP hn' fn24 fun F hF => ?_); simp only [go_sem, hb, hd, hself, hself2, hm1, hm2, hm3, eq_self, Int.reduceToNat, ↓reduceIte, Int.reduceEq, Int.reduceLT, Int.reduceLE, Int.reduceNeg, Int.reduceBEq, Int.reduceBNe, reduceCtorEq, Nat.reduceEqDiff, Nat.reduceAdd, Nat.reduceLT, Nat.reduceMul, Nat.reduceSub, Nat.reduceDiv, Nat.reduceLeDiff]; refine hF _ _ ⟨_, g24 p p hp.len hp.lens, fun outs t hR => ?_⟩; subst hR; refine ⟨rfl, ?_⟩; clear hF F)
      | ((with_reducible refine op_call (f := 27) [false, false] hC hP hn' fn27 fun F hF => ?_); simp only [go_sem, hb, hd, hself, hself2, hm1, hm2, hm3, eq_self, Int.reduceToNat, ↓reduceIte, Int.reduceEq, Int.reduceLT, Int.reduceLE, Int.reduceNeg, Int.reduceBEq, Int.reduceBNe, reduceCtorEq, Nat.reduceEqDiff, Nat.reduceAdd, Nat.reduceLT, Nat.reduceMul, Nat.reduceSub, Nat.reduceDiv, Nat.reduceLeDiff]; refine hF _ _ ⟨_, g27 V V hV, fun outs t hR => ?_⟩; subst hR; refine ⟨rfl, ?_⟩; clear hF F)
      | ((with_reducible refine op_call (f := 28) [true, false] hC hP hn' fn28 fun F hF => ?_); simp only [go_sem, hb, hd, hself, hself2, hm1, hm2, hm3, eq_self, Int.reduceToNat, ↓reduceIte, Int.reduceEq, Int.reduceLT, Int.reduceLE, Int.reduceNeg, Int.reduceBEq, Int.reduceBNe, reduceCtorEq, Nat.reduceEqDiff, Nat.reduceAdd, Nat.reduceLT, Nat.reduceMul, Nat.reduceSub, Nat.reduceDiv, Nat.reduceLeDiff]; refine hF _ _ ⟨_, g28 p 1 hp.len hp.lens (by omega) (by omega) hT, fun outs t hR => ?_⟩; subst hR; refine ⟨rfl, ?_⟩; clear hF F)
      | ((with_reducible refine op_lend (f := 29) [false, false] 0 hC hP hn' fn29 fun F hF => ?_); simp only [go_sem, hb, hd, hself, hself2, hm1, hm2, hm3, eq_self, Int.reduceToNat, ↓reduceIte, Int.reduceEq, Int.reduceLT, Int.reduceLE, Int.reduceNeg, Int.reduceBEq, Int.reduceBNe, reduceCtorEq, Nat.reduceEqDiff, Nat.reduceAdd, Nat.reduceLT, Nat.reduceMul, Nat.reduceSub, Nat.reduceDiv, Nat.reduceLeDiff]; refine hF _ _ _ _ _ ⟨_, g29 V 1 hV (by omega) (by omega), fun outs t hR => ?_⟩; obtain ⟨rfl, ho⟩ := hR; refine ⟨rfl, _, ho, nvi _, mark_head _ _, ?_⟩; clear hF F)
      | ((with_reducible refine op_call (f := 30) [false, false] hC hP hn' fn30 fun F hF => ?_); simp only [go_sem, hb, hd, hself, hself2, hm1, hm2, hm3, eq_self, Int.reduceToNat, ↓reduceIte, Int.reduceEq, Int.reduceLT, Int.reduceLE, Int.reduceNeg, Int.reduceBEq, Int.reduceBNe, reduceCtorEq, Nat.reduceEqDiff, Nat.reduceAdd, Nat.reduceLT, Nat.reduceMul, Nat.reduceSub, Nat.reduceDiv, Nat.reduceLeDiff]; refine hF _ _ ⟨_, g30 1 V.length hV (by omega) (by omega), fun outs t hR => ?_⟩; subst hR; refine ⟨rfl, ?_⟩; clear hF F)
      | ((with_reducible refine op_op hC hP hn' fun K hK => ?_); simp only [go_sem, hb, hd, hself, hself2, hm1, hm2, hm3, eq_self, Int.reduceToNat, ↓reduceIte, Int.reduceEq, Int.reduceLT, Int.reduceLE, Int.reduceNeg, Int.reduceBEq, Int.reduceBNe, reduceCtorEq, Nat.reduceEqDiff, Nat.reduceAdd, Nat.reduceLT, Nat.reduceMul, Nat.reduceSub, Nat.reduceDiv, Nat.reduceLeDiff]; refine hK _ ?_; clear hK K)
      | ((with_reducible refine q_op hC hP hn' fun K hK => ?_); simp only [go_sem, hb, hd, hself, hself2, hm1, hm2, hm3, eq_self, Int.reduceToNat, ↓reduceIte, Int.reduceEq, Int.reduceLT, Int.reduceLE, Int.reduceNeg, Int.reduceBEq, Int.reduceBNe, reduceCtorEq, Nat.reduceEqDiff, Nat.reduceAdd, Nat.reduceLT, Nat.reduceMul, Nat.reduceSub, Nat.reduceDiv, Nat.reduceLeDiff]; refine hK _ ?_; clear hK K)
      | ((first | (with_reducible refine op_guard fun G hG => ?_) | (with_reducible refine q_guard fun G hG => ?_)); simp only [go_sem, hd, hself, hself2, hm1, hm2, hm3, eq_self, Int.reduceToNat, ↓reduceIte, Int.reduceEq, Int.reduceLT, Int.reduceLE, Int.reduceNeg, Int.reduceBEq, Int.reduceBNe, reduceCtorEq, Nat.reduceEqDiff, Nat.reduceAdd, Nat.reduceLT, Nat.reduceMul, Nat.reduceSub, Nat.reduceDiv, Nat.reduceLeDiff]; first | (with_reducible refine hG (decide _) (fun hb => ?_) (fun hb => ?_)) | (with_reducible refine hG (B _) (fun hb => ?_) (fun hb => ?_)) | (with_reducible refine hG (!decide _) (fun hb => ?_) (fun hb => ?_)) | (with_reducible refine hG (!B _) (fun hb => ?_) (fun hb => ?_))) <;> clear hG G <;> rw [hb] <;> simp only [decide_eq_true_eq, decide_eq_false_iff_not, bne_iff_ne, ne_eq, beq_iff_eq, bne_eq_false_iff_eq, Bool.not_eq_true', Bool.not_eq_false', not_true_eq_false, not_false_eq_true, Bool.true_eq_false, Bool.false_eq_true, beq_eq_false_iff_ne, Int.not_lt, Int.not_le, gt_iff_lt, ge_iff_le, B, and_true, true_and, and_false, false_and, or_true, true_or, or_false, false_or, decide_true, decide_false] at hb
      | ((with_reducible refine go_if fun G hG => ?_); simp only [go_sem, hd, hself, hself2, hm1, hm2, hm3, Int.reduceToNat, ↓reduceIte, Int.reduceEq, Int.reduceLT, Int.reduceLE, Int.reduceNeg, Int.reduceBEq, Int.reduceBNe, reduceCtorEq, Nat.reduceEqDiff, Nat.reduceAdd, Nat.reduceLT, Nat.reduceMul, Nat.reduceSub, Nat.reduceDiv, Nat.reduceLeDiff]; refine hG _ (fun hb => ?_) (fun hb => ?_) <;> clear hG G <;> (try rw [hb]) <;> (try simp only [decide_eq_true_eq, decide_eq_false_iff_not, bne_iff_ne, ne_eq, beq_iff_eq, bne_eq_false_iff_eq, Bool.not_eq_true', Bool.not_eq_false', not_true_eq_false, not_false_eq_true, Bool.true_eq_false, Bool.false_eq_true, beq_eq_false_iff_ne, Int.not_lt, Int.not_le, gt_iff_lt, ge_iff_le, B, and_true, true_and, and_false, false_and, or_true, true_or, or_false, false_or, decide_true, decide_false] at hb) <;> try (exfalso; omega))
      | ((with_reducible refine go_retR fun F hF => ?_); simp only [go_sem, Try.f7, hd, hself, hself2, hm1, hm2, hm3, eq_self, Int.reduceToNat, ↓reduceIte, Int.reduceEq, Int.reduceLT, Int.reduceLE, Int.reduceNeg, Int.reduceBEq, Int.reduceBNe, reduceCtorEq, Nat.reduceEqDiff, Nat.reduceAdd, Nat.reduceLT, Nat.reduceMul, Nat.reduceSub, Nat.reduceDiv, Nat.reduceLeDiff]; refine hF _ _ ?_; clear hF F)
      | ((with_reducible refine go_retN fun F hF => ?_); simp only [go_sem, Try.f7, hd, hself, hself2, hm1, hm2, hm3, eq_self, Int.reduceToNat, ↓reduceIte, Int.reduceEq, Int.reduceLT, Int.reduceLE, Int.reduceNeg, Int.reduceBEq, Int.reduceBNe, reduceCtorEq, Nat.reduceEqDiff, Nat.reduceAdd, Nat.reduceLT, Nat.reduceMul, Nat.reduceSub, Nat.reduceDiv, Nat.reduceLeDiff]; refine hF _ _ ?_; clear hF F)
    all_goals rfl
  · have hd : decide (szIns p.l 1048576 < 0) = true := decide_eq_true (by omega)
    repeat' first
      | (exact Bool.noConfusion hb) | (exact False.elim hb)
      | (with_reducible refine go_cons ?_) | (with_reducible refine go_nil ?_) | (with_reducible refine q_nil ?_) | (with_reducible refine go_then ?_) | (with_reducible refine go_thenE ?_) | (with_reducible refine go_thenR ?_) | (with_reducible refine go_blkN ?_) | (with_reducible refine go_blkR ?_) | (with_reducible refine go_blkE ?_) | (with_reducible refine go_blkO (by decide) ?_) | (with_reducible refine VW_seq ?_) | (with_reducible refine VW_skip ?_) | (with_reducible refine VW_exit ?_) | (with_reducible refine VW_block ?_) | (with_reducible refine VW_ret ?_) | (with_reducible refine go_region ?_) | (with_reducible refine any_nil)
      | ((with_reducible refine op_call (f := 20) [false, false] hC hP hn' fn20 fun F hF => ?_); simp only [go_sem, hb, hd, eq_self, Int.reduceToNat, ↓reduceIte, Int.reduceEq, Int.reduceLT, Int.reduceLE, Int.reduceNeg, Int.reduceBEq, Int.reduceBNe, reduceCtorEq, Nat.reduceEqDiff, Nat.reduceAdd, Nat.reduceLT, Nat.reduceMul, Nat.reduceSub, Nat.reduceDiv, Nat.reduceLeDiff]; refine hF _ _ ⟨_, g20 p _ hl hL (by omega) (by omega), fun outs t hR => ?_⟩; subst hR; refine ⟨rfl, ?_⟩; clear hF F)
      | ((with_reducible refine op_op hC hP hn' fun K hK => ?_); simp only [go_sem, hb, hd, eq_self, Int.reduceToNat, ↓reduceIte, Int.reduceEq, Int.reduceLT, Int.reduceLE, Int.reduceNeg, Int.reduceBEq, Int.reduceBNe, reduceCtorEq, Nat.reduceEqDiff, Nat.reduceAdd, Nat.reduceLT, Nat.reduceMul, Nat.reduceSub, Nat.reduceDiv, Nat.reduceLeDiff]; refine hK _ ?_; clear hK K)
      | ((with_reducible refine q_op hC hP hn' fun K hK => ?_); simp only [go_sem, hb, hd, eq_self, Int.reduceToNat, ↓reduceIte, Int.reduceEq, Int.reduceLT, Int.reduceLE, Int.reduceNeg, Int.reduceBEq, Int.reduceBNe, reduceCtorEq, Nat.reduceEqDiff, Nat.reduceAdd, Nat.reduceLT, Nat.reduceMul, Nat.reduceSub, Nat.reduceDiv, Nat.reduceLeDiff]; refine hK _ ?_; clear hK K)
      | ((first | (with_reducible refine op_guard fun G hG => ?_) | (with_reducible refine q_guard fun G hG => ?_)); simp only [go_sem, hd, eq_self, Int.reduceToNat, ↓reduceIte, Int.reduceEq, Int.reduceLT, Int.reduceLE, Int.reduceNeg, Int.reduceBEq, Int.reduceBNe, reduceCtorEq, Nat.reduceEqDiff, Nat.reduceAdd, Nat.reduceLT, Nat.reduceMul, Nat.reduceSub, Nat.reduceDiv, Nat.reduceLeDiff]; first | (with_reducible refine hG (decide _) (fun hb => ?_) (fun hb => ?_)) | (with_reducible refine hG (B _) (fun hb => ?_) (fun hb => ?_)) | (with_reducible refine hG (!decide _) (fun hb => ?_) (fun hb => ?_)) | (with_reducible refine hG (!B _) (fun hb => ?_) (fun hb => ?_))) <;> clear hG G <;> rw [hb] <;> simp only [decide_eq_true_eq, decide_eq_false_iff_not, bne_iff_ne, ne_eq, beq_iff_eq, bne_eq_false_iff_eq, Bool.not_eq_true', Bool.not_eq_false', not_true_eq_false, not_false_eq_true, Bool.true_eq_false, Bool.false_eq_true, beq_eq_false_iff_ne, Int.not_lt, Int.not_le, gt_iff_lt, ge_iff_le, B, and_true, true_and, and_false, false_and, or_true, true_or, or_false, false_or, decide_true, decide_false] at hb
      | ((with_reducible refine go_if fun G hG => ?_); simp only [go_sem, hd, Int.reduceToNat, ↓reduceIte, Int.reduceEq, Int.reduceLT, Int.reduceLE, Int.reduceNeg, Int.reduceBEq, Int.reduceBNe, reduceCtorEq, Nat.reduceEqDiff, Nat.reduceAdd, Nat.reduceLT, Nat.reduceMul, Nat.reduceSub, Nat.reduceDiv, Nat.reduceLeDiff]; refine hG _ (fun hb => ?_) (fun hb => ?_) <;> clear hG G <;> (try rw [hb]) <;> (try simp only [decide_eq_true_eq, decide_eq_false_iff_not, bne_iff_ne, ne_eq, beq_iff_eq, bne_eq_false_iff_eq, Bool.not_eq_true', Bool.not_eq_false', not_true_eq_false, not_false_eq_true, Bool.true_eq_false, Bool.false_eq_true, beq_eq_false_iff_ne, Int.not_lt, Int.not_le, gt_iff_lt, ge_iff_le, B, and_true, true_and, and_false, false_and, or_true, true_or, or_false, false_or, decide_true, decide_false] at hb) <;> try (exfalso; omega))
      | ((with_reducible refine go_retR fun F hF => ?_); simp only [go_sem, Try.f7, hd, eq_self, Int.reduceToNat, ↓reduceIte, Int.reduceEq, Int.reduceLT, Int.reduceLE, Int.reduceNeg, Int.reduceBEq, Int.reduceBNe, reduceCtorEq, Nat.reduceEqDiff, Nat.reduceAdd, Nat.reduceLT, Nat.reduceMul, Nat.reduceSub, Nat.reduceDiv, Nat.reduceLeDiff]; refine hF _ _ ?_; clear hF F)
      | ((with_reducible refine go_retN fun F hF => ?_); simp only [go_sem, Try.f7, hd, eq_self, Int.reduceToNat, ↓reduceIte, Int.reduceEq, Int.reduceLT, Int.reduceLE, Int.reduceNeg, Int.reduceBEq, Int.reduceBNe, reduceCtorEq, Nat.reduceEqDiff, Nat.reduceAdd, Nat.reduceLT, Nat.reduceMul, Nat.reduceSub, Nat.reduceDiv, Nat.reduceLeDiff]; refine hF _ _ ?_; clear hF F)
    rfl
end Go.Proofs.Ytnbahnpckfelpaa.VL
