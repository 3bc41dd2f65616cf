import Derived.Test.YtnbahnpckfelpaaVLcb
/-! Walks: the forms of instructions. -/
namespace Go.Proofs.Ytnbahnpckfelpaa.VL
open Go.RowKit
set_option maxRecDepth 4000
set_option linter.unusedSimpArgs false

/-- What an instruction has, by its letters. -/
def formL (op : Int) : List UInt8 :=
  if op = 1 then [68, 78] else if op = 2 then [68, 78] else if op = 3 then [68] else if op = 4 then [68, 88] else if op = 9 then [68, 88] else if op = 10 then [68, 88] else if op = 5 then [68, 88, 89, 78] else if op = 6 then [68, 88, 89] else if op = 7 then [68, 88, 89] else
  if op = 8 then [68, 78, 76] else if op = 11 then [88, 84] else if op = 12 then [88, 84] else if op = 13 then [84] else if op = 14 then [68, 88, 89, 76] else if op = 15 then [88] else if op = 16 then [88] else if op = 17 then [68, 84] else []
def formOk (op : Int) : Bool := decide (1 ≤ op ∧ op ≤ 18)
def formT (op : Int) : T := .tu [.str ⟨(formL op).toArray⟩, .bool (B (formOk op))]
theorem form_eq (op : Int) (a : List UInt8) (b : Bool) (h1 : formL op = a) (h2 : formOk op = b) : packT [.sc (.string ⟨a.toArray⟩), .sc (.bool b)] = formT op := by subst h1 h2; rfl
theorem g111 (op : Int) : Gives Try.prog 111 [.int op] (fun _ t => t = formT op) := by
  refine Gives.of_VW Try.func111 rfl (by rw [Try.ntmps111]; simp only [List.length_cons, List.length_nil]; decide) fun C hP hn hC => ?_
  have hn' := hn.trans Try.ntmps111
  have hb : True := trivial
  repeat' first
    | (exact Bool.noConfusion hb) | (exact False.elim hb)
    | (with_reducible refine go_cons ?_) | (with_reducible refine go_nil ?_) | (with_reducible refine q_nil ?_) | (with_reducible refine go_then ?_) | (with_reducible refine go_thenE ?_) | (with_reducible refine go_thenR ?_) | (with_reducible refine go_blkN ?_) | (with_reducible refine go_blkR ?_) | (with_reducible refine go_blkE ?_) | (with_reducible refine go_blkO (by decide) ?_) | (with_reducible refine VW_seq ?_) | (with_reducible refine VW_skip ?_) | (with_reducible refine VW_exit ?_) | (with_reducible refine VW_block ?_) | (with_reducible refine VW_ret ?_) | (with_reducible refine go_region ?_) | (with_reducible refine any_nil)
    | (with_reducible refine go_quiet hC (by rw [hP]; kernel_rfl) (by kernel_rfl) ?_)
    | ((with_reducible refine op_op hC hP hn' fun K hK => ?_); simp only [go_sem, hb, Int.reduceToNat, ↓reduceIte, Int.reduceEq, Int.reduceLT, Int.reduceLE, Int.reduceNeg, Int.reduceBEq, Int.reduceBNe, reduceCtorEq, Nat.reduceEqDiff, Nat.reduceAdd, Nat.reduceLT, Nat.reduceMul, Nat.reduceSub, Nat.reduceDiv, Nat.reduceLeDiff]; refine hK _ ?_; clear hK K)
    | ((with_reducible refine q_op hC hP hn' fun K hK => ?_); simp only [go_sem, hb, Int.reduceToNat, ↓reduceIte, Int.reduceEq, Int.reduceLT, Int.reduceLE, Int.reduceNeg, Int.reduceBEq, Int.reduceBNe, reduceCtorEq, Nat.reduceEqDiff, Nat.reduceAdd, Nat.reduceLT, Nat.reduceMul, Nat.reduceSub, Nat.reduceDiv, Nat.reduceLeDiff]; refine hK _ ?_; clear hK K)
    | ((first | (with_reducible refine op_guard fun G hG => ?_) | (with_reducible refine q_guard fun G hG => ?_)); simp only [go_sem, Int.reduceToNat, ↓reduceIte, Int.reduceEq, Int.reduceLT, Int.reduceLE, Int.reduceNeg, Int.reduceBEq, Int.reduceBNe, reduceCtorEq, Nat.reduceEqDiff, Nat.reduceAdd, Nat.reduceLT, Nat.reduceMul, Nat.reduceSub, Nat.reduceDiv, Nat.reduceLeDiff]; first | (with_reducible refine hG (decide _) (fun hb => ?_) (fun hb => ?_)) | (with_reducible refine hG (B _) (fun hb => ?_) (fun hb => ?_)) | (with_reducible refine hG (!decide _) (fun hb => ?_) (fun hb => ?_)) | (with_reducible refine hG (!B _) (fun hb => ?_) (fun hb => ?_))) <;> clear hG G <;> rw [hb] <;> simp only [decide_eq_true_eq, decide_eq_false_iff_not, bne_iff_ne, ne_eq, beq_iff_eq, bne_eq_false_iff_eq, Bool.not_eq_true', Bool.not_eq_false', not_true_eq_false, not_false_eq_true, Bool.true_eq_false, Bool.false_eq_true, beq_eq_false_iff_ne, Int.not_lt, Int.not_le, gt_iff_lt, ge_iff_le, B, and_true, true_and, and_false, false_and, or_true, true_or, or_false, false_or, decide_true, decide_false] at hb
    | ((with_reducible refine go_if fun G hG => ?_); simp only [go_sem, Int.reduceToNat, ↓reduceIte, Int.reduceEq, Int.reduceLT, Int.reduceLE, Int.reduceNeg, Int.reduceBEq, Int.reduceBNe, reduceCtorEq, Nat.reduceEqDiff, Nat.reduceAdd, Nat.reduceLT, Nat.reduceMul, Nat.reduceSub, Nat.reduceDiv, Nat.reduceLeDiff]; refine hG _ (fun hb => ?_) (fun hb => ?_) <;> clear hG G <;> (try rw [hb]) <;> (try simp only [decide_eq_true_eq, decide_eq_false_iff_not, bne_iff_ne, ne_eq, beq_iff_eq, bne_eq_false_iff_eq, Bool.not_eq_true', Bool.not_eq_false', not_true_eq_false, not_false_eq_true, Bool.true_eq_false, Bool.false_eq_true, beq_eq_false_iff_ne, Int.not_lt, Int.not_le, gt_iff_lt, ge_iff_le, B, and_true, true_and, and_false, false_and, or_true, true_or, or_false, false_or, decide_true, decide_false] at hb) <;> try subst hb)
    | ((with_reducible refine go_retR fun F hF => ?_); simp only [go_sem, Try.f111, Int.reduceToNat, ↓reduceIte, Int.reduceEq, Int.reduceLT, Int.reduceLE, Int.reduceNeg, Int.reduceBEq, Int.reduceBNe, reduceCtorEq, Nat.reduceEqDiff, Nat.reduceAdd, Nat.reduceLT, Nat.reduceMul, Nat.reduceSub, Nat.reduceDiv, Nat.reduceLeDiff]; refine hF _ _ ?_; clear hF F)
    | ((with_reducible refine go_retN fun F hF => ?_); simp only [go_sem, Try.f111, Int.reduceToNat, ↓reduceIte, Int.reduceEq, Int.reduceLT, Int.reduceLE, Int.reduceNeg, Int.reduceBEq, Int.reduceBNe, reduceCtorEq, Nat.reduceEqDiff, Nat.reduceAdd, Nat.reduceLT, Nat.reduceMul, Nat.reduceSub, Nat.reduceDiv, Nat.reduceLeDiff]; refine hF _ _ ?_; clear hF F)
  all_goals (first | (refine form_eq _ _ _ ?_ ?_ <;> (first | rfl | (simp [formL, formOk, *]; done) | (simp only [formOk]; rw [Bool.eq_iff_iff]; simp only [decide_eq_true_eq]; omega))))
def hasP (op c : Int) : Bool := hasI (formL op) c
theorem form_cases (P : Int → Prop) (op : Int) (h1 : P 1) (h2 : P 2) (h3 : P 3) (h4 : P 4) (h5 : P 5) (h6 : P 6) (h7 : P 7) (h8 : P 8) (h9 : P 9) (h10 : P 10) (h11 : P 11) (h12 : P 12) (h13 : P 13) (h14 : P 14) (h15 : P 15) (h16 : P 16) (h17 : P 17) (h : formL op = [] → (∀ k : Int, 1 ≤ k → k ≤ 17 → op ≠ k) → P op) : P op := by
  by_cases hh : 1 ≤ op ∧ op ≤ 17
  · obtain ⟨k, rfl⟩ : ∃ k : Nat, op = k := ⟨op.toNat, by omega⟩
    have hk : k ∈ List.range 18 := by simp; omega
    have h0 : k ≠ 0 := by omega
    match k, hk, h0 with
    | 1, _, _ => exact h1
    | 2, _, _ => exact h2
    | 3, _, _ => exact h3
    | 4, _, _ => exact h4
    | 5, _, _ => exact h5
    | 6, _, _ => exact h6
    | 7, _, _ => exact h7
    | 8, _, _ => exact h8
    | 9, _, _ => exact h9
    | 10, _, _ => exact h10
    | 11, _, _ => exact h11
    | 12, _, _ => exact h12
    | 13, _, _ => exact h13
    | 14, _, _ => exact h14
    | 15, _, _ => exact h15
    | 16, _, _ => exact h16
    | 17, _, _ => exact h17
    | k + 18, hk, _ => exact absurd (List.mem_range.1 hk) (by omega)
  · refine h ?_ fun k hk1 hk2 he => hh ⟨by omega, by omega⟩
    have hn : ∀ k : Int, 1 ≤ k → k ≤ 17 → op ≠ k := fun k hk1 hk2 he => hh ⟨by omega, by omega⟩
    unfold formL
    rw [if_neg (hn 1 (by omega) (by omega)), if_neg (hn 2 (by omega) (by omega)), if_neg (hn 3 (by omega) (by omega)), if_neg (hn 4 (by omega) (by omega)), if_neg (hn 9 (by omega) (by omega)), if_neg (hn 10 (by omega) (by omega)), if_neg (hn 5 (by omega) (by omega)), if_neg (hn 6 (by omega) (by omega)), if_neg (hn 7 (by omega) (by omega)), if_neg (hn 8 (by omega) (by omega)), if_neg (hn 11 (by omega) (by omega)), if_neg (hn 12 (by omega) (by omega)), if_neg (hn 13 (by omega) (by omega)), if_neg (hn 14 (by omega) (by omega)), if_neg (hn 15 (by omega) (by omega)), if_neg (hn 16 (by omega) (by omega)), if_neg (hn 17 (by omega) (by omega))]
theorem formL_len (op : Int) : (formL op).length ≤ 4 := by
  refine form_cases (fun op => (formL op).length ≤ 4) op (by decide) (by decide) (by decide) (by decide) (by decide) (by decide) (by decide) (by decide) (by decide) (by decide) (by decide) (by decide) (by decide) (by decide) (by decide) (by decide) (by decide) fun h _ => by rw [h]; simp
theorem hasP_D (op : Int) : hasP op 68 = useD op := by
  refine form_cases (fun op => hasP op 68 = useD op) op rfl rfl rfl rfl rfl rfl rfl rfl rfl rfl rfl rfl rfl rfl rfl rfl rfl fun h hn => ?_
  simp only [hasP, h, useD]
  symm; simp [hasI, hn]
theorem hasP_X (op : Int) : hasP op 88 = useX op := by
  refine form_cases (fun op => hasP op 88 = useX op) op rfl rfl rfl rfl rfl rfl rfl rfl rfl rfl rfl rfl rfl rfl rfl rfl rfl fun h hn => ?_
  simp only [hasP, h, useX]
  symm; simp [hasI, hn]
theorem hasP_Y (op : Int) : hasP op 89 = useY op := by
  refine form_cases (fun op => hasP op 89 = useY op) op rfl rfl rfl rfl rfl rfl rfl rfl rfl rfl rfl rfl rfl rfl rfl rfl rfl fun h hn => ?_
  simp only [hasP, h, useY]
  symm; simp [hasI, hn]
theorem hasP_T (op : Int) : hasP op 84 = useT op := by
  refine form_cases (fun op => hasP op 84 = useT op) op rfl rfl rfl rfl rfl rfl rfl rfl rfl rfl rfl rfl rfl rfl rfl rfl rfl fun h hn => ?_
  simp only [hasP, h, useT]
  symm; simp [hasI, hn]
theorem g74 (op c : Int) : Gives Try.prog 74 [.int op, .sc (.int .u8 c)] (fun _ t => t = .bool (B (hasP op c))) := by
  have hl : (formL op).length ≤ 9223372036854775806 := by have := formL_len op; omega
  refine Gives.of_VW Try.func74 rfl (by rw [Try.ntmps74]; simp only [List.length_cons, List.length_nil]; decide) fun C hP hn hC => ?_
  have hn' := hn.trans Try.ntmps74
  have hb : True := trivial
  repeat' first
    | (exact Bool.noConfusion hb) | (exact False.elim hb)
    | (with_reducible refine go_cons ?_) | (with_reducible refine go_nil ?_) | (with_reducible refine q_nil ?_) | (with_reducible refine go_then ?_) | (with_reducible refine go_thenE ?_) | (with_reducible refine go_thenR ?_) | (with_reducible refine go_blkN ?_) | (with_reducible refine go_blkR ?_) | (with_reducible refine go_blkE ?_) | (with_reducible refine go_blkO (by decide) ?_) | (with_reducible refine VW_seq ?_) | (with_reducible refine VW_skip ?_) | (with_reducible refine VW_exit ?_) | (with_reducible refine VW_block ?_) | (with_reducible refine VW_ret ?_) | (with_reducible refine go_region ?_) | (with_reducible refine any_nil)
    | (with_reducible refine go_quiet hC (by rw [hP]; kernel_rfl) (by kernel_rfl) ?_)
    | ((with_reducible refine op_call (f := 111) [false] hC hP hn' fn111 fun F hF => ?_); simp only [go_sem, hb, formT, Int.reduceToNat, ↓reduceIte, Int.reduceEq, Int.reduceLT, Int.reduceLE, Int.reduceNeg, Int.reduceBEq, Int.reduceBNe, reduceCtorEq, Nat.reduceEqDiff, Nat.reduceAdd, Nat.reduceLT, Nat.reduceMul, Nat.reduceSub, Nat.reduceDiv, Nat.reduceLeDiff]; refine hF _ _ ⟨_, g111 op, fun outs t hR => ?_⟩; subst hR; refine ⟨rfl, ?_⟩; clear hF F)
    | ((with_reducible refine op_call (f := 112) [false, false] hC hP hn' fn112 fun F hF => ?_); simp only [go_sem, hb, formT, Int.reduceToNat, ↓reduceIte, Int.reduceEq, Int.reduceLT, Int.reduceLE, Int.reduceNeg, Int.reduceBEq, Int.reduceBNe, reduceCtorEq, Nat.reduceEqDiff, Nat.reduceAdd, Nat.reduceLT, Nat.reduceMul, Nat.reduceSub, Nat.reduceDiv, Nat.reduceLeDiff]; refine hF _ _ ⟨_, g112 (formL op) c hl, fun outs t hR => ?_⟩; subst hR; refine ⟨rfl, ?_⟩; clear hF F)
    | ((with_reducible refine op_op hC hP hn' fun K hK => ?_); simp only [go_sem, hb, formT, Int.reduceToNat, ↓reduceIte, Int.reduceEq, Int.reduceLT, Int.reduceLE, Int.reduceNeg, Int.reduceBEq, Int.reduceBNe, reduceCtorEq, Nat.reduceEqDiff, Nat.reduceAdd, Nat.reduceLT, Nat.reduceMul, Nat.reduceSub, Nat.reduceDiv, Nat.reduceLeDiff]; refine hK _ ?_; clear hK K)
    | ((with_reducible refine q_op hC hP hn' fun K hK => ?_); simp only [go_sem, hb, formT, Int.reduceToNat, ↓reduceIte, Int.reduceEq, Int.reduceLT, Int.reduceLE, Int.reduceNeg, Int.reduceBEq, Int.reduceBNe, reduceCtorEq, Nat.reduceEqDiff, Nat.reduceAdd, Nat.reduceLT, Nat.reduceMul, Nat.reduceSub, Nat.reduceDiv, Nat.reduceLeDiff]; refine hK _ ?_; clear hK K)
    | ((first | (with_reducible refine op_guard fun G hG => ?_) | (with_reducible refine q_guard fun G hG => ?_)); simp only [go_sem, formT, Int.reduceToNat, ↓reduceIte, Int.reduceEq, Int.reduceLT, Int.reduceLE, Int.reduceNeg, Int.reduceBEq, Int.reduceBNe, reduceCtorEq, Nat.reduceEqDiff, Nat.reduceAdd, Nat.reduceLT, Nat.reduceMul, Nat.reduceSub, Nat.reduceDiv, Nat.reduceLeDiff]; first | (with_reducible refine hG (decide _) (fun hb => ?_) (fun hb => ?_)) | (with_reducible refine hG (B _) (fun hb => ?_) (fun hb => ?_)) | (with_reducible refine hG (!decide _) (fun hb => ?_) (fun hb => ?_)) | (with_reducible refine hG (!B _) (fun hb => ?_) (fun hb => ?_))) <;> clear hG G <;> rw [hb] <;> simp only [decide_eq_true_eq, decide_eq_false_iff_not, bne_iff_ne, ne_eq, beq_iff_eq, bne_eq_false_iff_eq, Bool.not_eq_true', Bool.not_eq_false', not_true_eq_false, not_false_eq_true, Bool.true_eq_false, Bool.false_eq_true, beq_eq_false_iff_ne, Int.not_lt, Int.not_le, gt_iff_lt, ge_iff_le, B, and_true, true_and, and_false, false_and, or_true, true_or, or_false, false_or, decide_true, decide_false] at hb
    | ((with_reducible refine go_if fun G hG => ?_); simp only [go_sem, Int.reduceToNat, ↓reduceIte, Int.reduceEq, Int.reduceLT, Int.reduceLE, Int.reduceNeg, Int.reduceBEq, Int.reduceBNe, reduceCtorEq, Nat.reduceEqDiff, Nat.reduceAdd, Nat.reduceLT, Nat.reduceMul, Nat.reduceSub, Nat.reduceDiv, Nat.reduceLeDiff]; refine hG _ (fun hb => ?_) (fun hb => ?_) <;> clear hG G <;> (try rw [hb]) <;> (try simp only [decide_eq_true_eq, decide_eq_false_iff_not, bne_iff_ne, ne_eq, beq_iff_eq, bne_eq_false_iff_eq, Bool.not_eq_true', Bool.not_eq_false', not_true_eq_false, not_false_eq_true, Bool.true_eq_false, Bool.false_eq_true, beq_eq_false_iff_ne, Int.not_lt, Int.not_le, gt_iff_lt, ge_iff_le, B, and_true, true_and, and_false, false_and, or_true, true_or, or_false, false_or, decide_true, decide_false] at hb) <;> try (exfalso; omega))
    | ((with_reducible refine go_retR fun F hF => ?_); simp only [go_sem, Try.f74, formT, Int.reduceToNat, ↓reduceIte, Int.reduceEq, Int.reduceLT, Int.reduceLE, Int.reduceNeg, Int.reduceBEq, Int.reduceBNe, reduceCtorEq, Nat.reduceEqDiff, Nat.reduceAdd, Nat.reduceLT, Nat.reduceMul, Nat.reduceSub, Nat.reduceDiv, Nat.reduceLeDiff]; refine hF _ _ ?_; clear hF F)
    | ((with_reducible refine go_retN fun F hF => ?_); simp only [go_sem, Try.f74, formT, Int.reduceToNat, ↓reduceIte, Int.reduceEq, Int.reduceLT, Int.reduceLE, Int.reduceNeg, Int.reduceBEq, Int.reduceBNe, reduceCtorEq, Nat.reduceEqDiff, Nat.reduceAdd, Nat.reduceLT, Nat.reduceMul, Nat.reduceSub, Nat.reduceDiv, Nat.reduceLeDiff]; refine hF _ _ ?_; clear hF F)
  rfl
end Go.Proofs.Ytnbahnpckfelpaa.VL
