import Derived.Test.YtnbahnpckfelpaaVLcn
/-! Walks: marks on pieces. -/
namespace Go.Proofs.Ytnbahnpckfelpaa.VL
open Go.RowKit
set_option maxRecDepth 4000
set_option linter.unusedSimpArgs false

theorem insL_set {m : Md} : ∀ {l : List Ins} {k j : Nat} {x x' : Ins} {c : T}, l[k]? = some x → j < 7 → (insC m x).set j c = insC m x' → (insL m l).set (k * 7 + j) c = insL m (l.set k x')
  | [], k, j, x, x', c, h, _, _ => by simp at h
  | y :: l, 0, j, x, x', c, h, hj, hc => by
    simp only [List.getElem?_cons_zero, Option.some.injEq] at h; subst h
    have hl : (insC m y).length = 7 := rfl
    simp only [insL, List.flatMap_cons, List.set_cons_zero, Nat.zero_mul, Nat.zero_add]
    rw [List.set_append_left _ _ (by omega), hc]
  | y :: l, k + 1, j, x, x', c, h, hj, hc => by
    have hl : (insC m y).length = 7 := rfl
    have ih := insL_set (l := l) (k := k) (by simpa using h) hj hc
    simp only [insL, List.flatMap_cons, List.set_cons_succ] at ih ⊢
    rw [List.set_append_right _ _ (by omega), show (k + 1) * 7 + j - (insC m y).length = k * 7 + j by omega, ih]
theorem setR_one {cs : List T} {o : Nat} (h : o < cs.length) (c : T) : VL.setR cs o [c] = cs.set o c := by
  unfold VL.setR
  rw [List.set_eq_take_append_cons_drop, if_pos h]; simp
theorem take_one {cs : List T} {o : Nat} {c : T} (h : cs[o]? = some c) : List.take 1 (List.drop o cs) = [c] := by
  rw [drop_cons h]; rfl
def markI (k : Int) (x : Ins) : Ins := ⟨k, k + 1, k + 2, k + 3, k + 4, marks (k + 5) x.xs.length, k + 5 + x.xs.length⟩
def markL : Int → List Ins → List Ins
  | _, [] => []
  | k, x :: l => markI k x :: markL (k + 6 + x.xs.length) l
def tot : List Ins → Nat
  | [] => 0
  | x :: l => 6 + x.xs.length + tot l
theorem markL_len : ∀ (l : List Ins) (k : Int), (markL k l).length = l.length
  | [], _ => rfl
  | x :: l, k => by simp only [markL, List.length_cons, markL_len l]
theorem tot_app : ∀ (a : List Ins) (x : Ins), tot (a ++ [x]) = tot a + (6 + x.xs.length)
  | [], x => by simp [tot]
  | y :: a, x => by simp only [List.cons_append, tot, tot_app a x]; omega
theorem markL_app : ∀ (a : List Ins) (k : Int) (x : Ins), markL k (a ++ [x]) = markL k a ++ [markI (k + tot a) x]
  | [], k, x => by simp [markL, tot]
  | y :: a, k, x => by
    simp only [List.cons_append, markL, markL_app a, tot]
    congr 4; push_cast; omega
theorem tot_le (l : List Ins) (h : ∀ i ∈ l, i.xs.length ≤ 1048576) : tot l ≤ l.length * 2000000 := by
  induction l with
  | nil => simp [tot]
  | cons x l ih =>
    have h1 := ih fun i hi => h i (by simp [hi])
    have h2 := h x (by simp)
    simp only [tot, List.length_cons]; omega
theorem tot_mono (l : List Ins) (j : Nat) : tot (l.take j) ≤ tot l := by
  induction l generalizing j with
  | nil => simp
  | cons x l ih =>
    cases j with
    | zero => simp [tot]
    | succ j => simp only [List.take_succ_cons, tot]; have := ih j; omega
theorem mark_head (xs : List Int) (k : Int) : sameHead (.nd false .own 1 (ints xs)) (.nd false .own 1 (ints (marks k xs.length))) = true := by simp [sameHead, ints_len, marks_len]

set_option maxHeartbeats 4000000 in
theorem g76 (l : List Ins) (k : Int) (hl : l.length ≤ 1048576) (hLs : ∀ i ∈ l, i.xs.length ≤ 1048576) (h0 : 0 ≤ k) (h1 : k ≤ 1000) (hT : tot l ≤ 100000000) : Gives Try.prog 76 [.nd false .own 7 (insL .own l), .int k] (fun outs t => t = .int (k + tot l) ∧ outs[0]? = some (.nd false .own 7 (insL .own (markL k l)))) := by
  refine Gives.of_VW Try.func76 rfl (by rw [Try.ntmps76]; simp only [List.length_cons, List.length_nil]; decide) fun C hP hn hC => ?_
  have hn' := hn.trans Try.ntmps76
  have hb : True := trivial
  repeat' first
    | (exact Bool.noConfusion hb) | (exact False.elim hb)
    | (with_reducible refine go_cons ?_) | (with_reducible refine go_nil ?_) | (with_reducible refine q_nil ?_) | (with_reducible refine go_then ?_) | (with_reducible refine go_thenE ?_) | (with_reducible refine go_thenR ?_) | (with_reducible refine go_blkN ?_) | (with_reducible refine go_blkR ?_) | (with_reducible refine go_blkE ?_) | (with_reducible refine go_blkO (by decide) ?_) | (with_reducible refine VW_seq ?_) | (with_reducible refine VW_skip ?_) | (with_reducible refine VW_exit ?_) | (with_reducible refine VW_block ?_) | (with_reducible refine VW_ret ?_) | (with_reducible refine go_region ?_) | (with_reducible refine any_nil)
    | (with_reducible refine go_quiet hC (by rw [hP]; kernel_rfl) (by kernel_rfl) ?_)
    | ((with_reducible refine op_op hC hP hn' fun K hK => ?_); simp only [go_sem, hb, setP_nil, List.cons_ne_nil, Int.reduceToNat, ↓reduceIte, Int.reduceEq, Int.reduceLT, Int.reduceLE, Int.reduceNeg, Int.reduceBEq, Int.reduceBNe, reduceCtorEq, Nat.reduceEqDiff, Nat.reduceAdd, Nat.reduceLT, Nat.reduceMul, Nat.reduceSub, Nat.reduceDiv, Nat.reduceLeDiff]; refine hK _ ?_; clear hK K)
    | ((with_reducible refine q_op hC hP hn' fun K hK => ?_); simp only [go_sem, hb, setP_nil, List.cons_ne_nil, Int.reduceToNat, ↓reduceIte, Int.reduceEq, Int.reduceLT, Int.reduceLE, Int.reduceNeg, Int.reduceBEq, Int.reduceBNe, reduceCtorEq, Nat.reduceEqDiff, Nat.reduceAdd, Nat.reduceLT, Nat.reduceMul, Nat.reduceSub, Nat.reduceDiv, Nat.reduceLeDiff]; refine hK _ ?_; clear hK K)
    | ((first | (with_reducible refine op_guard fun G hG => ?_) | (with_reducible refine q_guard fun G hG => ?_)); simp only [go_sem, setP_nil, List.cons_ne_nil, Int.reduceToNat, ↓reduceIte, Int.reduceEq, Int.reduceLT, Int.reduceLE, Int.reduceNeg, Int.reduceBEq, Int.reduceBNe, reduceCtorEq, Nat.reduceEqDiff, Nat.reduceAdd, Nat.reduceLT, Nat.reduceMul, Nat.reduceSub, Nat.reduceDiv, Nat.reduceLeDiff]; first | (with_reducible refine hG (decide _) (fun hb => ?_) (fun hb => ?_)) | (with_reducible refine hG (B _) (fun hb => ?_) (fun hb => ?_)) | (with_reducible refine hG (!decide _) (fun hb => ?_) (fun hb => ?_)) | (with_reducible refine hG (!B _) (fun hb => ?_) (fun hb => ?_))) <;> clear hG G <;> rw [hb] <;> simp only [decide_eq_true_eq, decide_eq_false_iff_not, bne_iff_ne, ne_eq, beq_iff_eq, bne_eq_false_iff_eq, Bool.not_eq_true', Bool.not_eq_false', not_true_eq_false, not_false_eq_true, Bool.true_eq_false, Bool.false_eq_true, beq_eq_false_iff_ne, Int.not_lt, Int.not_le, gt_iff_lt, ge_iff_le, B, and_true, true_and, and_false, false_and, or_true, true_or, or_false, false_or, decide_true, decide_false] at hb
    | ((with_reducible refine go_if fun G hG => ?_); simp only [go_sem, Int.reduceToNat, ↓reduceIte, Int.reduceEq, Int.reduceLT, Int.reduceLE, Int.reduceNeg, Int.reduceBEq, Int.reduceBNe, reduceCtorEq, Nat.reduceEqDiff, Nat.reduceAdd, Nat.reduceLT, Nat.reduceMul, Nat.reduceSub, Nat.reduceDiv, Nat.reduceLeDiff]; refine hG _ (fun hb => ?_) (fun hb => ?_) <;> clear hG G <;> (try rw [hb]) <;> (try simp only [decide_eq_true_eq, decide_eq_false_iff_not, bne_iff_ne, ne_eq, beq_iff_eq, bne_eq_false_iff_eq, Bool.not_eq_true', Bool.not_eq_false', not_true_eq_false, not_false_eq_true, Bool.true_eq_false, Bool.false_eq_true, beq_eq_false_iff_ne, Int.not_lt, Int.not_le, gt_iff_lt, ge_iff_le, B, and_true, true_and, and_false, false_and, or_true, true_or, or_false, false_or, decide_true, decide_false] at hb) <;> try (exfalso; omega))
    | ((with_reducible refine go_retR fun F hF => ?_); simp only [go_sem, Try.f76, setP_nil, List.cons_ne_nil, Int.reduceToNat, ↓reduceIte, Int.reduceEq, Int.reduceLT, Int.reduceLE, Int.reduceNeg, Int.reduceBEq, Int.reduceBNe, reduceCtorEq, Nat.reduceEqDiff, Nat.reduceAdd, Nat.reduceLT, Nat.reduceMul, Nat.reduceSub, Nat.reduceDiv, Nat.reduceLeDiff]; refine hF _ _ ?_; clear hF F)
    | ((with_reducible refine go_retN fun F hF => ?_); simp only [go_sem, Try.f76, setP_nil, List.cons_ne_nil, Int.reduceToNat, ↓reduceIte, Int.reduceEq, Int.reduceLT, Int.reduceLE, Int.reduceNeg, Int.reduceBEq, Int.reduceBNe, reduceCtorEq, Nat.reduceEqDiff, Nat.reduceAdd, Nat.reduceLT, Nat.reduceMul, Nat.reduceSub, Nat.reduceDiv, Nat.reduceLeDiff]; refine hF _ _ ?_; clear hF F)
  refine VW_loop (fun n σ => ∃ j : Nat, ∃ L : List Ins, σ.sl 0 = .nd false .own 7 (insL .own L) ∧ σ.sl 1 = .int (k + (tot (l.take j) : Nat)) ∧ σ.sl 5 = .int (j : Nat) ∧ σ.pt 0 = 0 ∧ n = l.length - j ∧ j ≤ l.length ∧ L = markL k (l.take j) ++ l.drop j) (n := l.length) ⟨0, l, (by rfl), (by simp only [go_sem, Int.reduceToNat, ↓reduceIte, Int.reduceEq, Int.reduceLT, Int.reduceLE, Int.reduceNeg, Int.reduceBEq, Int.reduceBNe, reduceCtorEq, Nat.reduceEqDiff, Nat.reduceAdd, Nat.reduceLT, Nat.reduceMul, Nat.reduceSub, Nat.reduceDiv, Nat.reduceLeDiff]; simp [tot]), (by rfl), (by rfl), rfl, Nat.zero_le _, rfl⟩ fun n σ ⟨j, L, q0, q1, q5, q9, e1, e2, eL⟩ => ?_
  have hx0 : (0 : Int) ≤ (j : Int) := Int.natCast_nonneg j
  have hL : L.length = l.length := by rw [eL, List.length_append, markL_len, List.length_take, List.length_drop]; omega
  by_cases hk : j < l.length
  · have hk' : (j : Int) < (l.length : Int) := by omega
    have hk1 : j + 1 ≤ l.length := hk
    have hw : IntKind.i64.wrap ((j : Int) + 1) = ((j + 1 : Nat) : Int) := by rw [wrap_id _ (by omega) (by omega)]; rfl
    obtain ⟨x, hx⟩ : ∃ x, l[j]? = some x := ⟨_, List.getElem?_eq_getElem hk⟩
    have hxl := hLs x (List.mem_of_getElem? hx)
    have hm := tot_mono l j
    have htk : l.take (j + 1) = l.take j ++ [x] := by rw [List.take_add_one, hx]; rfl
    have htt : tot (l.take (j + 1)) = tot (l.take j) + (6 + x.xs.length) := by rw [htk, tot_app]
    have hm1 := tot_mono l (j + 1)
    have hmk := markL_app (l.take j) k x
    rw [← htk] at hmk
    generalize hq : k + ((tot (l.take j) : Nat) : Int) = q at q1 hmk
    have hw1 : IntKind.i64.wrap (q + 1) = q + 1 := wrap_id _ (by omega) (by omega)
    have hw2 : IntKind.i64.wrap (q + 1 + 1) = q + 2 := by rw [wrap_id _ (by omega) (by omega)]; omega
    have hw3 : IntKind.i64.wrap (q + 2 + 1) = q + 3 := by rw [wrap_id _ (by omega) (by omega)]; omega
    have hw4 : IntKind.i64.wrap (q + 3 + 1) = q + 4 := by rw [wrap_id _ (by omega) (by omega)]; omega
    have hw5 : IntKind.i64.wrap (q + 4 + 1) = q + 5 := by rw [wrap_id _ (by omega) (by omega)]; omega
    have hw6 : IntKind.i64.wrap (q + 5 + (x.xs.length : Int) + 1) = k + ((tot (l.take (j + 1)) : Nat) : Int) := by rw [wrap_id _ (by omega) (by omega), htt]; omega
    have hxL : L[j]? = some x := by rw [eL, List.getElem?_append_right (by rw [markL_len, List.length_take]; omega), markL_len, List.length_take, List.getElem?_drop, show j + (j - min j l.length) = j by omega]; exact hx
    have hLL : L.length = l.length := hL
    obtain ⟨x1, hx1⟩ : ∃ y : Ins, y = { x with a := q } := ⟨_, rfl⟩
    obtain ⟨L1, hL1⟩ : ∃ M, M = L.set j x1 := ⟨_, rfl⟩
    have b0 : j * 7 + 1 ≤ (insL .own L).length := (by rw [insL_len, hLL]; omega)
    have t0 := take_one (insL_at (m := .own) hxL).1
    have s0 : VL.setR (insL .own L) (j * 7) [.sc (.int .i64 (q))] = insL .own L1 := (by rw [setR_one (by have := b0; omega)]; have := insL_set (m := .own) (j := 0) (c := .sc (.int .i64 (q))) (x' := x1) hxL (by omega) (by rw [hx1]; rfl); rw [hL1]; simpa using this)
    have lL1 : L1.length = l.length := (by rw [hL1, List.length_set]; exact hLL)
    have hx1L : L1[j]? = some x1 := (by rw [hL1, List.getElem?_set_self (by have := hLL; omega)])
    obtain ⟨x2, hx2⟩ : ∃ y : Ins, y = { x1 with b := q + 1 } := ⟨_, rfl⟩
    obtain ⟨L2, hL2⟩ : ∃ M, M = L1.set j x2 := ⟨_, rfl⟩
    have b1 : j * 7 + 1 + 1 ≤ (insL .own L1).length := (by rw [insL_len, lL1]; omega)
    have t1 := take_one (insL_at (m := .own) hx1L).2.1
    have s1 : VL.setR (insL .own L1) (j * 7 + 1) [.sc (.int .i64 (q + 1))] = insL .own L2 := (by rw [setR_one (by have := b1; omega)]; have := insL_set (m := .own) (j := 1) (c := .sc (.int .i64 (q + 1))) (x' := x2) hx1L (by omega) (by rw [hx2]; rfl); rw [hL2]; simpa using this)
    have lL2 : L2.length = l.length := (by rw [hL2, List.length_set]; exact lL1)
    have hx2L : L2[j]? = some x2 := (by rw [hL2, List.getElem?_set_self (by have := lL1; omega)])
    obtain ⟨x3, hx3⟩ : ∃ y : Ins, y = { x2 with c := q + 2 } := ⟨_, rfl⟩
    obtain ⟨L3, hL3⟩ : ∃ M, M = L2.set j x3 := ⟨_, rfl⟩
    have b2 : j * 7 + 2 + 1 ≤ (insL .own L2).length := (by rw [insL_len, lL2]; omega)
    have t2 := take_one (insL_at (m := .own) hx2L).2.2.1
    have s2 : VL.setR (insL .own L2) (j * 7 + 2) [.sc (.int .i64 (q + 2))] = insL .own L3 := (by rw [setR_one (by have := b2; omega)]; have := insL_set (m := .own) (j := 2) (c := .sc (.int .i64 (q + 2))) (x' := x3) hx2L (by omega) (by rw [hx3]; rfl); rw [hL3]; simpa using this)
    have lL3 : L3.length = l.length := (by rw [hL3, List.length_set]; exact lL2)
    have hx3L : L3[j]? = some x3 := (by rw [hL3, List.getElem?_set_self (by have := lL2; omega)])
    obtain ⟨x4, hx4⟩ : ∃ y : Ins, y = { x3 with d := q + 3 } := ⟨_, rfl⟩
    obtain ⟨L4, hL4⟩ : ∃ M, M = L3.set j x4 := ⟨_, rfl⟩
    have b3 : j * 7 + 3 + 1 ≤ (insL .own L3).length := (by rw [insL_len, lL3]; omega)
    have t3 := take_one (insL_at (m := .own) hx3L).2.2.2.1
    have s3 : VL.setR (insL .own L3) (j * 7 + 3) [.sc (.int .i64 (q + 3))] = insL .own L4 := (by rw [setR_one (by have := b3; omega)]; have := insL_set (m := .own) (j := 3) (c := .sc (.int .i64 (q + 3))) (x' := x4) hx3L (by omega) (by rw [hx4]; rfl); rw [hL4]; simpa using this)
    have lL4 : L4.length = l.length := (by rw [hL4, List.length_set]; exact lL3)
    have hx4L : L4[j]? = some x4 := (by rw [hL4, List.getElem?_set_self (by have := lL3; omega)])
    obtain ⟨x5, hx5⟩ : ∃ y : Ins, y = { x4 with e := q + 4 } := ⟨_, rfl⟩
    obtain ⟨L5, hL5⟩ : ∃ M, M = L4.set j x5 := ⟨_, rfl⟩
    have b4 : j * 7 + 4 + 1 ≤ (insL .own L4).length := (by rw [insL_len, lL4]; omega)
    have t4 := take_one (insL_at (m := .own) hx4L).2.2.2.2.1
    have s4 : VL.setR (insL .own L4) (j * 7 + 4) [.sc (.int .i64 (q + 4))] = insL .own L5 := (by rw [setR_one (by have := b4; omega)]; have := insL_set (m := .own) (j := 4) (c := .sc (.int .i64 (q + 4))) (x' := x5) hx4L (by omega) (by rw [hx5]; rfl); rw [hL5]; simpa using this)
    have lL5 : L5.length = l.length := (by rw [hL5, List.length_set]; exact lL4)
    have hx5L : L5[j]? = some x5 := (by rw [hL5, List.getElem?_set_self (by have := lL4; omega)])
    obtain ⟨xL, hxL'⟩ : ∃ y : Ins, y = { x5 with xs := marks (q + 5) x.xs.length } := ⟨_, rfl⟩
    obtain ⟨LL, hLL'⟩ : ∃ M, M = L5.set j xL := ⟨_, rfl⟩
    have gL : (insL .own L5)[j * 7 + 5]? = some (.nd false .own 1 (ints x.xs)) := (by rw [(insL_at (m := .own) hx5L).2.2.2.2.2.1]; simp only [hx1, hx2, hx3, hx4, hx5])
    have sL : (insL .own L5).set (j * 7 + 5) (.nd false .own 1 (ints (marks (q + 5) x.xs.length))) = insL .own LL := (by rw [insL_set (x' := xL) hx5L (by omega) (by rw [hxL']; rfl), ← hLL'])
    have lL : LL.length = l.length := (by rw [hLL', List.length_set]; exact lL5)
    have hxLL : LL[j]? = some xL := (by rw [hLL', List.getElem?_set_self (by have := lL5; omega)])
    obtain ⟨x6, hx6⟩ : ∃ y : Ins, y = { xL with g := q + 5 + (x.xs.length : Int) } := ⟨_, rfl⟩
    obtain ⟨L6, hL6⟩ : ∃ M, M = LL.set j x6 := ⟨_, rfl⟩
    have b5 : j * 7 + 6 + 1 ≤ (insL .own LL).length := (by rw [insL_len, lL]; omega)
    have t5 := take_one (insL_at (m := .own) hxLL).2.2.2.2.2.2
    have s5 : VL.setR (insL .own LL) (j * 7 + 6) [.sc (.int .i64 (q + 5 + (x.xs.length : Int)))] = insL .own L6 := (by rw [setR_one (by have := b5; omega)]; have := insL_set (m := .own) (j := 6) (c := .sc (.int .i64 (q + 5 + (x.xs.length : Int)))) (x' := x6) hxLL (by omega) (by rw [hx6]; rfl); rw [hL6]; simpa using this)
    have lL6 : L6.length = l.length := (by rw [hL6, List.length_set]; exact lL)
    have hx6L : L6[j]? = some x6 := (by rw [hL6, List.getElem?_set_self (by have := lL; omega)])
    repeat' first
      | (exact Bool.noConfusion hb) | (exact False.elim hb)
      | (with_reducible refine go_cons ?_) | (with_reducible refine go_nil ?_) | (with_reducible refine q_nil ?_) | (with_reducible refine go_then ?_) | (with_reducible refine go_thenE ?_) | (with_reducible refine go_thenR ?_) | (with_reducible refine go_blkN ?_) | (with_reducible refine go_blkR ?_) | (with_reducible refine go_blkE ?_) | (with_reducible refine go_blkO (by decide) ?_) | (with_reducible refine VW_seq ?_) | (with_reducible refine VW_skip ?_) | (with_reducible refine VW_exit ?_) | (with_reducible refine VW_block ?_) | (with_reducible refine VW_ret ?_) | (with_reducible refine go_region ?_) | (with_reducible refine any_nil)
      | (with_reducible refine go_quiet hC (by rw [hP]; kernel_rfl) (by kernel_rfl) ?_)
      | ((with_reducible refine op_lend (f := 29) [false, false] 0 hC hP hn' fn29 fun F hF => ?_); simp only [go_sem, hb, q0, q1, q5, hx0, hk', hk1, hLL, hw, hw1, hw2, hw3, hw4, hw5, hw6, b0, t0, s0, lL1, b1, t1, s1, lL2, b2, t2, s2, lL3, b3, t3, s3, lL4, b4, t4, s4, lL5, gL, sL, lL, b5, t5, s5, lL6, setP_nil, List.cons_ne_nil, Int.reduceToNat, ↓reduceIte, Int.reduceEq, Int.reduceLT, Int.reduceLE, Int.reduceNeg, Int.reduceBEq, Int.reduceBNe, reduceCtorEq, Nat.reduceEqDiff, Nat.reduceAdd, Nat.reduceLT, Nat.reduceMul, Nat.reduceSub, Nat.reduceDiv, Nat.reduceLeDiff]; refine hF _ _ _ _ _ ⟨_, g29 x.xs (q + 5) hxl (by omega) (by omega), fun outs t hR => ?_⟩; obtain ⟨rfl, ho⟩ := hR; refine ⟨rfl, _, ho, nvi _, mark_head _ _, ?_⟩; clear hF F)
      | ((with_reducible refine op_op hC hP hn' fun K hK => ?_); simp only [go_sem, hb, q0, q1, q5, hx0, hk', hk1, hLL, hw, hw1, hw2, hw3, hw4, hw5, hw6, b0, t0, s0, lL1, b1, t1, s1, lL2, b2, t2, s2, lL3, b3, t3, s3, lL4, b4, t4, s4, lL5, gL, sL, lL, b5, t5, s5, lL6, setP_nil, List.cons_ne_nil, Int.reduceToNat, ↓reduceIte, Int.reduceEq, Int.reduceLT, Int.reduceLE, Int.reduceNeg, Int.reduceBEq, Int.reduceBNe, reduceCtorEq, Nat.reduceEqDiff, Nat.reduceAdd, Nat.reduceLT, Nat.reduceMul, Nat.reduceSub, Nat.reduceDiv, Nat.reduceLeDiff]; refine hK _ ?_; clear hK K)
      | ((with_reducible refine q_op hC hP hn' fun K hK => ?_); simp only [go_sem, hb, q0, q1, q5, hx0, hk', hk1, hLL, hw, hw1, hw2, hw3, hw4, hw5, hw6, b0, t0, s0, lL1, b1, t1, s1, lL2, b2, t2, s2, lL3, b3, t3, s3, lL4, b4, t4, s4, lL5, gL, sL, lL, b5, t5, s5, lL6, setP_nil, List.cons_ne_nil, Int.reduceToNat, ↓reduceIte, Int.reduceEq, Int.reduceLT, Int.reduceLE, Int.reduceNeg, Int.reduceBEq, Int.reduceBNe, reduceCtorEq, Nat.reduceEqDiff, Nat.reduceAdd, Nat.reduceLT, Nat.reduceMul, Nat.reduceSub, Nat.reduceDiv, Nat.reduceLeDiff]; refine hK _ ?_; clear hK K)
      | ((first | (with_reducible refine op_guard fun G hG => ?_) | (with_reducible refine q_guard fun G hG => ?_)); simp only [go_sem, q0, q1, q5, hx0, hk', hk1, hLL, hw, hw1, hw2, hw3, hw4, hw5, hw6, b0, t0, s0, lL1, b1, t1, s1, lL2, b2, t2, s2, lL3, b3, t3, s3, lL4, b4, t4, s4, lL5, gL, sL, lL, b5, t5, s5, lL6, setP_nil, List.cons_ne_nil, Int.reduceToNat, ↓reduceIte, Int.reduceEq, Int.reduceLT, Int.reduceLE, Int.reduceNeg, Int.reduceBEq, Int.reduceBNe, reduceCtorEq, Nat.reduceEqDiff, Nat.reduceAdd, Nat.reduceLT, Nat.reduceMul, Nat.reduceSub, Nat.reduceDiv, Nat.reduceLeDiff]; first | (with_reducible refine hG (decide _) (fun hb => ?_) (fun hb => ?_)) | (with_reducible refine hG (B _) (fun hb => ?_) (fun hb => ?_)) | (with_reducible refine hG (!decide _) (fun hb => ?_) (fun hb => ?_)) | (with_reducible refine hG (!B _) (fun hb => ?_) (fun hb => ?_))) <;> clear hG G <;> rw [hb] <;> simp only [decide_eq_true_eq, decide_eq_false_iff_not, bne_iff_ne, ne_eq, beq_iff_eq, bne_eq_false_iff_eq, Bool.not_eq_true', Bool.not_eq_false', not_true_eq_false, not_false_eq_true, Bool.true_eq_false, Bool.false_eq_true, beq_eq_false_iff_ne, Int.not_lt, Int.not_le, gt_iff_lt, ge_iff_le, B, and_true, true_and, and_false, false_and, or_true, true_or, or_false, false_or, decide_true, decide_false] at hb
      | ((with_reducible refine go_if fun G hG => ?_); simp only [go_sem, q0, q1, q5, hx0, hk', hk1, hLL, hw, hw1, hw2, hw3, hw4, hw5, hw6, b0, t0, s0, lL1, b1, t1, s1, lL2, b2, t2, s2, lL3, b3, t3, s3, lL4, b4, t4, s4, lL5, gL, sL, lL, b5, t5, s5, lL6, Int.reduceToNat, ↓reduceIte, Int.reduceEq, Int.reduceLT, Int.reduceLE, Int.reduceNeg, Int.reduceBEq, Int.reduceBNe, reduceCtorEq, Nat.reduceEqDiff, Nat.reduceAdd, Nat.reduceLT, Nat.reduceMul, Nat.reduceSub, Nat.reduceDiv, Nat.reduceLeDiff]; refine hG _ (fun hb => ?_) (fun hb => ?_) <;> clear hG G <;> (try rw [hb]) <;> (try simp only [decide_eq_true_eq, decide_eq_false_iff_not, bne_iff_ne, ne_eq, beq_iff_eq, bne_eq_false_iff_eq, Bool.not_eq_true', Bool.not_eq_false', not_true_eq_false, not_false_eq_true, Bool.true_eq_false, Bool.false_eq_true, beq_eq_false_iff_ne, Int.not_lt, Int.not_le, gt_iff_lt, ge_iff_le, B, and_true, true_and, and_false, false_and, or_true, true_or, or_false, false_or, decide_true, decide_false] at hb) <;> try (exfalso; omega))
      | ((with_reducible refine go_retR fun F hF => ?_); simp only [go_sem, Try.f76, q0, q1, q5, hx0, hk', hk1, hLL, hw, hw1, hw2, hw3, hw4, hw5, hw6, b0, t0, s0, lL1, b1, t1, s1, lL2, b2, t2, s2, lL3, b3, t3, s3, lL4, b4, t4, s4, lL5, gL, sL, lL, b5, t5, s5, lL6, setP_nil, List.cons_ne_nil, Int.reduceToNat, ↓reduceIte, Int.reduceEq, Int.reduceLT, Int.reduceLE, Int.reduceNeg, Int.reduceBEq, Int.reduceBNe, reduceCtorEq, Nat.reduceEqDiff, Nat.reduceAdd, Nat.reduceLT, Nat.reduceMul, Nat.reduceSub, Nat.reduceDiv, Nat.reduceLeDiff]; refine hF _ _ ?_; clear hF F)
      | ((with_reducible refine go_retN fun F hF => ?_); simp only [go_sem, Try.f76, q0, q1, q5, hx0, hk', hk1, hLL, hw, hw1, hw2, hw3, hw4, hw5, hw6, b0, t0, s0, lL1, b1, t1, s1, lL2, b2, t2, s2, lL3, b3, t3, s3, lL4, b4, t4, s4, lL5, gL, sL, lL, b5, t5, s5, lL6, setP_nil, List.cons_ne_nil, Int.reduceToNat, ↓reduceIte, Int.reduceEq, Int.reduceLT, Int.reduceLE, Int.reduceNeg, Int.reduceBEq, Int.reduceBNe, reduceCtorEq, Nat.reduceEqDiff, Nat.reduceAdd, Nat.reduceLT, Nat.reduceMul, Nat.reduceSub, Nat.reduceDiv, Nat.reduceLeDiff]; refine hF _ _ ?_; clear hF F)
    have hfin : x6 = markI q x := by rw [hx6, hxL', hx5, hx4, hx3, hx2, hx1]; rfl
    have hfinL : L6 = markL k (l.take (j + 1)) ++ l.drop (j + 1) := by
      rw [hL6, hLL', hL5, hL4, hL3, hL2, hL1]
      simp only [List.set_set]
      rw [hfin, eL, List.set_append_right _ _ (by rw [markL_len, List.length_take]; omega), markL_len, List.length_take, hmk, show j - min j l.length = 0 by omega, List.drop_eq_getElem_cons hk, List.set_cons_zero]
      simp
    refine ⟨_, ?_, j + 1, L6, ?_, ?_, ?_, ?_, rfl, hk1, hfinL⟩
    · omega
    all_goals (simp only [go_sem, setP_nil, setAt_sl, setAtB_sl, setAt_pt, setAtB_pt, back_pt, put_pt, setP, q0, q1, q5, q9, b0, t0, s0, lL1, b1, t1, s1, lL2, b2, t2, s2, lL3, b3, t3, s3, lL4, b4, t4, s4, lL5, gL, sL, lL, b5, t5, s5, lL6, Int.reduceToNat, ↓reduceIte, Int.reduceEq, Int.reduceLT, Int.reduceLE, Int.reduceNeg, Int.reduceBEq, Int.reduceBNe, reduceCtorEq, Nat.reduceEqDiff, Nat.reduceAdd, Nat.reduceLT, Nat.reduceMul, Nat.reduceSub, Nat.reduceDiv, Nat.reduceLeDiff]; first | done | rfl)
  · have hk' : ¬ (j : Int) < (l.length : Int) := by omega
    have hkk : j = l.length := by omega
    have hz : L = markL k l := by rw [eL, hkk, List.drop_length, List.append_nil, List.take_length]
    repeat' first
      | (exact Bool.noConfusion hb) | (exact False.elim hb)
      | (with_reducible refine go_cons ?_) | (with_reducible refine go_nil ?_) | (with_reducible refine q_nil ?_) | (with_reducible refine go_then ?_) | (with_reducible refine go_thenE ?_) | (with_reducible refine go_thenR ?_) | (with_reducible refine go_blkN ?_) | (with_reducible refine go_blkR ?_) | (with_reducible refine go_blkE ?_) | (with_reducible refine go_blkO (by decide) ?_) | (with_reducible refine VW_seq ?_) | (with_reducible refine VW_skip ?_) | (with_reducible refine VW_exit ?_) | (with_reducible refine VW_block ?_) | (with_reducible refine VW_ret ?_) | (with_reducible refine go_region ?_) | (with_reducible refine any_nil)
      | (with_reducible refine go_quiet hC (by rw [hP]; kernel_rfl) (by kernel_rfl) ?_)
      | ((with_reducible refine op_op hC hP hn' fun K hK => ?_); simp only [go_sem, hb, q0, q1, q5, hx0, hL, hk', setP_nil, List.cons_ne_nil, Int.reduceToNat, ↓reduceIte, Int.reduceEq, Int.reduceLT, Int.reduceLE, Int.reduceNeg, Int.reduceBEq, Int.reduceBNe, reduceCtorEq, Nat.reduceEqDiff, Nat.reduceAdd, Nat.reduceLT, Nat.reduceMul, Nat.reduceSub, Nat.reduceDiv, Nat.reduceLeDiff]; refine hK _ ?_; clear hK K)
      | ((with_reducible refine q_op hC hP hn' fun K hK => ?_); simp only [go_sem, hb, q0, q1, q5, hx0, hL, hk', setP_nil, List.cons_ne_nil, Int.reduceToNat, ↓reduceIte, Int.reduceEq, Int.reduceLT, Int.reduceLE, Int.reduceNeg, Int.reduceBEq, Int.reduceBNe, reduceCtorEq, Nat.reduceEqDiff, Nat.reduceAdd, Nat.reduceLT, Nat.reduceMul, Nat.reduceSub, Nat.reduceDiv, Nat.reduceLeDiff]; refine hK _ ?_; clear hK K)
      | ((first | (with_reducible refine op_guard fun G hG => ?_) | (with_reducible refine q_guard fun G hG => ?_)); simp only [go_sem, q0, q1, q5, hx0, hL, hk', setP_nil, List.cons_ne_nil, Int.reduceToNat, ↓reduceIte, Int.reduceEq, Int.reduceLT, Int.reduceLE, Int.reduceNeg, Int.reduceBEq, Int.reduceBNe, reduceCtorEq, Nat.reduceEqDiff, Nat.reduceAdd, Nat.reduceLT, Nat.reduceMul, Nat.reduceSub, Nat.reduceDiv, Nat.reduceLeDiff]; first | (with_reducible refine hG (decide _) (fun hb => ?_) (fun hb => ?_)) | (with_reducible refine hG (B _) (fun hb => ?_) (fun hb => ?_)) | (with_reducible refine hG (!decide _) (fun hb => ?_) (fun hb => ?_)) | (with_reducible refine hG (!B _) (fun hb => ?_) (fun hb => ?_))) <;> clear hG G <;> rw [hb] <;> simp only [decide_eq_true_eq, decide_eq_false_iff_not, bne_iff_ne, ne_eq, beq_iff_eq, bne_eq_false_iff_eq, Bool.not_eq_true', Bool.not_eq_false', not_true_eq_false, not_false_eq_true, Bool.true_eq_false, Bool.false_eq_true, beq_eq_false_iff_ne, Int.not_lt, Int.not_le, gt_iff_lt, ge_iff_le, B, and_true, true_and, and_false, false_and, or_true, true_or, or_false, false_or, decide_true, decide_false] at hb
      | ((with_reducible refine go_if fun G hG => ?_); simp only [go_sem, q0, q1, q5, hx0, hL, hk', Int.reduceToNat, ↓reduceIte, Int.reduceEq, Int.reduceLT, Int.reduceLE, Int.reduceNeg, Int.reduceBEq, Int.reduceBNe, reduceCtorEq, Nat.reduceEqDiff, Nat.reduceAdd, Nat.reduceLT, Nat.reduceMul, Nat.reduceSub, Nat.reduceDiv, Nat.reduceLeDiff]; refine hG _ (fun hb => ?_) (fun hb => ?_) <;> clear hG G <;> (try rw [hb]) <;> (try simp only [decide_eq_true_eq, decide_eq_false_iff_not, bne_iff_ne, ne_eq, beq_iff_eq, bne_eq_false_iff_eq, Bool.not_eq_true', Bool.not_eq_false', not_true_eq_false, not_false_eq_true, Bool.true_eq_false, Bool.false_eq_true, beq_eq_false_iff_ne, Int.not_lt, Int.not_le, gt_iff_lt, ge_iff_le, B, and_true, true_and, and_false, false_and, or_true, true_or, or_false, false_or, decide_true, decide_false] at hb) <;> try (exfalso; omega))
      | ((with_reducible refine go_retR fun F hF => ?_); simp only [go_sem, Try.f76, q0, q1, q5, hx0, hL, hk', setP_nil, List.cons_ne_nil, Int.reduceToNat, ↓reduceIte, Int.reduceEq, Int.reduceLT, Int.reduceLE, Int.reduceNeg, Int.reduceBEq, Int.reduceBNe, reduceCtorEq, Nat.reduceEqDiff, Nat.reduceAdd, Nat.reduceLT, Nat.reduceMul, Nat.reduceSub, Nat.reduceDiv, Nat.reduceLeDiff]; refine hF _ _ ?_; clear hF F)
      | ((with_reducible refine go_retN fun F hF => ?_); simp only [go_sem, Try.f76, q0, q1, q5, hx0, hL, hk', setP_nil, List.cons_ne_nil, Int.reduceToNat, ↓reduceIte, Int.reduceEq, Int.reduceLT, Int.reduceLE, Int.reduceNeg, Int.reduceBEq, Int.reduceBNe, reduceCtorEq, Nat.reduceEqDiff, Nat.reduceAdd, Nat.reduceLT, Nat.reduceMul, Nat.reduceSub, Nat.reduceDiv, Nat.reduceLeDiff]; refine hF _ _ ?_; clear hF F)
    refine ⟨by rw [hkk, List.take_length]; rfl, ?_⟩
    rw [S.outs_get]
    simp only [S.out, go_sem, put_pt, q0, q9, hz, Int.reduceToNat, ↓reduceIte, Int.reduceEq, Int.reduceLT, Int.reduceLE, Int.reduceNeg, Int.reduceBEq, Int.reduceBNe, reduceCtorEq, Nat.reduceEqDiff, Nat.reduceAdd, Nat.reduceLT, Nat.reduceMul, Nat.reduceSub, Nat.reduceDiv, Nat.reduceLeDiff]
    simp [T.closed]
end Go.Proofs.Ytnbahnpckfelpaa.VL
