import Derived.Test.YtnbahnpckfelpaaVLpa
import Derived.Test.YtnbahnpckfelpaaVLcq
import Derived.Test.YtnbahnpckfelpaaVLct
/-! The plain law: what comes after an instruction. -/
namespace Go.Proofs.Ytnbahnpckfelpaa.VL
set_option linter.unusedVariables false
theorem nrmS_up (k : Nat) (a g : Int) : Up (nrmS k a g) := by
  unfold nrmS; repeat' split
  all_goals (simp [Up]; try omega)
theorem nrm_mem (k : Nat) (a g y : Int) : y ∈ wayI k a g ↔ y ∈ nrmS k a g := by
  unfold nrmS wayI
  rw [List.mem_append]
  repeat' split
  all_goals (simp only [List.mem_cons, List.not_mem_nil, or_false, false_or, false_iff, iff_false, not_or]; try omega)
theorem nx_eq (p : Pc) (k : Nat) (x : Ins) : nxI p k x = nxS p k x := by
  have h := nrm_mem k x.a x.g
  have hu := nrmS_up k x.a x.g
  have hbase : asc (wayI k x.a x.g ++ []) = nrmS k x.a x.g := by
    obtain ⟨h1, h2⟩ := asc_facts (wayI k x.a x.g ++ [])
    exact up_ext h1 hu fun y => by rw [h2, List.append_nil]; exact h y
  unfold nxI nxS
  split
  · split
    · rename_i z _ _
      obtain ⟨h1, h2⟩ := asc_facts (wayI k x.a x.g ++ [z.g])
      refine up_ext h1 (addL_up hu _) fun y => ?_
      rw [h2, addL_mem, List.mem_append, List.mem_singleton, h y]; exact Or.comm
    · exact hbase
  · exact hbase
end Go.Proofs.Ytnbahnpckfelpaa.VL
/-! The plain law: what comes after a block. -/
namespace Go.Proofs.Ytnbahnpckfelpaa.VL
set_option linter.unusedVariables false
theorem blkT {L : List Int} (hu : Up L) (h0 : (0 : Int) ∈ L) {y : Int} (hy : 0 ≤ y) : lastLe L y L.length = ((blkGo y (L.drop 1) : Nat) : Int) ∧ blkGo y (L.drop 1) + 1 ≤ L.length := by
  rw [lastLe_eq _ _ hu _ (Nat.le_refl _)]
  cases L with
  | nil => cases h0
  | cons z t =>
    have hz : z ≤ y := by
      rcases List.mem_cons.1 h0 with e | h
      · omega
      · rw [Up, List.pairwise_cons] at hu; have := hu.1 0 h; omega
    have hb := blkGo_le y t
    simp only [List.drop_succ_cons, List.drop_zero, blkGo, if_pos hz, List.length_cons]
    omega
theorem nxS_pos {p : Pc} (h : okS p = true) {k : Nat} {x : Ins} (hx : p.l[k]? = some x) : ∀ y ∈ nxS p k x, 0 ≤ y := by
  have hT : useT x.a = true → 0 ≤ x.g := okS_T h hx
  have hb : ∀ y ∈ nrmS k x.a x.g, 0 ≤ y := by
    intro y hy
    unfold nrmS at hy
    have hU : x.a = 11 ∨ x.a = 12 ∨ x.a = 13 → 0 ≤ x.g := fun ha => hT (by simp only [useT, decide_eq_true_eq]; omega)
    repeat' split at hy
    all_goals (simp only [List.mem_cons, List.not_mem_nil, or_false] at hy)
    all_goals first | exact hy.elim | omega
  intro y hy
  unfold nxS at hy
  rcases gd_cases p k with ⟨_, h2⟩ | ⟨j, z, _, _, hz, hz17, h2⟩
  · rw [h2] at hy; exact hb y hy
  · rw [h2] at hy
    have hz0 := okS_T h hz (by rw [hz17]; rfl)
    split at hy
    · rename_i y' e
      simp only [Option.some.injEq] at e
      subst e
      split at hy
      · rcases (addL_mem _ _ _).1 hy with rfl | hy
        · exact hz0
        · exact hb y hy
      · exact hb y hy
    · exact hb y hy
theorem in_mem {L : List Int} (hu : Up L) (h0 : (0 : Int) ∈ L) (k : Nat) (i : Int) : ∀ (r o1 o2 : List Int), (∀ y ∈ r, 0 ≤ y) → (∀ z, z ∈ o1 ↔ z ∈ o2) → ∀ z, z ∈ inI L k i r o1 ↔ z ∈ inS L k i r o2
  | [], o1, o2, _, h, z => h z
  | y :: r, o1, o2, hr, h, z => by
    simp only [inI, inS]
    rw [← (blkT hu h0 (hr y (by simp))).1]
    refine in_mem hu h0 k i r _ _ (fun w hw => hr w (by simp [hw])) (fun w => ?_) z
    split
    · rw [addL_mem, List.mem_append, List.mem_singleton, h w]; exact Or.comm
    · exact h w
theorem inS_up (L : List Int) (k : Nat) (i : Int) : ∀ (r o : List Int), Up o → Up (inS L k i r o)
  | [], o, h => h
  | y :: r, o, h => by
    simp only [inS]
    refine inS_up L k i r _ ?_
    split
    · exact addL_up h _
    · exact h
theorem ou_mem {p : Pc} (hok : okS p = true) {L : List Int} (hu : Up L) (h0 : (0 : Int) ∈ L) (i : Int) : ∀ (l : List Ins) (k : Nat) (o1 o2 : List Int), (∀ j x, l[j]? = some x → p.l[k + j]? = some x) → (∀ z, z ∈ o1 ↔ z ∈ o2) → ∀ z, z ∈ ouI p L i k l o1 ↔ z ∈ ouS p L i k l o2
  | [], k, o1, o2, _, h, z => h z
  | x :: l, k, o1, o2, hl, h, z => by
    simp only [ouI, ouS]
    rw [← (blkT hu h0 (Int.natCast_nonneg k)).1, nx_eq]
    refine ou_mem hok hu h0 i l (k + 1) _ _ (fun j w hw => ?_) (fun w => ?_) z
    · have := hl (j + 1) w (by simpa using hw)
      rw [show k + 1 + j = k + (j + 1) by omega]; exact this
    · split
      · exact h w
      · exact in_mem hu h0 k i _ _ _ (nxS_pos hok (by simpa using hl 0 x (by simp))) h w
theorem ouS_up (p : Pc) (L : List Int) (i : Int) : ∀ (l : List Ins) (k : Nat) (o : List Int), Up o → Up (ouS p L i k l o)
  | [], k, o, h => h
  | x :: l, k, o, h => by
    simp only [ouS]
    refine ouS_up p L i l (k + 1) _ ?_
    split
    · exact h
    · exact inS_up L k i _ _ h
theorem ouS_none (p : Pc) (L : List Int) (i : Int) (h : ∀ k : Nat, lastLe L k L.length ≠ i) : ∀ (l : List Ins) (k : Nat) (o : List Int), ouS p L i k l o = o
  | [], k, o => rfl
  | x :: l, k, o => by
    simp only [ouS]
    rw [if_pos (h k)]
    exact ouS_none p L i h l (k + 1) o
theorem bn_eq (p : Pc) (i : Int) : bnI p i = bnS p i := by
  unfold bnI bnS leadW
  rw [ok_eq, lead_eq]
  have h0 := lead_zero p.l
  have hu : Up (leadL p.l) := leadGo_up p.l.length p.l 0 [0] (by simp [Up])
  by_cases hok : okS p = true
  · rw [if_pos hok, if_pos hok]
    generalize leadL p.l = L at h0 hu
    split
    · obtain ⟨h1, h2⟩ := asc_facts (ouI p L i 0 p.l [])
      refine up_ext h1 (ouS_up p L i p.l 0 [] (by simp [Up])) fun z => ?_
      rw [h2]
      exact ou_mem hok hu h0 i p.l 0 [] [] (fun j x hx => by rw [Nat.zero_add]; exact hx) (fun _ => Iff.rfl) z
    · rename_i hc
      refine (ouS_none p L i (fun k hk => hc ?_) p.l 0 []).symm
      obtain ⟨h1, h2⟩ := blkT hu h0 (Int.natCast_nonneg k)
      omega
  · rw [if_neg hok, if_neg hok]
    rw [if_neg (by simp; omega)]
end Go.Proofs.Ytnbahnpckfelpaa.VL
