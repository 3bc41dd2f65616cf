import Derived.Test.YtnbahnpckfelpaaVLcj
/-! The plain law: both forms of 'a piece is right' agree; both leaders; both blocks. -/
namespace Go.Proofs.Ytnbahnpckfelpaa.VL
open Go.Sort
set_option linter.unusedVariables false

theorem lamsGo_14 (n : Nat) (h : n ≤ 200) : ∀ (l : List Int) (prev : Option Int), lamsGo 14 n prev l = ascGo prev l
  | [], prev => by cases prev <;> rfl
  | x :: l, none => by simp only [lamsGo, ascGo, h, decide_true, Bool.true_and]; exact lamsGo_14 n h l _
  | x :: l, some y => by simp only [lamsGo, ascGo, h, decide_true, Bool.true_and, lamsGo_14 n h l]
theorem lamsGo_no {op : Int} {n : Nat} (h : op ≠ 14 ∨ 200 < n) : ∀ (l : List Int), lamsGo op n none l = decide (l.length = 0)
  | [] => rfl
  | x :: l => by
    rcases h with h | h
    · simp [lamsGo, h]
    · have : ¬ n ≤ 200 := by omega
      simp [lamsGo, this]
theorem any_all (l : List Int) (r : Int) : (!(l.any fun x => !decide (0 ≤ x ∧ x ≤ r - 1))) = l.all fun x => decide (0 ≤ x ∧ x ≤ r - 1) := by
  induction l with
  | nil => rfl
  | cons x l ih => simp only [List.any_cons, List.all_cons, Bool.not_or, Bool.not_not, ih]
theorem ins_eq (regs : Int) (n : Nat) (i : Ins) : insI regs n i = insS regs n i := by
  have hT : regOk (hasP i.a 84) i.g n = (if useT i.a then decide (0 ≤ i.g ∧ i.g ≤ (n : Int) - 1) else decide (i.g = 0)) := by
    rw [hasP_T]; unfold regOk
    split
    · rw [decide_eq_decide]; omega
    · rfl
  unfold insI insS
  rw [hT, hasP_D, hasP_X, hasP_Y]
  have hrest : (numB i.a i.e i.xs.length && (if i.a = 8 then !(i.xs.any fun r => !decide (0 ≤ r ∧ r ≤ regs - 1)) else lamsGo i.a i.xs.length none i.xs)) =
      ((decide (i.a = 8) || (decide (i.a = 14) || decide (i.xs.length = 0))) &&
    (if i.a = 1 then decide (-1000000 ≤ i.e ∧ i.e ≤ 1000000) else if i.a = 2 then decide (0 ≤ i.e ∧ i.e ≤ 1) else if i.a = 5 then decide (1 ≤ i.e ∧ i.e ≤ 5) else
     if i.a = 8 then i.xs.all (fun r => decide (0 ≤ r ∧ r ≤ regs - 1)) && (decide (0 ≤ i.e ∧ i.e ≤ 149) && decide (i.xs.length < 100)) else
     if i.a = 14 then ascGo none i.xs && (decide (i.e = 0) && decide (i.xs.length ≤ 200)) else decide (i.e = 0))) := by
    rw [any_all]
    unfold numB
    by_cases h8 : i.a = 8
    · simp only [h8, if_true, decide_true, Bool.true_or, Bool.true_and, Bool.decide_and]
      simp [Bool.and_comm]
    · by_cases h14 : i.a = 14
      · by_cases h200 : i.xs.length ≤ 200
        · rw [h14, lamsGo_14 _ h200]
          simp [h200, Bool.and_comm]
        · rw [lamsGo_no (.inr (by omega))]
          have : ¬ i.xs.length = 0 := by omega
          simp only [this, h200, decide_false, Bool.and_false, h14]
          simp
      · rw [lamsGo_no (.inl h14)]
        simp only [h8, h14, if_false, decide_false, Bool.false_or]
        rw [Bool.and_comm]
  have e : ∀ a b c d x y z : Bool, (a && (b && (c && (d && (x && (y && z)))))) = (a && (d && (x && (y && (c && (b && z)))))) := by decide
  unfold formOk
  rw [e, hrest]
theorem ok_eq (p : Pc) : okI p = okS p := by
  have h0 : ∀ (n : Nat) (l : List Ins), (!(l.any fun i => !insI p.c n i)) = l.all (insS p.c n) := by
    intro n l
    induction l with
    | nil => rfl
    | cons x l ih => simp only [List.any_cons, List.all_cons, Bool.not_or, Bool.not_not, ins_eq] at ih ⊢; rw [ih]
  have h1 := h0 p.l.length p.l
  have h2 : (decide (1 ≤ p.l.length ∧ p.l.length ≤ 600) && (lamB p.a p.b && decide (p.b ≤ p.c ∧ p.c ≤ 400))) = decide (hdP p) := by
    rw [Bool.eq_iff_iff]
    simp only [lamB, hdP, Bool.and_eq_true, decide_eq_true_eq, Decidable.imp_iff_not_or]
    omega
  unfold okI okS
  rw [h1, ← h2]
  simp only [Bool.and_assoc]

/-! Lists in order. -/
abbrev Up (l : List Int) : Prop := l.Pairwise (· < ·)
theorem up_ext : ∀ {a b : List Int}, Up a → Up b → (∀ x, x ∈ a ↔ x ∈ b) → a = b
  | [], [], _, _, _ => rfl
  | [], y :: b, _, _, h => by have := (h y).2 (by simp); cases this
  | x :: a, [], _, _, h => by have := (h x).1 (by simp); cases this
  | x :: a, y :: b, ha, hb, h => by
    rw [Up, List.pairwise_cons] at ha hb
    have e : x = y := by
      rcases List.mem_cons.1 ((h x).1 (by simp)) with e | hx
      · exact e
      · rcases List.mem_cons.1 ((h y).2 (by simp)) with e | hy
        · exact e.symm
        · have := hb.1 x hx; have := ha.1 y hy; omega
    subst e
    congr 1
    refine up_ext ha.2 hb.2 fun z => ⟨fun hz => ?_, fun hz => ?_⟩
    · rcases List.mem_cons.1 ((h z).1 (by simp [hz])) with e | h2
      · have := ha.1 z hz; omega
      · exact h2
    · rcases List.mem_cons.1 ((h z).2 (by simp [hz])) with e | h2
      · have := hb.1 z hz; omega
      · exact h2
theorem addGo_mem_true (n : Int) : ∀ (l : List Int) (y : Int), y ∈ addGo n true l ↔ y ∈ l ∧ y ≠ n
  | [], y => by simp [addGo]
  | x :: l, y => by
    have ih := addGo_mem_true n l y
    simp only [addGo, Bool.true_or, List.mem_append, ih, List.mem_cons]
    by_cases h : x = n
    · subst h; simp; intro h1 h2; exact absurd h2 h1
    · simp only [h, if_false, List.mem_singleton]
      constructor
      · rintro (h1 | h1 | h1)
        · simp at h1
        · subst h1; exact ⟨.inl rfl, h⟩
        · exact ⟨.inr h1.1, h1.2⟩
      · rintro ⟨h1 | h1, h2⟩
        · exact .inr (.inl h1)
        · exact .inr (.inr ⟨h1, h2⟩)
theorem addGo_mem (n : Int) : ∀ (l : List Int) (y : Int), y ∈ addGo n false l ↔ y = n ∨ y ∈ l
  | [], y => by simp [addGo]
  | x :: l, y => by
    have ih := addGo_mem n l y
    have it := addGo_mem_true n l y
    by_cases h1 : n ≤ x
    · simp only [addGo, h1, and_self, if_true, decide_true, Bool.or_true, List.mem_append, it, List.mem_cons, List.mem_singleton]
      by_cases h : x = n
      · subst h
        by_cases hy : y = x <;> simp [hy]
      · simp only [h, if_false, List.mem_singleton]
        by_cases hy : y = n
        · simp [hy]
        · simp [hy]
    · have hne : ¬ x = n := by omega
      simp only [addGo, h1, and_false, if_false, decide_false, Bool.or_false, List.mem_append, ih, List.mem_cons, hne, List.not_mem_nil, or_false, false_or]
      constructor <;> (rintro (h | h | h) <;> simp [h])
theorem addGo_up_true (n : Int) : ∀ (l : List Int), Up l → Up (addGo n true l)
  | [], _ => by simp [addGo, Up]
  | x :: l, h => by
    rw [Up, List.pairwise_cons] at h
    have ih := addGo_up_true n l h.2
    simp only [addGo, Bool.true_or]
    by_cases hx : x = n
    · simpa [hx] using ih
    · simp only [hx, if_false]
      show Up (x :: addGo n true l)
      rw [Up, List.pairwise_cons]
      exact ⟨fun y hy => h.1 y ((addGo_mem_true n l y).1 hy).1, ih⟩
theorem addGo_up (n : Int) : ∀ (l : List Int), Up l → Up (addGo n false l)
  | [], _ => by simp [addGo, Up]
  | x :: l, h => by
    have h' := h
    rw [Up, List.pairwise_cons] at h
    by_cases h1 : n ≤ x
    · have it := addGo_up_true n l h.2
      have hm := fun y => addGo_mem_true n l y
      simp only [addGo, h1, and_self, if_true, decide_true, Bool.or_true]
      by_cases hx : x = n
      · simp only [hx, if_true, List.nil_append]
        show Up (n :: addGo n true l)
        rw [Up, List.pairwise_cons]
        exact ⟨fun y hy => by have := h.1 y ((hm y).1 hy).1; omega, it⟩
      · simp only [hx, if_false]
        show Up (n :: x :: addGo n true l)
        rw [Up, List.pairwise_cons, List.pairwise_cons]
        refine ⟨fun y hy => ?_, fun y hy => h.1 y ((hm y).1 hy).1, it⟩
        rcases List.mem_cons.1 hy with rfl | hy
        · omega
        · have := h.1 y ((hm y).1 hy).1; omega
    · have ih := addGo_up n l h.2
      have hne : ¬ x = n := by omega
      simp only [addGo, h1, and_false, if_false, decide_false, Bool.or_false, hne]
      show Up (x :: addGo n false l)
      rw [Up, List.pairwise_cons]
      refine ⟨fun y hy => ?_, ih⟩
      rcases (addGo_mem n l y).1 hy with rfl | hy
      · omega
      · exact h.1 y hy
theorem addL_mem (l : List Int) (n y : Int) : y ∈ addL l n ↔ y = n ∨ y ∈ l := addGo_mem n l y
theorem addL_up {l : List Int} (h : Up l) (n : Int) : Up (addL l n) := addGo_up n l h

theorem compact_facts (d : Array Int) (hs : ∀ i j : Nat, i ≤ j → j < d.size → d[i]! ≤ d[j]!) : ∀ m, m ≤ d.size → Up (Lib.compactUpTo d m) ∧ ∀ x, x ∈ Lib.compactUpTo d m ↔ ∃ j, j < m ∧ d[j]! = x
  | 0, _ => by simp [Lib.compactUpTo, Up]
  | m + 1, hm => by
    obtain ⟨h1, h2⟩ := compact_facts d hs m (by omega)
    rw [Lib.compactUpTo_succ]
    by_cases hk : Lib.keeps d m = true
    · rw [if_pos hk]
      constructor
      · rw [Up, List.pairwise_append]
        refine ⟨h1, by simp, fun x hx y hy => ?_⟩
        simp only [List.mem_singleton] at hy
        subst hy
        obtain ⟨j, hj, rfl⟩ := (h2 x).1 hx
        simp only [Lib.keeps, decide_eq_true_eq] at hk
        have a1 := hs j (m - 1) (by omega) (by omega)
        have a2 := hs (m - 1) m (by omega) (by omega)
        rcases hk with hk | hk
        · omega
        · omega
      · intro x
        rw [List.mem_append, h2]
        simp only [List.mem_singleton]
        constructor
        · rintro (⟨j, hj, e⟩ | rfl)
          · exact ⟨j, by omega, e⟩
          · exact ⟨m, by omega, rfl⟩
        · rintro ⟨j, hj, rfl⟩
          by_cases e : j = m
          · subst e; exact .inr rfl
          · exact .inl ⟨j, by omega, rfl⟩
    · rw [if_neg hk, List.append_nil]
      refine ⟨h1, fun x => ?_⟩
      rw [h2]
      have hk' : m ≠ 0 ∧ d[m]! = d[m - 1]! := by
        simp only [Lib.keeps, decide_eq_true_eq] at hk
        omega
      constructor
      · rintro ⟨j, hj, e⟩; exact ⟨j, by omega, e⟩
      · rintro ⟨j, hj, rfl⟩
        by_cases e : j = m
        · subst e; exact ⟨j - 1, by omega, hk'.2.symm⟩
        · exact ⟨j, by omega, rfl⟩
theorem sortL_mem (xs : List Int) (x : Int) : x ∈ sortL xs ↔ x ∈ xs := by simp [sortL]
theorem sortL_le (xs : List Int) : (sortL xs).Pairwise (· ≤ ·) := by
  have := List.pairwise_mergeSort (le := fun x y : Int => decide (x ≤ y)) (by intro a b c; simp; omega) (by intro a b; simp; omega) xs
  exact this.imp (by simp)
theorem asc_facts (xs : List Int) : Up (asc xs) ∧ ∀ x, x ∈ asc xs ↔ x ∈ xs := by
  have hs : ∀ i j : Nat, i ≤ j → j < (sortL xs).toArray.size → (sortL xs).toArray[i]! ≤ (sortL xs).toArray[j]! := by
    intro i j hij hj
    have hj' : j < (sortL xs).length := by simpa using hj
    have hi' : i < (sortL xs).length := by omega
    simp only [List.getElem!_toArray, getElem!_pos (sortL xs) i hi', getElem!_pos (sortL xs) j hj']
    by_cases e : i = j
    · subst e; omega
    · exact List.pairwise_iff_getElem.1 (sortL_le xs) i j hi' hj' (by omega)
  obtain ⟨h1, h2⟩ := compact_facts (sortL xs).toArray hs (sortL xs).length (by simp)
  refine ⟨h1, fun x => ?_⟩
  rw [asc, Lib.compact, h2, ← sortL_mem]
  constructor
  · rintro ⟨j, hj, rfl⟩
    rw [List.getElem!_toArray, getElem!_pos (sortL xs) j hj]
    exact List.getElem_mem hj
  · intro hx
    obtain ⟨j, hj, rfl⟩ := List.getElem_of_mem hx
    exact ⟨j, hj, by rw [List.getElem!_toArray, getElem!_pos (sortL xs) j hj]⟩

theorem lead_mem (N : Nat) : ∀ (l : List Ins) (k : Nat) (o1 o2 : List Int), (∀ y, y ∈ o1 ↔ y ∈ o2) → ∀ y, y ∈ leadIGo N k l o1 ↔ y ∈ leadGo N k l o2
  | [], k, o1, o2, h, y => h y
  | x :: l, k, o1, o2, h, y => by
    simp only [leadIGo, leadGo]
    refine lead_mem N l (k + 1) _ _ (fun z => ?_) y
    have hj : ∀ z, z ∈ (if useT x.a = true then o1 ++ [x.g] else o1) ↔ z ∈ (if useT x.a = true then addL o2 x.g else o2) := by
      intro z; split
      · rw [addL_mem, List.mem_append, h, List.mem_singleton]; exact Or.comm
      · exact h z
    unfold stepI leadStep
    split
    · rw [addL_mem, List.mem_append, hj, List.mem_singleton]; exact Or.comm
    · exact hj z
theorem leadGo_up (N : Nat) : ∀ (l : List Ins) (k : Nat) (o : List Int), Up o → Up (leadGo N k l o)
  | [], k, o, h => h
  | x :: l, k, o, h => by
    simp only [leadGo]
    refine leadGo_up N l (k + 1) _ ?_
    unfold leadStep
    split <;> split
    · exact addL_up (addL_up h _) _
    · exact addL_up h _
    · exact addL_up h _
    · exact h
theorem leadGo_keep (N : Nat) (y : Int) : ∀ (l : List Ins) (k : Nat) (o : List Int), y ∈ o → y ∈ leadGo N k l o
  | [], k, o, h => h
  | x :: l, k, o, h => by
    simp only [leadGo]
    refine leadGo_keep N y l (k + 1) _ ?_
    unfold leadStep
    split <;> split <;> simp [addL_mem, h]
theorem lead_eq (l : List Ins) : asc (leadI l) = leadL l := by
  obtain ⟨h1, h2⟩ := asc_facts (leadI l)
  have hu : Up (leadL l) := leadGo_up l.length l 0 [0] (by simp [Up])
  refine up_ext h1 hu fun x => ?_
  rw [h2]
  exact lead_mem l.length l 0 [0] [0] (fun _ => Iff.rfl) x
theorem lead_zero (l : List Ins) : (0 : Int) ∈ leadL l := leadGo_keep l.length 0 l 0 [0] (by simp)

theorem blkGo_spec (i : Int) : ∀ (l : List Int), Up l → ∀ (j : Nat) (x : Int), l[j]? = some x → (x ≤ i ↔ j < blkGo i l)
  | [], _, j, x, h => by simp at h
  | y :: l, hu, j, x, h => by
    rw [Up, List.pairwise_cons] at hu
    simp only [blkGo]
    cases j with
    | zero =>
      simp at h; subst h
      by_cases hy : y ≤ i
      · simp [hy]
      · simp [hy]
    | succ j =>
      have hx : l[j]? = some x := by simpa using h
      have ih := blkGo_spec i l hu.2 j x hx
      have hlt := hu.1 x (List.mem_of_getElem? hx)
      by_cases hy : y ≤ i
      · rw [if_pos hy, ih]; omega
      · rw [if_neg hy]; constructor
        · intro hxi; omega
        · intro h; omega
theorem lastLe_eq (l : List Int) (i : Int) (hu : Up l) : ∀ k, k ≤ l.length → lastLe l i k = ((min k (blkGo i l) : Nat) : Int) - 1
  | 0, _ => by simp [lastLe]
  | k + 1, hk => by
    obtain ⟨x, hx⟩ : ∃ x, l[k]? = some x := ⟨_, List.getElem?_eq_getElem (by omega)⟩
    have hs := blkGo_spec i l hu k x hx
    simp only [lastLe, hx]
    by_cases hxi : x ≤ i
    · rw [if_pos hxi]; have := hs.1 hxi; omega
    · rw [if_neg hxi, lastLe_eq l i hu k (by omega)]
      have : ¬ k < blkGo i l := fun h => hxi (hs.2 h)
      omega
theorem blk_eq (p : Pc) (i : Int) : blkI p i = blkS p i := by
  unfold blkI blkS
  rw [ok_eq, lead_eq]
  have h0 := lead_zero p.l
  have hu : Up (leadL p.l) := leadGo_up p.l.length p.l 0 [0] (by simp [Up])
  have hne : leadL p.l ≠ [] := fun h => by rw [h] at h0; cases h0
  by_cases hh : okS p = true ∧ (0 ≤ i ∧ i ≤ (p.l.length : Int) - 1)
  · rw [if_pos ⟨hh.1, hh.2, hne⟩, if_pos hh, lastLe_eq _ _ hu _ (Nat.le_refl _)]
    generalize leadL p.l = L at h0 hu hne
    cases L with
    | nil => exact absurd rfl hne
    | cons y t =>
      have hy : y ≤ i := by
        rcases List.mem_cons.1 h0 with e | h
        · omega
        · rw [Up, List.pairwise_cons] at hu; have := hu.1 0 h; omega
      have hb := blkGo_le i t
      simp only [List.drop_succ_cons, List.drop_zero, blkGo, if_pos hy, List.length_cons]
      omega
  · rw [if_neg (fun h => hh ⟨h.1, h.2.1⟩), if_neg hh]
end Go.Proofs.Ytnbahnpckfelpaa.VL
