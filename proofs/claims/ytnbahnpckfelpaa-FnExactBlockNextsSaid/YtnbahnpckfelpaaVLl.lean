import Derived.Test.YtnbahnpckfelpaaVLk
import Derived.Tactics
import Derived.Lib.QuietBelow
/-! VL, part L: code. -/
namespace Go.Proofs.Ytnbahnpckfelpaa.VL
open Go.RowKit
set_option linter.unusedVariables false
variable {C : Ctx} {σ : S} {κ : Nat → K} {Ds : Nat → Nat → Prop} {a : Act} {tmps : Array Value} {w : World}

/-- What the slots are when code is left. -/
def Holds (C : Ctx) (K : S → Prop) (a : Act) (w : World) : Prop := ∃ σ κ Ds, K σ ∧ SR C σ κ Ds a.tmps w ∧ a.defers = []
def HoldsE (C : Ctx) (Q : Exit → S → Prop) (e : Exit) (a : Act) (w : World) : Prop := Holds C (Q e) a w
def VW (C : Ctx) (c : Code) (Q : Exit → S → Prop) (σ : S) : Prop := ∀ a w, Holds C (· = σ) a w → c.wp C.P (HoldsE C Q) a w
def thenS (next : S → Prop) (Q : Exit → S → Prop) : Exit → S → Prop
  | .normal, σ => next σ
  | e, σ => Q e σ
def inBlockS (id : Nat) (Q : Exit → S → Prop) : Exit → S → Prop
  | .exit id', σ => if id' = id then Q .normal σ else Q (.exit id') σ
  | e, σ => Q e σ

theorem Holds.mk {K : S → Prop} (h : SR C σ κ Ds a.tmps w) (hd : a.defers = []) (hk : K σ) : Holds C K a w := ⟨σ, κ, Ds, hk, h, hd⟩

section
variable {Q : Exit → S → Prop}
theorem VW.holds {c : Code} {K : S → Prop} (h : ∀ σ, K σ → VW C c Q σ) {a : Act} {w : World} (hk : Holds C K a w) : c.wp C.P (HoldsE C Q) a w := by
  obtain ⟨σ, κ, Ds, h1, h2, h3⟩ := hk
  exact h σ h1 a w ⟨σ, κ, Ds, rfl, h2, h3⟩
theorem VW_skip (h : Q .normal σ) : VW C .skip Q σ := fun a w ⟨σ', κ, Ds, e, h2, h3⟩ => wp_skip ⟨σ', κ, Ds, e ▸ h, h2, h3⟩
theorem VW_exit {id : Nat} (h : Q (.exit id) σ) : VW C (.exit id) Q σ := fun a w ⟨σ', κ, Ds, e, h2, h3⟩ => wp_exit ⟨σ', κ, Ds, e ▸ h, h2, h3⟩
theorem VW_ret (h : Q .ret σ) : VW C .ret Q σ := fun a w ⟨σ', κ, Ds, e, h2, h3⟩ => wp_ret ⟨σ', κ, Ds, e ▸ h, h2, h3⟩
theorem VW_mono {c : Code} {Q' : Exit → S → Prop} (h : VW C c Q σ) (hq : ∀ e σ, Q e σ → Q' e σ) : VW C c Q' σ := fun a w hh =>
  wp_mono (h a w hh) fun e a w ⟨σ', κ, Ds, h1, h2, h3⟩ => ⟨σ', κ, Ds, hq _ _ h1, h2, h3⟩
theorem VW_seq {x y : Code} (h : VW C x (thenS (VW C y Q) Q) σ) : VW C (.seq x y) Q σ := fun a w hh =>
  wp_seq (wp_mono (h a w hh) fun e a w hq => by
    cases e with
    | normal => exact VW.holds (fun σ h => h) hq
    | _ => exact hq)
theorem VW_cond {c : Operand} {x y : Code} {b : Bool} (hc : σ.opd c = .sc (.bool b)) (h : VW C (if b then x else y) Q σ) : VW C (.cond c x y) Q σ := by
  intro a w hh
  obtain ⟨σ', κ, Ds, rfl, h2, h3⟩ := hh
  have := h2.eval c
  rw [hc] at this
  exact wp_cond this (h a w ⟨σ', κ, Ds, rfl, h2, h3⟩)
theorem VW_if {c : Operand} {x y : Code} {b : Bool} (hc : σ.opd c = .sc (.bool b)) (h1 : b = true → VW C x Q σ) (h2 : b = false → VW C y Q σ) : VW C (.cond c x y) Q σ := by
  refine VW_cond hc ?_
  cases b
  · exact h2 rfl
  · exact h1 rfl
theorem VW_block {id : Nat} {c : Code} (h : VW C c (inBlockS id Q) σ) : VW C (.block id c) Q σ := fun a w hh =>
  wp_block (wp_mono (h a w hh) fun e a w hq => by
    cases e with
    | exit id' =>
      obtain ⟨σ', κ, Ds, h1, h2, h3⟩ := hq
      simp only [inBlockS] at h1
      simp only [Exit.inBlock]
      split at h1
      · rename_i e; rw [if_pos e]; exact ⟨σ', κ, Ds, h1, h2, h3⟩
      · rename_i e; rw [if_neg e]; exact ⟨σ', κ, Ds, h1, h2, h3⟩
    | _ => exact hq)
theorem least {p : Nat → Prop} (h : ∃ n, p n) : ∃ n, p n ∧ ∀ m, p m → n ≤ m := by
  obtain ⟨n, hn⟩ := h
  induction n using Nat.strongRecOn with
  | _ n ih =>
    by_cases h : ∃ m, m < n ∧ p m
    · obtain ⟨m, h1, h2⟩ := h; exact ih m h1 h2
    · exact ⟨n, hn, fun m hm => Nat.le_of_not_lt fun hlt => h ⟨m, hlt, hm⟩⟩
/-- A loop: an invariant and how far it still is. -/
theorem VW_loop {c : Code} (I : Nat → S → Prop) {n : Nat} (h0 : I n σ) (round : ∀ n σ, I n σ → VW C c (thenS (fun σ' => ∃ m, m < n ∧ I m σ') Q) σ) : VW C (.loop c) Q σ := by
  intro a w hh
  let J : Act → World → Nat → Prop := fun a w n => Holds C (I n) a w
  have hJ : ∃ n, J a w n := by
    obtain ⟨σ', κ, Ds, rfl, h2, h3⟩ := hh
    exact ⟨n, σ', κ, Ds, h0, h2, h3⟩
  have hmin : ∀ a w, ∃ m, (∃ n, J a w n) → J a w m ∧ ∀ k, J a w k → m ≤ k := fun a w => by
    by_cases h : ∃ n, J a w n
    · obtain ⟨m, hm⟩ := least h; exact ⟨m, fun _ => hm⟩
    · exact ⟨0, fun h' => absurd h' h⟩
  obtain ⟨μ, hμ⟩ : ∃ μ : Act → World → Nat, ∀ a w, (∃ n, J a w n) → J a w (μ a w) ∧ ∀ k, J a w k → μ a w ≤ k :=
    ⟨fun a w => Classical.choose (hmin a w), fun a w => Classical.choose_spec (hmin a w)⟩
  refine wp_loop (fun a w => ∃ n, J a w n) μ hJ fun a w hI => ?_
  obtain ⟨h1, h2⟩ := hμ a w hI
  refine wp_mono (VW.holds (fun σ hσ => round _ σ hσ) h1) fun e a' w' hq => ?_
  cases e with
  | normal =>
    obtain ⟨σ', κ, Ds, ⟨m, hm, hI'⟩, q2, q3⟩ := hq
    have hj : J a' w' m := ⟨σ', κ, Ds, hI', q2, q3⟩
    exact ⟨⟨m, hj⟩, Nat.lt_of_le_of_lt ((hμ a' w' ⟨m, hj⟩).2 m hj) hm⟩
  | _ => exact hq
end

/-! Regions. -/
def T.un : T := .gp 1 0 []
theorem rep_un {St Vw : Nat → Prop} {k : K} : Rep w St Vw T.un k No :=
  .gp (fun _ => No) (fun i c hi => by simp at hi) (fun _ _ h => h.elim) (fun _ _ _ h => h.elim) (fun x => ⟨fun h => h.elim, fun ⟨_, h⟩ => h.elim⟩)
theorem val_un {k : K} : val T.un k = undef := rfl
theorem ref_un {k : K} : RefOk σ κ T.un k := .gp fun i c hi => by simp at hi

/-- Whether an operation is carried out. -/
def S.want (σ : S) (ops : Array Oper) (o : Oper) : Option Bool :=
  match o.guard with
  | none => some true
  | some (j, want) =>
    match (ops[j]?).bind (·.dst) with
    | none => some false
    | some d =>
      match σ.sl d with
      | .sc (.bool b) => some (b == want)
      | .gp 1 _ [] => some false
      | _ => none
theorem SR.want (h : SR C σ κ Ds tmps w) {ops : Array Oper} {o : Oper} {b : Bool} (he : σ.want ops o = some b) : Region.wanted o (yielded ops tmps) = b := by
  unfold S.want at he
  unfold Region.wanted
  split at he
  · rename_i hg; simp only [Option.some.injEq] at he; simp only [hg]; exact he
  · rename_i j want hg
    simp only [hg]
    split at he
    · rename_i hd
      simp only [Option.some.injEq] at he
      simp [yielded, hd, ← he]
    · rename_i d hd
      have hv := h.vals d
      simp only [yielded, hd, Option.bind_some]
      have hget : tmps.getD d undef = (tmps[d]?).getD undef := by rw [Array.getD_eq_getD_getElem?]
      rw [hget] at hv
      split at he
      · rename_i b' hsl
        simp only [Option.some.injEq] at he
        rw [hsl] at hv
        simp only [val] at hv
        cases ht : tmps[d]? with
        | none => rw [ht] at hv; simp [undef] at hv
        | some v =>
          rw [ht] at hv
          simp only [Option.getD_some] at hv
          subst hv he
          simp only [BEq.beq]
          cases b' <;> cases want <;> rfl
      · rename_i f hsl
        simp only [Option.some.injEq] at he
        rw [hsl] at hv
        simp only [val] at hv
        cases ht : tmps[d]? with
        | none => subst he; rfl
        | some v =>
          rw [ht] at hv
          simp only [Option.getD_some] at hv
          subst hv he; rfl
      · cases he

def S.putD (σ : S) (d : Option Nat) (t : T) : S := match d with | some d => σ.put d t | none => σ
def dOk (n : Nat) : Option Nat → Bool
  | some d => decide (d < n)
  | none => true
theorem SR.putD (h : SR C σ κ Ds a.tmps w) {d : Option Nat} (hd : dOk C.n d = true) {t : T} {k : K} {D : Nat → Prop} (hr : Rep w C.St C.Vw t k D) (hf : Free C Ds D) (href : RefOk σ κ t k) :
    ∃ κ' Ds', SR C (σ.putD d t) κ' Ds' (a.put d (val t k)).tmps w := by
  cases d with
  | none => exact ⟨κ, Ds, h⟩
  | some d =>
    simp only [dOk, decide_eq_true_eq] at hd
    exact ⟨_, _, h.put hd hr (fun s x _ => hf.dis s x) hf.own href⟩

/-- One operation of a region, and what must hold behind it. -/
def VOp (C : Ctx) (ops : Array Oper) (o : Oper) (K : S → Prop) (σ : S) : Prop := ∀ a w, Holds C (· = σ) a w →
  ∀ (next : Act → World → Prop) (Q : Exit → Act → World → Prop), (∀ a w, Holds C K a w → next a w) →
    if Region.wanted o (yielded ops a.tmps) then o.wp C.P a w next Q else next (a.put o.dst undef) w
theorem VOp_mono {ops : Array Oper} {o : Oper} {K K' : S → Prop} (h : VOp C ops o K σ) (hk : ∀ σ, K σ → K' σ) : VOp C ops o K' σ := fun a w hh next Q hn =>
  h a w hh next Q fun a w ⟨σ', κ, Ds, h1, h2, h3⟩ => hn a w ⟨σ', κ, Ds, hk _ h1, h2, h3⟩

theorem VOp_off {ops : Array Oper} {o : Oper} {K : S → Prop} (hw : σ.want ops o = some false) (hd : dOk C.n o.dst = true) (h : K (σ.putD o.dst T.un)) : VOp C ops o K σ := by
  rintro a w ⟨σ', κ, Ds, rfl, h2, h3⟩ next Q hn
  rw [h2.want hw]
  obtain ⟨κ', Ds', h4⟩ := h2.putD hd (rep_un (k := .leaf)) Free.no ref_un
  exact hn _ _ ⟨_, κ', Ds', h, h4, by cases o.dst <;> exact h3⟩
theorem VOp_val {ops : Array Oper} {o : Oper} {K : S → Prop} {t : T} {σ' : S} (hw : σ.want ops o = some true) (hv : ValOk C o σ t σ') (hd : dOk C.n o.dst = true) (h : K (σ'.putD o.dst t)) : VOp C ops o K σ := by
  rintro a w ⟨σ0, κ, Ds, rfl, h2, h3⟩ next Q hn
  rw [h2.want hw]
  obtain ⟨v, w', κ', Ds', k, D, e1, e2, e3, e4, e5, e6⟩ := hv κ Ds a w h2
  obtain ⟨κ2, Ds2, h4⟩ := e2.putD (a := a) hd e3 e5 e6
  simp only [if_true, Oper.wp, e1, Oper.upon]
  rw [← e4]
  exact hn _ _ ⟨_, κ2, Ds2, h, h4, by cases o.dst <;> exact h3⟩
theorem VOp_skip {ops : Array Oper} {o : Oper} {K : S → Prop} {σ' : S} (hw : σ.want ops o = some true) (hv : SkipOk C o σ σ') (hd : o.dst = none) (h : K σ') : VOp C ops o K σ := by
  rintro a w ⟨σ0, κ, Ds, rfl, h2, h3⟩ next Q hn
  rw [h2.want hw]
  obtain ⟨w', κ', Ds', e1, e2⟩ := hv κ Ds a w h2
  simp only [if_true, Oper.wp, e1, Oper.upon, hd]
  exact hn _ _ ⟨_, κ', Ds', h, e2, h3⟩

/-- The operations of a region, in the order of the text. -/
def VOps (C : Ctx) (ops : Array Oper) (K : S → Prop) : List Oper → S → Prop
  | [], σ => K σ
  | o :: rest, σ => VOp C ops o (VOps C ops K rest) σ
theorem VOps_mono {ops : Array Oper} {K K' : S → Prop} (hk : ∀ σ, K σ → K' σ) : ∀ {l : List Oper} {σ : S}, VOps C ops K l σ → VOps C ops K' l σ
  | [], _, h => hk _ h
  | _ :: _, _, h => VOp_mono h fun _ h => VOps_mono hk h
theorem VOps_list {ops : Array Oper} {Q : Exit → S → Prop} : ∀ {l : List Oper} {a : Act} {w : World}, Holds C (VOps C ops (Q .normal) l) a w → wpList C.P ops (HoldsE C Q) l a w
  | [], a, w, h => wpList_nil h
  | o :: rest, a, w, ⟨σ, κ, Ds, h1, h2, h3⟩ => wpList_step fun K hK => h1 a w ⟨σ, κ, Ds, rfl, h2, h3⟩ K _ fun a w hh => hK a w (VOps_list hh)
theorem VW_region {id : Nat} {l : List Oper} {Q : Exit → S → Prop} (h : VOps C l.toArray (Q .normal) l σ) : VW C (.region id l.toArray false) Q σ := by
  rintro a w ⟨σ0, κ, Ds, rfl, h2, h3⟩
  exact wp_region_lit (VOps_list ⟨_, κ, Ds, h, h2, h3⟩)

/-! Regions that ask in which order. -/
def VAny (C : Ctx) (ops : Array Oper) (K : S → Prop) : Nat → Array Bool → S → Prop
  | 0, listed, σ => Region.ready .any ops listed = [] ∧ K σ
  | fuel + 1, listed, σ => (Region.ready .any ops listed = [] → K σ) ∧
    ∀ i ∈ Region.ready .any ops listed, ∃ o, ops[i]? = some o ∧ VOp C ops o (VAny C ops K fuel (listed.setIfInBounds i true)) σ
theorem VAny_any {ops : Array Oper} {Q : Exit → S → Prop} : ∀ {fuel : Nat} {listed : Array Bool} {a : Act} {w : World}, Holds C (VAny C ops (Q .normal) fuel listed) a w → wpAny C.P .any ops (HoldsE C Q) fuel listed a w
  | 0, listed, a, w, ⟨σ, κ, Ds, h1, h2, h3⟩ => ⟨h1.1, σ, κ, Ds, h1.2, h2, h3⟩
  | fuel + 1, listed, a, w, ⟨σ, κ, Ds, h1, h2, h3⟩ => by
    refine ⟨fun h => ⟨σ, κ, Ds, h1.1 h, h2, h3⟩, fun i hi => ?_⟩
    obtain ⟨o, ho, hv⟩ := h1.2 i hi
    have := hv a w ⟨σ, κ, Ds, rfl, h2, h3⟩ (wpAny C.P .any ops (HoldsE C Q) fuel (listed.setIfInBounds i true)) (HoldsE C Q) fun a w hh => VAny_any hh
    unfold wpOp
    simp only [ho]
    split
    · rename_i hw; rw [if_pos hw] at this; exact .inl this
    · rename_i hw; rw [if_neg hw] at this; exact this
theorem VW_any {id : Nat} {ops : Array Oper} {Q : Exit → S → Prop} (hC : C.Ok) (hm : C.P.follows .mixedOrders = true) (h : VAny C ops (Q .normal) ops.size (Array.replicate ops.size false) σ) : VW C (.region id ops true) Q σ := by
  rintro a w ⟨σ0, κ, Ds, rfl, h2, h3⟩
  exact wp_region_any hm (VAny_any ⟨_, κ, Ds, h, h2.drew, h3⟩)
end Go.Proofs.Ytnbahnpckfelpaa.VL
