import Derived.Test.YtnbahnpckfelpaaVLo2
import Derived.Test.YtnbahnpckfelpaaVLk2
/-! VL, part P: the operations, told apart. -/
namespace Go.Proofs.Ytnbahnpckfelpaa.VL
open Go.RowKit
set_option linter.unusedVariables false
variable {C : Ctx} {σ : S} {κ : Nat → K} {Ds : Nat → Nat → Prop} {a : Act} {tmps : Array Value} {w : World}

def nilC (σ : S) (x : Operand) : Option (T × S) :=
  match σ.opd x with
  | .ad st s p o => if st = σ.st s then mv σ x else none
  | .nd true .own _ _ => (match x with | .tmp _ => mv σ x | _ => none)
  | .nd true _ _ _ | .ra .. => mv σ x
  | _ => none
theorem nilC_val (hC : C.Ok) {o : Oper} {x : Operand} (ho : o.op = .nilCheck x) {t : T} {σ' : S} (he : nilC σ x = some (t, σ')) : ValOk C o σ t σ' := by
  have key : nilV σ x = some (t, σ') ∧ ∀ κ Ds (a : Act) w, SR C σ κ Ds a.tmps w → ∃ ad, a.eval x = .pointer (some ad) := by
    unfold nilC at he
    split at he
    · rename_i st s p o' hx
      split at he
      · rename_i hst
        refine ⟨by unfold nilV; rw [hx]; exact he, fun κ Ds a w h => ?_⟩
        have hev := h.eval x
        have href := h.opdRef x
        rw [hx] at hev href
        cases href with
        | solid h => simp [T.solid] at h
        | ad hle hr =>
          obtain ⟨ptr, sz, cs, b, off, g1, g2, g3⟩ := hr hst
          exact ⟨_, by rw [hev]; simp only [val, g3]; rfl⟩
      · cases he
    · rename_i sz cs hx
      split at he
      · rename_i s0
        refine ⟨by unfold nilV; rw [hx]; exact he, fun κ Ds a w h => ?_⟩
        have hev := h.eval (.tmp s0)
        have hrep := h.opdRep (.tmp s0)
        rw [hx] at hev hrep
        obtain ⟨_, _, _, h4⟩ := hrep.own_cap
        obtain ⟨b, o', hA⟩ := h4 (.inr rfl)
        exact ⟨_, by rw [hev]; simp only [val, hA]; rfl⟩
      · cases he
    · rename_i m sz cs hm hx
      refine ⟨by unfold nilV; rw [hx]; exact he, fun κ Ds a w h => ?_⟩
      have hev := h.eval x
      have hrep := h.opdRep x
      rw [hx] at hev hrep
      generalize opdK κ x = kk at hev hrep
      generalize opdD Ds x = DD at hrep
      cases hrep with
      | own => exact absurd rfl hm
      | look n b off hm' hsz hn hc hA hp => exact ⟨_, by rw [hev]; simp only [val, K.A, hp rfl]; rfl⟩
    · rename_i m cs off hx
      refine ⟨by unfold nilV; rw [hx]; exact he, fun κ Ds a w h => ?_⟩
      have hev := h.eval x
      have hrep := h.opdRep x
      rw [hx] at hev hrep
      generalize opdK κ x = kk at hev hrep
      generalize opdD Ds x = DD at hrep
      cases hrep with
      | ra b o hm hA => exact ⟨_, by rw [hev]; simp only [val, K.A, hA]; rfl⟩
    · cases he
  exact nilV_val hC ho key.1 key.2

/-- An operation that hands out a value: its tree, and the slots then. -/
def opV (P : Program) (σ : S) (o : Oper) : Option (T × S) :=
  match o.op with
  | .move x => mv σ x
  | .assign x => (match nilT P o.type x with | some t => some (t, σ) | none => asg σ o.dst x)
  | .convert src dst x => convV P σ src dst x
  | .pick c x y => pickV σ c x y
  | .alloc e => newZ P σ e
  | .box e x => boxV σ x
  | .build t parts => buildV P σ t parts.toList
  | .buildSlice t len parts => buildSliceV P σ t len parts.toList
  | .load t x => ldV P σ t x
  | .nilCheck x => nilC σ x
  | .binOp op t x y _ => binV P σ op t x y
  | .unOp op _ x => unV σ op x
  | .makeFunc fn first captured => fnV σ fn first captured
  | .makeSlice t l c => makeV P σ t l c
  | .slice t x lo hi none => cutV P σ t x lo hi
  | .fieldAddr t x f => fieldV P σ t x f
  | .indexAddr t x ix => idxV P σ t x ix
  | .index t x ix => ixV P σ t x ix
  | .extract x i => extV σ x i
  | .call c =>
    match c.callee, c.args.toList with
    | .builtin .len, [x] => lenV P σ c.argTypes x
    | .builtin .max, [x, y] => maxV σ x y
    | .builtin .clear, [x] => clearV P σ c.argTypes x
    | .builtin .append, [x, y] => if c.argTypes.size = 2 then appendV P σ c.argTypes x y else none
    | _, _ => none
  | _ => none
theorem opV_val (hC : C.Ok) {o : Oper} {t : T} {σ' : S} (he : opV C.P σ o = some (t, σ')) : ValOk C o σ t σ' := by
  have hm : ∀ x, (o.op = .move x ∨ o.op = .assign x) → ∀ κ Ds (a : Act) w, SR C σ κ Ds a.tmps w → execOp a.eval o = pure (.value (a.eval x)) := by
    rintro x (h | h) κ Ds a w _ <;> simp [execOp, h]
  unfold opV at he
  split at he
  · rename_i x h; exact mv_val hC (hm x (.inl h)) he
  · rename_i x h
    split at he
    · rename_i t' hn
      simp only [Option.some.injEq, Prod.mk.injEq] at he
      obtain ⟨rfl, rfl⟩ := he
      exact nilT_val h hn
    · exact asg_val hC (hm x (.inr h)) he
  · rename_i h; exact convV_val hC h he
  · rename_i h; exact pickV_val h he
  · rename_i h; exact newZ_val hC h he
  · rename_i h; exact boxV_val hC h he
  · rename_i h; exact buildV_val hC h he
  · rename_i h; exact buildSliceV_val hC h he
  · rename_i h; exact ldV_val hC h he
  · rename_i h; exact nilC_val hC h he
  · rename_i h; exact binV_val h he
  · rename_i h; exact unV_val h he
  · rename_i h; exact fnV_val h he
  · rename_i h; exact makeV_val hC h he
  · rename_i h; exact cutV_val h he
  · rename_i h; exact fieldV_val hC h he
  · rename_i h; exact idxV_val hC h he
  · rename_i h; exact ixV_val h he
  · rename_i h; exact extV_val h he
  · rename_i c h
    split at he
    · rename_i x h1 h2
      have e : c.args = #[x] := by apply Array.ext'; simpa using h2
      refine lenV_val (ts := c.argTypes) (x := x) ?_ he
      rw [h]; cases c; simp_all
    · rename_i x y h1 h2
      have e : c.args = #[x, y] := by apply Array.ext'; simpa using h2
      refine maxV_val (ts := c.argTypes) (x := x) (y := y) ?_ he
      rw [h]; cases c; simp_all
    · rename_i x h1 h2
      have e : c.args = #[x] := by apply Array.ext'; simpa using h2
      refine clearV_val hC (ts := c.argTypes) (x := x) ?_ he
      rw [h]; cases c; simp_all
    · rename_i x y h1 h2
      have e : c.args = #[x, y] := by apply Array.ext'; simpa using h2
      split at he
      · rename_i h3
        refine appendV_val hC h3 (x := x) (y := y) ?_ he
        rw [h]; cases c; simp_all
      · cases he
    · cases he
  · cases he
/-- One that hands out nothing. -/
def opS (P : Program) (σ : S) (o : Oper) : Option S :=
  match o.op with
  | .store t x y => storeS P σ t x y
  | _ => none
theorem opS_ok (hC : C.Ok) {o : Oper} {σ' : S} (he : opS C.P σ o = some σ') : SkipOk C o σ σ' := by
  unfold opS at he
  split at he
  · rename_i h; exact storeS_ok hC h he
  · cases he

/-- One operation of a region, if it is no call. -/
def stepV (P : Program) (n : Nat) (ops : Array Oper) (σ : S) (o : Oper) : Option S :=
  if dOk n o.dst then
    match σ.want ops o with
    | some false => some (σ.putD o.dst T.un)
    | some true =>
      match opV P σ o with
      | some u => some (u.2.putD o.dst u.1)
      | none => if o.dst = none then opS P σ o else none
    | none => none
  else none
theorem stepV_ok (hC : C.Ok) {ops : Array Oper} {o : Oper} {σ' : S} {K : S → Prop} (he : stepV C.P C.n ops σ o = some σ') (h : K σ') : VOp C ops o K σ := by
  unfold stepV at he
  split at he
  · rename_i hd
    split at he
    · rename_i hw; simp only [Option.some.injEq] at he; subst he; exact VOp_off hw hd h
    · rename_i hw
      split at he
      · rename_i u hu; simp only [Option.some.injEq] at he; subst he; exact VOp_val hw (opV_val hC hu) hd h
      · split at he
        · rename_i hn; exact VOp_skip hw (opS_ok hC he) hn h
        · cases he
    · cases he
  · cases he
def runV (P : Program) (n : Nat) (ops : Array Oper) : List Oper → S → Option S
  | [], σ => some σ
  | o :: l, σ => (stepV P n ops σ o).bind (runV P n ops l)
theorem runV_ok (hC : C.Ok) {ops : Array Oper} {K : S → Prop} {l2 : List Oper} : ∀ {l : List Oper} {σ σ' : S}, runV C.P C.n ops l σ = some σ' → VOps C ops K l2 σ' → VOps C ops K (l ++ l2) σ
  | [], σ, σ', he, h => by simp [runV] at he; subst he; exact h
  | o :: l, σ, σ', he, h => by
    simp only [runV, Option.bind_eq_some_iff] at he
    obtain ⟨σ1, h1, h2⟩ := he
    exact stepV_ok hC h1 (runV_ok hC h2 h)
end Go.Proofs.Ytnbahnpckfelpaa.VL
