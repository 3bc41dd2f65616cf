import Derived.Test.YtnbahnpckfelpaaVLn
/-! VL, part O: a call: what it is given. -/
namespace Go.Proofs.Ytnbahnpckfelpaa.VL
open Go.RowKit
set_option linter.unusedVariables false
variable {C : Ctx} {σ : S} {κ : Nat → K} {Ds : Nat → Nat → Prop} {a : Act} {tmps : Array Value} {w : World}

/-! What is only looked at. -/
def look1 (σ : S) : T → Option T
  | .sc v => some (.sc v)
  | .nd ptr m sz cs => some (vwOf (.nd ptr m sz cs))
  | .rf st s p lo n sz =>
    if st = σ.st s then
      match getP (σ.sl s) p with
      | some (.nd false .own sz' cs) => if sz' = sz then some (vwOf (.sl .own sz ((cs.drop (lo * sz)).take (n * sz)))) else none
      | _ => none
    else none
  | .ad st s p off =>
    if st = σ.st s then
      match getP (σ.sl s) p with
      | some (.nd ptr .own sz cs) => if off = 0 ∧ ptr = true then some (vwOf (.nd true .own sz cs)) else some (.ra .vw (vwsOf cs) off)
      | _ => none
    else none
  | .ra m cs off => some (.ra .vw (vwsOf cs) off)
  | _ => none
def look1s (σ : S) : List T → Option (List T)
  | [] => some []
  | c :: cs => (look1 σ c).bind fun t => (look1s σ cs).map fun ts => t :: ts
def lookC (σ : S) : T → Option T
  | .gp kind f cs => (look1s σ cs).map fun ts => .gp kind f ts
  | t => look1 σ t
def lookT (σ : S) (x : Operand) : Option T :=
  match x with
  | .const (.slice none 0 0) => some (.sl .vw 1 [])
  | x => lookC σ (σ.opd x)

/-- Who may be looked at while a call lasts. -/
def Ctx.looks (C : Ctx) (Ds : Nat → Nat → Prop) (x : Nat) : Prop := C.Vw x ∨ C.St x ∨ ∃ s, Ds s x

theorem vwOf_closed (ptr : Bool) (m : Md) (sz : Nat) (cs : List T) : (vwOf (.nd ptr m sz cs)).closed = true := rfl

theorem look1_ok (hC : C.Ok) (h : SR C σ κ Ds tmps w) {t u : T} {k : K} {D : Nat → Prop} (hr : Rep w C.St C.Vw t k D) (hD : ∀ x, D x → ∃ s, Ds s x) (href : RefOk σ κ t k) (he : look1 σ t = some u) :
    ∃ k', Rep w C.St (C.looks Ds) u k' No ∧ val u k' = val t k ∧ u.closed = true := by
  have hmore : ∀ {t : T} {k : K}, Rep w C.St C.Vw t k No → Rep w C.St (C.looks Ds) t k No := fun h => h.more (fun _ h => h) fun _ h => .inl h
  have hview : ∀ {t : T} {k : K} {D : Nat → Prop}, Rep w C.St C.Vw t k D → (∀ x, D x → ∃ s, Ds s x) → Rep w C.St (C.looks Ds) (vwOf t) k No := fun {t k D} hr hD =>
    hr.view (fun x hx => by
      rcases hx with hx | hx | hx
      · exact .inr (.inr (hD x hx))
      · exact .inr (.inl hx)
      · exact .inl hx)
  unfold look1 at he
  split at he
  · simp only [Option.some.injEq] at he; subst he
    cases hr with
    | sc hs => exact ⟨k, .sc hs, rfl, rfl⟩
  · rename_i ptr m sz cs
    simp only [Option.some.injEq] at he; subst he
    exact ⟨k, hview hr hD, val_vwOf _ _, vwOf_closed _ _ _ _⟩
  · rename_i st s p lo n sz
    split at he
    · rename_i hst
      split at he
      · rename_i sz' cs hg
        split at he
        · rename_i hsz
          subst hsz
          simp only [Option.some.injEq] at he; subst he
          cases href with
          | solid h => simp [T.solid] at h
          | rf hle hrf =>
            obtain ⟨cs', g1, g2, g3, g4, _⟩ := hrf hst
            rw [hg] at g1
            simp only [Option.some.injEq, T.nd.injEq, true_and] at g1
            subst g1
            obtain ⟨D'', r1, r2⟩ := (h.rep s).get hg
            obtain ⟨k', D', q1, q2, q3, q4, q5, q6⟩ := r1.win g2 g3 g4
            refine ⟨k', hview q1 fun x hx => ⟨s, r2 x (q2 x hx)⟩, ?_, vwOf_closed _ _ _ _⟩
            rw [val_vwOf]; simp only [val, q3, q4, q5, Nat.mul_div_cancel _ q6]
        · cases he
      · cases he
    · cases he
  · rename_i st s p off
    split at he
    · rename_i hst
      split at he
      · rename_i ptr sz cs hg
        cases href with
        | solid h => simp [T.solid] at h
        | ad hle hrf =>
          obtain ⟨ptr', sz', cs', b, o, g1, g2, g3⟩ := hrf hst
          rw [hg] at g1
          simp only [Option.some.injEq, T.nd.injEq, true_and] at g1
          obtain ⟨rfl, rfl, rfl⟩ := g1
          obtain ⟨D'', r1, r2⟩ := (h.rep s).get hg
          split at he
          · rename_i hz
            obtain ⟨rfl, rfl⟩ := hz
            simp only [Option.some.injEq] at he; subst he
            exact ⟨_, hview r1 fun x hx => ⟨s, r2 x hx⟩, by rw [val_vwOf]; simp [val, g2, g3], vwOf_closed _ _ _ _⟩
          · simp only [Option.some.injEq] at he; subst he
            have hv0 := hview r1 fun x hx => ⟨s, r2 x hx⟩
            simp only [vwOf] at hv0
            generalize getK (κ s) p = kk at hv0 g2
            cases hv0 with
            | @look _ _ _ _ A cap kid n b' off' hm hsz hn hc hA hp hs hv hk =>
              refine ⟨.mk k.A 0 kid, ?_, rfl, rfl⟩
              by_cases hne : vwsOf cs = []
              · rw [hne]; exact .ra b o (by simp) g3 (by simp) (by simp) (by simp) (by simp)
              · obtain ⟨e1, _, e2⟩ := hA hne
                simp only [K.A] at g2
                rw [e1, Option.some.injEq, Addr.mk.injEq] at g2
                obtain ⟨rfl, rfl, _⟩ := g2
                exact .ra b' off' (by simp) g3 (fun _ => ⟨by simp, e2⟩) hs hv hk
      · cases he
    · cases he
  · simp only [Option.some.injEq] at he; subst he
    have := hview hr hD
    simp only [vwOf] at this
    exact ⟨k, this, rfl, rfl⟩
  · cases he
end Go.Proofs.Ytnbahnpckfelpaa.VL
