import Derived.Test.YtnbahnpckfelpaaVLj
import Derived.Deep.AppendSrc
/-! VL, part J2: the store. -/
namespace Go.Proofs.Ytnbahnpckfelpaa.VL
open Go.RowKit
set_option linter.unusedVariables false
variable {C : Ctx} {σ : S} {κ : Nat → K} {Ds : Nat → Nat → Prop} {a : Act} {tmps : Array Value} {w : World}

def T.one : T → Bool
  | .sc _ | .nd .. => true
  | _ => false
theorem T.one_solid {t : T} (h : t.one = true) : t.solid = true := by cases t <;> simp_all [T.one, T.solid]
theorem one_cell {St Vw : Nat → Prop} {t : T} {k : K} {D : Nat → Prop} (h : t.one = true) (hr : Rep w St Vw t k D) : (val t k).oneCell' = true := by
  cases t with
  | sc v => cases hr with
    | sc h => cases v <;> simp [isSc] at h <;> rfl
  | nd ptr m sz cs => cases ptr <;> rfl
  | _ => simp [T.one] at h
theorem Row.one {ds : List T} {g : Nat → K} {Dg : Nat → Nat → Prop} (hr : Row C Ds w ds g Dg) (h1 : ds.all T.one = true) : ∀ v ∈ vals ds g 0, v.oneCell' = true := by
  intro v hv
  obtain ⟨i, hi⟩ := List.getElem?_of_mem hv
  rw [vals_get] at hi
  simp only [Option.map_eq_some_iff] at hi
  obtain ⟨c, hc, rfl⟩ := hi
  have := hr.rep i c hc
  rw [Nat.zero_add]
  exact one_cell (List.all_eq_true.1 h1 c (List.mem_of_getElem? hc)) this

/-- The operation o hands out nothing; the slots are σ' then. -/
def SkipOk (C : Ctx) (o : Oper) (σ : S) (σ' : S) : Prop :=
  ∀ κ Ds (a : Act) w, SR C σ κ Ds a.tmps w → ∃ w' κ' Ds', (execOp a.eval o).run C.P w = .ok .skip w' ∧ SR C σ' κ' Ds' a.tmps w'

def storeAtS (P : Program) (σ : S) (t : TypeId) (ad : Operand) (ds : List T) : Option S :=
  match σ.loc ad with
  | some (.own st s p off cs) =>
    match getP (σ.sl s) p with
    | some (.nd ptr .own sz cs') => if ds.all T.one = true ∧ off + ds.length ≤ cs'.length ∧ (P.info? t).isSome = true ∧ P.cellsOf t = ds.length then some (σ.write s p off ptr sz cs' ds) else none
    | _ => none
  | _ => none
def storeS (P : Program) (σ : S) (t : TypeId) (ad x : Operand) : Option S :=
  (σ.cons x).bind fun u => (partT u.1).bind fun ds => storeAtS P u.2 t ad ds

theorem storeS_ok (hC : C.Ok) {o : Oper} {t : TypeId} {ad x : Operand} (ho : o.op = .store t ad x) {σ' : S} (he : storeS C.P σ t ad x = some σ') : SkipOk C o σ σ' := by
  intro κ Ds a w h
  simp only [storeS, Option.bind_eq_some_iff] at he
  obtain ⟨⟨u, σ1⟩, hu, ds, hds, he⟩ := he
  obtain ⟨κ1, Ds1, k, D, h1, h2, h3, h4, h5, h6, h7⟩ := h.cons hC hu
  obtain ⟨g, Dg, r1, r2, r3⟩ := partT_row h2 h5 h4 hds
  unfold storeAtS at he
  split at he
  · rename_i st s p off cs hl
    split at he
    · rename_i ptr sz cs' hg
      split at he
      · rename_i hok
        obtain ⟨k1, k2, k3, k4⟩ := hok
        simp only [Option.some.injEq] at he; subst he
        obtain ⟨b, o', kid, cs2, off2, hat, hkind⟩ := h1.loc hl
        have hkind : cs2 = cs ∧ off2 = off := by
          rcases hkind with ⟨st', s', p', e⟩ | ⟨m, e⟩
          · cases e; exact ⟨rfl, rfl⟩
          · cases e
        obtain ⟨rfl, rfl⟩ := hkind
        obtain ⟨e1, e2, e3, e4⟩ := hat.own _ _ _ rfl
        obtain ⟨w', κ', Ds', q1, q2⟩ := h1.write hC hg r1 k2 e4 (r1.one k1)
        refine ⟨w', κ', Ds', ?_, q2⟩
        obtain ⟨info, hinfo⟩ := Option.isSome_iff_exists.1 k3
        have hsz : info.size = ds.length := by rw [← k4]; simp [Program.cellsOf, hinfo]
        have hcells : (a.eval x).cells = (vals ds g 0).toArray := by rw [← h3]; exact r2
        have hcs : ((vals ds g 0).toArray).size = info.size := by simp [vals_length, hsz]
        simp [execOp, ho, Instr.storeAt, hat.ptr, Instr.sureAddr, storeVar, sizeOf, typeInfo, hinfo, hcells, vals_length, hsz, q1]
      · cases he
    · cases he
  · cases he
end Go.Proofs.Ytnbahnpckfelpaa.VL
