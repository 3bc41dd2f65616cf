import Derived.Test.YtnbahnpckfelpaaVLq
/-! VL, part R: one operation at a time, what follows behind a variable. -/
namespace Go.Proofs.Ytnbahnpckfelpaa.VL
open Go.RowKit
set_option linter.unusedVariables false
variable {C : Ctx} {σ : S}

theorem go_nil {ops : Array Oper} {K : S → Prop} (h : K σ) : VOps C ops K [] σ := h
theorem go_op {P : Program} {n : Nat} {ops : Array Oper} {K : S → Prop} {o : Oper} {l : List Oper} (hC : C.Ok) (hP : C.P = P) (hn : C.n = n)
    (h : ∀ K' : S → Prop, (∀ σ', VOps C ops K l σ' → K' σ') → After (stepV P n ops σ o) K') : VOps C ops K (o :: l) σ := by
  subst hP hn
  obtain ⟨σ', h1, h2⟩ := h _ fun _ h => h
  exact stepV_ok hC h1 h2

def callArgs (bs : List Bool) (xs : List Operand) (σ : S) : Option (List T × S) := (takeAs bs xs σ).bind fun u => (lookAs u.2 u.1 xs).map fun ts => (ts, u.2)
def AfterC (o : Option (List T × S)) (F : List T → S → Prop) : Prop := ∃ ts σ1, o = some (ts, σ1) ∧ F ts σ1
theorem AfterC_some (ts : List T) (σ : S) (F : List T → S → Prop) : AfterC (some (ts, σ)) F = F ts σ := by
  apply propext; constructor
  · rintro ⟨ts', σ', h, hk⟩; injection h with h; injection h with h1 h2; exact h1 ▸ h2 ▸ hk
  · exact fun h => ⟨ts, σ, rfl, h⟩
/-- A call of a function of the program. -/
theorem go_call {P : Program} {n : Nat} {ops : Array Oper} {K : S → Prop} {l : List Oper} {d : Option Nat} {f : Nat} {xs : Array Operand} {tys : Array TypeId} {ty : TypeId} {pos : String} {af : Array Edge} (bs : List Bool)
    (hC : C.Ok) (hP : C.P = P) (hn : C.n = n) (hf : Fun P f) (hd : dOk n d = true)
    (h : ∀ F : List T → S → Prop, (∀ ts σ1, (∃ R, Gives P f ts R ∧ ∀ outs t, R outs t → noVw t = true ∧ VOps C ops K l (σ1.putD d t)) → F ts σ1) → AfterC (callArgs bs xs.toList σ) F) :
    VOps C ops K (⟨d, .call { callee := .value (.func f), args := xs, argTypes := tys }, ty, pos, af, none⟩ :: l) σ := by
  subst hP hn
  obtain ⟨ts, σ1, h1, R, h2, h3⟩ := h _ fun _ _ h => h
  simp only [callArgs, Option.bind_eq_some_iff, Option.map_eq_some_iff, Prod.mk.injEq] at h1
  obtain ⟨⟨us, σ2⟩, e1, ts', e2, rfl, rfl⟩ := h1
  exact VOp_call hC (by rfl) rfl hf bs e1 e2 h2 hd h3
/-- The same, guarded. -/
theorem go_callG {P : Program} {n : Nat} {ops : Array Oper} {K : S → Prop} {l : List Oper} {d : Option Nat} {f : Nat} {xs : Array Operand} {tys : Array TypeId} {ty : TypeId} {pos : String} {af : Array Edge} {g : Option (Nat × Bool)} (bs : List Bool)
    (hC : C.Ok) (hP : C.P = P) (hn : C.n = n) (hf : Fun P f) (hd : dOk n d = true) (hw : σ.want ops ⟨d, .call { callee := .value (.func f), args := xs, argTypes := tys }, ty, pos, af, g⟩ = some true)
    (h : ∀ F : List T → S → Prop, (∀ ts σ1, (∃ R, Gives P f ts R ∧ ∀ outs t, R outs t → noVw t = true ∧ VOps C ops K l (σ1.putD d t)) → F ts σ1) → AfterC (callArgs bs xs.toList σ) F) :
    VOps C ops K (⟨d, .call { callee := .value (.func f), args := xs, argTypes := tys }, ty, pos, af, g⟩ :: l) σ := by
  subst hP hn
  obtain ⟨ts, σ1, h1, R, h2, h3⟩ := h _ fun _ _ h => h
  simp only [callArgs, Option.bind_eq_some_iff, Option.map_eq_some_iff, Prod.mk.injEq] at h1
  obtain ⟨⟨us, σ2⟩, e1, ts', e2, rfl, rfl⟩ := h1
  exact VOp_call hC hw rfl hf bs e1 e2 h2 hd h3
/-- An operation that is not carried out. -/
theorem go_off {P : Program} {n : Nat} {ops : Array Oper} {K : S → Prop} {o : Oper} {l : List Oper} (hn : C.n = n) (hd : dOk n o.dst = true) (hw : σ.want ops o = some false) (h : VOps C ops K l (σ.putD o.dst T.un)) : VOps C ops K (o :: l) σ := by
  subst hn
  exact VOp_off hw hd h

theorem go_region {Q : Exit → S → Prop} {id : Nat} {l : List Oper} (h : VOps C l.toArray (Q .normal) l σ) : VW C (.region id l.toArray false) Q σ := VW_region h
theorem go_then {next : S → Prop} {Q : Exit → S → Prop} (h : next σ) : thenS next Q .normal σ := h
theorem go_thenE {next : S → Prop} {Q : Exit → S → Prop} {i : Nat} (h : Q (.exit i) σ) : thenS next Q (.exit i) σ := h
theorem go_thenR {next : S → Prop} {Q : Exit → S → Prop} (h : Q .ret σ) : thenS next Q .ret σ := h
theorem go_blkN {b : Nat} {Q : Exit → S → Prop} (h : Q .normal σ) : inBlockS b Q .normal σ := h
theorem go_blkR {b : Nat} {Q : Exit → S → Prop} (h : Q .ret σ) : inBlockS b Q .ret σ := h
theorem go_blkE {b : Nat} {Q : Exit → S → Prop} (h : Q .normal σ) : inBlockS b Q (.exit b) σ := by simpa [inBlockS] using h
theorem go_blkO {b i : Nat} {Q : Exit → S → Prop} (hne : (i == b) = false) (h : Q (.exit i) σ) : inBlockS b Q (.exit i) σ := by
  have : i ≠ b := by simpa using hne
  simpa [inBlockS, this] using h
/-- What is handed back, what follows behind a variable. -/
theorem go_retR {P : Program} {rs : List ResultVar} {m : Nat} {R : List T → T → Prop} (h : ∀ F : List T → S → Prop, (∀ ts σ', R (σ'.outs m) (packT ts) → F ts σ') → AfterC (resT P rs σ) F) : RetQ P rs m R .ret σ := by
  obtain ⟨ts, σ1, h1, h2⟩ := h _ fun _ _ h => h
  exact ⟨ts, σ1, h1, h2⟩
theorem go_retN {P : Program} {rs : List ResultVar} {m : Nat} {R : List T → T → Prop} (h : ∀ F : List T → S → Prop, (∀ ts σ', R (σ'.outs m) (packT ts) → F ts σ') → AfterC (resT P rs σ) F) : RetQ P rs m R .normal σ := by
  obtain ⟨ts, σ1, h1, h2⟩ := h _ fun _ _ h => h
  exact ⟨ts, σ1, h1, h2⟩
theorem go_if {Q : Exit → S → Prop} {c : Operand} {x y : Code} (h : ∀ F : T → Prop, (∀ b : Bool, (b = true → VW C x Q σ) → (b = false → VW C y Q σ) → F (.sc (.bool b))) → F (σ.opd c)) : VW C (.cond c x y) Q σ := by
  obtain ⟨b, hb, h1, h2⟩ := h (fun t => ∃ b : Bool, t = .sc (.bool b) ∧ (b = true → VW C x Q σ) ∧ (b = false → VW C y Q σ)) fun b h1 h2 => ⟨b, rfl, h1, h2⟩
  exact VW_if hb h1 h2
theorem setR_zero (cs ds : List T) : VL.setR cs 0 ds = ds ++ cs.drop ds.length := by simp [VL.setR]
theorem setR_succ (c : T) (cs ds : List T) (k : Nat) : VL.setR (c :: cs) (k + 1) ds = c :: VL.setR cs k ds := by
  simp only [VL.setR, List.take_succ_cons, List.cons_append, show k + 1 + ds.length = (k + ds.length) + 1 by omega, List.drop_succ_cons]
theorem md_vw : (Md.vw != Md.own) = true := rfl
theorem md_ro : (Md.ro != Md.own) = true := rfl
theorem md_own : (Md.own != Md.own) = false := rfl
theorem tt : (true == true) = true := rfl
theorem tf : (true == false) = false := rfl
theorem ft : (false == true) = false := rfl
theorem ff : (false == false) = true := rfl
theorem Fun.mk' {P : Program} {f : Nat} {fn : Func} {c : Code} (h1 : P.funcs[f]? = some fn) (h2 : fn.body = some c) (h3 : (fn.name == "runtime.NumGoroutine") = false) : Fun P f := ⟨fn, c, h1, h2, h3⟩
end Go.Proofs.Ytnbahnpckfelpaa.VL
