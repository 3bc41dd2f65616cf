import Derived.Test.YtnbahnpckfelpaaVLp
/-! VL, part Q: whole regions; what is read of the slots. -/
namespace Go.Proofs.Ytnbahnpckfelpaa.VL
open Go.RowKit
set_option linter.unusedVariables false
variable {C : Ctx} {σ : S} {κ : Nat → K} {Ds : Nat → Nat → Prop} {a : Act} {tmps : Array Value} {w : World}

theorem VW_run {P : Program} {n : Nat} {Q : Exit → S → Prop} {id : Nat} {l : List Oper} (hC : C.Ok) (hP : C.P = P) (hn : C.n = n) (h : ∃ σ', runV P n l.toArray l σ = some σ' ∧ Q .normal σ') : VW C (.region id l.toArray false) Q σ := by
  obtain ⟨σ', h1, h2⟩ := h
  subst hP hn
  refine VW_region ?_
  have := runV_ok hC (K := Q .normal) (l2 := []) h1 h2
  rwa [List.append_nil] at this
theorem VW_seqR {P : Program} {n : Nat} {Q : Exit → S → Prop} {id : Nat} {l : List Oper} {y : Code} (hC : C.Ok) (hP : C.P = P) (hn : C.n = n) (h : ∃ σ', runV P n l.toArray l σ = some σ' ∧ VW C y Q σ') : VW C (.seq (.region id l.toArray false) y) Q σ :=
  VW_seq (VW_run hC hP hn h)
def After (o : Option S) (K : S → Prop) : Prop := ∃ σ', o = some σ' ∧ K σ'
theorem After_some (σ : S) (K : S → Prop) : After (some σ) K = K σ := by
  apply propext; constructor
  · rintro ⟨σ', h, hk⟩; injection h with h; exact h ▸ hk
  · exact fun h => ⟨σ, rfl, h⟩
/-- A region, what follows behind a variable. -/
theorem VW_go {P : Program} {n : Nat} {Q : Exit → S → Prop} {id : Nat} {l : List Oper} {y : Code} (hC : C.Ok) (hP : C.P = P) (hn : C.n = n) (h : ∀ K : S → Prop, (∀ σ', VW C y Q σ' → K σ') → After (runV P n l.toArray l σ) K) : VW C (.seq (.region id l.toArray false) y) Q σ :=
  VW_seqR hC hP hn (h _ fun _ h => h)
theorem VW_goE {P : Program} {n : Nat} {Q : Exit → S → Prop} {id : Nat} {l : List Oper} (hC : C.Ok) (hP : C.P = P) (hn : C.n = n) (h : ∀ K : S → Prop, (∀ σ', Q .normal σ' → K σ') → After (runV P n l.toArray l σ) K) : VW C (.region id l.toArray false) Q σ :=
  VW_run hC hP hn (h _ fun _ h => h)
theorem VW_seqC {Q : Exit → S → Prop} {c : Operand} {x y z : Code} {b : Bool} (hc : σ.opd c = .sc (.bool b)) (h1 : b = true → VW C x (thenS (VW C z Q) Q) σ) (h2 : b = false → VW C y (thenS (VW C z Q) Q) σ) : VW C (.seq (.cond c x y) z) Q σ :=
  VW_seq (VW_if hc h1 h2)

theorem put_sl (σ : S) (d : Nat) (t : T) (s : Nat) : (σ.put d t).sl s = if s = d then t else σ.sl s := rfl
theorem put_st (σ : S) (d : Nat) (t : T) (s : Nat) : (σ.put d t).st s = if s = d then σ.st d + 1 else σ.st s := rfl
theorem put_pt (σ : S) (d : Nat) (t : T) (s : Nat) : (σ.put d t).pt s = if s = d then σ.pt d + 1 else σ.pt s := rfl
theorem kill_sl (σ : S) (d s : Nat) : (σ.kill d).sl s = if s = d then .dead else σ.sl s := rfl
theorem kill_st (σ : S) (d s : Nat) : (σ.kill d).st s = if s = d then σ.st d + 1 else σ.st s := rfl
theorem kill_pt (σ : S) (d s : Nat) : (σ.kill d).pt s = if s = d then σ.pt d + 1 else σ.pt s := rfl
theorem setAt_sl (σ : S) (d : Nat) (p : List Nat) (t : T) (s : Nat) : (σ.setAt d p t).sl s = if s = d then setP (σ.sl d) p t else σ.sl s := rfl
theorem setAt_st (σ : S) (d : Nat) (p : List Nat) (t : T) (s : Nat) : (σ.setAt d p t).st s = σ.st s := rfl
theorem setAt_pt (σ : S) (d : Nat) (p : List Nat) (t : T) (s : Nat) : (σ.setAt d p t).pt s = σ.pt s := rfl
theorem setAtB_sl (σ : S) (d : Nat) (p : List Nat) (t : T) (s : Nat) : (σ.setAtB d p t).sl s = if s = d then setP (σ.sl d) p t else σ.sl s := rfl
theorem setAtB_st (σ : S) (d : Nat) (p : List Nat) (t : T) (s : Nat) : (σ.setAtB d p t).st s = if s = d then σ.st d + 1 else σ.st s := rfl
theorem setAtB_pt (σ : S) (d : Nat) (p : List Nat) (t : T) (s : Nat) : (σ.setAtB d p t).pt s = σ.pt s := rfl
theorem enter_sl (args : List T) (s : Nat) : (enterS args).sl s = args.getD s T.un := rfl
theorem enter_st (args : List T) (s : Nat) : (enterS args).st s = 0 := rfl
theorem enter_pt (args : List T) (s : Nat) : (enterS args).pt s = 0 := rfl
theorem putD_some (σ : S) (d : Nat) (t : T) : σ.putD (some d) t = σ.put d t := rfl
theorem opd_tmp (σ : S) (s : Nat) : σ.opd (.tmp s) = σ.sl s := rfl
theorem opd_const (σ : S) (v : Value) : σ.opd (.const v) = constT v := rfl
end Go.Proofs.Ytnbahnpckfelpaa.VL
