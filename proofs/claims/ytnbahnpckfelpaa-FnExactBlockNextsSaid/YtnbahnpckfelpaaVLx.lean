import Derived.Test.YtnbahnpckfelpaaVLw
import Derived.Test.YtnbahnpckfelpaaVLo3
/-! VL, part X: one operation at a time, in either kind of region; what a call lends; function values; guards. -/
namespace Go.Proofs.Ytnbahnpckfelpaa.VL
open Go.RowKit
set_option linter.unusedVariables false
variable {C : Ctx} {σ : S}

theorem go_cons {ops : Array Oper} {K : S → Prop} {o : Oper} {l : List Oper} (h : VOp C ops o (VOps C ops K l) σ) : VOps C ops K (o :: l) σ := h
def AnyR (C : Ctx) (ops : Array Oper) (K : S → Prop) (fuel : Nat) (listed : Array Bool) (σ : S) : List Nat → Prop
  | [] => True
  | i :: is => (∃ o, ops[i]? = some o ∧ VOp C ops o (VAny C ops K fuel (listed.setIfInBounds i true)) σ) ∧ AnyR C ops K fuel listed σ is
theorem AnyR_all {ops : Array Oper} {K : S → Prop} {fuel : Nat} {listed : Array Bool} : ∀ {L : List Nat}, AnyR C ops K fuel listed σ L → ∀ i ∈ L, ∃ o, ops[i]? = some o ∧ VOp C ops o (VAny C ops K fuel (listed.setIfInBounds i true)) σ
  | [], _, i, hi => by cases hi
  | j :: L, h, i, hi => by
    rcases List.mem_cons.1 hi with rfl | hi
    · exact h.1
    · exact AnyR_all h.2 i hi
theorem any_done {ops : Array Oper} {K : S → Prop} {fuel : Nat} {listed : Array Bool} (hr : Region.ready .any ops listed = []) (h : K σ) : VAny C ops K fuel listed σ := by
  cases fuel with
  | zero => exact ⟨hr, h⟩
  | succ n => exact ⟨fun _ => h, fun i hi => by rw [hr] at hi; cases hi⟩
theorem any_go {ops : Array Oper} {K : S → Prop} {fuel : Nat} {listed : Array Bool} (i : Nat) (is : List Nat) (hr : Region.ready .any ops listed = i :: is) (h : AnyR C ops K fuel listed σ (i :: is)) : VAny C ops K (fuel + 1) listed σ :=
  ⟨fun e => (by rw [hr] at e; cases e), fun j hj => (by rw [hr] at hj; exact AnyR_all h j hj)⟩
theorem any_nil {ops : Array Oper} {K : S → Prop} {fuel : Nat} {listed : Array Bool} : AnyR C ops K fuel listed σ [] := trivial
theorem any_one {ops : Array Oper} {K : S → Prop} {fuel i : Nat} {is : List Nat} {listed : Array Bool} (h : ∀ F : Option Oper → Prop, (∀ o, VOp C ops o (VAny C ops K fuel (listed.setIfInBounds i true)) σ → F (some o)) → F ops[i]?) (h2 : AnyR C ops K fuel listed σ is) : AnyR C ops K fuel listed σ (i :: is) := by
  obtain ⟨o, ho, h⟩ := h (fun x => ∃ o, x = some o ∧ VOp C ops o (VAny C ops K fuel (listed.setIfInBounds i true)) σ) fun o h => ⟨o, rfl, h⟩
  exact ⟨⟨o, ho, h⟩, h2⟩
theorem go_any {id : Nat} {ops : Array Oper} {Q : Exit → S → Prop} (hC : C.Ok) (hm : C.P.follows .mixedOrders = true) (n : Nat) (ls : Array Bool) (hn : ops.size = n) (hl : Array.replicate n false = ls) (h : VAny C ops (Q .normal) n ls σ) : VW C (.region id ops true) Q σ := by
  subst hn hl
  exact VW_any hC hm h

theorem op_op {P : Program} {n : Nat} {ops : Array Oper} {K : S → Prop} {o : Oper} (hC : C.Ok) (hP : C.P = P) (hn : C.n = n)
    (h : ∀ K' : S → Prop, (∀ σ', K σ' → K' σ') → After (stepV P n ops σ o) K') : VOp C ops o K σ := by
  subst hP hn
  obtain ⟨σ', h1, h2⟩ := h _ fun _ h => h
  exact stepV_ok hC h1 h2
/-- A guard that is not yet decided. -/
theorem op_guard {ops : Array Oper} {K : S → Prop} {d : Option Nat} {op : Op} {ty : TypeId} {pos : String} {af : Array Edge} {j : Nat} {want : Bool}
    (h : ∀ F : Option T → Prop, (∀ b : Bool, (b = true → VOp C ops ⟨d, op, ty, pos, af, some (j, want)⟩ K σ) → (b = false → VOp C ops ⟨d, op, ty, pos, af, some (j, want)⟩ K σ) → F (some (.sc (.bool b)))) → F (((ops[j]?).bind (·.dst)).map σ.sl)) : VOp C ops ⟨d, op, ty, pos, af, some (j, want)⟩ K σ := by
  obtain ⟨b, hb, h1, h2⟩ := h (fun t => ∃ b : Bool, t = some (.sc (.bool b)) ∧ (b = true → VOp C ops ⟨d, op, ty, pos, af, some (j, want)⟩ K σ) ∧ (b = false → VOp C ops ⟨d, op, ty, pos, af, some (j, want)⟩ K σ)) fun b h1 h2 => ⟨b, rfl, h1, h2⟩
  cases b
  · exact h2 rfl
  · exact h1 rfl

/-- A call of a function of the program. -/
theorem op_call {P : Program} {n : Nat} {ops : Array Oper} {K : S → Prop} {d : Option Nat} {f : Nat} {xs : Array Operand} {tys : Array TypeId} {ty : TypeId} {pos : String} {af : Array Edge} {g : Option (Nat × Bool)} (bs : List Bool)
    (hC : C.Ok) (hP : C.P = P) (hn : C.n = n) (hf : Fun P f)
    (h : ∀ F : List T → S → Prop, (∀ ts σ1, (∃ R, Gives P f ts R ∧ ∀ outs t, R outs t → noVw t = true ∧ K (σ1.putD d t)) → F ts σ1) →
      AfterC (if dOk n d = true ∧ σ.want ops ⟨d, .call { callee := .value (.func f), args := xs, argTypes := tys }, ty, pos, af, g⟩ = some true then callArgs bs xs.toList σ else none) F) :
    VOp C ops ⟨d, .call { callee := .value (.func f), args := xs, argTypes := tys }, ty, pos, af, g⟩ K σ := by
  subst hP hn
  obtain ⟨ts, σ1, h1, R, h2, h3⟩ := h _ fun _ _ h => h
  split at h1
  · rename_i hw
    simp only [callArgs, Option.bind_eq_some_iff, Option.map_eq_some_iff, Prod.mk.injEq] at h1
    obtain ⟨⟨us, σ2⟩, e1, ts', e2, rfl, rfl⟩ := h1
    exact VOp_call hC hw.2 rfl hf bs e1 e2 h2 hw.1 h3
  · cases h1

def lendArgs (bs : List Bool) (j : Nat) (xs : List Operand) (σ : S) : Option (List T × S × Nat × List Nat × T) :=
  (takeAs bs xs σ).bind fun u => match u.1[j]?, xs[j]? with
    | some none, some x => (lendP u.2 x).bind fun q => (lookAs (u.2.hold q.1 q.2.1) (u.1.set j (some q.2.2)) xs).map fun ts => (ts, u.2, q.1, q.2.1, q.2.2)
    | _, _ => none
def AfterN (o : Option (List T × S × Nat × List Nat × T)) (F : List T → S → Nat → List Nat → T → Prop) : Prop := ∃ ts σ1 s p t, o = some (ts, σ1, s, p, t) ∧ F ts σ1 s p t
theorem AfterN_some (ts : List T) (σ : S) (s : Nat) (p : List Nat) (t : T) (F : List T → S → Nat → List Nat → T → Prop) : AfterN (some (ts, σ, s, p, t)) F = F ts σ s p t := by
  apply propext; constructor
  · rintro ⟨ts', σ', s', p', t', h, hk⟩
    simp only [Option.some.injEq, Prod.mk.injEq] at h
    obtain ⟨rfl, rfl, rfl, rfl, rfl⟩ := h
    exact hk
  · exact fun h => ⟨ts, σ, s, p, t, rfl, h⟩
/-- A call that lends one argument. -/
theorem op_lend {P : Program} {n : Nat} {ops : Array Oper} {K : S → Prop} {d : Option Nat} {f : Nat} {xs : Array Operand} {tys : Array TypeId} {ty : TypeId} {pos : String} {af : Array Edge} {g : Option (Nat × Bool)} (bs : List Bool) (j : Nat)
    (hC : C.Ok) (hP : C.P = P) (hn : C.n = n) (hf : Fun P f)
    (h : ∀ F : List T → S → Nat → List Nat → T → Prop, (∀ ts σ1 s p t, (∃ R, Gives P f ts R ∧ ∀ outs r, R outs r → noVw r = true ∧ ∃ t', outs[j]? = some t' ∧ noVw t' = true ∧ sameHead t t' = true ∧ K ((σ1.back s p t').putD d r)) → F ts σ1 s p t) →
      AfterN (if dOk n d = true ∧ σ.want ops ⟨d, .call { callee := .value (.func f), args := xs, argTypes := tys }, ty, pos, af, g⟩ = some true then lendArgs bs j xs.toList σ else none) F) :
    VOp C ops ⟨d, .call { callee := .value (.func f), args := xs, argTypes := tys }, ty, pos, af, g⟩ K σ := by
  subst hP hn
  obtain ⟨ts, σ1, s, p, t, h1, R, h2, h3⟩ := h _ fun _ _ _ _ _ h => h
  split at h1
  · rename_i hw
    simp only [lendArgs, Option.bind_eq_some_iff] at h1
    obtain ⟨⟨us, σ2⟩, e1, h1⟩ := h1
    split at h1
    · rename_i x hu hx
      simp only [Option.bind_eq_some_iff, Option.map_eq_some_iff, Prod.mk.injEq] at h1
      obtain ⟨⟨s', p', t'⟩, e2, ts', e3, rfl, rfl, rfl, rfl, rfl⟩ := h1
      exact VOp_lend hC hw.2 rfl hf bs j e1 hu hx e2 e3 h2 hw.1 h3
    · cases h1
  · cases h1

def fnArgs (bs : List Bool) (xs : List Operand) (d : Nat) (σ : S) : Option (Nat × List T × S) :=
  match σ.sl d with
  | .gp 2 f cs => (takeAs bs xs σ).bind fun u => match u.2.sl d with
    | .gp 2 f' cs' => (lookAs u.2 u.1 xs).bind fun ts => (look1s u.2 cs').map fun caps => (f', ts ++ caps, u.2)
    | _ => none
  | _ => none
def AfterF (o : Option (Nat × List T × S)) (F : Nat → List T → S → Prop) : Prop := ∃ f ts σ1, o = some (f, ts, σ1) ∧ F f ts σ1
theorem AfterF_some (f : Nat) (ts : List T) (σ : S) (F : Nat → List T → S → Prop) : AfterF (some (f, ts, σ)) F = F f ts σ := by
  apply propext; constructor
  · rintro ⟨f', ts', σ', h, hk⟩
    simp only [Option.some.injEq, Prod.mk.injEq] at h
    obtain ⟨rfl, rfl, rfl⟩ := h
    exact hk
  · exact fun h => ⟨f, ts, σ, rfl, h⟩
/-- A call of a function value. -/
theorem op_fn {P : Program} {n : Nat} {ops : Array Oper} {K : S → Prop} {d : Option Nat} {d0 : Nat} {xs : Array Operand} {tys : Array TypeId} {ty : TypeId} {pos : String} {af : Array Edge} {g : Option (Nat × Bool)} (bs : List Bool)
    (hC : C.Ok) (hP : C.P = P) (hn : C.n = n)
    (h : ∀ F : Nat → List T → S → Prop, (∀ f ts σ1, (Fun P f ∧ ∃ R, Gives P f ts R ∧ ∀ outs t, R outs t → noVw t = true ∧ K (σ1.putD d t)) → F f ts σ1) →
      AfterF (if dOk n d = true ∧ σ.want ops ⟨d, .call { callee := .value (.tmp d0), args := xs, argTypes := tys }, ty, pos, af, g⟩ = some true then fnArgs bs xs.toList d0 σ else none) F) :
    VOp C ops ⟨d, .call { callee := .value (.tmp d0), args := xs, argTypes := tys }, ty, pos, af, g⟩ K σ := by
  subst hP hn
  obtain ⟨f, ts, σ1, h1, hf, R, h2, h3⟩ := h _ fun _ _ _ h => h
  split at h1
  · rename_i hw
    unfold fnArgs at h1
    split at h1
    · rename_i f0 cs h0
      simp only [Option.bind_eq_some_iff] at h1
      obtain ⟨⟨us, σ2⟩, e1, h1⟩ := h1
      split at h1
      · rename_i f' cs' hk
        simp only [Option.bind_eq_some_iff, Option.map_eq_some_iff, Prod.mk.injEq] at h1
        obtain ⟨ts', e2, caps, e3, rfl, rfl, rfl⟩ := h1
        exact VOp_fn hC hw.2 rfl hf bs e1 hk e2 e3 h2 hw.1 h3
      · cases h1
    · cases h1
  · cases h1
theorem q_guard {ops : Array Oper} {K : S → Prop} {l : List Oper} {d : Option Nat} {op : Op} {ty : TypeId} {pos : String} {af : Array Edge} {j : Nat} {want : Bool}
    (h : ∀ F : Option T → Prop, (∀ b : Bool, (b = true → QOps C ops K (⟨d, op, ty, pos, af, some (j, want)⟩ :: l) σ) → (b = false → QOps C ops K (⟨d, op, ty, pos, af, some (j, want)⟩ :: l) σ) → F (some (.sc (.bool b)))) → F (((ops[j]?).bind (·.dst)).map σ.sl)) : QOps C ops K (⟨d, op, ty, pos, af, some (j, want)⟩ :: l) σ := by
  obtain ⟨b, hb, h1, h2⟩ := h (fun t => ∃ b : Bool, t = some (.sc (.bool b)) ∧ (b = true → QOps C ops K (⟨d, op, ty, pos, af, some (j, want)⟩ :: l) σ) ∧ (b = false → QOps C ops K (⟨d, op, ty, pos, af, some (j, want)⟩ :: l) σ)) fun b h1 h2 => ⟨b, rfl, h1, h2⟩
  cases b
  · exact h2 rfl
  · exact h1 rfl
theorem q_call2 {P : Program} {n : Nat} {ops : Array Oper} {K : S → Prop} {l : List Oper} {d : Option Nat} {f : Nat} {xs : Array Operand} {tys : Array TypeId} {ty : TypeId} {pos : String} {af : Array Edge} {g : Option (Nat × Bool)}
    (hC : C.Ok) (hP : C.P = P) (hn : C.n = n) (hf : Fun P f)
    (h : ∀ F : List T → Prop, (∀ ts, (∃ R v, Gives P f ts R ∧ (∀ outs t, R outs t → t = .sc v) ∧ isSc v = true ∧ QOps C ops K l (σ.putD d (.sc v))) → F ts) →
      AfterL (if dOk n d = true ∧ σ.want ops ⟨d, .call { callee := .value (.func f), args := xs, argTypes := tys }, ty, pos, af, g⟩ = some true then lookArgs xs.toList σ else none) F) :
    QOps C ops K (⟨d, .call { callee := .value (.func f), args := xs, argTypes := tys }, ty, pos, af, g⟩ :: l) σ := by
  obtain ⟨ts, h1, h2⟩ := h _ fun _ h => h
  split at h1
  · rename_i hw
    exact q_call hC hP hn hf hw.1 hw.2 fun F hF => ⟨ts, h1, hF ts h2⟩
  · cases h1
attribute [go_sem] AfterL_some lookArgs List.map_cons List.map_nil
theorem ife_true {α : Type} {p : Prop} [Decidable p] (h : p) (x y : α) : (if p then x else y) = x := if_pos h
/-- A truth value that is not yet known. -/
def B (b : Bool) : Bool := b
theorem wrap_id (k : Int) (h1 : -9223372036854775808 ≤ k) (h2 : k ≤ 9223372036854775807) : IntKind.i64.wrap k = k := by rw [Go.IntKind.wrap_i64]; omega
def ints (xs : List Int) : List T := xs.map T.int
theorem ints_len (xs : List Int) : (ints xs).length = xs.length := by simp [ints]
theorem ints_get (xs : List Int) (i : Nat) : (ints xs)[i]? = (xs[i]?).map T.int := by simp [ints]
theorem ints_vw (xs : List Int) : vwsOf (ints xs) = ints xs := by rw [vwsOf_eq]; simp only [ints, List.map_map]; rfl
theorem drop_cons {α : Type} {l : List α} {k : Nat} {x : α} (hx : l[k]? = some x) : l.drop k = x :: l.drop (k + 1) := by
  obtain ⟨hk, rfl⟩ := List.getElem?_eq_some_iff.1 hx
  exact List.drop_eq_getElem_cons hk
theorem ints_take (xs : List Int) (k : Nat) (h : xs.length ≤ k) : List.take k (ints xs) = ints xs := List.take_of_length_le (by rw [ints_len]; exact h)
theorem ints_snoc (l : List Int) (n : Int) : ints l ++ [T.sc (.int .i64 n)] = ints (l ++ [n]) := by simp [ints]
attribute [go_sem] ints_snoc Nat.le_refl List.length_append ints_take Bool.not_true Bool.not_false ints_len ints_get ints_vw dite_true dite_false
theorem gp_all (p : T → Bool) (c : T) (cs : List T) : (c :: cs).all p = (p c && cs.all p) := rfl
theorem beq_dec (x y : Int) : (x == y) = decide (x = y) := by rw [Bool.eq_iff_iff]; simp
theorem bne_dec (x y : Int) : (x != y) = !decide (x = y) := by rw [bne, beq_dec]
theorem cast4 : ((4 : Nat) : Int) = 4 := rfl
attribute [go_sem] Bool.and_false Bool.false_and cast4 List.size_toArray zerosT beq_dec bne_dec T.un and_true true_and and_false false_and
attribute [go_sem] convV maxV clearV nilT
def S.part (σ : S) (s : Nat) (t : T) : S := ⟨upd σ.sl s t, σ.st, σ.pt⟩
theorem part_sl (σ : S) (s : Nat) (t : T) (i : Nat) : (σ.part s t).sl i = if i = s then t else σ.sl i := rfl
theorem part_st (σ : S) (s : Nat) (t : T) (i : Nat) : (σ.part s t).st i = σ.st i := rfl
theorem part_pt (σ : S) (s : Nat) (t : T) (i : Nat) : (σ.part s t).pt i = σ.pt i := rfl
theorem extV_eq (σ : S) (s i : Nat) : extV σ (.tmp s) i = (match σ.sl s with | .gp 1 _ cs => (cs[i]?).map fun c => (c, σ.part s (.gp 1 0 (cs.set i .dead))) | _ => none) := rfl
attribute [go_sem] extV_eq part_sl part_st part_pt
attribute [go_sem] fillT fnV bors ixV cutV bnd Slc.cut Slc.tree strT boolT noOwn1 nilV S.callee Option.bind_none Option.map_none gp_all
attribute [go_sem] AfterN_some AfterF_some lendArgs fnArgs lendP lendT S.hold back_sl back_st back_pt sameHead List.set_cons_zero List.set_cons_succ
theorem noVws_all : ∀ {cs : List T}, (∀ c ∈ cs, noVw c = true) → noVws cs = true
  | [], _ => rfl
  | c :: cs, h => by simp only [noVws, Bool.and_eq_true]; exact ⟨h c (by simp), noVws_all fun d hd => h d (by simp [hd])⟩
theorem nvi (l : List Int) : noVw (.nd false .own 1 (ints l)) = true := by
  have : noVws (ints l) = true := noVws_all fun c hc => by
    simp only [ints, List.mem_map] at hc
    obtain ⟨x, _, rfl⟩ := hc; rfl
  simpa [noVw] using this
end Go.Proofs.Ytnbahnpckfelpaa.VL
