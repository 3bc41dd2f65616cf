import Derived.Test.YtnbahnpckfelpaaVLr
import Derived.Deep.Quiet
/-! VL, part U: regions that ask in which order, and whose operations only look. -/
namespace Go.Proofs.Ytnbahnpckfelpaa.VL
open Go.RowKit
set_option linter.unusedVariables false
variable {C : Ctx} {σ : S} {κ : Nat → K} {Ds : Nat → Nat → Prop} {a : Act} {tmps : Array Value} {w : World}

/-- One operation that only looks: its tree. -/
def opQ (P : Program) (σ : S) (o : Oper) : Option T :=
  match o.op with
  | .move x | .assign x => bor σ x
  | .pick c x y => (pickV σ c x y).map (·.1)
  | .load t x => (ldV P σ t x).map (·.1)
  | .binOp op t x y _ => (binV P σ op t x y).map (·.1)
  | .unOp op _ x => (unV σ op x).map (·.1)
  | .fieldAddr t x f => (fieldV P σ t x f).map (·.1)
  | .indexAddr t x ix => (idxV P σ t x ix).map (·.1)
  | .call c =>
    match c.callee, c.args.toList with
    | .builtin .len, [x] => (lenV P σ c.argTypes x).map (·.1)
    | _, _ => none
  | _ => none
theorem opQ_ok (hC : C.Ok) {o : Oper} {t : T} (he : opQ C.P σ o = some t) : QOk C o σ t := by
  have hm : ∀ x, (o.op = .move x ∨ o.op = .assign x) → ∀ κ Ds (a : Act) w, SR C σ κ Ds a.tmps w → execOp a.eval o = pure (.value (a.eval x)) := by
    rintro x (h | h) κ Ds a w _ <;> simp [execOp, h]
  unfold opQ at he
  split at he
  · rename_i x h; exact bor_q (hm x (.inl h)) he
  · rename_i x h; exact bor_q (hm x (.inr h)) he
  · rename_i h; simp only [Option.map_eq_some_iff] at he; obtain ⟨⟨u, σ'⟩, h1, rfl⟩ := he; exact (pickV_q hC h h1).2
  · rename_i h; simp only [Option.map_eq_some_iff] at he; obtain ⟨⟨u, σ'⟩, h1, rfl⟩ := he; exact (ldV_q hC h h1).2
  · rename_i h; simp only [Option.map_eq_some_iff] at he; obtain ⟨⟨u, σ'⟩, h1, rfl⟩ := he; exact (binV_q hC h h1).2
  · rename_i h; simp only [Option.map_eq_some_iff] at he; obtain ⟨⟨u, σ'⟩, h1, rfl⟩ := he; exact (unV_q hC h h1).2
  · rename_i h; simp only [Option.map_eq_some_iff] at he; obtain ⟨⟨u, σ'⟩, h1, rfl⟩ := he; exact (fieldV_q hC h h1).2
  · rename_i h; simp only [Option.map_eq_some_iff] at he; obtain ⟨⟨u, σ'⟩, h1, rfl⟩ := he; exact (idxV_q hC h h1).2
  · rename_i c h
    split at he
    · rename_i x h1 h2
      have e : c.args = #[x] := by apply Array.ext'; simpa using h2
      simp only [Option.map_eq_some_iff] at he
      obtain ⟨⟨u, σ'⟩, h3, rfl⟩ := he
      refine (lenV_q hC (ts := c.argTypes) (x := x) ?_ h3).2
      rw [h]; cases c; simp_all
    · cases he
  · cases he

/-- One operation of such a region. -/
def QOp (C : Ctx) (ops : Array Oper) (o : Oper) (K : S → Prop) (σ : S) : Prop :=
  ∀ κ Ds (a : Act) w, SR C σ κ Ds a.tmps w → if Region.wanted o (yielded ops a.tmps) then
      ∃ v, (∀ w', Below w.heap.size w w' → o.quietAt C.P a (Below w.heap.size w) w' v) ∧ ∃ σ' κ' Ds', K σ' ∧ SR C σ' κ' Ds' (a.put o.dst v).tmps w
    else ∃ σ' κ' Ds', K σ' ∧ SR C σ' κ' Ds' (a.put o.dst undef).tmps w
def QOps (C : Ctx) (ops : Array Oper) (K : S → Prop) : List Oper → S → Prop
  | [], σ => K σ
  | o :: l, σ => QOp C ops o (QOps C ops K l) σ
theorem put_defers (a : Act) (d : Option Tmp) (v : Value) : (a.put d v).defers = a.defers := by cases d <;> rfl
theorem QOps_quiet (hC : C.Ok) {ops : Array Oper} {Q : Exit → S → Prop} : ∀ {l : List Oper} {σ : S} {κ : Nat → K} {Ds : Nat → Nat → Prop} {a : Act}, QOps C ops (Q .normal) l σ → SR C σ κ Ds a.tmps w → a.defers = [] →
    wpQuiet C.P ops (Below w.heap.size w) (fun a' => ∀ w', Below w.heap.size w w' → HoldsE C Q .normal a' w') l a
  | [], σ, κ, Ds, a, h, hs, hd => wpQuiet_nil fun w' hb => ⟨σ, κ, Ds, h, hs.below hC hb, hd⟩
  | o :: l, σ, κ, Ds, a, h, hs, hd => by
    have h0 := h κ Ds a w hs
    simp only [wpQuiet]
    split
    · rename_i hw
      rw [if_pos hw] at h0
      obtain ⟨v, h1, σ', κ', Ds', h2, h3⟩ := h0
      exact ⟨v, h1, QOps_quiet hC h2 h3 (by rw [put_defers]; exact hd)⟩
    · rename_i hw
      rw [if_neg hw] at h0
      obtain ⟨σ', κ', Ds', h2, h3⟩ := h0
      exact QOps_quiet hC h2 h3 (by rw [put_defers]; exact hd)
theorem go_quiet {id : Nat} {l : List Oper} {Q : Exit → S → Prop} (hC : C.Ok) (hm : C.P.follows .mixedOrders = true) (hB : Region.lexB .any l.toArray = true) (h : QOps C l.toArray (Q .normal) l σ) : VW C (.region id l.toArray true) Q σ := by
  rintro a w ⟨σ0, κ, Ds, rfl, h2, h3⟩
  have hw : Below w.heap.size w w.drew := ⟨rfl, rfl, rfl, Nat.le_refl _, fun _ _ => rfl⟩
  refine wp_region_quiet (C := Below w.heap.size w) hm hB hw ?_
  exact QOps_quiet hC h h2 h3
theorem q_nil {ops : Array Oper} {K : S → Prop} (h : K σ) : QOps C ops K [] σ := h

def stepQ (P : Program) (n : Nat) (ops : Array Oper) (σ : S) (o : Oper) : Option S :=
  if dOk n o.dst then (σ.want ops o).bind fun b => if b = true then (opQ P σ o).map fun t => σ.putD o.dst t else some (σ.putD o.dst T.un) else none
theorem q_op {P : Program} {n : Nat} {ops : Array Oper} {K : S → Prop} {o : Oper} {l : List Oper} (hC : C.Ok) (hP : C.P = P) (hn : C.n = n)
    (h : ∀ K' : S → Prop, (∀ σ', QOps C ops K l σ' → K' σ') → After (stepQ P n ops σ o) K') : QOps C ops K (o :: l) σ := by
  subst hP hn
  obtain ⟨σ', h1, h2⟩ := h _ fun _ h => h
  intro κ Ds a w hs
  unfold stepQ at h1
  split at h1
  · rename_i hd
    simp only [Option.bind_eq_some_iff] at h1
    obtain ⟨b, hb, h1⟩ := h1
    rw [hs.want hb]
    split at h1
    · rename_i hbt
      subst hbt
      simp only [Option.map_eq_some_iff] at h1
      obtain ⟨t, ht, rfl⟩ := h1
      obtain ⟨v, k, g1, g2, g3, g4⟩ := opQ_ok hC ht κ Ds a w hs
      obtain ⟨κ', Ds', g5⟩ := hs.putD (a := a) hd g2 Free.no g4
      rw [if_pos rfl]
      refine ⟨v, fun w' hw' => ?_, _, κ', Ds', h2, by rw [← g3]; exact g5⟩
      simp only [Oper.quietAt, g1 w' hw', Oper.quietUpon, and_self]
    · rename_i hbt
      have : b = false := by simpa using hbt
      subst this
      simp only [Option.some.injEq] at h1
      subst h1
      obtain ⟨κ', Ds', g5⟩ := hs.putD (a := a) hd (rep_un (k := .leaf)) Free.no ref_un
      rw [if_neg (by simp)]
      exact ⟨_, κ', Ds', h2, g5⟩
  · cases h1

theorem Args.below {St Vw : Nat → Prop} {args : List T} {ks : Nat → K} {Dk : Nat → Nat → Prop} (h : Args w St Vw args ks Dk) {w' : World} (hb : Below w.heap.size w w') : Args w' St Vw args ks Dk :=
  ⟨fun i c hi => (h.rep i c hi).keep fun x hx => hb.block x (by
    rcases hx with hx | hx
    · exact (h.rep i c hi).lt x hx
    · exact (h.old x hx).1), h.closed, h.out, h.dis, fun x hx => ⟨Nat.lt_of_lt_of_le (h.old x hx).1 hb.size, (h.old x hx).2⟩⟩

def lookArgs (xs : List Operand) (σ : S) : Option (List T) := lookAs σ (xs.map fun _ => none) xs
def AfterL (o : Option (List T)) (F : List T → Prop) : Prop := ∃ ts, o = some ts ∧ F ts
theorem AfterL_some (ts : List T) (F : List T → Prop) : AfterL (some ts) F = F ts := by
  apply propext; constructor
  · rintro ⟨ts', h, hk⟩; injection h with h; exact h ▸ hk
  · exact fun h => ⟨ts, rfl, h⟩
/-- A call that looks, in such a region. -/
theorem q_call {P : Program} {n : Nat} {ops : Array Oper} {K : S → Prop} {l : List Oper} {d : Option Nat} {f : Nat} {xs : Array Operand} {tys : Array TypeId} {ty : TypeId} {pos : String} {af : Array Edge} {g : Option (Nat × Bool)}
    (hC : C.Ok) (hP : C.P = P) (hn : C.n = n) (hf : Fun P f) (hd : dOk n d = true) (hw : σ.want ops ⟨d, .call { callee := .value (.func f), args := xs, argTypes := tys }, ty, pos, af, g⟩ = some true)
    (h : ∀ F : List T → Prop, (∀ ts, (∃ R v, Gives P f ts R ∧ (∀ outs t, R outs t → t = .sc v) ∧ isSc v = true ∧ QOps C ops K l (σ.putD d (.sc v))) → F ts) → AfterL (lookArgs xs.toList σ) F) :
    QOps C ops K (⟨d, .call { callee := .value (.func f), args := xs, argTypes := tys }, ty, pos, af, g⟩ :: l) σ := by
  subst hP hn
  obtain ⟨ts, h1, R, v, h2, h3, h4, h5⟩ := h _ fun _ h => h
  intro κ Ds a w hs
  rw [hs.want hw, if_pos rfl]
  have hnone : ∀ (i : Nat) (c : T), (xs.toList.map fun _ => (none : Option T))[i]? ≠ some (some c) := fun i c hi => by
    rw [List.getElem?_map] at hi
    cases hx : xs.toList[i]? <;> simp [hx] at hi
  obtain ⟨f2, c1, c2, c3, c4⟩ := lookAs_ok hC hs (us := xs.toList.map fun _ => none) (f := fun _ => .leaf) (Dk := fun _ => No) (fun i c hi => absurd hi (hnone i c)) (fun _ _ h => h.elim) h1
  have hargs := call_args hC hs c1 (fun _ _ h => h.elim) (fun _ => Free.no) (fun _ _ _ h => h.elim)
  obtain ⟨κ', Ds', g5⟩ := hs.putD (a := a) hd (Rep.sc (k := .leaf) h4) Free.no (.solid rfl)
  refine ⟨v, fun w' hw' => ?_, _, κ', Ds', h5, g5⟩
  have e : xs.map a.eval = (vals ts f2 0).toArray := by rw [c2]; apply Array.ext'; simp
  have hrun : (execOp a.eval ⟨d, .call { callee := .value (.func f), args := xs, argTypes := tys }, ty, pos, af, g⟩).run C.P w' = .ok (.enter f (vals ts f2 0).toArray) w' := by
    simp [execOp, resolve, Deferred.ofValue, invoke, Act.eval, e, hf.run]
  simp only [Oper.quietAt, hrun, Oper.quietUpon, true_and]
  refine (h2 w' C.St (C.looks Ds) f2 (fun _ => No) (hargs.below hw')).mono fun e w'' ⟨outs, t, k, D, ks', D', e1, e2, e3, e4⟩ => ?_
  have := h3 _ _ e2
  subst this
  refine ⟨e1, ⟨e4.fr.os.trans hw'.os, e4.fr.tape.trans hw'.tape, e4.fr.output.trans hw'.output, Nat.le_trans hw'.size e4.fr.size, fun x hx => ?_⟩⟩
  exact (e4.fr.block x (Nat.lt_of_lt_of_le hx hw'.size) (fun ⟨_, h⟩ => h.elim)).trans (hw'.block x hx)
theorem q_off {P : Program} {n : Nat} {ops : Array Oper} {K : S → Prop} {o : Oper} {l : List Oper} (hn : C.n = n) (hd : dOk n o.dst = true) (hw : σ.want ops o = some false) (h : QOps C ops K l (σ.putD o.dst T.un)) : QOps C ops K (o :: l) σ := by
  subst hn
  intro κ Ds a w hs
  rw [hs.want hw, if_neg (by simp)]
  obtain ⟨κ', Ds', g5⟩ := hs.putD (a := a) hd (rep_un (k := .leaf)) Free.no ref_un
  exact ⟨_, κ', Ds', h, g5⟩
end Go.Proofs.Ytnbahnpckfelpaa.VL
