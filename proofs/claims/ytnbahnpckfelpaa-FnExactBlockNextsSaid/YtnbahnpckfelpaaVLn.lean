import Derived.Test.YtnbahnpckfelpaaVLm
/-! VL, part N: what a function does with what it is given; calls. -/
namespace Go.Proofs.Ytnbahnpckfelpaa.VL
open Go.RowKit
set_option linter.unusedVariables false
variable {C : Ctx} {σ : S} {κ : Nat → K} {Ds : Nat → Nat → Prop} {a : Act} {tmps : Array Value} {w : World}

/-- What a function is given. -/
structure Args (w : World) (St Vw : Nat → Prop) (args : List T) (ks : Nat → K) (Dk : Nat → Nat → Prop) : Prop where
  rep : ∀ (i : Nat) (c : T), args[i]? = some c → Rep w St Vw c (ks i) (Dk i)
  closed : ∀ (i : Nat) (c : T), args[i]? = some c → c.closed = true
  out : ∀ i x, Dk i x → i < args.length
  dis : ∀ i j x, Dk i x → Dk j x → i = j
  old : ∀ x, St x ∨ Vw x → x < w.heap.size ∧ ∀ i, ¬ Dk i x
/-- What it hands back: what it was lent, and its result. -/
structure Back (w w' : World) (St Vw : Nat → Prop) (ks : Nat → K) (Dk : Nat → Nat → Prop) (outs : List T) (t : T) (k : K) (D : Nat → Prop) (ks' : Nat → K) (D' : Nat → Nat → Prop) : Prop where
  fr : Fr w (fun x => ∃ i, Dk i x) w'
  rep : Rep w' St Vw t k D
  closed : t.closed = true
  reps : ∀ (i : Nat) (c : T), outs[i]? = some c → Rep w' St Vw c (ks' i) (D' i)
  closeds : ∀ (i : Nat) (c : T), outs[i]? = some c → c.closed = true
  head : ∀ (i : Nat) (c : T), outs[i]? = some c → c ≠ .dead → (ks' i).A = (ks i).A ∧ (ks' i).cap = (ks i).cap
  out : ∀ i x, D' i x → i < outs.length
  dis : ∀ i j x, D' i x → D' j x → i = j
  apart : ∀ i x, D' i x → ¬ D x
  own : ∀ x, (D x ∨ ∃ i, D' i x) → w.heap.size ≤ x ∨ ∃ i, Dk i x
def Gives (P : Program) (f : Nat) (args : List T) (R : List T → T → Prop) : Prop :=
  ∀ (w : World) (St Vw : Nat → Prop) (ks : Nat → K) (Dk : Nat → Nat → Prop), Args w St Vw args ks Dk →
    Calls P f (vals args ks 0).toArray w fun e w' => ∃ outs t k D ks' D', e = .returned (val t k) ∧ R outs t ∧ outs.length = args.length ∧ Back w w' St Vw ks Dk outs t k D ks' D'
theorem Gives.mono {P : Program} {f : Nat} {args : List T} {R R' : List T → T → Prop} (h : Gives P f args R) (hr : ∀ o t, R o t → R' o t) : Gives P f args R' :=
  fun w St Vw ks Dk ha => (h w St Vw ks Dk ha).mono fun e w' ⟨o, t, k, D, ks', D', h1, h2, h3⟩ => ⟨o, t, k, D, ks', D', h1, hr _ _ h2, h3⟩

def enterS (args : List T) : S := ⟨fun i => args.getD i T.un, fun _ => 0, fun _ => 0⟩
/-- What is handed back of what was lent. -/
def S.out (σ : S) (i : Nat) : T := if σ.pt i = 0 ∧ (σ.sl i).closed = true then σ.sl i else .dead
theorem S.out_pos {σ : S} {i : Nat} (h : σ.pt i = 0 ∧ (σ.sl i).closed = true) : σ.out i = σ.sl i := if_pos h
theorem S.out_neg {σ : S} {i : Nat} (h : ¬ (σ.pt i = 0 ∧ (σ.sl i).closed = true)) : σ.out i = .dead := if_neg h
def S.outs (σ : S) (n : Nat) : List T := (List.range n).map σ.out
def RetQ (P : Program) (rs : List ResultVar) (n : Nat) (R : List T → T → Prop) : Exit → S → Prop
  | .normal, σ | .ret, σ => ∃ ts σ', resT P rs σ = some (ts, σ') ∧ R (σ'.outs n) (packT ts)
  | _, _ => False

theorem S.outs_get (σ : S) (n i : Nat) : (σ.outs n)[i]? = if i < n then some (σ.out i) else none := by
  simp only [S.outs, List.getElem?_map]
  by_cases h : i < n
  · rw [if_pos h, List.getElem?_range h]; rfl
  · rw [if_neg h, List.getElem?_eq_none (by simpa using h)]; rfl

theorem pack_rep {St Vw : Nat → Prop} {ts : List T} {f : Nat → K} {Dk : Nat → Nat → Prop} (hr : ∀ (i : Nat) (c : T), ts[i]? = some c → Rep w St Vw c (f i) (Dk i) ∧ c.closed = true) (ho : ∀ i x, Dk i x → i < ts.length) (hd : ∀ i j x, Dk i x → Dk j x → i = j) :
    ∃ k D, Rep w St Vw (packT ts) k D ∧ (packT ts).closed = true ∧ packV (vals ts f 0) = val (packT ts) k ∧ ∀ x, D x ↔ ∃ i, Dk i x := by
  have tup : ∀ ts' : List T, ts' = ts → Rep w St Vw (.tu ts') (.mk none 0 f) (fun x => ∃ i, Dk i x) ∧ (T.tu ts').closed = true := by
    rintro ts' rfl
    refine ⟨.gp Dk (fun i c hi => (hr i c hi).1) ho hd (fun x => Iff.rfl), ?_⟩
    simp only [T.closed]
    have : ∀ (cs : List T), (∀ (i : Nat) (c : T), cs[i]? = some c → c.closed = true) → T.closeds cs = true := by
      intro cs
      induction cs with
      | nil => intro _; rfl
      | cons c cs ih => intro h; simp only [T.closeds, Bool.and_eq_true]; exact ⟨h 0 c rfl, ih fun i d hi => h (i + 1) d (by simpa using hi)⟩
    exact this ts' fun i c hi => (hr i c hi).2
  match ts, tup with
  | [], tup => obtain ⟨t1, t2⟩ := tup [] rfl; exact ⟨_, _, t1, t2, rfl, fun x => Iff.rfl⟩
  | [t], _ =>
    refine ⟨f 0, Dk 0, (hr 0 t rfl).1, (hr 0 t rfl).2, rfl, fun x => ⟨fun h => ⟨0, h⟩, fun ⟨i, hi⟩ => ?_⟩⟩
    have := ho i x hi
    have h0 : i = 0 := by simp at this; omega
    subst h0; exact hi
  | t :: u :: ts, tup => obtain ⟨t1, t2⟩ := tup _ rfl; exact ⟨_, _, t1, t2, rfl, fun x => Iff.rfl⟩

theorem Gives.of_VW {P : Program} {f : Nat} {fn : Func} {c : Code} {args : List T} {R : List T → T → Prop} (hf : P.funcs[f]? = some fn) (hb : fn.body = some c) (hn : args.length ≤ fn.ntmps)
    (h : ∀ C : Ctx, C.P = P → C.n = fn.ntmps → C.Ok → VW C c (RetQ P fn.results.toList args.length R) (enterS args)) : Gives P f args R := by
  intro w St Vw ks Dk ha
  let C : Ctx := ⟨P, w, fun x => ∃ i, Dk i x, St, Vw, fn.ntmps, ks⟩
  have hC : C.Ok := ⟨fun x hx => ⟨(ha.old x hx).1, fun ⟨i, hi⟩ => (ha.old x hx).2 i hi⟩⟩
  refine calls_of_wp hf hb ?_
  have hsr : SR C (enterS args) ks Dk ((vals args ks 0).toArray ++ Array.replicate (fn.ntmps - (vals args ks 0).toArray.size) undef) w := by
    have hget : ∀ s, (enterS args).sl s = match args[s]? with | some c => c | none => T.un := fun s => by
      simp only [enterS, List.getD]; cases args[s]? <;> rfl
    refine ⟨?_, fun s => ?_, fun s => ?_, fun s s' x h1 h2 => ha.dis s s' x h1 h2, fun s x hx => .inr ⟨s, hx⟩, fun s => ?_, fun i _ => ⟨rfl, rfl⟩, ⟨rfl, rfl, rfl, Nat.le_refl _, fun _ _ _ => rfl⟩⟩
    · simp only [Array.size_append, List.size_toArray, vals_length, Array.size_replicate]; show _ = fn.ntmps; omega
    · rw [hget]
      rw [Array.getD_eq_getD_getElem?, Array.getElem?_append]
      simp only [List.size_toArray, vals_length]
      by_cases hs : s < args.length
      · rw [if_pos hs, List.getElem?_toArray, vals_get, List.getElem?_eq_getElem hs]
        simp
      · rw [if_neg hs, List.getElem?_eq_none (by omega), Array.getElem?_replicate]
        split <;> rfl
    · rw [hget]
      cases hs : args[s]? with
      | none =>
        refine rep_un.congrD fun x => ⟨fun h => h.elim, fun h => ?_⟩
        have := ha.out s x h
        rw [List.getElem?_eq_getElem this] at hs; cases hs
      | some c => exact ha.rep s c hs
    · rw [hget]
      cases hs : args[s]? with
      | none => exact ref_un
      | some c => exact (ha.rep s c hs).ref (ha.closed s c hs)
  have hw := h C rfl rfl hC { tmps := (vals args ks 0).toArray ++ Array.replicate (fn.ntmps - (vals args ks 0).toArray.size) undef, defers := [] } w ⟨_, ks, Dk, rfl, hsr, rfl⟩
  refine wp_mono hw fun e a' w' hq => ?_
  have fin : ∀ σ1 κ1 Ds1, SR C σ1 κ1 Ds1 a'.tmps w' → a'.defers = [] → (∃ ts σ', resT P fn.results.toList σ1 = some (ts, σ') ∧ R (σ'.outs args.length) (packT ts)) →
      a'.defers = [] ∧ ∃ v, (results fn a'.tmps).run P w' = .ok v w' ∧ ∃ outs t k D ks' D', Ending.returned v = .returned (val t k) ∧ R outs t ∧ outs.length = args.length ∧ Back w w' St Vw ks Dk outs t k D ks' D' := by
    rintro σ1 κ1 Ds1 h1 h2 ⟨ts, σ', h3, h4⟩
    obtain ⟨κ2, Ds2, g, Dg, b1, b2, b3, b4, b5, b6, b7, b8⟩ := resT_ok hC h1 h3
    obtain ⟨k, D, p1, p2, p3, p4⟩ := pack_rep b2 b3 b6
    refine ⟨h2, _, results_run b4, σ'.outs args.length, packT ts, k, D, κ2, fun i x => i < args.length ∧ σ'.out i ≠ .dead ∧ Ds2 i x, by rw [p3], h4, by simp [S.outs], ?_⟩
    have hout : ∀ i c, (σ'.outs args.length)[i]? = some c → i < args.length ∧ c = σ'.out i := fun i c hi => by
      rw [S.outs_get] at hi
      split at hi
      · rename_i hlt; injection hi with hi; exact ⟨hlt, hi.symm⟩
      · cases hi
    refine ⟨b1.fr, p1, p2, fun i c hi => ?_, fun i c hi => ?_, fun i c hi hcd => ?_, fun i x hx => by simpa [S.outs] using hx.1, fun i j x hi hj => b1.dis i j x hi.2.2 hj.2.2, fun i x hi hx => ?_, fun x hx => ?_⟩
    · obtain ⟨h1, rfl⟩ := hout i c hi
      by_cases hc : σ'.pt i = 0 ∧ (σ'.sl i).closed = true
      · have e := S.out_pos hc
        rw [e]
        by_cases hdd : σ'.sl i = .dead
        · rw [hdd]; exact Rep.dead.congrD fun x => ⟨fun h => h.elim, fun h => absurd rfl h.2.1⟩
        · exact (b1.rep i).congrD fun x => ⟨fun h => ⟨h1, hdd, h⟩, fun h => h.2.2⟩
      · have e := S.out_neg hc
        rw [e]
        exact Rep.dead.congrD fun x => ⟨fun h => h.elim, fun h => absurd rfl h.2.1⟩
    · obtain ⟨h1, rfl⟩ := hout i c hi
      by_cases hc : σ'.pt i = 0 ∧ (σ'.sl i).closed = true
      · rw [S.out_pos hc]; exact hc.2
      · rw [S.out_neg hc]; rfl
    · obtain ⟨h1, rfl⟩ := hout i c hi
      by_cases hc : σ'.pt i = 0 ∧ (σ'.sl i).closed = true
      · exact b1.par i hc.1
      · exact absurd (S.out_neg hc) hcd
    · obtain ⟨j, hj⟩ := (p4 x).1 hx
      exact (b5 j).dis i x hi.2.2 hj
    · rcases hx with hx | ⟨i, hi⟩
      · obtain ⟨j, hj⟩ := (p4 x).1 hx
        exact (b5 j).own x hj
      · exact b1.own i x hi.2.2
  cases e with
  | normal => obtain ⟨σ1, κ1, Ds1, q1, q2, q3⟩ := hq; exact fin σ1 κ1 Ds1 q2 q3 q1
  | ret => obtain ⟨σ1, κ1, Ds1, q1, q2, q3⟩ := hq; exact fin σ1 κ1 Ds1 q2 q3 q1
  | _ => obtain ⟨σ1, κ1, Ds1, q1, q2, q3⟩ := hq; exact q1.elim
end Go.Proofs.Ytnbahnpckfelpaa.VL
