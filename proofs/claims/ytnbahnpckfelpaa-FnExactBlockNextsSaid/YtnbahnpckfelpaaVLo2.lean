import Derived.Test.YtnbahnpckfelpaaVLo
/-! VL, part O2: a call. -/
namespace Go.Proofs.Ytnbahnpckfelpaa.VL
open Go.RowKit
set_option linter.unusedVariables false
variable {C : Ctx} {σ : S} {κ : Nat → K} {Ds : Nat → Nat → Prop} {a : Act} {tmps : Array Value} {w : World}

theorem look1s_ok (hC : C.Ok) (h : SR C σ κ Ds tmps w) : ∀ {cs us : List T} {f : Nat → K} {Dk : Nat → Nat → Prop}, (∀ (i : Nat) (c : T), cs[i]? = some c → Rep w C.St C.Vw c (f i) (Dk i) ∧ RefOk σ κ c (f i)) → (∀ i x, Dk i x → ∃ s, Ds s x) → look1s σ cs = some us →
    ∃ f', (∀ (i : Nat) (c : T), us[i]? = some c → Rep w C.St (C.looks Ds) c (f' i) No ∧ c.closed = true) ∧ vals us f' 0 = vals cs f 0
  | [], us, f, Dk, _, _, he => by simp [look1s] at he; subst he; exact ⟨f, by simp, rfl⟩
  | c :: cs, us, f, Dk, hr, hD, he => by
    simp only [look1s, Option.bind_eq_some_iff, Option.map_eq_some_iff] at he
    obtain ⟨u, hu, us', hus, rfl⟩ := he
    obtain ⟨k', h1, h2, h3⟩ := look1_ok hC h (hr 0 c rfl).1 (hD 0) (hr 0 c rfl).2 hu
    obtain ⟨f', g1, g2⟩ := look1s_ok hC h (f := fun i => f (i + 1)) (Dk := fun i => Dk (i + 1)) (fun i d hi => hr (i + 1) d (by simpa using hi)) (fun i => hD (i + 1)) hus
    refine ⟨fun i => match i with | 0 => k' | i + 1 => f' i, fun i d hi => ?_, ?_⟩
    · cases i with
      | zero => simp at hi; subst hi; exact ⟨h1, h3⟩
      | succ i => exact g1 i d (by simpa using hi)
    · simp only [vals, h2]
      congr 1
      rw [vals_congr cs f (fun i => f (i + 1)) (0 + 1) 0 (fun k _ => by simp [Nat.add_comm]), ← g2]
      exact vals_congr _ _ _ _ _ fun k _ => by simp [Nat.add_comm]

theorem val_gp (kind f : Nat) {cs cs' : List T} {k k' : K} (e : VL.vals cs k.kid 0 = VL.vals cs' k'.kid 0) : val (.gp kind f cs) k = val (.gp kind f cs') k' := by
  match kind with
  | 0 => simp [val, e]
  | 1 => simp [val, e]
  | n + 2 => simp [val, e]
theorem closeds_all : ∀ {cs : List T}, (∀ (i : Nat) (c : T), cs[i]? = some c → c.closed = true) → T.closeds cs = true
  | [], _ => rfl
  | c :: cs, h => by simp only [T.closeds, Bool.and_eq_true]; exact ⟨h 0 c rfl, closeds_all fun i d hi => h (i + 1) d (by simpa using hi)⟩

theorem lookC_ok (hC : C.Ok) (h : SR C σ κ Ds tmps w) {t u : T} {k : K} {D : Nat → Prop} (hr : Rep w C.St C.Vw t k D) (hD : ∀ x, D x → ∃ s, Ds s x) (href : RefOk σ κ t k) (he : lookC σ t = some u) :
    ∃ k', Rep w C.St (C.looks Ds) u k' No ∧ val u k' = val t k ∧ u.closed = true := by
  unfold lookC at he
  split at he
  · rename_i kind f cs
    simp only [Option.map_eq_some_iff] at he
    obtain ⟨us, hus, rfl⟩ := he
    cases hr with
    | gp Dk hk hout hd hDD =>
      cases href with
      | solid h => simp [T.solid] at h
      | gp hrk =>
        obtain ⟨f', g1, g2⟩ := look1s_ok hC h (fun i c hi => ⟨hk i c hi, hrk i c hi⟩) (fun i x hx => hD x ((hDD x).2 ⟨i, hx⟩)) hus
        refine ⟨.mk none 0 f', .gp (fun _ => No) (fun i c hi => (g1 i c hi).1) (fun _ _ h => h.elim) (fun _ _ _ h => h.elim) (fun x => ⟨fun h => h.elim, fun ⟨_, h⟩ => h.elim⟩), val_gp _ _ g2, ?_⟩
        simp only [T.closed]
        exact closeds_all fun i c hi => (g1 i c hi).2
  · exact look1_ok hC h hr hD href he

theorem lookT_ok (hC : C.Ok) (h : SR C σ κ Ds a.tmps w) {x : Operand} {u : T} (he : lookT σ x = some u) :
    ∃ k', Rep w C.St (C.looks Ds) u k' No ∧ val u k' = a.eval x ∧ u.closed = true := by
  unfold lookT at he
  split at he
  · simp only [Option.some.injEq] at he; subst he
    exact ⟨.mk none 0 fun _ => .leaf, .look 0 0 0 (by simp) (by omega) (by simp) (by simp) (by simp) (by simp) (by simp) (by simp) (by simp), rfl, rfl⟩
  · have hev := h.eval x
    rw [hev]
    refine lookC_ok hC h (h.opdRep x) (fun y hy => ?_) (h.opdRef x) he
    cases x with
    | tmp s => exact ⟨s, hy⟩
    | _ => exact absurd hy (by simp [opdD, No])

/-! What is taken along. -/
def takeAs : List Bool → List Operand → S → Option (List (Option T) × S)
  | true :: bs, x :: xs, σ => (σ.cons x).bind fun u => (takeAs bs xs u.2).map fun r => (some u.1 :: r.1, r.2)
  | false :: bs, _ :: xs, σ => (takeAs bs xs σ).map fun r => (none :: r.1, r.2)
  | [], [], σ => some ([], σ)
  | _, _, _ => none
theorem takeAs_ok (hC : C.Ok) : ∀ {bs : List Bool} {xs : List Operand} {us : List (Option T)} {σ σ' : S} {κ : Nat → K} {Ds : Nat → Nat → Prop}, SR C σ κ Ds a.tmps w → takeAs bs xs σ = some (us, σ') →
    ∃ κ' Ds', ∃ f : Nat → K, ∃ Dk : Nat → Nat → Prop, SR C σ' κ' Ds' a.tmps w ∧ us.length = xs.length ∧
      (∀ (i : Nat) (c : T), us[i]? = some (some c) → Rep w C.St C.Vw c (f i) (Dk i) ∧ c.closed = true ∧ ∃ x, xs[i]? = some x ∧ val c (f i) = a.eval x) ∧
      (∀ i x, Dk i x → ∃ c, us[i]? = some (some c)) ∧ (∀ i, Free C Ds' (Dk i)) ∧ (∀ i j x, Dk i x → Dk j x → i = j) ∧ (∀ s x, Ds' s x → Ds s x) ∧ (∀ i x, Dk i x → ∃ s, Ds s x)
  | [], [], us, σ, σ', κ, Ds, h, he => by
    simp [takeAs] at he
    obtain ⟨rfl, rfl⟩ := he
    exact ⟨κ, Ds, fun _ => .leaf, fun _ => No, h, rfl, by simp, fun _ _ h => h.elim, fun _ => Free.no, fun _ _ _ h => h.elim, fun _ _ h => h, fun _ _ h => h.elim⟩
  | false :: bs, x :: xs, us, σ, σ', κ, Ds, h, he => by
    simp only [takeAs, Option.map_eq_some_iff] at he
    obtain ⟨⟨us2, σ2⟩, he2, he⟩ := he
    simp only [Prod.mk.injEq] at he
    obtain ⟨rfl, rfl⟩ := he
    obtain ⟨κ2, Ds2, f2, Dk2, b1, b2, b3, b4, b5, b6, b7, b8⟩ := takeAs_ok hC h he2
    refine ⟨κ2, Ds2, fun i => match i with | 0 => .leaf | i + 1 => f2 i, fun i => match i with | 0 => No | i + 1 => Dk2 i, b1, by simp [b2], fun i d hi => ?_, fun i x hi => ?_, fun i => ?_, fun i j x hi hj => ?_, b7, fun i x hx => ?_⟩
    · cases i with
      | zero => simp at hi
      | succ i => simpa using b3 i d (by simpa using hi)
    · cases i with
      | zero => exact hi.elim
      | succ i => simpa using b4 i x hi
    · cases i with
      | zero => exact Free.no
      | succ i => exact b5 i
    · cases i with
      | zero => exact hi.elim
      | succ i =>
        cases j with
        | zero => exact hj.elim
        | succ j => have := b6 i j x hi hj; omega
    · cases i with
      | zero => exact hx.elim
      | succ i => exact b8 i x hx
  | true :: bs, x :: xs, us, σ, σ', κ, Ds, h, he => by
    simp only [takeAs, Option.bind_eq_some_iff, Option.map_eq_some_iff] at he
    obtain ⟨⟨t1, σ1⟩, he1, ⟨us2, σ2⟩, he2, he⟩ := he
    simp only [Prod.mk.injEq] at he
    obtain ⟨rfl, rfl⟩ := he
    obtain ⟨κ1, Ds1, k1, D1, a1, a2, a3, a4, a5, a6, a7⟩ := h.cons hC he1
    obtain ⟨κ2, Ds2, f2, Dk2, b1, b2, b3, b4, b5, b6, b7, b8⟩ := takeAs_ok hC a1 he2
    have hD : ∀ j x, Dk2 j x → ¬ D1 x := fun j x hx hx' => by
      obtain ⟨s, hs⟩ := b8 j x hx
      exact a4.dis s x hs hx'
    refine ⟨κ2, Ds2, fun i => match i with | 0 => k1 | i + 1 => f2 i, fun i => match i with | 0 => D1 | i + 1 => Dk2 i, b1, by simp [b2], fun i d hi => ?_, fun i x hi => ?_, fun i => ?_, fun i j x hi hj => ?_, fun s x hx => a6 s x (b7 s x hx), fun i x hx => ?_⟩
    · cases i with
      | zero => simp at hi; subst hi; exact ⟨a2, whole_closed a5, x, rfl, a3⟩
      | succ i => simpa using b3 i d (by simpa using hi)
    · cases i with
      | zero => exact ⟨t1, rfl⟩
      | succ i => simpa using b4 i x hi
    · cases i with
      | zero => exact a4.sub b7
      | succ i => exact b5 i
    · cases i with
      | zero =>
        cases j with
        | zero => rfl
        | succ j => exact absurd hi (hD j x hj)
      | succ i =>
        cases j with
        | zero => exact absurd hj (hD i x hi)
        | succ j => have := b6 i j x hi hj; omega
    · cases i with
      | zero => exact a7 x hx
      | succ i =>
        obtain ⟨s, hs⟩ := b8 i x hx
        exact ⟨s, a6 s x hs⟩
  | [], _ :: _, _, _, _, _, _, _, he => by simp [takeAs] at he
  | true :: _, [], _, _, _, _, _, _, he => by simp [takeAs] at he
  | false :: _, [], _, _, _, _, _, _, he => by simp [takeAs] at he

/-- What the function is given: what was taken, and views of the rest. -/
def lookAs (σ : S) : List (Option T) → List Operand → Option (List T)
  | [], [] => some []
  | some t :: us, _ :: xs => (lookAs σ us xs).map fun ts => t :: ts
  | none :: us, x :: xs => (lookT σ x).bind fun t => (lookAs σ us xs).map fun ts => t :: ts
  | _, _ => none
theorem lookAs_ok (hC : C.Ok) (h : SR C σ κ Ds a.tmps w) : ∀ {us : List (Option T)} {xs : List Operand} {ts : List T} {f : Nat → K} {Dk : Nat → Nat → Prop},
    (∀ (i : Nat) (c : T), us[i]? = some (some c) → Rep w C.St C.Vw c (f i) (Dk i) ∧ c.closed = true ∧ ∃ x, xs[i]? = some x ∧ val c (f i) = a.eval x) → (∀ i x, Dk i x → ∃ c, us[i]? = some (some c)) → lookAs σ us xs = some ts →
    ∃ f', (∀ (i : Nat) (c : T), ts[i]? = some c → Rep w C.St (C.looks Ds) c (f' i) (Dk i) ∧ c.closed = true) ∧ vals ts f' 0 = xs.map a.eval ∧ ts.length = us.length ∧ (∀ (i : Nat) (c : T), us[i]? = some (some c) → ts[i]? = some c ∧ f' i = f i)
  | [], [], ts, f, Dk, _, _, he => by simp [lookAs] at he; subst he; exact ⟨f, by simp, rfl, rfl, by simp⟩
  | some t :: us, x :: xs, ts, f, Dk, hr, hD, he => by
    simp only [lookAs, Option.map_eq_some_iff] at he
    obtain ⟨ts', hts, rfl⟩ := he
    obtain ⟨h1, h2, x', hx', h3⟩ := hr 0 t rfl
    simp at hx'; subst hx'
    obtain ⟨f', g1, g2, g3, g4⟩ := lookAs_ok hC h (f := fun i => f (i + 1)) (Dk := fun i => Dk (i + 1)) (fun i d hi => by simpa using hr (i + 1) d (by simpa using hi)) (fun i y hy => by simpa using hD (i + 1) y hy) hts
    refine ⟨fun i => match i with | 0 => f 0 | i + 1 => f' i, fun i d hi => ?_, ?_, by simp [g3], fun i d hi => ?_⟩
    · cases i with
      | zero => simp at hi; subst hi; exact ⟨h1.more (fun _ h => h) fun _ h => .inl h, h2⟩
      | succ i => exact g1 i d (by simpa using hi)
    · simp only [vals, h3, List.map_cons, ← g2]
      congr 1
      exact vals_congr _ _ _ _ _ fun k _ => by simp [Nat.add_comm]
    · cases i with
      | zero => simpa using hi
      | succ i => simpa using g4 i d (by simpa using hi)
  | none :: us, x :: xs, ts, f, Dk, hr, hD, he => by
    simp only [lookAs, Option.bind_eq_some_iff, Option.map_eq_some_iff] at he
    obtain ⟨t, ht, ts', hts, rfl⟩ := he
    obtain ⟨k', h1, h2, h3⟩ := lookT_ok hC h ht
    obtain ⟨f', g1, g2, g3, g4⟩ := lookAs_ok hC h (f := fun i => f (i + 1)) (Dk := fun i => Dk (i + 1)) (fun i d hi => by simpa using hr (i + 1) d (by simpa using hi)) (fun i y hy => by simpa using hD (i + 1) y hy) hts
    refine ⟨fun i => match i with | 0 => k' | i + 1 => f' i, fun i d hi => ?_, ?_, by simp [g3], fun i d hi => ?_⟩
    · cases i with
      | zero =>
        simp at hi; subst hi
        exact ⟨h1.congrD fun y => ⟨fun h => h.elim, fun hy => by obtain ⟨c, hc⟩ := hD 0 y hy; simp at hc⟩, h3⟩
      | succ i => exact g1 i d (by simpa using hi)
    · simp only [vals, h2, List.map_cons, ← g2]
      congr 1
      exact vals_congr _ _ _ _ _ fun k _ => by simp [Nat.add_comm]
    · cases i with
      | zero => simp at hi
      | succ i => simpa using g4 i d (by simpa using hi)
  | [], _ :: _, _, _, _, _, _, he => by simp [lookAs] at he
  | some _ :: _, [], _, _, _, _, _, he => by simp [lookAs] at he
  | none :: _, [], _, _, _, _, _, he => by simp [lookAs] at he

/-- A function of the program, with a body. -/
structure Fun (P : Program) (f : Nat) : Prop where
  ok : ∃ fn c, P.funcs[f]? = some fn ∧ fn.body = some c ∧ (fn.name == "runtime.NumGoroutine") = false
theorem Fun.run {P : Program} {f : Nat} (h : Fun P f) (args : Array Value) (w : World) : (callFunc f args).run P w = .ok (.enter f args) w := by
  obtain ⟨fn, c, h1, h2, h3⟩ := h.ok
  simp only [callFunc, Sem.run_bind, run_program, Result.andThen_ok, h1, h3, h2]
  rfl

theorem call_args (hC : C.Ok) {σ1 : S} {κ1 : Nat → K} {Ds1 : Nat → Nat → Prop} (h1 : SR C σ1 κ1 Ds1 a.tmps w) {ts : List T} {f : Nat → K} {Dk : Nat → Nat → Prop}
    (hr : ∀ (i : Nat) (c : T), ts[i]? = some c → Rep w C.St (C.looks Ds1) c (f i) (Dk i) ∧ c.closed = true) (ho : ∀ i x, Dk i x → i < ts.length) (hf : ∀ i, Free C Ds1 (Dk i)) (hd : ∀ i j x, Dk i x → Dk j x → i = j) :
    Args w C.St (C.looks Ds1) ts f Dk :=
  ⟨fun i c hi => (hr i c hi).1, fun i c hi => (hr i c hi).2, ho, hd, fun x hx => by
    have hst : (C.St x ∨ C.Vw x) → x < w.heap.size ∧ ∀ i, ¬ Dk i x := fun hx => by
      have := hC.old x hx
      refine ⟨Nat.lt_of_lt_of_le this.1 h1.fr.size, fun i hi => ?_⟩
      rcases (hf i).own x hi with h | h
      · omega
      · exact this.2 h
    rcases hx with hx | hx | hx | ⟨s, hs⟩
    · exact hst (.inl hx)
    · exact hst (.inr hx)
    · exact hst (.inl hx)
    · exact ⟨(h1.rep s).lt x hs, fun i hi => (hf i).dis s x hs hi⟩⟩

/-- What is left behind a call. -/
theorem call_back (hC : C.Ok) {σ1 : S} {κ1 : Nat → K} {Ds1 : Nat → Nat → Prop} (h1 : SR C σ1 κ1 Ds1 a.tmps w) {Dk : Nat → Nat → Prop} (hf : ∀ i, Free C Ds1 (Dk i)) {w' : World} {ks ks' : Nat → K} {outs : List T} {t : T} {k : K} {D : Nat → Prop} {D' : Nat → Nat → Prop}
    (hb : Back w w' C.St (C.looks Ds1) ks Dk outs t k D ks' D') (hv : noVw t = true) :
    SR C σ1 κ1 Ds1 a.tmps w' ∧ Rep w' C.St C.Vw t k D ∧ Free C Ds1 D ∧ RefOk σ1 κ1 t k ∧ ∀ i, Free C Ds1 (D' i) := by
  have hown : ∀ x, (w.heap.size ≤ x ∨ ∃ i, Dk i x) → (∀ s, ¬ Ds1 s x) ∧ (C.w0.heap.size ≤ x ∨ C.Dx x) := fun x hx => by
    rcases hx with hx | ⟨i, hi⟩
    · exact ⟨fun s hs => by have := (h1.rep s).lt x hs; omega, .inl (Nat.le_trans h1.fr.size hx)⟩
    · exact ⟨fun s hs => (hf i).dis s x hs hi, (hf i).own x hi⟩
  refine ⟨h1.worldD (fun x hx => ?_) ⟨hb.fr.os.trans h1.fr.os, hb.fr.tape.trans h1.fr.tape, hb.fr.output.trans h1.fr.output, Nat.le_trans h1.fr.size hb.fr.size, fun x hx hd => ?_⟩, hb.rep.noVw hv, ⟨fun s x hs hx => (hown x (hb.own x (.inl hx))).1 s hs, fun x hx => (hown x (hb.own x (.inl hx))).2⟩, hb.rep.ref hb.closed, fun i => ⟨fun s x hs hx => (hown x (hb.own x (.inr ⟨i, hx⟩))).1 s hs, fun x hx => (hown x (hb.own x (.inr ⟨i, hx⟩))).2⟩⟩
  · have hlt : x < w.heap.size ∧ ∀ i, ¬ Dk i x := by
      rcases hx with ⟨s, hs⟩ | hx
      · exact ⟨(h1.rep s).lt x hs, fun i hi => (hf i).dis s x hs hi⟩
      · have := hC.old x hx
        refine ⟨Nat.lt_of_lt_of_le this.1 h1.fr.size, fun i hi => ?_⟩
        rcases (hf i).own x hi with h | h
        · omega
        · exact this.2 h
    exact hb.fr.block x hlt.1 fun ⟨i, hi⟩ => hlt.2 i hi
  · refine (hb.fr.block x (Nat.lt_of_lt_of_le hx h1.fr.size) fun ⟨i, hi⟩ => ?_).trans (h1.fr.block x hx hd)
    rcases (hf i).own x hi with h | h
    · omega
    · exact hd h

/-- The function that is called, and what it has captured. -/
def S.callee (σ : S) (x : Operand) : Option (Nat × List T) :=
  match x with
  | .func f => some (f, [])
  | .tmp s => match σ.sl s with
    | .gp 2 f cs => (look1s σ cs).map fun ts => (f, ts)
    | _ => none
  | _ => none

/-- A call that lends nothing. -/
theorem VOp_call (hC : C.Ok) {ops : Array Oper} {o : Oper} {K : S → Prop} {f : Nat} {xs : Array Operand} {tys : Array TypeId} (hw : σ.want ops o = some true) (ho : o.op = .call { callee := .value (.func f), args := xs, argTypes := tys })
    (hf : Fun C.P f) (bs : List Bool) {us : List (Option T)} {σ1 : S} (h1 : takeAs bs xs.toList σ = some (us, σ1)) {ts : List T} (h2 : lookAs σ1 us xs.toList = some ts) {R : List T → T → Prop} (hg : Gives C.P f ts R)
    (hd : dOk C.n o.dst = true) (hR : ∀ outs t, R outs t → noVw t = true ∧ K (σ1.putD o.dst t)) : VOp C ops o K σ := by
  rintro a w ⟨σ0, κ, Ds, rfl, h3, h4⟩ next Q hn
  rw [h3.want hw]
  obtain ⟨κ1, Ds1, f1, Dk, b1, b2, b3, b4, b5, b6, b7, b8⟩ := takeAs_ok hC h3 h1
  obtain ⟨f2, c1, c2, c3, c4⟩ := lookAs_ok hC b1 b3 b4 h2
  have hout : ∀ i x, Dk i x → i < ts.length := fun i x hx => by
    obtain ⟨c, hc⟩ := b4 i x hx
    rw [c3]; exact (List.getElem?_eq_some_iff.1 hc).1
  have hargs := call_args hC b1 c1 hout b5 b6
  have hcall := hg w C.St (C.looks Ds1) f2 Dk hargs
  have hrun : (execOp a.eval o).run C.P w = .ok (.enter f (vals ts f2 0).toArray) w := by
    have e : xs.map a.eval = (vals ts f2 0).toArray := by rw [c2]; apply Array.ext'; simp
    simp [execOp, ho, resolve, Deferred.ofValue, invoke, Act.eval, e, hf.run]
  simp only [if_true, Oper.wp, hrun, Oper.upon]
  refine hcall.mono fun e w' ⟨outs, t, k, D, ks', D', e1, e2, e3, e4⟩ => ?_
  subst e1
  obtain ⟨g1, g2⟩ := hR _ _ e2
  obtain ⟨q1, q2, q3, q4, q5⟩ := call_back hC b1 b5 e4 g1
  obtain ⟨κ3, Ds3, q6⟩ := q1.putD hd q2 q3 q4
  exact hn _ _ ⟨_, κ3, Ds3, g2, q6, by cases o.dst <;> exact h4⟩
end Go.Proofs.Ytnbahnpckfelpaa.VL
