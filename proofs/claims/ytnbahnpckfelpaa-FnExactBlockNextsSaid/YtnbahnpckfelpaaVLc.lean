import Derived.Test.YtnbahnpckfelpaaVLb
/-! VL, part C: slots, and what they say of a running function. -/
namespace Go.Proofs.Ytnbahnpckfelpaa.VL
open Go.RowKit
set_option linter.unusedVariables false

def upd {α : Type} (f : Nat → α) (d : Nat) (x : α) : Nat → α := fun k => if k = d then x else f k
@[simp] theorem upd_same {α : Type} (f : Nat → α) (d : Nat) (x : α) : upd f d x d = x := by simp [upd]
theorem upd_ne {α : Type} (f : Nat → α) (d k : Nat) (x : α) (h : k ≠ d) : upd f d x k = f k := by simp [upd, h]

/-- The slots: what each holds, how often its parts have turned (st), how often it was written (pt). -/
structure S where
  sl : Nat → T
  st : Nat → Nat
  pt : Nat → Nat
def S.put (σ : S) (d : Nat) (t : T) : S := ⟨upd σ.sl d t, upd σ.st d (σ.st d + 1), upd σ.pt d (σ.pt d + 1)⟩
/-- What is at a path of a slot is replaced; its parts' places stay. -/
def S.setAt (σ : S) (s : Nat) (p : List Nat) (t : T) : S := ⟨upd σ.sl s (setP (σ.sl s) p t), σ.st, σ.pt⟩
/-- The same, and whoever looked into the slot looks no more. -/
def S.setAtB (σ : S) (s : Nat) (p : List Nat) (t : T) : S := ⟨upd σ.sl s (setP (σ.sl s) p t), upd σ.st s (σ.st s + 1), σ.pt⟩
def S.kill (σ : S) (s : Nat) : S := ⟨upd σ.sl s .dead, upd σ.st s (σ.st s + 1), upd σ.pt s (σ.pt s + 1)⟩

inductive RefOk (σ : S) (κ : Nat → K) : T → K → Prop
  | solid {t k} : t.solid = true → RefOk σ κ t k
  | ra {m cs o k} : RefOk σ κ (.ra m cs o) k
  | rf {st s p lo n sz k} : st ≤ σ.st s → (st = σ.st s → ∃ cs, getP (σ.sl s) p = some (.nd false .own sz cs) ∧ (lo + n) * sz ≤ cs.length ∧ n ≤ k.cap ∧
      (0 < k.cap → lo + k.cap ≤ (getK (κ s) p).cap ∧ ∃ b o, (getK (κ s) p).A = some ⟨b, o, none⟩ ∧ k.A = some ⟨b, o + lo * sz, none⟩) ∧
      (lo = 0 → k.A = (getK (κ s) p).A ∧ k.cap = (getK (κ s) p).cap)) → RefOk σ κ (.rf st s p lo n sz) k
  | ad {st s p o k} : st ≤ σ.st s → (st = σ.st s → ∃ ptr sz cs b off, getP (σ.sl s) p = some (.nd ptr .own sz cs) ∧ (getK (κ s) p).A = some ⟨b, off, none⟩ ∧ k.A = some ⟨b, off + o, none⟩) →
      RefOk σ κ (.ad st s p o) k
  | gp {kind f cs k} : (∀ (i : Nat) (c : T), cs[i]? = some c → RefOk σ κ c (k.kid i)) → RefOk σ κ (.gp kind f cs) k

/-- The parts of one tree that stand where those of another stood. -/
def SameShape (t : T) (k : K) (t' : T) (k' : K) : Prop :=
  ∀ p ptr sz cs, getP t p = some (.nd ptr .own sz cs) → ∃ cs', getP t' p = some (.nd ptr .own sz cs') ∧ cs'.length = cs.length ∧ (getK k' p).A = (getK k p).A ∧ (getK k' p).cap = (getK k p).cap
theorem SameShape.refl (t : T) (k : K) : SameShape t k t k := fun p ptr sz cs h => ⟨cs, h, rfl, rfl, rfl⟩

/-- A context: the program, the world and what was handed in at the beginning, the number of slots. -/
structure Ctx where
  P : Program
  w0 : World
  Dx : Nat → Prop
  St : Nat → Prop
  Vw : Nat → Prop
  n : Nat
  ks : Nat → K
structure Ctx.Ok (C : Ctx) : Prop where
  old : ∀ x, C.St x ∨ C.Vw x → x < C.w0.heap.size ∧ ¬ C.Dx x

/-- Nothing that was there has turned, but for the blocks in Dx. -/
structure Fr (w0 : World) (Dx : Nat → Prop) (w : World) : Prop where
  os : w.os = w0.os
  tape : w.tape = w0.tape
  output : w.output = w0.output
  size : w0.heap.size ≤ w.heap.size
  block : ∀ x, x < w0.heap.size → ¬ Dx x → w.heap[x]? = w0.heap[x]?

structure SR (C : Ctx) (σ : S) (κ : Nat → K) (Ds : Nat → Nat → Prop) (tmps : Array Value) (w : World) : Prop where
  size : tmps.size = C.n
  vals : ∀ s, tmps.getD s undef = val (σ.sl s) (κ s)
  rep : ∀ s, Rep w C.St C.Vw (σ.sl s) (κ s) (Ds s)
  dis : ∀ s s' x, Ds s x → Ds s' x → s = s'
  own : ∀ s x, Ds s x → C.w0.heap.size ≤ x ∨ C.Dx x
  ref : ∀ s, RefOk σ κ (σ.sl s) (κ s)
  par : ∀ i, σ.pt i = 0 → (κ i).A = (C.ks i).A ∧ (κ i).cap = (C.ks i).cap
  fr : Fr C.w0 C.Dx w

theorem RefOk.put {σ κ d x kx} {t : T} {k : K} (h : RefOk σ κ t k) : RefOk (σ.put d x) (upd κ d kx) t k := by
  induction h with
  | solid h => exact .solid h
  | ra => exact .ra
  | @rf st s p lo n sz k hle h =>
    by_cases hs : s = d
    · subst hs; refine .rf (by simp [S.put]; omega) (fun e => ?_)
      simp [S.put] at e; omega
    · refine .rf (by simpa [S.put, upd_ne _ _ _ _ hs] using hle) (fun e => ?_)
      simp only [S.put, upd_ne _ _ _ _ hs] at e ⊢
      exact h e
  | @ad st s p o k hle h =>
    by_cases hs : s = d
    · subst hs; refine .ad (by simp [S.put]; omega) (fun e => ?_)
      simp [S.put] at e; omega
    · refine .ad (by simpa [S.put, upd_ne _ _ _ _ hs] using hle) (fun e => ?_)
      simp only [S.put, upd_ne _ _ _ _ hs] at e ⊢
      exact h e
  | gp _ ih => exact .gp ih
theorem RefOk.setAtB {σ κ s0 p0 x kx} {t : T} {k : K} (h : RefOk σ κ t k) : RefOk (σ.setAtB s0 p0 x) (upd κ s0 kx) t k := by
  induction h with
  | solid h => exact .solid h
  | ra => exact .ra
  | @rf st s p lo n sz k hle h =>
    by_cases hs : s = s0
    · subst hs; refine .rf (by simp [S.setAtB]; omega) (fun e => ?_)
      simp [S.setAtB] at e; omega
    · refine .rf (by simpa [S.setAtB, upd_ne _ _ _ _ hs] using hle) (fun e => ?_)
      simp only [S.setAtB, upd_ne _ _ _ _ hs] at e ⊢
      exact h e
  | @ad st s p o k hle h =>
    by_cases hs : s = s0
    · subst hs; refine .ad (by simp [S.setAtB]; omega) (fun e => ?_)
      simp [S.setAtB] at e; omega
    · refine .ad (by simpa [S.setAtB, upd_ne _ _ _ _ hs] using hle) (fun e => ?_)
      simp only [S.setAtB, upd_ne _ _ _ _ hs] at e ⊢
      exact h e
  | gp _ ih => exact .gp ih
theorem RefOk.setAt {σ : S} {κ : Nat → K} {s0 p0 x kx} {t : T} {k : K} (hss : SameShape (σ.sl s0) (κ s0) (setP (σ.sl s0) p0 x) kx) (h : RefOk σ κ t k) : RefOk (σ.setAt s0 p0 x) (upd κ s0 kx) t k := by
  induction h with
  | solid h => exact .solid h
  | ra => exact .ra
  | @rf st s p lo n sz k hle h =>
    refine .rf hle fun e => ?_
    obtain ⟨cs, h1, h3, h4, h5, h6⟩ := h e
    by_cases hs : s = s0
    · subst hs
      obtain ⟨cs', g1, g2, g3, g4⟩ := hss p _ _ _ h1
      refine ⟨cs', by simpa [S.setAt] using g1, by omega, h4, fun hk => ?_, fun hk => ?_⟩
      · simp only [upd_same, g3, g4]
        exact h5 hk
      · simp only [upd_same, g3, g4]
        exact h6 hk
    · simp only [S.setAt, upd_ne _ _ _ _ hs]
      exact ⟨cs, h1, h3, h4, h5, h6⟩
  | @ad st s p o k hle h =>
    refine .ad hle fun e => ?_
    obtain ⟨ptr, sz, cs, b, off, h1, h2, h3⟩ := h e
    by_cases hs : s = s0
    · subst hs
      obtain ⟨cs', g1, g2, g3, g4⟩ := hss p _ _ _ h1
      exact ⟨ptr, sz, cs', b, off, by simpa [S.setAt] using g1, by simp only [upd_same, g3, h2], h3⟩
    · simp only [S.setAt, upd_ne _ _ _ _ hs]
      exact ⟨ptr, sz, cs, b, off, h1, h2, h3⟩
  | gp _ ih => exact .gp ih

/-- Replacing a part by one of its shape leaves the whole's shape. -/
theorem SameShape.setP : ∀ {p : List Nat} {t : T} {k : K} {t' t'' : T} {k'' : K}, getP t p = some t' → SameShape t' (getK k p) t'' k'' →
    SameShape t k (VL.setP t p t'') (setK k p k'')
  | [], t, k, t', t'', k'', hg, h => by simp at hg; subst hg; simpa [setK, getK] using h
  | c :: p, t, k, t', t'', k'', hg, h => by
    obtain ⟨ptr, sz, cs, rfl⟩ := getP_cons hg
    simp only [getP, Option.bind_eq_some_iff] at hg
    obtain ⟨y, hy, hg⟩ := hg
    have ih := SameShape.setP (k := k.kid c) hg (by simpa [getK] using h)
    obtain ⟨hA, hcap⟩ := setK_A k c p k''
    have hlt : c < cs.length := (List.getElem?_eq_some_iff.1 hy).1
    intro q ptr' sz' cs' hq
    cases q with
    | nil =>
      simp at hq; obtain ⟨rfl, rfl, rfl⟩ := hq
      refine ⟨_, by simp only [VL.setP, getP_nil]; rfl, by simp, ?_, ?_⟩
      · simpa only [getK] using hA
      · simpa only [getK] using hcap
    | cons d q =>
      simp only [getP, Option.bind_eq_some_iff] at hq
      obtain ⟨z, hz, hq⟩ := hq
      by_cases hdc : d = c
      · subst hdc
        rw [hy] at hz; injection hz with hz; subst hz
        obtain ⟨cs', g1, g2, g3, g4⟩ := ih q _ _ _ hq
        have hkid : (setK k (d :: p) k'').kid d = setK (k.kid d) p k'' ∨ (setK k (d :: p) k'') = k := by
          cases k with
          | mk A cap kid => exact .inl (by simp [setK, K.kid])
          | _ => exact .inr rfl
        refine ⟨cs', by rw [VL.setP, hy]; simp [getP, hlt, g1], g2, ?_, ?_⟩
        · rcases hkid with e | e
          · simp only [getK, e, g3]
          · rw [e]
        · rcases hkid with e | e
          · simp only [getK, e, g4]
          · rw [e]
      · have hkid : (setK k (c :: p) k'').kid d = k.kid d := by
          cases k <;> simp [setK, K.kid, hdc]
        refine ⟨cs', by simp [VL.setP, getP, Ne.symm hdc, hz, hq], rfl, ?_, ?_⟩ <;> simp only [getK, hkid]

/-! Steps of the relation. -/
variable {C : Ctx} {σ : S} {κ : Nat → K} {Ds : Nat → Nat → Prop} {tmps : Array Value} {w : World}

theorem getD_set (tmps : Array Value) (d s : Nat) (v : Value) (hd : d < tmps.size) : (tmps.setIfInBounds d v).getD s undef = if s = d then v else tmps.getD s undef := by
  simp only [Array.getD_eq_getD_getElem?, Array.getElem?_setIfInBounds]
  by_cases h : d = s
  · subst h; simp [hd]
  · simp [h, Ne.symm h]

theorem SR.put (h : SR C σ κ Ds tmps w) {d : Nat} (hd : d < C.n) {t : T} {k : K} {D : Nat → Prop} (hr : Rep w C.St C.Vw t k D)
    (hdis : ∀ s x, s ≠ d → Ds s x → ¬ D x) (hown : ∀ x, D x → C.w0.heap.size ≤ x ∨ C.Dx x) (href : RefOk σ κ t k) :
    SR C (σ.put d t) (upd κ d k) (upd Ds d D) (tmps.setIfInBounds d (val t k)) w where
  size := by simpa using h.size
  vals s := by
    rw [getD_set _ _ _ _ (by rw [h.size]; exact hd)]
    by_cases hs : s = d
    · subst hs; simp [S.put]
    · simp [S.put, hs, upd_ne _ _ _ _ hs, h.vals s]
  rep s := by
    by_cases hs : s = d
    · subst hs; simpa [S.put] using hr
    · simpa [S.put, upd_ne _ _ _ _ hs] using h.rep s
  dis s s' x hx hx' := by
    by_cases hs : s = d <;> by_cases hs' : s' = d
    · omega
    · subst hs; simp [upd_ne _ _ _ _ hs'] at hx hx'; exact absurd hx (hdis s' x hs' hx')
    · subst hs'; simp [upd_ne _ _ _ _ hs] at hx hx'; exact absurd hx' (hdis s x hs hx)
    · simp [upd_ne _ _ _ _ hs, upd_ne _ _ _ _ hs'] at hx hx'; exact h.dis s s' x hx hx'
  own s x hx := by
    by_cases hs : s = d
    · subst hs; simp at hx; exact hown x hx
    · simp [upd_ne _ _ _ _ hs] at hx; exact h.own s x hx
  ref s := by
    by_cases hs : s = d
    · subst hs; simpa [S.put] using href.put
    · simp only [S.put, upd_ne _ _ _ _ hs]; exact (h.ref s).put
  par i hi := by
    by_cases hs : i = d
    · subst hs; simp [S.put] at hi
    · simp only [S.put, upd_ne _ _ _ _ hs] at hi ⊢; exact h.par i hi
  fr := h.fr

/-- The world grows: what the slots say stays. -/
theorem SR.world (hC : C.Ok) (h : SR C σ κ Ds tmps w) {w' : World} (hw : ∀ x, x < w.heap.size → w'.heap[x]? = w.heap[x]?) (hf : Fr C.w0 C.Dx w') : SR C σ κ Ds tmps w' where
  size := h.size
  vals := h.vals
  rep s := (h.rep s).keep fun x hx => hw x (by
    rcases hx with hx | hx
    · exact (h.rep s).lt x hx
    · exact Nat.lt_of_lt_of_le (hC.old x hx).1 h.fr.size)
  dis := h.dis
  own := h.own
  ref := h.ref
  par := h.par
  fr := hf

/-- What a slot holds is given away. -/
theorem SR.kill (h : SR C σ κ Ds tmps w) (s : Nat) : SR C (σ.kill s) (upd κ s (.lit (val (σ.sl s) (κ s)))) (upd Ds s No) tmps w where
  size := h.size
  vals s' := by
    by_cases hs : s' = s
    · subst hs; simp [S.kill, val, h.vals s']
    · simp [S.kill, upd_ne _ _ _ _ hs, h.vals s']
  rep s' := by
    by_cases hs : s' = s
    · subst hs; simpa [S.kill] using Rep.dead
    · simpa [S.kill, upd_ne _ _ _ _ hs] using h.rep s'
  dis a b x ha hb := by
    by_cases hs : a = s
    · subst hs; simp at ha; exact ha.elim
    · by_cases hs' : b = s
      · subst hs'; simp at hb; exact hb.elim
      · simp [upd_ne _ _ _ _ hs, upd_ne _ _ _ _ hs'] at ha hb; exact h.dis a b x ha hb
  own a x ha := by
    by_cases hs : a = s
    · subst hs; simp at ha; exact ha.elim
    · simp [upd_ne _ _ _ _ hs] at ha; exact h.own a x ha
  ref a := by
    by_cases hs : a = s
    · subst hs; exact .solid (by simp [S.kill, T.solid])
    · simp only [S.kill, upd_ne _ _ _ _ hs]; exact (h.ref a).put (x := .dead)
  par i hi := by
    by_cases hs : i = s
    · subst hs; simp [S.kill] at hi
    · simp only [S.kill, upd_ne _ _ _ _ hs] at hi ⊢; exact h.par i hi
  fr := h.fr

/-- What stands at a path is replaced, in memory and in the slot. -/
theorem SR.set (hC : C.Ok) (h : SR C σ κ Ds tmps w) {s : Nat} {p : List Nat} {t' : T} (hg : getP (σ.sl s) p = some t') :
    ∃ D', Rep w C.St C.Vw t' (getK (κ s) p) D' ∧ (∀ x, D' x → Ds s x) ∧
      ∀ (w' : World) (t'' : T) (k'' : K) (D'' : Nat → Prop), Rep w' C.St C.Vw t'' k'' D'' → val t'' k'' = val t' (getK (κ s) p) → t''.solid = true →
        (p = [] → k''.A = (getK (κ s) p).A ∧ k''.cap = (getK (κ s) p).cap) →
        (∀ x, x < w.heap.size → ¬ D' x → w'.heap[x]? = w.heap[x]?) → (∀ x, D'' x → (D' x ∨ (w.heap.size ≤ x) ∨ (∀ s, ¬ Ds s x) ∧ (C.w0.heap.size ≤ x ∨ C.Dx x))) → Fr C.w0 C.Dx w' →
        SR C (σ.setAtB s p t'') (upd κ s (setK (κ s) p k'')) (upd Ds s fun x => (Ds s x ∧ ¬ D' x) ∨ D'' x) tmps w' ∧
        (SameShape t' (getK (κ s) p) t'' k'' → SR C (σ.setAt s p t'') (upd κ s (setK (κ s) p k'')) (upd Ds s fun x => (Ds s x ∧ ¬ D' x) ∨ D'' x) tmps w') := by
  obtain ⟨D', h1, h2, r3⟩ := (h.rep s).set hg
  refine ⟨D', h1, h2, fun w' t'' k'' D'' k1 k2 k3 k4 k5 k6 k7 => ?_⟩
  have hlt : ∀ s x, Ds s x → x < w.heap.size := fun s x hx => (h.rep s).lt x hx
  have hold : ∀ x, C.St x ∨ C.Vw x → x < w.heap.size ∧ ∀ s, ¬ Ds s x := fun x hx =>
    ⟨Nat.lt_of_lt_of_le (hC.old x hx).1 h.fr.size, fun s hs => by
      have := hC.old x hx
      rcases h.own s x hs with h | h
      · omega
      · exact this.2 h⟩
  have hD'' : ∀ x, D'' x → D' x ∨ ∀ s, ¬ Ds s x := fun x hx => by
    rcases k6 x hx with h | h | h
    · exact .inl h
    · exact .inr fun s hs => by have := hlt s x hs; omega
    · exact .inr h.1
  have rep' : Rep w' C.St C.Vw (setP (σ.sl s) p t'') (setK (κ s) p k'') (fun x => (Ds s x ∧ ¬ D' x) ∨ D'' x) := by
    refine r3 w' t'' k'' D'' k1 (fun _ => ⟨k2, k3⟩) (fun x hx => ?_) (fun x hx hx' => ?_)
    · rcases hx with hx | hx
      · exact k5 x (hlt s x hx.1) hx.2
      · exact k5 x (hold x hx).1 fun hx' => (hold x hx).2 s (h2 x hx')
    · rcases hD'' x hx with h | h
      · exact h
      · exact absurd hx' (h s)
  have hval : val (setP (σ.sl s) p t'') (setK (κ s) p k'') = val (σ.sl s) (κ s) := by
    cases p with
    | nil => simp at hg; subst hg; simpa [setK, getK] using k2
    | cons c p => exact val_setP_cons hg
  have hsol : (setP (σ.sl s) p t'').solid = true := by
    cases p with
    | nil => simpa using k3
    | cons c p => exact solid_setP_cons hg
  have hkA : (setK (κ s) p k'').A = (κ s).A ∧ (setK (κ s) p k'').cap = (κ s).cap := by
    cases p with
    | nil => simpa [setK, getK] using k4 rfl
    | cons c p => exact setK_A _ _ _ _
  have base : ∀ σ' : S, σ'.sl = upd σ.sl s (setP (σ.sl s) p t'') → σ'.pt = σ.pt → (∀ t k, RefOk σ κ t k → RefOk σ' (upd κ s (setK (κ s) p k'')) t k) →
      SR C σ' (upd κ s (setK (κ s) p k'')) (upd Ds s fun x => (Ds s x ∧ ¬ D' x) ∨ D'' x) tmps w' := by
    intro σ' e1 e2 e3
    refine ⟨h.size, fun a => ?_, fun a => ?_, fun a b x ha hb => ?_, fun a x ha => ?_, fun a => ?_, fun i hi => ?_, k7⟩
    · by_cases hs : a = s
      · subst hs; rw [e1]; simp [hval, h.vals a]
      · rw [e1]; simp [upd_ne _ _ _ _ hs, h.vals a]
    · by_cases hs : a = s
      · subst hs; rw [e1]; simpa using rep'
      · rw [e1]
        simp only [upd_ne _ _ _ _ hs]
        refine (h.rep a).keep fun x hx => ?_
        rcases hx with hx | hx
        · exact k5 x (hlt a x hx) fun hx' => hs (h.dis a s x hx (h2 x hx'))
        · exact k5 x (hold x hx).1 fun hx' => (hold x hx).2 s (h2 x hx')
    · have one : ∀ a x, a ≠ s → Ds a x → ¬ ((Ds s x ∧ ¬ D' x) ∨ D'' x) := fun a x hs ha hx => by
        rcases hx with hx | hx
        · exact hs (h.dis a s x ha hx.1)
        · rcases hD'' x hx with hx | hx
          · exact hs (h.dis a s x ha (h2 x hx))
          · exact hx a ha
      by_cases hs : a = s <;> by_cases hs' : b = s
      · omega
      · subst hs; simp only [upd_same, upd_ne _ _ _ _ hs'] at ha hb; exact absurd ha (one b x hs' hb)
      · subst hs'; simp only [upd_same, upd_ne _ _ _ _ hs] at ha hb; exact absurd hb (one a x hs ha)
      · simp only [upd_ne _ _ _ _ hs, upd_ne _ _ _ _ hs'] at ha hb; exact h.dis a b x ha hb
    · by_cases hs : a = s
      · subst hs
        simp only [upd_same] at ha
        rcases ha with ha | ha
        · exact h.own a x ha.1
        · rcases k6 x ha with hx | hx | hx
          · exact h.own a x (h2 x hx)
          · exact .inl (Nat.le_trans h.fr.size hx)
          · exact hx.2
      · simp only [upd_ne _ _ _ _ hs] at ha; exact h.own a x ha
    · by_cases hs : a = s
      · subst hs; rw [e1]; exact .solid (by simpa using hsol)
      · rw [e1]; simp only [upd_ne _ _ _ _ hs]; exact e3 _ _ (h.ref a)
    · rw [e2] at hi
      by_cases hs : i = s
      · subst hs; simp only [upd_same, hkA]; exact h.par i hi
      · simp only [upd_ne _ _ _ _ hs]; exact h.par i hi
  exact ⟨base _ rfl rfl fun t k hr => hr.setAtB, fun hss => base _ rfl rfl fun t k hr => hr.setAt (SameShape.setP hg hss)⟩
end Go.Proofs.Ytnbahnpckfelpaa.VL
