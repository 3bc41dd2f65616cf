import Derived.Test.YtnbahnpckfelpaaVLd
/-! VL, part E: operations that hand out a value: moves, new blocks, loads, addresses. -/
namespace Go.Proofs.Ytnbahnpckfelpaa.VL
open Go.RowKit
set_option linter.unusedVariables false

/-- The operation o hands out a value that reads t; the slots are σ' then. -/
def ValOk (C : Ctx) (o : Oper) (σ : S) (t : T) (σ' : S) : Prop :=
  ∀ κ Ds (a : Act) w, SR C σ κ Ds a.tmps w → ∃ v w' κ' Ds' k D, (execOp a.eval o).run C.P w = .ok (.value v) w' ∧ SR C σ' κ' Ds' a.tmps w' ∧
    Rep w' C.St C.Vw t k D ∧ val t k = v ∧ Free C Ds' D ∧ RefOk σ' κ' t k

variable {C : Ctx} {σ : S} {κ : Nat → K} {Ds : Nat → Nat → Prop} {a : Act} {tmps : Array Value} {w : World}

/-- No owned part lies in it itself; borrowed ones may. -/
def noOwn1 : T → Bool
  | .sc _ | .rf .. | .ad .. | .ra .. => true
  | .nd _ m _ _ => m != .own
  | _ => false
theorem noOwn1_rep {t : T} {k : K} {D : Nat → Prop} (hcp : noOwn1 t = true) (h : Rep w C.St C.Vw t k D) : Rep w C.St C.Vw t k No := by
  cases h with
  | sc h => exact .sc h
  | rf => exact .rf
  | ad => exact .ad
  | look n b off hm hsz hn hc hA hp hs hv hk => exact .look n b off hm hsz hn hc hA hp hs hv hk
  | ra b off hm hA hS hs hv hk => exact .ra b off hm hA hS hs hv hk
  | _ => simp [noOwn1] at hcp

def mv (σ : S) (x : Operand) : Option (T × S) :=
  match x with
  | .tmp s =>
    match σ.sl s with
    | .nd true .own _ _ => some (.ad (σ.st s) s [] 0, σ)
    | .nd false .own sz cs => some (.rf (σ.st s) s [] 0 (cs.length / sz) sz, σ)
    | .rf st s' p lo n sz => some (.rf st s' p lo n sz, σ)
    | .ad st s' p o => some (.ad st s' p o, σ)
    | .gp kind f cs => if cs.all noOwn1 then some (.gp kind f cs, σ) else some (.gp kind f cs, σ.kill s)
    | _ => σ.cons x
  | _ => σ.cons x
def asg (σ : S) (d : Option Nat) (x : Operand) : Option (T × S) :=
  match x with
  | .tmp s =>
    match σ.sl s with
    | .nd false .own _ _ => σ.cons x
    | .rf st s' p lo n sz => if d = some s' then takeWin σ st s' p lo n sz else mv σ x
    | _ => mv σ x
  | _ => mv σ x

theorem Rep.own_cap {St Vw : Nat → Prop} {ptr : Bool} {sz : Nat} {cs : List T} {k : K} {D : Nat → Prop} (h : Rep w St Vw (.nd ptr .own sz cs) k D) :
    0 < sz ∧ (cs.length / sz) * sz = cs.length ∧ cs.length / sz ≤ k.cap ∧ ((0 < k.cap ∨ ptr = true) → ∃ b o, k.A = some ⟨b, o, none⟩) := by
  cases h with
  | look n b off hm => exact absurd rfl hm
  | own0 h => exact ⟨h, by simp, by simp, fun h => by simp [K.cap] at h⟩
  | own n b off arr e fz Dk hsz hn hc =>
    have : cs.length / sz = n := by rw [← hn]; exact Nat.mul_div_cancel _ hsz
    exact ⟨hsz, by rw [this, hn], by rw [this]; exact hc, fun _ => ⟨b, off, rfl⟩⟩

theorem cons_val (hC : C.Ok) {o : Oper} {x : Operand} (ho : ∀ κ Ds (a : Act) w, SR C σ κ Ds a.tmps w → execOp a.eval o = pure (.value (a.eval x))) {t : T} {σ' : S} (he : σ.cons x = some (t, σ')) : ValOk C o σ t σ' := by
  intro κ Ds a w h
  obtain ⟨κ', Ds', k, D, h1, h2, h3, h4, h5, h6, h7⟩ := h.cons hC he
  exact ⟨_, w, κ', Ds', k, D, by rw [ho _ _ _ _ h]; rfl, h1, h2, h3, h4, whole_ref h5⟩

theorem mv_val (hC : C.Ok) {o : Oper} {x : Operand} (ho : ∀ κ Ds (a : Act) w, SR C σ κ Ds a.tmps w → execOp a.eval o = pure (.value (a.eval x))) {t : T} {σ' : S} (he : mv σ x = some (t, σ')) : ValOk C o σ t σ' := by
  unfold mv at he
  split at he
  · rename_i s
    split at he
    · rename_i sz cs hs
      simp only [Option.some.injEq, Prod.mk.injEq] at he; obtain ⟨rfl, rfl⟩ := he
      intro κ Ds a w h
      have hr := h.rep s
      rw [hs] at hr
      obtain ⟨h1, h2, h3, h4⟩ := hr.own_cap
      obtain ⟨b, o', hA⟩ := h4 (.inr rfl)
      refine ⟨_, w, κ, Ds, κ s, No, by rw [ho _ _ _ _ h]; rfl, h, .ad, ?_, Free.no, .ad (Nat.le_refl _) fun _ => ⟨true, sz, cs, b, o', by simp [hs], by simpa [getK] using hA, by simpa using hA⟩⟩
      rw [h.eval]; simp [S.opd, opdK, hs, val]
    · rename_i sz cs hs
      simp only [Option.some.injEq, Prod.mk.injEq] at he; obtain ⟨rfl, rfl⟩ := he
      intro κ Ds a w h
      have hr := h.rep s
      rw [hs] at hr
      obtain ⟨h1, h2, h3, h4⟩ := hr.own_cap
      refine ⟨_, w, κ, Ds, κ s, No, by rw [ho _ _ _ _ h]; rfl, h, .rf, ?_, Free.no, .rf (Nat.le_refl _) fun _ => ⟨cs, by simp [hs], by simp only [Nat.zero_add]; omega, h3, fun hc => ?_, fun _ => by simp [getK]⟩⟩
      · rw [h.eval]; simp [S.opd, opdK, hs, val]
      · obtain ⟨b, o', hA⟩ := h4 (.inl hc)
        exact ⟨by simp [getK], b, o', by simpa [getK] using hA, by simpa using hA⟩
    · rename_i st s' p lo n sz hs
      simp only [Option.some.injEq, Prod.mk.injEq] at he; obtain ⟨rfl, rfl⟩ := he
      intro κ Ds a w h
      have hr := h.ref s
      rw [hs] at hr
      refine ⟨_, w, κ, Ds, κ s, No, by rw [ho _ _ _ _ h]; rfl, h, .rf, ?_, Free.no, hr⟩
      rw [h.eval]; simp [S.opd, opdK, hs]
    · rename_i st s' p o' hs
      simp only [Option.some.injEq, Prod.mk.injEq] at he; obtain ⟨rfl, rfl⟩ := he
      intro κ Ds a w h
      have hr := h.ref s
      rw [hs] at hr
      refine ⟨_, w, κ, Ds, κ s, No, by rw [ho _ _ _ _ h]; rfl, h, .ad, ?_, Free.no, hr⟩
      rw [h.eval]; simp [S.opd, opdK, hs]
    · rename_i kind f cs hs
      split at he
      · rename_i hall
        simp only [Option.some.injEq, Prod.mk.injEq] at he; obtain ⟨rfl, rfl⟩ := he
        intro κ Ds a w h
        have hr := h.ref s
        have hp := h.rep s
        rw [hs] at hr hp
        refine ⟨_, w, κ, Ds, κ s, No, by rw [ho _ _ _ _ h]; rfl, h, ?_, ?_, Free.no, hr⟩
        · cases hp with
          | gp Dk hk hout hd hD =>
            refine .gp (fun _ => No) (fun i c hi => ?_) (fun _ _ h => h.elim) (fun _ _ _ h => h.elim) (fun x => ⟨fun h => h.elim, fun ⟨_, h⟩ => h.elim⟩)
            simp only [List.all_eq_true] at hall
            exact noOwn1_rep (hall c (List.mem_of_getElem? hi)) (hk i c hi)
        · rw [h.eval]; simp [S.opd, opdK, hs]
      · simp only [Option.some.injEq, Prod.mk.injEq] at he; obtain ⟨rfl, rfl⟩ := he
        intro κ Ds a w h
        have hr := h.ref s
        have hp := h.rep s
        rw [hs] at hr hp
        refine ⟨_, w, _, _, κ s, Ds s, by rw [ho _ _ _ _ h]; rfl, h.kill s, hp, ?_, h.freed s, hr.kill s _⟩
        rw [h.eval]; simp [S.opd, opdK, hs]
    · exact cons_val hC ho he
  · exact cons_val hC ho he

theorem asg_val (hC : C.Ok) {o : Oper} {d : Option Nat} {x : Operand} (ho : ∀ κ Ds (a : Act) w, SR C σ κ Ds a.tmps w → execOp a.eval o = pure (.value (a.eval x))) {t : T} {σ' : S} (he : asg σ d x = some (t, σ')) : ValOk C o σ t σ' := by
  unfold asg at he
  split at he
  · rename_i s
    split at he
    · exact cons_val hC ho he
    · rename_i st s' p lo n sz hs
      split at he
      · intro κ Ds a w h
        have hr := h.ref s
        rw [hs] at hr
        obtain ⟨κ', Ds', k', D, h1, h2, h3, h4, h5, h6, h7, h8⟩ := takeWin_ok hC h hr he
        refine ⟨_, w, κ', Ds', k', D, by rw [ho _ _ _ _ h]; rfl, h1, h2, ?_, h4, .solid h5⟩
        rw [h3, h.eval]; simp [S.opd, opdK, hs]
      · exact mv_val hC ho he
    · exact mv_val hC ho he
  · exact mv_val hC ho he

/-! New blocks. -/
theorem Fr.alloc {w0 : World} {Dx : Nat → Prop} (h : Fr w0 Dx w) (o : Obj) : Fr w0 Dx (w.alloc o) :=
  ⟨h.os, h.tape, h.output, by simp only [World.alloc, Array.size_push]; have := h.size; omega, fun x hx hd => by
    rw [Below.heap_alloc _ _ _ (Nat.lt_of_lt_of_le hx h.size)]; exact h.block x hx hd⟩
theorem SR.alloc (hC : C.Ok) (h : SR C σ κ Ds tmps w) (o : Obj) : SR C σ κ Ds tmps (w.alloc o) :=
  h.world hC (fun x hx => Below.heap_alloc _ _ _ hx) (h.fr.alloc o)

/-- A block made of cells that nobody owns. -/
theorem Rep.new {St Vw : Nat → Prop} (hC : C.Ok) (h : SR C σ κ Ds tmps w) {cs : List T} {f : Nat → K} {Dk : Nat → Nat → Prop} (ptr : Bool) {sz n : Nat} (e : TypeId) (hsz : 0 < sz) (hn : n * sz = cs.length)
    (hs : ∀ (i : Nat) (c : T), cs[i]? = some c → c.solid = true) (hk : ∀ (i : Nat) (c : T), cs[i]? = some c → Rep w C.St C.Vw c (f i) (Dk i)) (hout : ∀ i x, Dk i x → i < cs.length)
    (hfree : ∀ i, Free C Ds (Dk i)) (hd : ∀ i j x, Dk i x → Dk j x → i = j) :
    Rep (w.alloc (.cells (vals cs f 0).toArray e)) C.St C.Vw (.nd ptr .own sz cs) (.mk (some ⟨w.heap.size, 0, none⟩) n f) (fun x => x = w.heap.size ∨ ∃ i, Dk i x) ∧
    Free C Ds (fun x => x = w.heap.size ∨ ∃ i, Dk i x) := by
  have hlt : ∀ i x, Dk i x → x < w.heap.size := fun i x hx => (hk i _ (List.getElem?_eq_getElem (hout i x hx))).lt x hx
  refine ⟨.own n w.heap.size 0 (vals cs f 0).toArray e (0, 0) Dk hsz hn (Nat.le_refl _) (heap_alloc_new w _) (.inl rfl) (by simp [vals_length, hn]) hs (fun i c hi => ?_) (fun i c hi => ?_) hout (fun i x hx => ?_) hd (fun x => Iff.rfl), ⟨fun s x hx => ?_, fun x hx => ?_⟩⟩
  · simp [vals_get, hi]
  · refine (hk i c hi).keep fun x hx => Below.heap_alloc _ _ _ ?_
    rcases hx with hx | hx
    · exact hlt i x hx
    · exact Nat.lt_of_lt_of_le (hC.old x hx).1 h.fr.size
  · have := hlt i x hx; omega
  · rintro (rfl | ⟨i, hi⟩)
    · have := (h.rep s).lt _ hx; omega
    · exact (hfree i).dis s x hx hi
  · rcases hx with rfl | ⟨i, hi⟩
    · exact .inl h.fr.size
    · exact (hfree i).own x hi

def zeroT (P : Program) (e : TypeId) : Option (List T) := ((P.info? e).bind (·.zero)).map fun z => z.cells.toList.map constT1
def newZ (P : Program) (σ : S) (e : TypeId) : Option (T × S) := (zeroT P e).map fun cs => (.bx .own cs, σ)
theorem vals_const1 (vs : List Value) : ∀ i, vals (vs.map constT1) (fun j => constK1 (vs.getD (j - i) undef)) i = vs := by
  intro i
  apply List.ext_getElem?
  intro j
  simp only [vals_get, List.getElem?_map, Nat.add_sub_cancel_left]
  cases h : vs[j]? with
  | none => simp
  | some v => simp only [Option.map_some, List.getD, h, Option.getD_some, val_const1]
theorem newZ_val (hC : C.Ok) {o : Oper} {e : TypeId} (ho : o.op = .alloc e) {t : T} {σ' : S} (he : newZ C.P σ e = some (t, σ')) : ValOk C o σ t σ' := by
  intro κ Ds a w h
  simp only [newZ, zeroT, Option.map_map, Option.map_eq_some_iff, Option.bind_eq_some_iff] at he
  obtain ⟨z, ⟨i, hi, hz⟩, he⟩ := he
  simp only [Function.comp, Prod.mk.injEq] at he
  obtain ⟨rfl, rfl⟩ := he
  have hv := vals_const1 z.cells.toList 0
  obtain ⟨h1, h2⟩ := Rep.new (St := C.St) (Vw := C.Vw) hC h (cs := z.cells.toList.map constT1) (f := fun j => constK1 (z.cells.toList.getD (j - 0) undef)) (Dk := fun _ => No) true (sz := 1) (n := z.cells.size) e (by omega) (by simp)
    (fun i c hi => by
      simp only [List.getElem?_map, Option.map_eq_some_iff] at hi
      obtain ⟨v, _, rfl⟩ := hi; exact solid_const1 v)
    (fun i c hi => by
      simp only [List.getElem?_map, Option.map_eq_some_iff] at hi
      obtain ⟨v, hv, rfl⟩ := hi
      simp only [Nat.sub_zero, List.getD, hv, Option.getD_some]
      exact rep_const1 w _ _ v) (fun _ _ h => h.elim) (fun _ => Free.no) (fun _ _ _ h => h.elim)
  rw [hv] at h1
  refine ⟨_, _, κ, Ds, _, _, ?_, h.alloc hC _, h1, rfl, h2, .solid rfl⟩
  simp [execOp, ho, Instr.alloc, zeroValue, typeInfo, hi, hz, newVar, newRow, val, K.A]

def boxV (σ : S) (x : Operand) : Option (T × S) :=
  (σ.cons x).bind fun (t, σ') =>
    match t with
    | .gp 0 _ cs => some (.bx .own cs, σ')
    | .sc v => some (.bx .own [.sc v], σ')
    | .nd ptr m sz cs => some (.bx .own [.nd ptr m sz cs], σ')
    | _ => none
theorem boxV_val (hC : C.Ok) {o : Oper} {e : TypeId} {x : Operand} (ho : o.op = .box e x) {t : T} {σ' : S} (he : boxV σ x = some (t, σ')) : ValOk C o σ t σ' := by
  intro κ Ds a w h
  simp only [boxV, Option.bind_eq_some_iff] at he
  obtain ⟨⟨u, σ1⟩, he1, he⟩ := he
  obtain ⟨κ', Ds', k, D, h1, h2, h3, h4, h5, h6, h7⟩ := h.cons hC he1
  have run : ∀ v, a.eval x = v → (execOp a.eval o).run C.P w = .ok (.value (.pointer (some ⟨w.heap.size, 0, none⟩))) (w.alloc (.cells v.cells e)) := fun v hv => by
    simp [execOp, ho, Instr.box, newVar, newRow, hv]
  have one : ∀ u', u' = u → u'.solid = true → (∀ cs, val u' k ≠ .agg cs) → t = .bx .own [u'] → σ' = σ1 →
      ∃ v w' κ' Ds' k D, (execOp a.eval o).run C.P w = .ok (.value v) w' ∧ SR C σ' κ' Ds' a.tmps w' ∧ Rep w' C.St C.Vw t k D ∧ val t k = v ∧ Free C Ds' D ∧ RefOk σ' κ' t k := by
    rintro u' rfl hs hna rfl rfl
    obtain ⟨g1, g2⟩ := Rep.new (St := C.St) (Vw := C.Vw) hC h1 (cs := [u']) (f := fun _ => k) (Dk := fun i x => i = 0 ∧ D x) true (sz := 1) (n := 1) e (by omega) (by simp)
      (fun i c hi => by cases i <;> simp at hi; subst hi; exact hs)
      (fun i c hi => by cases i <;> simp at hi; subst hi; exact h2.congrD (by simp)) (fun i x hx => by simp [hx.1])
      (fun i => ⟨fun s x hx hx' => h4.dis s x hx hx'.2, fun x hx => h4.own x hx.2⟩) (fun i j x hi hj => by omega)
    have hc : (val u' k).cells = (vals [u'] (fun _ => k) 0).toArray := by
      simp only [vals]
      cases hv : val u' k <;> first | rfl | exact absurd hv (hna _)
    refine ⟨_, _, κ', Ds', _, _, run _ h3.symm, by rw [hc]; exact h1.alloc hC _, by rw [hc]; exact g1, rfl, g2, .solid rfl⟩
  cases u with
  | gp kind f cs =>
    cases kind with
    | succ n => simp at he
    | zero =>
      simp only [Option.some.injEq, Prod.mk.injEq] at he; obtain ⟨rfl, rfl⟩ := he
      cases h2 with
      | gp Dk hk hout hd hD =>
        simp only [T.whole, List.all_eq_true] at h5
        obtain ⟨g1, g2⟩ := Rep.new (St := C.St) (Vw := C.Vw) hC h1 (cs := cs) (f := k.kid) (Dk := Dk) true (sz := 1) (n := cs.length) e (by omega) (by simp)
          (fun i c hi => h5 c (List.mem_of_getElem? hi)) hk hout (fun i => ⟨fun s x hx hx' => h4.dis s x hx ((hD x).2 ⟨i, hx'⟩), fun x hx => h4.own x ((hD x).2 ⟨i, hx⟩)⟩) hd
        refine ⟨_, _, κ', Ds', .mk (some ⟨w.heap.size, 0, none⟩) cs.length k.kid, _, run _ h3.symm, ?_, ?_, rfl, g2, .solid rfl⟩
        · exact h1.alloc hC _
        · simpa [val, Value.cells] using g1
  | sc v =>
    simp only [Option.some.injEq, Prod.mk.injEq] at he; obtain ⟨rfl, rfl⟩ := he
    refine one _ rfl rfl (fun cs hcs => ?_) rfl rfl
    cases h2 with
    | sc hs => simp only [val] at hcs; subst hcs; simp [isSc] at hs
  | nd ptr m sz cs =>
    simp only [Option.some.injEq, Prod.mk.injEq] at he; obtain ⟨rfl, rfl⟩ := he
    exact one _ rfl rfl (fun cs hcs => by cases ptr <;> simp [val] at hcs) rfl rfl
  | _ => simp at he

/-! Places: where an address points. -/
inductive Loc
  | own (st s : Nat) (p : List Nat) (off : Nat) (cs : List T)
  | ro (m : Md) (cs : List T) (off : Nat)
def S.loc (σ : S) (x : Operand) : Option Loc :=
  match σ.opd x with
  | .ad st s p off => if st = σ.st s then (match getP (σ.sl s) p with | some (.nd _ .own _ cs) => some (.own st s p off cs) | _ => none) else none
  | .nd true .own _ cs => (match x with | .tmp s => some (.own (σ.st s) s [] 0 cs) | _ => none)
  | .nd true m _ cs => some (.ro m cs 0)
  | .ra m cs off => some (.ro m cs off)
  | _ => none
/-- What is loaded of a cell. -/
def ldOwn (st s : Nat) (p : List Nat) (off : Nat) : T → Option T
  | .sc v => some (.sc v)
  | .nd false .own sz cs => some (.rf st s (p ++ [off]) 0 (cs.length / sz) sz)
  | .nd true .own _ _ => some (.ad st s (p ++ [off]) 0)
  | .nd ptr m sz cs => some (.nd ptr m sz cs)
  | _ => none
def ldRo : T → Option T
  | .sc v => some (.sc v)
  | .nd ptr m sz cs => if m = .own then none else some (.nd ptr m sz cs)
  | _ => none
def Loc.ld (off : Nat) : Loc → Option T
  | .own st s p o cs => (cs[o + off]?).bind (ldOwn st s p (o + off))
  | .ro _ cs o => (cs[o + off]?).bind ldRo
def Loc.lds (l : Loc) : (off n : Nat) → Option (List T)
  | _, 0 => some []
  | off, n + 1 => (l.ld off).bind fun t => (l.lds (off + 1) n).map fun r => t :: r

theorem getP_snoc {t : T} {p : List Nat} {off : Nat} {ptr : Bool} {sz : Nat} {cs : List T} (h : getP t p = some (.nd ptr .own sz cs)) : getP t (p ++ [off]) = cs[off]? := by
  induction p generalizing t with
  | nil => simp at h; subst h; simp [getP]
  | cons c p ih =>
    obtain ⟨ptr', sz', cs', rfl⟩ := getP_cons h
    simp only [getP, Option.bind_eq_some_iff] at h
    obtain ⟨y, hy, h⟩ := h
    simp only [List.cons_append, getP, hy, Option.bind_some]
    exact ih h
theorem getK_snoc (k : K) (p : List Nat) (off : Nat) : getK k (p ++ [off]) = (getK k p).kid off := by
  induction p generalizing k with
  | nil => simp [getK]
  | cons c p ih => simp only [List.cons_append, getK]; exact ih _

/-- Where it points, cell by cell. -/
structure At (C : Ctx) (σ : S) (κ : Nat → K) (w : World) (l : Loc) (v : Value) (b o : Nat) (kid : Nat → K) (cs : List T) (off : Nat) : Prop where
  ptr : v = .pointer (some ⟨b, o + off, none⟩)
  cell : ∀ (i : Nat) (c : T), cs[i]? = some c → w.cell? ⟨b, o + i, none⟩ = some (val c (kid i))
  solid : ∀ (i : Nat) (c : T), cs[i]? = some c → c.solid = true
  rep : ∀ (i : Nat) (c : T), cs[i]? = some c → ∃ D, Rep w C.St C.Vw c (kid i) D
  own : ∀ st s p, l = .own st s p off cs → st = σ.st s ∧ (∃ ptr sz, getP (σ.sl s) p = some (.nd ptr .own sz cs)) ∧ (∀ i, getK (κ s) (p ++ [i]) = kid i) ∧ (getK (κ s) p).A = some ⟨b, o, none⟩
  ro : ∀ m, l = .ro m cs off → ∀ (i : Nat) (c : T), cs[i]? = some c → Rep w C.St C.Vw c (kid i) No

theorem SR.locOwn (h : SR C σ κ Ds tmps w) {s : Nat} {p : List Nat} {ptr : Bool} {sz : Nat} {cs : List T} {b o off : Nat} {v : Value} (hg : getP (σ.sl s) p = some (.nd ptr .own sz cs)) (hA : (getK (κ s) p).A = some ⟨b, o, none⟩)
    (hv : v = .pointer (some ⟨b, o + off, none⟩)) : ∃ kid, At C σ κ w (.own (σ.st s) s p off cs) v b o kid cs off := by
  obtain ⟨D', h1, h2⟩ := (h.rep s).get hg
  refine ⟨fun i => getK (κ s) (p ++ [i]), hv, fun i c hi => ?_, fun i c hi => ?_, fun i c hi => ?_, fun st' s' p' e => ?_, fun m e => by cases e⟩
  · rw [getK_snoc]
    generalize getK (κ s) p = kk at h1 hA
    cases h1 with
    | look n b off hm => exact absurd rfl hm
    | own0 => simp at hi
    | own n b' off' arr e fz Dk hsz hn hc hh hf hcap hs hv' hk =>
      simp only [K.A, Option.some.injEq, Addr.mk.injEq] at hA
      obtain ⟨rfl, rfl, _⟩ := hA
      simp only [World.cell?, hh, K.kid]
      simpa using hv' i c hi
  · generalize getK (κ s) p = kk at h1 hA
    cases h1 with
    | look n b off hm => exact absurd rfl hm
    | own0 => simp at hi
    | own n b' off' arr e fz Dk hsz hn hc hh hf hcap hs => exact hs i c hi
  · rw [getK_snoc]
    generalize getK (κ s) p = kk at h1 hA
    cases h1 with
    | look n b off hm => exact absurd rfl hm
    | own0 => simp at hi
    | own n b' off' arr e fz Dk hsz hn hc hh hf hcap hs hv' hk => exact ⟨_, hk i c hi⟩
  · cases e
    exact ⟨rfl, ⟨ptr, sz, hg⟩, fun i => rfl, hA⟩

theorem SR.loc (h : SR C σ κ Ds a.tmps w) {x : Operand} {l : Loc} (he : σ.loc x = some l) :
    ∃ b o kid cs off, At C σ κ w l (a.eval x) b o kid cs off ∧ ((∃ st s p, l = .own st s p off cs) ∨ ∃ m, l = .ro m cs off) := by
  have hev := h.eval x
  have hrep := h.opdRep x
  have href := h.opdRef x
  unfold S.loc at he
  split at he
  · rename_i st s p off hx
    rw [hx] at hev hrep href
    split at he
    · rename_i hst
      cases href with
      | solid h => simp [T.solid] at h
      | ad hle hr =>
        obtain ⟨ptr, sz, cs, b, o, g1, g2, g3⟩ := hr hst
        rw [g1] at he
        simp only [Option.some.injEq] at he
        subst he hst
        obtain ⟨kid, hk⟩ := h.locOwn (off := off) (v := a.eval x) g1 g2 (by rw [hev]; simp [val, g3])
        exact ⟨b, o, kid, cs, off, hk, .inl ⟨_, _, _, rfl⟩⟩
    · cases he
  · rename_i sz cs hx
    rw [hx] at hev hrep
    split at he
    · rename_i s
      simp only [Option.some.injEq] at he
      subst he
      simp only [opdK] at hev hrep
      obtain ⟨_, _, _, hA⟩ := hrep.own_cap
      obtain ⟨b, o, hA⟩ := hA (.inr rfl)
      simp only [S.opd] at hx
      obtain ⟨kid, hk⟩ := h.locOwn (s := s) (p := []) (off := 0) (v := a.eval (.tmp s)) (by simpa using hx) (by simpa [getK] using hA) (by rw [hev]; simp [val, hA])
      exact ⟨b, o, kid, cs, 0, hk, .inl ⟨_, _, _, rfl⟩⟩
    · cases he
  · rename_i m sz cs hm hx
    rw [hx] at hev hrep
    simp only [Option.some.injEq] at he
    subst he
    generalize opdK κ x = kk at hrep hev
    generalize opdD Ds x = DD at hrep
    cases hrep with
    | own => exact (hm rfl).elim
    | look n b off hm' hsz hn hc hA hp hs hv hk =>
      have hA' := hp rfl
      exact ⟨b, off, _, cs, 0, ⟨by rw [hev]; simp [val, K.A, hA'], hv, hs, fun i c hi => ⟨_, hk i c hi⟩, fun _ _ _ e => (by cases e), fun _ _ => hk⟩, .inr ⟨_, rfl⟩⟩
  · rename_i m cs off hx
    rw [hx] at hev hrep
    simp only [Option.some.injEq] at he
    subst he
    generalize opdK κ x = kk at hrep hev
    generalize opdD Ds x = DD at hrep
    cases hrep with
    | ra b o hm hA hS hs hv hk =>
      exact ⟨b, o, _, cs, off, ⟨by rw [hev]; simp [val, K.A, hA], hv, hs, fun i c hi => ⟨_, hk i c hi⟩, fun _ _ _ e => (by cases e), fun _ _ => hk⟩, .inr ⟨_, rfl⟩⟩
  · cases he
end Go.Proofs.Ytnbahnpckfelpaa.VL
