import Derived.Test.YtnbahnpckfelpaaVLc
/-! VL, part D: operands; what is taken out of a slot. -/
namespace Go.Proofs.Ytnbahnpckfelpaa.VL
open Go.RowKit
set_option linter.unusedVariables false

def constT1 : Value → T
  | .slice none 0 0 => .sl .own 1 []
  | v => if isSc v then .sc v else .dead
def constT : Value → T
  | .agg cs => .ag (cs.toList.map constT1)
  | v => constT1 v
def constK1 : Value → K
  | .slice none 0 0 => .mk none 0 fun _ => .leaf
  | v => .lit v
def constK : Value → K
  | .agg cs => .mk none 0 fun i => constK1 (cs.toList.getD i undef)
  | v => constK1 v
theorem val_const1 (v : Value) : val (constT1 v) (constK1 v) = v := by
  unfold constT1 constK1
  split
  · simp [val, K.A, K.cap]
  · split <;> simp [val]
theorem rep_const1 (w : World) (St Vw : Nat → Prop) (v : Value) : Rep w St Vw (constT1 v) (constK1 v) No := by
  unfold constT1 constK1
  split
  · exact .own0 (by omega)
  · split
    · exact .sc ‹_›
    · exact .dead
theorem solid_const1 (v : Value) : (constT1 v).solid = true := by
  unfold constT1
  split
  · rfl
  · split <;> rfl
theorem val_const (v : Value) : val (constT v) (constK v) = v := by
  unfold constT constK
  split
  · rename_i cs
    simp only [val]
    congr
    apply List.ext_getElem?
    intro i
    simp only [vals_get, Nat.zero_add, List.getElem?_map, K.kid]
    cases h : cs.toList[i]? with
    | none => simp
    | some v => simp only [Option.map_some, List.getD, h, Option.getD_some, val_const1]
  · exact val_const1 v
theorem rep_const (w : World) (St Vw : Nat → Prop) (v : Value) : Rep w St Vw (constT v) (constK v) No := by
  unfold constT constK
  split
  · rename_i cs
    refine .gp (fun _ => No) (fun i c hi => ?_) (fun _ _ h => h.elim) (fun _ _ _ h => h.elim) (fun x => ⟨fun h => h.elim, fun ⟨_, h⟩ => h.elim⟩)
    simp only [List.getElem?_map, Option.map_eq_some_iff] at hi
    obtain ⟨v, hv, rfl⟩ := hi
    simp only [K.kid, List.getD, hv, Option.getD_some]
    exact rep_const1 w St Vw v
  · exact rep_const1 w St Vw v
theorem ref_const (σ : S) (κ : Nat → K) (v : Value) : RefOk σ κ (constT v) (constK v) := by
  unfold constT constK
  split
  · rename_i cs
    refine .gp fun i c hi => ?_
    simp only [List.getElem?_map, Option.map_eq_some_iff] at hi
    obtain ⟨v, hv, rfl⟩ := hi
    exact .solid (solid_const1 v)
  · exact .solid (solid_const1 v)

def S.opd (σ : S) : Operand → T
  | .tmp s => σ.sl s
  | .const v => constT v
  | .func f => .fn f []
  | .global _ => .dead
def opdK (κ : Nat → K) : Operand → K
  | .tmp s => κ s
  | .const v => constK v
  | .func _ => .leaf
  | .global g => .lit (.pointer (some ⟨g, 0, none⟩))
def opdD (Ds : Nat → Nat → Prop) : Operand → Nat → Prop
  | .tmp s => Ds s
  | _ => No

variable {C : Ctx} {σ : S} {κ : Nat → K} {Ds : Nat → Nat → Prop} {a : Act} {tmps : Array Value} {w : World}

theorem SR.eval (h : SR C σ κ Ds a.tmps w) (x : Operand) : a.eval x = val (σ.opd x) (opdK κ x) := by
  cases x with
  | tmp s => exact h.vals s
  | const v => exact (val_const v).symm
  | global g => simp [Act.eval, S.opd, opdK, val]
  | func f => simp [Act.eval, S.opd, opdK, val, VL.vals]
theorem SR.opdRep (h : SR C σ κ Ds tmps w) (x : Operand) : Rep w C.St C.Vw (σ.opd x) (opdK κ x) (opdD Ds x) := by
  cases x with
  | tmp s => exact h.rep s
  | const v => exact rep_const w _ _ v
  | global g => exact .dead
  | func f => exact .gp (fun _ => No) (by simp) (fun _ _ h => h.elim) (fun _ _ _ h => h.elim) (fun x => ⟨fun h => h.elim, fun ⟨_, h⟩ => h.elim⟩)
theorem SR.opdRef (h : SR C σ κ Ds tmps w) (x : Operand) : RefOk σ κ (σ.opd x) (opdK κ x) := by
  cases x with
  | tmp s => exact h.ref s
  | const v => exact ref_const _ _ v
  | global g => exact .solid rfl
  | func f => exact .gp (by simp)

/-- Scalars alone, read-only parts, nothing owned and nothing borrowed: may be copied. -/
def copy1 : T → Bool
  | .sc _ => true
  | .nd _ m _ _ => m != .own
  | _ => false
def T.copy : T → Bool
  | .gp _ _ cs => cs.all copy1
  | .ra .. => true
  | t => copy1 t
theorem copy1_rep {t : T} {k : K} {D : Nat → Prop} (hcp : copy1 t = true) (h : Rep w C.St C.Vw t k D) : Rep w C.St C.Vw t k No := by
  cases h with
  | own => simp [copy1] at hcp
  | own0 => simp [copy1] at hcp
  | gp => simp [copy1] at hcp
  | sc h => exact .sc h
  | look n b off hm hsz hn hc hA hp hs hv hk => exact .look n b off hm hsz hn hc hA hp hs hv hk
  | _ => simp [copy1] at hcp
theorem copy_rep {t : T} {k : K} {D : Nat → Prop} (hc : t.copy = true) (h : Rep w C.St C.Vw t k D) : Rep w C.St C.Vw t k No := by
  cases t with
  | gp kind f cs =>
    cases h with
    | gp Dk hk hout hd hD =>
      refine .gp (fun _ => No) (fun i c hi => ?_) (fun _ _ h => h.elim) (fun _ _ _ h => h.elim) (fun x => ⟨fun h => h.elim, fun ⟨_, h⟩ => h.elim⟩)
      simp only [T.copy, List.all_eq_true] at hc
      exact copy1_rep (hc c (List.mem_of_getElem? hi)) (hk i c hi)
  | ra => cases h with | ra b off hm hA hS hs hv hk => exact .ra b off hm hA hS hs hv hk
  | _ => exact copy1_rep hc h
theorem copy1_ref {t : T} {k : K} (hc : copy1 t = true) : RefOk σ κ t k := by
  cases t with
  | sc v => exact .solid rfl
  | nd => exact .solid rfl
  | _ => simp [copy1] at hc
theorem copy_ref {t : T} {k : K} (hc : t.copy = true) : RefOk σ κ t k := by
  cases t with
  | gp kind f cs =>
    simp only [T.copy, List.all_eq_true] at hc
    exact .gp fun i c hi => copy1_ref (hc c (List.mem_of_getElem? hi))
  | ra => exact .ra
  | _ => exact copy1_ref hc
theorem copy1_solid {t : T} (hc : copy1 t = true) : t.solid = true := by
  cases t with
  | sc v => rfl
  | nd => rfl
  | _ => simp [copy1] at hc

/-- What no slot owns. -/
structure Free (C : Ctx) (Ds : Nat → Nat → Prop) (D : Nat → Prop) : Prop where
  dis : ∀ s x, Ds s x → ¬ D x
  own : ∀ x, D x → C.w0.heap.size ≤ x ∨ C.Dx x
theorem Free.no {C : Ctx} {Ds : Nat → Nat → Prop} : Free C Ds No := ⟨fun _ _ _ h => h, fun _ h => h.elim⟩
theorem Free.sub {C : Ctx} {Ds Ds' : Nat → Nat → Prop} {D : Nat → Prop} (h : Free C Ds D) (hs : ∀ s x, Ds' s x → Ds s x) : Free C Ds' D :=
  ⟨fun s x hx => h.dis s x (hs s x hx), h.own⟩

theorem SR.freed (h : SR C σ κ Ds tmps w) (s : Nat) : Free C (upd Ds s No) (Ds s) := ⟨fun s' x hx hx' => by
  by_cases e : s' = s
  · subst e; simp at hx; exact hx
  · simp only [upd_ne _ _ _ _ e] at hx; exact e (h.dis s' s x hx hx'), h.own s⟩

/-- The n elements from lo on of the list at a path, taken out. -/
def takeWin (σ : S) (st s : Nat) (p : List Nat) (lo n sz : Nat) : Option (T × S) :=
  if st = σ.st s then
    match getP (σ.sl s) p with
    | some (.nd false .own sz' cs) => if sz' = sz then some (.sl .own sz ((cs.drop (lo * sz)).take (n * sz)), if p = [] then σ.kill s else σ.setAtB s p .dead) else none
    | _ => none
  else none
/-- The box at a path, taken out. -/
def takeBox (σ : S) (st s : Nat) (p : List Nat) : Option (T × S) :=
  if st = σ.st s then
    match getP (σ.sl s) p with
    | some (.nd true .own sz cs) => some (.nd true .own sz cs, if p = [] then σ.kill s else σ.setAtB s p .dead)
    | _ => none
  else none

theorem RefOk.kill {t : T} {k : K} (h : RefOk σ κ t k) (s : Nat) (kx : K) : RefOk (σ.kill s) (upd κ s kx) t k := h.put (x := .dead)

/-- A node is taken out of a path. -/
theorem SR.take (hC : C.Ok) (h : SR C σ κ Ds tmps w) {s : Nat} {p : List Nat} {t : T} (hg : getP (σ.sl s) p = some t) :
    ∃ κ' Ds' D, SR C (if p = [] then σ.kill s else σ.setAtB s p .dead) κ' Ds' tmps w ∧ Rep w C.St C.Vw t (getK (κ s) p) D ∧ Free C Ds' D ∧ (∀ s x, Ds' s x → Ds s x) ∧ (∀ x, D x → Ds s x) ∧ ∀ t k, RefOk σ κ t k → RefOk (if p = [] then σ.kill s else σ.setAtB s p .dead) κ' t k := by
  by_cases hp : p = []
  · subst hp
    simp at hg; subst hg
    refine ⟨_, _, Ds s, by simpa using h.kill s, by simpa [getK] using h.rep s, ⟨fun s' x hx hx' => ?_, h.own s⟩, fun s' x hx => ?_, fun _ h => h, fun t k hr => by simpa using hr.kill s _⟩
    · by_cases hs : s' = s
      · subst hs; simp at hx; exact hx
      · simp [upd_ne _ _ _ _ hs] at hx; exact hs (h.dis s' s x hx hx')
    · by_cases hs : s' = s
      · subst hs; simp at hx; exact hx.elim
      · simpa [upd_ne _ _ _ _ hs] using hx
  · obtain ⟨D', h1, h2, h3⟩ := h.set hC hg
    obtain ⟨r, _⟩ := h3 w .dead (.lit (val t (getK (κ s) p))) No .dead (by simp [val]) rfl (fun e => absurd e hp) (fun _ _ _ => rfl) (fun _ h => h.elim) h.fr
    refine ⟨_, _, D', by simpa [hp] using r, h1, ⟨fun s' x hx hx' => ?_, fun x hx => h.own s x (h2 x hx)⟩, fun s' x hx => ?_, h2, fun t k hr => by simp only [hp, if_false]; exact hr.setAtB⟩
    · by_cases hs : s' = s
      · subst hs; simp only [upd_same] at hx
        exact hx.elim (fun hx => hx.2 hx') fun h => h
      · simp only [upd_ne _ _ _ _ hs] at hx; exact hs (h.dis s' s x hx (h2 x hx'))
    · by_cases hs : s' = s
      · subst hs; simp only [upd_same] at hx; exact hx.elim (fun hx => hx.1) (fun h => h.elim)
      · simpa only [upd_ne _ _ _ _ hs] using hx

/-- A window of an owned list is owned. -/
theorem Rep.win {St Vw : Nat → Prop} {sz : Nat} {cs : List T} {k kr : K} {D : Nat → Prop} (h : Rep w St Vw (.nd false .own sz cs) k D) {lo n : Nat} (hle : (lo + n) * sz ≤ cs.length) (hn : n ≤ kr.cap)
    (hk : 0 < kr.cap → lo + kr.cap ≤ k.cap ∧ ∃ b o, k.A = some ⟨b, o, none⟩ ∧ kr.A = some ⟨b, o + lo * sz, none⟩) :
    ∃ k' D', Rep w St Vw (.sl .own sz ((cs.drop (lo * sz)).take (n * sz))) k' D' ∧ (∀ x, D' x → D x) ∧ k'.A = kr.A ∧ k'.cap = kr.cap ∧ ((cs.drop (lo * sz)).take (n * sz)).length = n * sz ∧ 0 < sz := by
  have hl : ((cs.drop (lo * sz)).take (n * sz)).length = n * sz := by
    rw [List.length_take, List.length_drop, Nat.add_mul] at *; omega
  by_cases h0 : 0 < kr.cap
  · obtain ⟨h1, b, o, hA, hA'⟩ := hk h0
    cases h with
    | look n b off hm => exact absurd rfl hm
    | own0 => change lo + kr.cap ≤ 0 at h1; omega
    | @own _ _ _ cap kid _ n' b' off arr e fz Dk hsz hn' hc hh hf hcap hs hv hkk hout hb hd hD =>
      simp only [K.A, Option.some.injEq, Addr.mk.injEq] at hA
      obtain ⟨rfl, rfl, _⟩ := hA
      have hg : ∀ i c, ((cs.drop (lo * sz)).take (n * sz))[i]? = some c → cs[lo * sz + i]? = some c ∧ i < n * sz := by
        intro i c hi
        rw [List.getElem?_take] at hi
        split at hi
        · rw [List.getElem?_drop] at hi; exact ⟨hi, ‹_›⟩
        · cases hi
      refine ⟨.mk kr.A kr.cap fun i => kid (lo * sz + i), fun x => x = b' ∨ ∃ i, i < n * sz ∧ Dk (lo * sz + i) x, ?_, fun x hx => (hD x).2 (hx.imp id fun ⟨i, hi⟩ => ⟨_, hi.2⟩), rfl, rfl, hl, hsz⟩
      rw [hA']
      refine .own n b' (off + lo * sz) arr e fz (fun i x => i < n * sz ∧ Dk (lo * sz + i) x) hsz hl.symm hn hh hf ?_ (fun i c hi => hs _ c (hg i c hi).1) (fun i c hi => ?_) (fun i c hi => ?_) (fun i x hx => by rw [hl]; exact hx.1)
        (fun i x hx => hb _ x hx.2) (fun i j x hi hj => by have := hd _ _ x hi.2 hj.2; omega) (fun x => Iff.rfl)
      · simp only [K.cap] at h1
        have : (lo + kr.cap) * sz ≤ cap * sz := Nat.mul_le_mul_right _ h1
        rw [Nat.add_mul] at this; omega
      · have := hv _ c (hg i c hi).1; rwa [← Nat.add_assoc] at this
      · refine (hkk _ c (hg i c hi).1).congrD fun x => ⟨fun hx => ⟨(hg i c hi).2, hx⟩, fun hx => hx.2⟩
  · have hn0 : n = 0 := by omega
    subst hn0
    have hsz : 0 < sz := by
      cases h with
      | look n b off hm => exact absurd rfl hm
      | own0 h => exact h
      | own n b off arr e fz Dk hsz => exact hsz
    refine ⟨.mk kr.A 0 fun _ => .leaf, No, ?_, fun _ h => h.elim, rfl, (Nat.eq_zero_of_not_pos h0).symm, hl, hsz⟩
    simp only [Nat.zero_mul, List.take_zero]
    exact .own0 hsz


theorem takeWin_ok (hC : C.Ok) (h : SR C σ κ Ds tmps w) {st s : Nat} {p : List Nat} {lo n sz : Nat} {k : K} (hr : RefOk σ κ (.rf st s p lo n sz) k) {t : T} {σ' : S} (he : takeWin σ st s p lo n sz = some (t, σ')) :
    ∃ κ' Ds' k' D, SR C σ' κ' Ds' tmps w ∧ Rep w C.St C.Vw t k' D ∧ val t k' = val (.rf st s p lo n sz) k ∧ Free C Ds' D ∧ t.solid = true ∧ (∀ s x, Ds' s x → Ds s x) ∧ (∀ x, D x → ∃ s, Ds s x) ∧ ∀ t k, RefOk σ κ t k → RefOk σ' κ' t k := by
  unfold takeWin at he
  split at he
  · rename_i hst
    split at he
    · rename_i sz' cs hg
      split at he
      · rename_i hsz
        subst hsz
        simp only [Option.some.injEq, Prod.mk.injEq] at he
        obtain ⟨rfl, rfl⟩ := he
        cases hr with
        | solid h => simp [T.solid] at h
        | rf hle hrf =>
          obtain ⟨cs', g1, g2, g3, g4, _⟩ := hrf hst
          rw [hg] at g1
          simp only [Option.some.injEq, T.nd.injEq, true_and] at g1
          subst g1
          obtain ⟨κ', Ds', D, q1, q2, q3, q4, q5, q6⟩ := h.take hC hg
          obtain ⟨k', D', r1, r2, r3, r4, r5, r6⟩ := q2.win g2 g3 g4
          refine ⟨κ', Ds', k', D', q1, r1, ?_, ⟨fun s x hx hx' => q3.dis s x hx (r2 x hx'), fun x hx => q3.own x (r2 x hx)⟩, rfl, q4, fun x hx => ⟨s, q5 x (r2 x hx)⟩, q6⟩
          simp only [val, r3, r4, r5, Nat.mul_div_cancel _ r6]
      · cases he
    · cases he
  · cases he
theorem takeBox_ok (hC : C.Ok) (h : SR C σ κ Ds tmps w) {st s : Nat} {p : List Nat} {k : K} (hr : RefOk σ κ (.ad st s p 0) k) {t : T} {σ' : S} (he : takeBox σ st s p = some (t, σ')) :
    ∃ κ' Ds' k' D, SR C σ' κ' Ds' tmps w ∧ Rep w C.St C.Vw t k' D ∧ val t k' = val (.ad st s p 0) k ∧ Free C Ds' D ∧ t.solid = true ∧ (∀ s x, Ds' s x → Ds s x) ∧ (∀ x, D x → ∃ s, Ds s x) ∧ ∀ t k, RefOk σ κ t k → RefOk σ' κ' t k := by
  unfold takeBox at he
  split at he
  · rename_i hst
    split at he
    · rename_i sz cs hg
      simp only [Option.some.injEq, Prod.mk.injEq] at he
      obtain ⟨rfl, rfl⟩ := he
      cases hr with
      | solid h => simp [T.solid] at h
      | ad hle hrf =>
        obtain ⟨ptr, sz', cs', b, off, g1, g2, g3⟩ := hrf hst
        obtain ⟨κ', Ds', D, q1, q2, q3, q4, q5, q6⟩ := h.take hC hg
        exact ⟨κ', Ds', _, D, q1, q2, by simp [val, g2, g3], q3, rfl, q4, fun x hx => ⟨s, q5 x hx⟩, q6⟩
    · cases he
  · cases he

/-- What is handed out of a slot's part: a copy, or the part itself. -/
def cons1 (t : T) (σ : S) : Option (T × S) :=
  match t with
  | .sc v => some (.sc v, σ)
  | .nd ptr m sz cs => some (.nd ptr m sz cs, σ)
  | .rf st s p lo n sz => takeWin σ st s p lo n sz
  | .ad st s p 0 => takeBox σ st s p
  | _ => none
def consL : List T → S → Option (List T × S)
  | [], σ => some ([], σ)
  | t :: ts, σ => (cons1 t σ).bind fun (t', σ') => (consL ts σ').bind fun (ts', σ'') => some (t' :: ts', σ'')
/-- An operand's value, taken: what is scalar or read-only is copied, what is owned is taken away. -/
def S.cons (σ : S) (x : Operand) : Option (T × S) :=
  let t := σ.opd x
  if t.copy then some (t, σ) else
  match x with
  | .tmp s =>
    match t with
    | .gp kind f cs => (consL cs (σ.kill s)).bind fun (cs', σ') => some (.gp kind f cs', σ')
    | t => cons1 t (σ.kill s)
  | .const _ => some (t, σ)
  | _ => none

theorem cons1_ok (hC : C.Ok) (h : SR C σ κ Ds tmps w) {t t' : T} {σ' : S} {k : K} {D : Nat → Prop} (hrep : Rep w C.St C.Vw t k D) (hfree : Free C Ds D) (hr : RefOk σ κ t k) (he : cons1 t σ = some (t', σ')) :
    ∃ κ' Ds' k' D', SR C σ' κ' Ds' tmps w ∧ Rep w C.St C.Vw t' k' D' ∧ val t' k' = val t k ∧ Free C Ds' D' ∧ t'.solid = true ∧ (∀ s x, Ds' s x → Ds s x) ∧ (∀ x, D' x → D x ∨ ∃ s, Ds s x) ∧ ∀ t k, RefOk σ κ t k → RefOk σ' κ' t k := by
  unfold cons1 at he
  split at he
  · simp only [Option.some.injEq, Prod.mk.injEq] at he; obtain ⟨rfl, rfl⟩ := he
    exact ⟨κ, Ds, k, D, h, hrep, rfl, hfree, rfl, fun _ _ h => h, fun _ h => .inl h, fun _ _ h => h⟩
  · simp only [Option.some.injEq, Prod.mk.injEq] at he; obtain ⟨rfl, rfl⟩ := he
    exact ⟨κ, Ds, k, D, h, hrep, rfl, hfree, rfl, fun _ _ h => h, fun _ h => .inl h, fun _ _ h => h⟩
  · obtain ⟨κ', Ds', k', D', h1, h2, h3, h4, h5, h6, h7, h8⟩ := takeWin_ok hC h hr he
    exact ⟨κ', Ds', k', D', h1, h2, h3, h4, h5, h6, fun x hx => .inr (h7 x hx), h8⟩
  · obtain ⟨κ', Ds', k', D', h1, h2, h3, h4, h5, h6, h7, h8⟩ := takeBox_ok hC h hr he
    exact ⟨κ', Ds', k', D', h1, h2, h3, h4, h5, h6, fun x hx => .inr (h7 x hx), h8⟩
  · cases he



theorem consL_ok (hC : C.Ok) : ∀ {cs cs' : List T} {σ σ' : S} {κ : Nat → K} {Ds : Nat → Nat → Prop} {f : Nat → K} {Dk : Nat → Nat → Prop}, SR C σ κ Ds tmps w →
    (∀ (i : Nat) (c : T), cs[i]? = some c → Rep w C.St C.Vw c (f i) (Dk i)) → (∀ (i : Nat) (c : T), cs[i]? = some c → RefOk σ κ c (f i)) → (∀ i, i < cs.length → Free C Ds (Dk i)) → (∀ i j x, Dk i x → Dk j x → i = j) →
    consL cs σ = some (cs', σ') →
    ∃ κ' Ds' f' , ∃ Dk' : Nat → Nat → Prop, SR C σ' κ' Ds' tmps w ∧ (∀ (i : Nat) (c : T), cs'[i]? = some c → Rep w C.St C.Vw c (f' i) (Dk' i) ∧ c.solid = true) ∧ (∀ i x, Dk' i x → i < cs'.length) ∧
      vals cs' f' 0 = vals cs f 0 ∧ (∀ i, Free C Ds' (Dk' i)) ∧ (∀ i j x, Dk' i x → Dk' j x → i = j) ∧ (∀ s x, Ds' s x → Ds s x) ∧ (∀ i x, Dk' i x → (∃ j, j < cs.length ∧ Dk j x) ∨ ∃ s, Ds s x) ∧ (∀ t k, RefOk σ κ t k → RefOk σ' κ' t k)
  | [], cs', σ, σ', κ, Ds, f, Dk, h, hrep, href, hfree, hdis, he => by
    simp [consL] at he
    obtain ⟨rfl, rfl⟩ := he
    exact ⟨κ, Ds, f, fun _ => No, h, by simp, fun _ _ h => h.elim, rfl, fun _ => Free.no, fun _ _ _ h => h.elim, fun _ _ h => h, fun _ _ h => h.elim, fun _ _ h => h⟩
  | c :: cs, cs', σ, σ', κ, Ds, f, Dk, h, hrep, href, hfree, hdis, he => by
    simp only [consL, Option.bind_eq_some_iff] at he
    obtain ⟨⟨c1, σ1⟩, he1, ⟨cs2, σ2⟩, he2, he⟩ := he
    simp only [Option.some.injEq, Prod.mk.injEq] at he
    obtain ⟨rfl, rfl⟩ := he
    obtain ⟨κ1, Ds1, k1, D1, a1, a2, a3, a4, a5, a6, a7, a8⟩ := cons1_ok hC h (hrep 0 c rfl) (hfree 0 (by simp)) (href 0 c rfl) he1
    obtain ⟨κ2, Ds2, f2, Dk2, b1, b2, b2', b3, b4, b5, b6, b7, b8⟩ := consL_ok hC (f := fun i => f (i + 1)) (Dk := fun i => Dk (i + 1)) a1 (fun i d hi => hrep (i + 1) d (by simpa using hi)) (fun i d hi => a8 _ _ (href (i + 1) d (by simpa using hi)))
      (fun i hi => (hfree (i + 1) (by simpa using hi)).sub a6) (fun i j x hi hj => by have := hdis _ _ x hi hj; omega) he2
    have hD : ∀ j x, Dk2 j x → ¬ D1 x := fun j x hx hx' => by
      rcases b7 j x hx with ⟨i, hi, hi'⟩ | ⟨s, hs⟩
      · rcases a7 x hx' with h0 | ⟨s, hs⟩
        · have := hdis _ _ x h0 hi'; omega
        · exact (hfree (i + 1) (by simpa using hi)).dis s x hs hi'
      · exact a4.dis s x hs hx'
    refine ⟨κ2, Ds2, fun i => match i with | 0 => k1 | i + 1 => f2 i, fun i => match i with | 0 => D1 | i + 1 => Dk2 i, b1, fun i d hi => ?_, fun i x hi => ?_, ?_, fun i => ?_, fun i j x hi hj => ?_, fun s x hx => a6 s x (b6 s x hx), fun i x hx => ?_, fun t k hr => b8 t k (a8 t k hr)⟩
    · cases i with
      | zero => simp at hi; subst hi; exact ⟨a2, a5⟩
      | succ i => exact b2 i d (by simpa using hi)
    · cases i with
      | zero => simp
      | succ i => simpa using b2' i x hi
    · simp only [vals, a3]
      congr 1
      rw [vals_congr cs f (fun i => f (i + 1)) (0 + 1) 0 (fun k _ => by simp [Nat.add_comm]), ← b3]
      exact vals_congr _ _ _ _ _ fun k _ => by simp [Nat.add_comm]
    · cases i with
      | zero => exact a4.sub b6
      | succ i => exact b4 i
    · cases i with
      | zero =>
        cases j with
        | zero => rfl
        | succ j => exact absurd hi (hD j x hj)
      | succ i =>
        cases j with
        | zero => exact absurd hj (hD i x hi)
        | succ j => have := b5 i j x hi hj; omega
    · cases i with
      | zero => exact (a7 x hx).imp (fun h => ⟨0, by simp, h⟩) id
      | succ i =>
        rcases b7 i x hx with ⟨j, hj, hj'⟩ | ⟨s, hs⟩
        · exact .inl ⟨j + 1, by simpa using hj, hj'⟩
        · exact .inr ⟨s, a6 s x hs⟩

/-- No borrowed part within. -/
def T.whole : T → Bool
  | .gp _ _ cs => cs.all fun c => c.solid
  | .ra .. => true
  | t => t.solid
theorem whole_ref {t : T} {k : K} (h : t.whole = true) : RefOk σ κ t k := by
  cases t with
  | gp kind f cs =>
    simp only [T.whole, List.all_eq_true] at h
    exact .gp fun i c hi => .solid (h c (List.mem_of_getElem? hi))
  | ra => exact .ra
  | _ => exact .solid h

theorem copy_whole {t : T} (hc : t.copy = true) : t.whole = true := by
  cases t with
  | gp kind f cs =>
    simp only [T.copy, T.whole, List.all_eq_true] at *
    exact fun c h => copy1_solid (hc c h)
  | ra => rfl
  | sc v => rfl
  | nd => rfl
  | _ => simp [T.copy, copy1] at hc
theorem solid_whole {t : T} (hc : t.solid = true) : t.whole = true := by
  cases t with
  | gp kind f cs => simp [T.solid] at hc
  | _ => first | rfl | exact hc

theorem SR.cons (hC : C.Ok) (h : SR C σ κ Ds a.tmps w) {x : Operand} {t : T} {σ' : S} (he : σ.cons x = some (t, σ')) :
    ∃ κ' Ds' k D, SR C σ' κ' Ds' a.tmps w ∧ Rep w C.St C.Vw t k D ∧ val t k = a.eval x ∧ Free C Ds' D ∧ t.whole = true ∧ (∀ s x, Ds' s x → Ds s x) ∧ (∀ x, D x → ∃ s, Ds s x) := by
  have hev := h.eval x
  have hrep := h.opdRep x
  have href := h.opdRef x
  unfold S.cons at he
  simp only at he
  split at he
  · rename_i hc
    simp only [Option.some.injEq, Prod.mk.injEq] at he
    obtain ⟨rfl, rfl⟩ := he
    exact ⟨κ, Ds, _, No, h, copy_rep hc hrep, hev.symm, Free.no, copy_whole hc, fun _ _ h => h, fun _ h => h.elim⟩
  · cases x with
    | const v =>
      simp only [Option.some.injEq, Prod.mk.injEq] at he
      obtain ⟨rfl, rfl⟩ := he
      refine ⟨κ, Ds, _, No, h, hrep, hev.symm, Free.no, ?_, fun _ _ h => h, fun _ h => h.elim⟩
      simp only [S.opd, constT]
      split
      · simp only [T.whole, List.all_eq_true, List.mem_map]
        rintro c ⟨v, _, rfl⟩
        exact solid_const1 v
      · exact solid_whole (solid_const1 v)
    | global g => simp at he
    | func f => simp at he
    | tmp s =>
      simp only [S.opd] at he hev hrep href
      simp only [opdK, opdD] at hrep hev href
      have hk := h.kill s
      have hfree : Free C (upd Ds s No) (Ds s) := ⟨fun s' x hx hx' => by
        by_cases e : s' = s
        · subst e; simp at hx; exact hx
        · simp only [upd_ne _ _ _ _ e] at hx; exact e (h.dis s' s x hx hx'), h.own s⟩
      have hsub : ∀ s' x, upd Ds s No s' x → Ds s' x := fun s' x hx => by
        by_cases e : s' = s
        · subst e; simp at hx; exact hx.elim
        · simpa only [upd_ne _ _ _ _ e] using hx
      split at he
      · rename_i kind f cs hcs
        simp only [Option.bind_eq_some_iff] at he
        obtain ⟨⟨cs', σ1⟩, he1, he⟩ := he
        simp only [Option.some.injEq, Prod.mk.injEq] at he
        obtain ⟨rfl, rfl⟩ := he
        rw [hcs] at hrep href hev
        cases hrep with
        | gp Dk hkk hout hd hD =>
          cases href with
          | solid h => simp [T.solid] at h
          | gp hrk =>
            obtain ⟨κ', Ds', f', Dk', b1, b2, b2', b3, b4, b5, b6, b7, b8⟩ := consL_ok hC hk hkk (fun i c hi => (hrk i c hi).kill s _)
              (fun i hi => ⟨fun s' x hx hx' => hfree.dis s' x hx ((hD x).2 ⟨i, hx'⟩), fun x hx => hfree.own x ((hD x).2 ⟨i, hx⟩)⟩) hd he1
            refine ⟨κ', Ds', .mk none 0 f', fun x => ∃ i, Dk' i x, b1, .gp Dk' (fun i c hi => (b2 i c hi).1) b2' b5 (fun x => Iff.rfl), ?_, ⟨fun s x hx ⟨i, hi⟩ => (b4 i).dis s x hx hi, fun x ⟨i, hi⟩ => (b4 i).own x hi⟩, ?_, fun s x hx => hsub s x (b6 s x hx), fun x ⟨i, hi⟩ => (b7 i x hi).elim (fun ⟨j, _, hj⟩ => ⟨s, (hD x).2 ⟨j, hj⟩⟩) fun ⟨s', hs'⟩ => ⟨s', hsub s' x hs'⟩⟩
            · rw [hev]
              have hgp : ∀ kind f (cs cs' : List T) (k k' : K), VL.vals cs k.kid 0 = VL.vals cs' k'.kid 0 → val (.gp kind f cs) k = val (.gp kind f cs') k' := by
                intro kind f cs cs' k k' e
                match kind with
                | 0 => simp [val, e]
                | 1 => simp [val, e]
                | n + 2 => simp [val, e]
              exact hgp _ _ _ _ _ _ b3
            · simp only [T.whole, List.all_eq_true]
              intro c hc
              obtain ⟨i, hi⟩ := List.getElem?_of_mem hc
              exact (b2 i c hi).2
      · obtain ⟨κ', Ds', k', D', b1, b2, b3, b4, b5, b6, b7, b8⟩ := cons1_ok hC hk hrep hfree (href.kill s _) he
        exact ⟨κ', Ds', k', D', b1, b2, b3.trans hev.symm, b4, solid_whole b5, fun s x hx => hsub s x (b6 s x hx), fun x hx => (b7 x hx).elim (fun h => ⟨s, h⟩) fun ⟨s', hs'⟩ => ⟨s', hsub s' x hs'⟩⟩
end Go.Proofs.Ytnbahnpckfelpaa.VL
