import Derived.Test.YtnbahnpckfelpaaVLe
/-! VL, part F: loads, addresses of parts. -/
namespace Go.Proofs.Ytnbahnpckfelpaa.VL
open Go.RowKit
set_option linter.unusedVariables false
variable {C : Ctx} {σ : S} {κ : Nat → K} {Ds : Nat → Nat → Prop} {a : Act} {tmps : Array Value} {w : World}

theorem ld_ok {l : Loc} {v : Value} {b o off : Nat} {kid : Nat → K} {cs : List T} (h : At C σ κ w l v b o kid cs off) (hl : (∃ st s p, l = .own st s p off cs) ∨ ∃ m, l = .ro m cs off) {j : Nat} {t : T} (he : l.ld j = some t) :
    ∃ k, Rep w C.St C.Vw t k No ∧ RefOk σ κ t k ∧ w.cell? ⟨b, o + (off + j), none⟩ = some (val t k) ∧ (val t k).oneCell' = true := by
  have one : ∀ (c : T) (k : K) (D : Nat → Prop), c.solid = true → Rep w C.St C.Vw c k D → (∃ v, c = .sc v ∨ ∃ ptr m sz cs, c = .nd ptr m sz cs) → (val c k).oneCell' = true := by
    rintro c k D hs hr ⟨v, rfl | ⟨ptr, m, sz, cs, rfl⟩⟩
    · cases hr with
      | sc h => cases v <;> simp [isSc] at h <;> rfl
    · cases ptr <;> rfl
  rcases hl with ⟨st, s, p, rfl⟩ | ⟨m, rfl⟩
  · obtain ⟨h1, ⟨ptr, sz, h2⟩, h3, h4⟩ := h.own _ _ _ rfl
    simp only [Loc.ld, Option.bind_eq_some_iff] at he
    obtain ⟨c, hc, he⟩ := he
    obtain ⟨D, hr⟩ := h.rep _ _ hc
    have hcell := h.cell _ _ hc
    have hsol := h.solid _ _ hc
    unfold ldOwn at he
    split at he
    · simp only [Option.some.injEq] at he; subst he
      exact ⟨_, copy1_rep rfl hr, .solid rfl, hcell, one _ _ _ hsol hr ⟨_, .inl rfl⟩⟩
    · rename_i sz' cs'
      simp only [Option.some.injEq] at he; subst he
      obtain ⟨g1, g2, g3, g4⟩ := hr.own_cap
      refine ⟨kid (off + j), .rf, .rf (by omega) fun _ => ⟨cs', ?_, by simp only [Nat.zero_add]; omega, g3, fun hk => ?_, fun _ => by rw [h3]; exact ⟨rfl, rfl⟩⟩, ?_, rfl⟩
      · rw [getP_snoc h2, hc]
      · obtain ⟨b', o', hA⟩ := g4 (.inl hk)
        rw [h3]
        exact ⟨by omega, b', o', hA, by simpa using hA⟩
      · rw [hcell]; simp [val]
    · rename_i sz' cs'
      simp only [Option.some.injEq] at he; subst he
      obtain ⟨g1, g2, g3, g4⟩ := hr.own_cap
      obtain ⟨b', o', hA⟩ := g4 (.inr rfl)
      refine ⟨kid (off + j), .ad, .ad (by omega) fun _ => ⟨true, sz', cs', b', o', ?_, by rw [h3]; exact hA, by simpa using hA⟩, ?_, rfl⟩
      · rw [getP_snoc h2, hc]
      · rw [hcell]; simp [val]
    · rename_i ptr' m' sz' cs' hn1 hn2
      simp only [Option.some.injEq] at he; subst he
      have hm : m' ≠ .own := by
        rintro rfl
        cases ptr'
        · exact hn1 rfl rfl
        · exact hn2 rfl rfl
      exact ⟨_, copy1_rep (by simpa [copy1] using hm) hr, .solid rfl, hcell, one _ _ _ hsol hr ⟨default, .inr ⟨_, _, _, _, rfl⟩⟩⟩
    · cases he
  · simp only [Loc.ld, Option.bind_eq_some_iff] at he
    obtain ⟨c, hc, he⟩ := he
    have hr := h.ro _ rfl _ _ hc
    have hcell := h.cell _ _ hc
    have hsol := h.solid _ _ hc
    unfold ldRo at he
    split at he
    · simp only [Option.some.injEq] at he; subst he
      exact ⟨_, hr, .solid rfl, hcell, one _ _ _ hsol hr ⟨_, .inl rfl⟩⟩
    · split at he
      · cases he
      · simp only [Option.some.injEq] at he; subst he
        exact ⟨_, hr, .solid rfl, hcell, one _ _ _ hsol hr ⟨default, .inr ⟨_, _, _, _, rfl⟩⟩⟩
    · cases he

theorem lds_ok {l : Loc} {v : Value} {b o off : Nat} {kid : Nat → K} {cs : List T} (h : At C σ κ w l v b o kid cs off) (hl : (∃ st s p, l = .own st s p off cs) ∨ ∃ m, l = .ro m cs off) : ∀ {n j : Nat} {ts : List T}, l.lds j n = some ts →
    ∃ f : Nat → K, (∀ (i : Nat) (c : T), ts[i]? = some c → Rep w C.St C.Vw c (f i) No ∧ RefOk σ κ c (f i) ∧ w.cell? ⟨b, o + (off + (j + i)), none⟩ = some (val c (f i)) ∧ (val c (f i)).oneCell' = true) ∧ ts.length = n
  | 0, j, ts, he => by
    simp [Loc.lds] at he; subst he
    exact ⟨fun _ => .leaf, by simp, rfl⟩
  | n + 1, j, ts, he => by
    simp only [Loc.lds, Option.bind_eq_some_iff, Option.map_eq_some_iff] at he
    obtain ⟨t, ht, r, hr, rfl⟩ := he
    obtain ⟨k, h1, h2, h3, h4⟩ := ld_ok h hl ht
    obtain ⟨f, g1, g2⟩ := lds_ok h hl hr
    refine ⟨fun i => match i with | 0 => k | i + 1 => f i, fun i c hi => ?_, by simp [g2]⟩
    cases i with
    | zero => simp at hi; subst hi; exact ⟨h1, h2, h3, h4⟩
    | succ i =>
      obtain ⟨q1, q2, q3, q4⟩ := g1 i c (by simpa using hi)
      exact ⟨q1, q2, by rw [show j + (i + 1) = j + 1 + i by omega]; exact q3, q4⟩

def aggT (P : Program) (t : TypeId) : Option Bool := (P.underlying t).map fun d => match d with | .struct _ | .array .. => true | _ => false
theorem info_of_underlying {P : Program} {t : TypeId} {d : TypeDesc} (h : P.underlying t = some d) : ∃ i, P.info? t = some i ∧ P.cellsOf t = i.size ∧ P.bytesOf t = i.bytes := by
  cases hi : P.info? t with
  | none => simp [Program.underlying, hi] at h
  | some i => exact ⟨i, rfl, by simp [Program.cellsOf, hi], by simp [Program.bytesOf, hi]⟩
theorem run_isAgg {P : Program} {t : TypeId} {b : Bool} (h : aggT P t = some b) (w : World) : (isAgg t).run P w = .ok b w := by
  simp only [aggT, Option.map_eq_some_iff] at h
  obtain ⟨d, hd, rfl⟩ := h
  cases d <;> simp [isAgg, run_underlying hd]

def ldV (P : Program) (σ : S) (t : TypeId) (x : Operand) : Option (T × S) :=
  (σ.loc x).bind fun l => (aggT P t).bind fun ag => if ag = true then (l.lds 0 (P.cellsOf t)).map fun cs => (.ag cs, σ) else (l.ld 0).map fun t => (t, σ)
theorem ldV_val (hC : C.Ok) {o : Oper} {e : TypeId} {x : Operand} (ho : o.op = .load e x) {t : T} {σ' : S} (he : ldV C.P σ e x = some (t, σ')) : ValOk C o σ t σ' := by
  intro κ Ds a w h
  simp only [ldV, Option.bind_eq_some_iff] at he
  obtain ⟨l, hl, ag, hag, he⟩ := he
  obtain ⟨b, o', kid, cs, off, hat, hkind⟩ := h.loc hl
  split at he
  · rename_i hagt
    simp only [Option.map_eq_some_iff, Prod.mk.injEq] at he
    obtain ⟨ts, hts, rfl, rfl⟩ := he
    obtain ⟨f, g1, g2⟩ := lds_ok hat hkind hts
    refine ⟨_, w, κ, Ds, .mk none 0 f, No, ?_, h, ?_, rfl, Free.no, .gp fun i c hi => (g1 i c hi).2.1⟩
    · have hcells := run_loadCells_list (P := C.P) w ⟨b, o' + off, none⟩ (vals ts f 0) (fun j v hj => by
        rw [vals_get] at hj
        simp only [Option.map_eq_some_iff] at hj
        obtain ⟨c, hc, rfl⟩ := hj
        have := (g1 j c hc).2.2.1
        rw [Addr.add_lit]
        simpa [Nat.add_assoc] using this)
      rw [vals_length, g2] at hcells
      subst hagt
      have hu := run_isAgg hag w
      simp only [aggT, Option.map_eq_some_iff] at hag
      obtain ⟨d, hd, _⟩ := hag
      obtain ⟨i, hi, hi1, _⟩ := info_of_underlying hd
      rw [hi1] at hcells
      simp [execOp, ho, Instr.loadAt, hat.ptr, Instr.sureAddr, loadVar, hu, sizeOf, typeInfo, hi, hcells, val]
      rfl
    · exact .gp (fun _ => No) (fun i c hi => (g1 i c hi).1) (fun _ _ h => h.elim) (fun _ _ _ h => h.elim) (fun x => ⟨fun h => h.elim, fun ⟨_, h⟩ => h.elim⟩)
  · rename_i hagt
    simp only [Option.map_eq_some_iff, Prod.mk.injEq] at he
    obtain ⟨t', ht, rfl, rfl⟩ := he
    obtain ⟨k, g1, g2, g3, g4⟩ := ld_ok hat hkind ht
    refine ⟨_, w, κ, Ds, k, No, ?_, h, g1, rfl, Free.no, g2⟩
    have hagf : ag = false := by simpa using hagt
    subst hagf
    have hu := run_isAgg hag w
    have g3' : w.cell? ⟨b, o' + off, none⟩ = some (val t' k) := by simpa using g3
    simp [execOp, ho, Instr.loadAt, hat.ptr, Instr.sureAddr, loadVar, hu, g3']

/-! Addresses of fields and elements. -/
def Loc.at (l : Loc) (off : Nat) : T :=
  match l with
  | .own st s p o _ => .ad st s p (o + off)
  | .ro m cs o => .ra m cs (o + off)
theorem at_ok (h : SR C σ κ Ds a.tmps w) {x : Operand} {l : Loc} (he : σ.loc x = some l) (off : Nat) :
    ∃ b o k, a.eval x = .pointer (some ⟨b, o, none⟩) ∧ Rep w C.St C.Vw (l.at off) k No ∧ val (l.at off) k = .pointer (some ⟨b, o + off, none⟩) ∧ RefOk σ κ (l.at off) k := by
  obtain ⟨b, o, kid, cs, off', hat, hkind⟩ := h.loc he
  rcases hkind with ⟨st, s, p, rfl⟩ | ⟨m, rfl⟩
  · obtain ⟨h1, ⟨ptr, sz, h2⟩, h3, h4⟩ := hat.own _ _ _ rfl
    refine ⟨b, o + off', .mk (some ⟨b, o + off' + off, none⟩) 0 fun _ => .leaf, hat.ptr, .ad, rfl, .ad (by omega) fun _ => ⟨ptr, sz, cs, b, o, h2, h4, by simp [K.A, Nat.add_assoc]⟩⟩
  · have hev := h.eval x
    have hrep := h.opdRep x
    unfold S.loc at he
    split at he
    · split at he
      · split at he <;> simp at he
      · cases he
    · split at he <;> simp at he
    · rename_i m' sz cs' hm hx
      simp only [Option.some.injEq, Loc.ro.injEq] at he
      obtain ⟨rfl, rfl, rfl⟩ := he
      rw [hx] at hrep hev
      generalize opdK κ x = kk at hrep hev
      generalize opdD Ds x = DD at hrep
      cases hrep with
      | own => exact (hm rfl).elim
      | @look _ _ _ _ A cap kid' n b' off0 hm' hsz hn hc hA hp hs hv hk =>
        have hA' := hp rfl
        refine ⟨b', off0, .mk (some ⟨b', off0 + off, none⟩) 0 kid', by rw [hev]; simp [val, K.A, hA'], ?_, rfl, .ra⟩
        exact .ra b' off0 hm' (by simp) (fun hne => (hA hne).2) hs hv hk
    · rename_i m' cs' o0 hx
      simp only [Option.some.injEq, Loc.ro.injEq] at he
      obtain ⟨rfl, rfl, rfl⟩ := he
      rw [hx] at hrep hev
      generalize opdK κ x = kk at hrep hev
      generalize opdD Ds x = DD at hrep
      cases hrep with
      | @ra _ _ _ A cap kid' b' off0 hm hA hS hs hv hk =>
        refine ⟨b', off0 + o0, .mk (some ⟨b', off0 + o0 + off, none⟩) 0 kid', by rw [hev]; simp [val, K.A, hA], ?_, rfl, .ra⟩
        exact .ra b' off0 hm (by simp [Nat.add_assoc]) hS hs hv hk
    · cases he

def fieldT (P : Program) (t : TypeId) (f : Nat) : Option Nat :=
  match P.underlying t with
  | some (.struct fs) => (fs[f]?).bind fun f => if (P.info? f.type).isSome ∧ P.cellsOf f.type ≠ 0 then some f.offset else none
  | _ => none
def fieldV (P : Program) (σ : S) (t : TypeId) (x : Operand) (f : Nat) : Option (T × S) := (fieldT P t f).bind fun off => (σ.loc x).map fun l => (l.at off, σ)
theorem fieldV_val (hC : C.Ok) {o : Oper} {e : TypeId} {x : Operand} {f : Nat} (ho : o.op = .fieldAddr e x f) {t : T} {σ' : S} (he : fieldV C.P σ e x f = some (t, σ')) : ValOk C o σ t σ' := by
  intro κ Ds a w h
  simp only [fieldV, Option.bind_eq_some_iff, Option.map_eq_some_iff, Prod.mk.injEq] at he
  obtain ⟨off, hf, l, hl, rfl, rfl⟩ := he
  obtain ⟨b, o', k, g1, g2, g3, g4⟩ := at_ok h hl off
  refine ⟨_, w, κ, Ds, k, No, ?_, h, g2, rfl, Free.no, g4⟩
  unfold fieldT at hf
  split at hf
  · rename_i fs hu
    simp only [Option.bind_eq_some_iff] at hf
    obtain ⟨fd, hfd, hf⟩ := hf
    split at hf
    · rename_i hi
      simp only [Option.some.injEq] at hf
      subst hf
      obtain ⟨i, hi1⟩ := Option.isSome_iff_exists.1 hi.1
      have hne : i.size ≠ 0 := by have := hi.2; simpa [Program.cellsOf, hi1] using this
      simp [execOp, ho, Instr.fieldAt, run_underlying hu, hfd, Instr.sureAddr, g1, fieldPlace, sizeOf, typeInfo, hi1, hne, g3, Addr.add_lit]
    · cases hf
  · cases hf
end Go.Proofs.Ytnbahnpckfelpaa.VL
