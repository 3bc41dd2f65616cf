import Derived.Test.YtnbahnpckfelpaaVLj4
/-! VL, part K: operations that only look. -/
namespace Go.Proofs.Ytnbahnpckfelpaa.VL
open Go.RowKit
set_option linter.unusedVariables false
variable {C : Ctx} {σ : S} {κ : Nat → K} {Ds : Nat → Nat → Prop} {a : Act} {tmps : Array Value} {w : World}

theorem Fr.below {w0 : World} {Dx : Nat → Prop} (h : Fr w0 Dx w) {w' : World} (hb : Below w.heap.size w w') : Fr w0 Dx w' :=
  ⟨hb.os.trans h.os, hb.tape.trans h.tape, hb.output.trans h.output, Nat.le_trans h.size hb.size, fun x hx hd => (hb.block x (Nat.lt_of_lt_of_le hx h.size)).trans (h.block x hx hd)⟩
theorem SR.below (hC : C.Ok) (h : SR C σ κ Ds tmps w) {w' : World} (hb : Below w.heap.size w w') : SR C σ κ Ds tmps w' := h.world hC hb.block (h.fr.below hb)
theorem Rep.belowW (hC : C.Ok) (hf : C.w0.heap.size ≤ w.heap.size) {t : T} {k : K} {D : Nat → Prop} (h : Rep w C.St C.Vw t k D) {w' : World} (hb : Below w.heap.size w w') : Rep w' C.St C.Vw t k D :=
  h.keep fun x hx => hb.block x (by
    rcases hx with hx | hx
    · exact h.lt x hx
    · exact Nat.lt_of_lt_of_le (hC.old x hx).1 hf)

/-- The operation o hands out a value that reads t, the same in whatever world holds what this one holds, and turns nothing. -/
def QOk (C : Ctx) (o : Oper) (σ : S) (t : T) : Prop :=
  ∀ κ Ds (a : Act) w, SR C σ κ Ds a.tmps w → ∃ v k, (∀ w', Below w.heap.size w w' → (execOp a.eval o).run C.P w' = .ok (.value v) w') ∧ Rep w C.St C.Vw t k No ∧ val t k = v ∧ RefOk σ κ t k
theorem QOk.val {o : Oper} {t : T} (h : QOk C o σ t) : ValOk C o σ t σ := fun κ Ds a w hr =>
  let ⟨v, k, h1, h2, h3, h4⟩ := h κ Ds a w hr
  ⟨v, w, κ, Ds, k, No, h1 w (Below.refl _ _), hr, h2, h3, Free.no, h4⟩

theorem cell_below {w w' : World} (hb : Below w.heap.size w w') {a : Addr} {v : Value} (h : w.cell? a = some v) : w'.cell? a = some v := by
  rw [World.cell?_of_block (w := w) (hb.block a.block (World.block_lt_of_cell? w a h))]; exact h

theorem bor_q {o : Oper} {x : Operand} (ho : ∀ κ Ds (a : Act) w, SR C σ κ Ds a.tmps w → execOp a.eval o = pure (.value (a.eval x))) {t : T} (he : bor σ x = some t) : QOk C o σ t := by
  intro κ Ds a w h
  obtain ⟨k, h1, h2, h3⟩ := bor_ok h he
  exact ⟨_, k, fun w' _ => by rw [ho _ _ _ _ h]; rfl, h1, h2, h3⟩
theorem sc_q (hC : C.Ok) {o : Oper} {v : Value} (hs : isSc v = true) (h : ∀ κ Ds (a : Act) w, SR C σ κ Ds a.tmps w → (execOp a.eval o).run C.P w = .ok (.value v) w) : σ = σ ∧ QOk C o σ (.sc v) :=
  ⟨rfl, fun κ Ds a w hr => ⟨v, .leaf, fun w' hw => h κ Ds a w' (hr.below hC hw), .sc hs, rfl, .solid rfl⟩⟩

theorem lenV_q (hC : C.Ok) {o : Oper} {ts : Array TypeId} {x : Operand} (ho : o.op = .call { callee := .builtin .len, args := #[x], argTypes := ts }) {t : T} {σ' : S} (he : lenV C.P σ ts x = some (t, σ')) : σ' = σ ∧ QOk C o σ t := by
  unfold lenV at he
  split at he
  · rename_i e hu
    simp only [Option.map_eq_some_iff, Prod.mk.injEq] at he
    obtain ⟨l, hl, rfl, rfl⟩ := he
    refine sc_q hC rfl fun κ Ds a w h => ?_
    obtain ⟨k, g1, g2, g3, g4, g5⟩ := h.slc hl
    simp only [Option.bind_eq_some_iff] at hu
    obtain ⟨t0, ht0, hu⟩ := hu
    simp [execOp, ho, resolve, invoke, builtin, Builtin.len_, ht0, run_underlying hu, g4, goInt]
  · rename_i hu
    split at he
    · rename_i s hs
      simp only [Option.some.injEq, Prod.mk.injEq] at he
      obtain ⟨rfl, rfl⟩ := he
      refine sc_q hC rfl fun κ Ds a w h => ?_
      have h1 := h.eval x
      rw [hs] at h1; simp only [val] at h1
      simp only [Option.bind_eq_some_iff] at hu
      obtain ⟨t0, ht0, hu⟩ := hu
      simp [execOp, ho, resolve, invoke, builtin, Builtin.len_, ht0, run_underlying hu, h1, goInt]
    · cases he
  · cases he

theorem binV_q (hC : C.Ok) {o : Oper} {op : BinOp} {t yt : TypeId} {x y : Operand} (ho : o.op = .binOp op t x y yt) {r : T} {σ' : S} (he : binV C.P σ op t x y = some (r, σ')) : σ' = σ ∧ QOk C o σ r := by
  unfold binV at he
  split at he
  · rename_i u v hu hv
    simp only [Option.map_eq_some_iff, Prod.mk.injEq] at he
    obtain ⟨z, hz, rfl, rfl⟩ := he
    have key : ∀ w, (binOp op t u v).run C.P w = .ok z w ∧ isSc z = true ∧ ∀ x y, eqGuard op t x y u v = pure () := by
      intro w
      unfold binT at hz
      split at hz
      · split at hz
        · rename_i e; subst e
          obtain ⟨h1, h2⟩ := run_intT (P := C.P) (t := t) hz w
          exact ⟨h1, h2, fun _ _ => eqGuard_at_int _ _ _ _ _ _ _⟩
        · cases hz
      · obtain ⟨h1, h2⟩ := run_strT (P := C.P) (t := t) hz w
        exact ⟨h1, h2, fun _ _ => eqGuard_at_string _ _ _ _ _ _⟩
      · obtain ⟨h1, h2⟩ := run_boolT (P := C.P) hz w
        exact ⟨h1, h2, fun _ _ => eqGuard_at_bool _ _ _ _ _ _⟩
      · cases hz
    refine sc_q hC (key default).2.1 fun κ Ds a w h => ?_
    have h1 := h.eval x
    have h2 := h.eval y
    rw [hu] at h1; rw [hv] at h2
    simp only [val] at h1 h2
    obtain ⟨k1, k2, k3⟩ := key w
    simp [execOp, ho, h1, h2, k1, k3]
  · cases he

theorem unV_q (hC : C.Ok) {o : Oper} {op : UnOp} {t : TypeId} {x : Operand} (ho : o.op = .unOp op t x) {r : T} {σ' : S} (he : unV σ op x = some (r, σ')) : σ' = σ ∧ QOk C o σ r := by
  unfold unV at he
  split at he
  · rename_i b hb
    simp only [Option.some.injEq, Prod.mk.injEq] at he
    obtain ⟨rfl, rfl⟩ := he
    refine sc_q hC rfl fun κ Ds a w h => ?_
    have h1 := h.eval x
    rw [hb] at h1; simp only [val] at h1
    simp [execOp, ho, h1, Op.unary]
  · rename_i k n hb
    simp only [Option.some.injEq, Prod.mk.injEq] at he
    obtain ⟨rfl, rfl⟩ := he
    refine sc_q hC rfl fun κ Ds a w h => ?_
    have h1 := h.eval x
    rw [hb] at h1; simp only [val] at h1
    simp [execOp, ho, h1, Op.unary, Op.intArith]
  · cases he

theorem pickV_q (hC : C.Ok) {o : Oper} {c x y : Operand} (ho : o.op = .pick c x y) {t : T} {σ' : S} (he : pickV σ c x y = some (t, σ')) : σ' = σ ∧ QOk C o σ t := by
  unfold pickV at he
  split at he
  · rename_i b hc
    split at he
    · rename_i v hv
      simp only [Option.some.injEq, Prod.mk.injEq] at he
      obtain ⟨rfl, rfl⟩ := he
      refine ⟨rfl, fun κ Ds a w h => ?_⟩
      have h1 := h.eval c
      rw [hc] at h1; simp only [VL.val] at h1
      have h2 := h.eval (if b then x else y)
      have h3 := h.opdRep (if b then x else y)
      rw [hv] at h2 h3
      refine ⟨v, .leaf, fun w' _ => ?_, ?_, rfl, .solid rfl⟩
      · cases b <;> simp_all [execOp, asBool, VL.val]
      · generalize opdD Ds (if b then x else y) = DD at h3
        cases h3 with
        | sc h => exact .sc h
    · cases he
  · cases he

theorem ldV_q (hC : C.Ok) {o : Oper} {e : TypeId} {x : Operand} (ho : o.op = .load e x) {t : T} {σ' : S} (he : ldV C.P σ e x = some (t, σ')) : σ' = σ ∧ QOk C o σ t := by
  simp only [ldV, Option.bind_eq_some_iff] at he
  obtain ⟨l, hl, ag, hag, he⟩ := he
  split at he
  · rename_i hagt
    simp only [Option.map_eq_some_iff, Prod.mk.injEq] at he
    obtain ⟨ts, hts, rfl, rfl⟩ := he
    refine ⟨rfl, fun κ Ds a w h => ?_⟩
    obtain ⟨b, o', kid, cs, off, hat, hkind⟩ := h.loc hl
    obtain ⟨f, g1, g2⟩ := lds_ok hat hkind hts
    refine ⟨_, .mk none 0 f, fun w' hb => ?_, ?_, rfl, .gp fun i c hi => (g1 i c hi).2.1⟩
    · have hcells := run_loadCells_list (P := C.P) w' ⟨b, o' + off, none⟩ (vals ts f 0) (fun j v hj => by
        rw [vals_get] at hj
        simp only [Option.map_eq_some_iff] at hj
        obtain ⟨c, hc, rfl⟩ := hj
        have := cell_below hb (g1 j c hc).2.2.1
        rw [Addr.add_lit]
        simpa [Nat.add_assoc] using this)
      rw [vals_length, g2] at hcells
      subst hagt
      have hu := run_isAgg hag w'
      simp only [aggT, Option.map_eq_some_iff] at hag
      obtain ⟨d, hd, _⟩ := hag
      obtain ⟨i, hi, hi1, _⟩ := info_of_underlying hd
      rw [hi1] at hcells
      simp [execOp, ho, Instr.loadAt, hat.ptr, Instr.sureAddr, loadVar, hu, sizeOf, typeInfo, hi, hcells, VL.val]
      rfl
    · exact .gp (fun _ => No) (fun i c hi => (g1 i c hi).1) (fun _ _ h => h.elim) (fun _ _ _ h => h.elim) (fun x => ⟨fun h => h.elim, fun ⟨_, h⟩ => h.elim⟩)
  · rename_i hagt
    simp only [Option.map_eq_some_iff, Prod.mk.injEq] at he
    obtain ⟨t', ht, rfl, rfl⟩ := he
    refine ⟨rfl, fun κ Ds a w h => ?_⟩
    obtain ⟨b, o', kid, cs, off, hat, hkind⟩ := h.loc hl
    obtain ⟨k, g1, g2, g3, g4⟩ := ld_ok hat hkind ht
    refine ⟨_, k, fun w' hb => ?_, g1, rfl, g2⟩
    have hagf : ag = false := by simpa using hagt
    subst hagf
    have hu := run_isAgg hag w'
    have g3' : w'.cell? ⟨b, o' + off, none⟩ = some (VL.val t' k) := cell_below hb (by simpa using g3)
    simp [execOp, ho, Instr.loadAt, hat.ptr, Instr.sureAddr, loadVar, hu, g3']

theorem fieldV_q (hC : C.Ok) {o : Oper} {e : TypeId} {x : Operand} {f : Nat} (ho : o.op = .fieldAddr e x f) {t : T} {σ' : S} (he : fieldV C.P σ e x f = some (t, σ')) : σ' = σ ∧ QOk C o σ t := by
  simp only [fieldV, Option.bind_eq_some_iff, Option.map_eq_some_iff, Prod.mk.injEq] at he
  obtain ⟨off, hf, l, hl, rfl, rfl⟩ := he
  refine ⟨rfl, fun κ Ds a w h => ?_⟩
  obtain ⟨b, o', k, g1, g2, g3, g4⟩ := at_ok h hl off
  refine ⟨_, k, fun w' _ => ?_, g2, rfl, g4⟩
  unfold fieldT at hf
  split at hf
  · rename_i fs hu
    simp only [Option.bind_eq_some_iff] at hf
    obtain ⟨fd, hfd, hf⟩ := hf
    split at hf
    · rename_i hi
      simp only [Option.some.injEq] at hf
      subst hf
      obtain ⟨i, hi1⟩ := Option.isSome_iff_exists.1 hi.1
      have hne : i.size ≠ 0 := by have := hi.2; simpa [Program.cellsOf, hi1] using this
      simp [execOp, ho, Instr.fieldAt, run_underlying hu, hfd, Instr.sureAddr, g1, fieldPlace, sizeOf, typeInfo, hi1, hne, g3, Addr.add_lit]
    · cases hf
  · cases hf
theorem idxV_q (hC : C.Ok) {o : Oper} {e : TypeId} {x ix : Operand} (ho : o.op = .indexAddr e x ix) {t : T} {σ' : S} (he : idxV C.P σ e x ix = some (t, σ')) : σ' = σ ∧ QOk C o σ t := by
  unfold idxV at he
  split at he
  · rename_i el kd i hu hix
    simp only [Option.bind_eq_some_iff] at he
    obtain ⟨l, hl, he⟩ := he
    split at he
    · rename_i hok
      obtain ⟨hok1, hok2, hok3⟩ := hok
      obtain ⟨info, hinfo⟩ := Option.isSome_iff_exists.1 hok2
      have hsz : info.size = l.sz := by rw [← hok3]; simp [Program.cellsOf, hinfo]
      simp only [Option.map_eq_some_iff, Prod.mk.injEq] at he
      obtain ⟨t', ht, rfl, rfl⟩ := he
      refine ⟨rfl, fun κ Ds a w h => ?_⟩
      obtain ⟨k, g1, g2, g3, g4, g5⟩ := h.slc hl
      have hi := h.eval ix
      rw [hix] at hi
      simp only [VL.val] at hi
      unfold Slc.idx at ht
      split at ht
      · rename_i hb
        have run : ∀ b o', k.A = some ⟨b, o', none⟩ → ∀ w' : World, (execOp a.eval o).run C.P w' = .ok (.value (.pointer (some ⟨b, o' + i.toNat * l.sz, none⟩))) w' := fun b o' hA w' => by
          have hlen : (i : Int) < (l.len : Int) := hb.2
          simp [execOp, ho, Instr.indexAt, hi, asIntOf, run_underlying hu, g4, hA, hb.1, hlen, sizeOf, typeInfo, hinfo, hsz, Addr.add_lit]
        cases l with
        | ref st s p lo n sz =>
          simp only [Option.some.injEq] at ht; subst ht
          simp only [Slc.okAt, beq_iff_eq] at hok1
          simp only [Slc.tree] at g3
          cases g3 with
          | solid h => simp [T.solid] at h
          | rf hle hr =>
            obtain ⟨cs, q1, q2, q3, q4, _⟩ := hr hok1
            simp only [Slc.len] at hb
            obtain ⟨q5, b, o', q6, q7⟩ := q4 (by omega)
            refine ⟨_, .mk (some ⟨b, o' + lo * sz + i.toNat * sz, none⟩) 0 fun _ => .leaf, fun w' _ => run b _ q7 w', .ad, rfl, .ad hle fun _ => ⟨false, sz, cs, b, o', q1, q6, by simp [K.A, Nat.add_mul, Nat.add_assoc]⟩⟩
        | ro m sz cs =>
          simp only [Option.some.injEq] at ht; subst ht
          simp only [Slc.tree] at g2
          simp only [Slc.len] at hb
          cases g2 with
          | own => exact absurd rfl (g5 _ _ _ rfl)
          | own0 => exact absurd rfl (g5 _ _ _ rfl)
          | @look _ _ _ _ A cap kid n b off hm hsz' hn hc hA hp hs hv hk =>
            have hne : cs ≠ [] := by rintro rfl; simp at hb; omega
            obtain ⟨hA1, hA2⟩ := hA hne
            exact ⟨_, .mk (some ⟨b, off + i.toNat * sz, none⟩) 0 kid, fun w' _ => run b off (by simpa [K.A] using hA1) w', .ra b off hm rfl (fun _ => hA2) hs hv hk, rfl, .ra⟩
      · cases ht
    · cases he
  · rename_i n el kd i hu hix
    simp only [Option.bind_eq_some_iff] at he
    obtain ⟨l, hl, he⟩ := he
    split at he
    · rename_i hok
      obtain ⟨hb, hok2⟩ := hok
      obtain ⟨info, hinfo⟩ := Option.isSome_iff_exists.1 hok2
      simp only [Option.some.injEq, Prod.mk.injEq] at he
      obtain ⟨rfl, rfl⟩ := he
      refine ⟨rfl, fun κ Ds a w h => ?_⟩
      have hi := h.eval ix
      rw [hix] at hi
      simp only [VL.val] at hi
      obtain ⟨b, o', k, g1, g2, g3, g4⟩ := at_ok h hl (i.toNat * C.P.cellsOf el)
      refine ⟨_, k, fun w' _ => ?_, g2, rfl, g4⟩
      have hcell : C.P.cellsOf el = info.size := by simp [Program.cellsOf, hinfo]
      rw [hcell] at g3 ⊢
      simp [execOp, ho, Instr.indexAt, hi, asIntOf, run_underlying hu, g1, Instr.sureAddr, hb.1, hb.2, sizeOf, typeInfo, hinfo, g3, Addr.add_lit]
    · cases he
  · cases he

end Go.Proofs.Ytnbahnpckfelpaa.VL
