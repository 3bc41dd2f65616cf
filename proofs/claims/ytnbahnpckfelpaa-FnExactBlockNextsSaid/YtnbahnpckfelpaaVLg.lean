import Derived.Test.YtnbahnpckfelpaaVLf
/-! VL, part G: slices; elements; what is computed. -/
namespace Go.Proofs.Ytnbahnpckfelpaa.VL
open Go.RowKit
set_option linter.unusedVariables false
variable {C : Ctx} {σ : S} {κ : Nat → K} {Ds : Nat → Nat → Prop} {a : Act} {tmps : Array Value} {w : World}

inductive Slc
  | ref (st s : Nat) (p : List Nat) (lo n sz : Nat)
  | ro (m : Md) (sz : Nat) (cs : List T)
def S.slc (σ : S) (x : Operand) : Option Slc :=
  match σ.opd x with
  | .rf st s p lo n sz => some (.ref st s p lo n sz)
  | .nd false .own sz cs => (match x with | .tmp s => some (.ref (σ.st s) s [] 0 (cs.length / sz) sz) | .const _ => (match cs with | [] => some (.ro .ro sz []) | _ => none) | _ => none)
  | .nd false m sz cs => some (.ro m sz cs)
  | _ => none
def Slc.len : Slc → Nat
  | .ref _ _ _ _ n _ => n
  | .ro _ sz cs => cs.length / sz
def Slc.tree : Slc → T
  | .ref st s p lo n sz => .rf st s p lo n sz
  | .ro m sz cs => .nd false m sz cs

theorem SR.slc (h : SR C σ κ Ds a.tmps w) {x : Operand} {l : Slc} (he : σ.slc x = some l) :
    ∃ k, a.eval x = val l.tree k ∧ Rep w C.St C.Vw l.tree k No ∧ RefOk σ κ l.tree k ∧ a.eval x = .slice k.A l.len k.cap ∧ (∀ m sz cs, l = .ro m sz cs → m ≠ .own) := by
  have hev := h.eval x
  have hrep := h.opdRep x
  have href := h.opdRef x
  unfold S.slc at he
  split at he
  · rename_i st s p lo n sz hx
    simp only [Option.some.injEq] at he; subst he
    rw [hx] at hev href
    exact ⟨_, hev, .rf, href, by rw [hev]; rfl, by simp⟩
  · rename_i sz cs hx
    rw [hx] at hev hrep
    obtain ⟨g1, g2, g3, g4⟩ := hrep.own_cap
    split at he
    · rename_i s
      simp only [Option.some.injEq] at he; subst he
      simp only [S.opd] at hx
      simp only [opdK] at hev g3 g4
      refine ⟨κ s, by rw [hev]; rfl, .rf, .rf (Nat.le_refl _) fun _ => ⟨cs, by simp [hx], by simp only [Nat.zero_add]; omega, g3, fun hc => ?_, fun _ => by simp [getK]⟩, by rw [hev]; rfl, by simp⟩
      obtain ⟨b, o', hA⟩ := g4 (.inl hc)
      exact ⟨by simp [getK], b, o', by simpa [getK] using hA, by simpa using hA⟩
    · split at he
      · simp only [Option.some.injEq] at he; subst he
        refine ⟨.mk (opdK κ _).A (opdK κ _).cap fun _ => .leaf, by rw [hev]; rfl, .look 0 0 0 (by simp) g1 (by simp) (by simp) (by simp) (by simp) (by simp) (by simp) (by simp), .solid rfl, by rw [hev]; rfl, by rintro _ _ _ e; cases e; simp⟩
      · cases he
    · cases he
  · rename_i m sz cs hm hx
    simp only [Option.some.injEq] at he; subst he
    rw [hx] at hev hrep
    have hm' : m ≠ .own := fun e => hm e
    exact ⟨_, hev, copy1_rep (t := .nd false m sz cs) (by simpa [copy1] using hm') hrep, .solid rfl, by rw [hev]; rfl, by rintro _ _ _ e; cases e; exact hm'⟩
  · cases he

/-- The address of an element. -/
def Slc.idx (l : Slc) (i : Int) : Option T :=
  if 0 ≤ i ∧ i < l.len then
    match l with
    | .ref st s p lo n sz => some (.ad st s p ((lo + i.toNat) * sz))
    | .ro m sz cs => some (.ra m cs (i.toNat * sz))
  else none
def Slc.sz : Slc → Nat
  | .ref _ _ _ _ _ sz => sz
  | .ro _ sz _ => sz
def Slc.okAt (σ : S) : Slc → Bool
  | .ref st s _ _ _ _ => st == σ.st s
  | .ro .. => true
def idxV (P : Program) (σ : S) (t : TypeId) (x ix : Operand) : Option (T × S) :=
  match P.underlying t, σ.opd ix with
  | some (.slice e), .sc (.int _ i) => (σ.slc x).bind fun l => if l.okAt σ = true ∧ (P.info? e).isSome ∧ P.cellsOf e = l.sz then (l.idx i).map fun t => (t, σ) else none
  | some (.array n e), .sc (.int _ i) => (σ.loc x).bind fun l => if (0 ≤ i ∧ i < n) ∧ (P.info? e).isSome then some (l.at (i.toNat * P.cellsOf e), σ) else none
  | _, _ => none
theorem idxV_val (hC : C.Ok) {o : Oper} {e : TypeId} {x ix : Operand} (ho : o.op = .indexAddr e x ix) {t : T} {σ' : S} (he : idxV C.P σ e x ix = some (t, σ')) : ValOk C o σ t σ' := by
  intro κ Ds a w h
  unfold idxV at he
  split at he
  · rename_i el kd i hu hix
    have hi := h.eval ix
    rw [hix] at hi
    simp only [val] at hi
    simp only [Option.bind_eq_some_iff] at he
    obtain ⟨l, hl, he⟩ := he
    split at he
    · rename_i hok
      obtain ⟨hok1, hok2, hok3⟩ := hok
      obtain ⟨info, hinfo⟩ := Option.isSome_iff_exists.1 hok2
      have hsz : info.size = l.sz := by rw [← hok3]; simp [Program.cellsOf, hinfo]
      obtain ⟨k, g1, g2, g3, g4, g5⟩ := h.slc hl
      simp only [Option.map_eq_some_iff, Prod.mk.injEq] at he
      obtain ⟨t', ht, rfl, rfl⟩ := he
      unfold Slc.idx at ht
      split at ht
      · rename_i hb
        have run : ∀ b o', k.A = some ⟨b, o', none⟩ → (execOp a.eval o).run C.P w = .ok (.value (.pointer (some ⟨b, o' + i.toNat * l.sz, none⟩))) w := fun b o' hA => by
          have hlen : (i : Int) < (l.len : Int) := hb.2
          simp [execOp, ho, Instr.indexAt, hi, asIntOf, run_underlying hu, g4, hA, hb.1, hlen, sizeOf, typeInfo, hinfo, hsz, Addr.add_lit]
        cases l with
        | ref st s p lo n sz =>
          simp only [Option.some.injEq] at ht; subst ht
          simp only [Slc.okAt, beq_iff_eq] at hok1
          simp only [Slc.tree] at g3
          cases g3 with
          | solid h => simp [T.solid] at h
          | rf hle hr =>
            obtain ⟨cs, q1, q2, q3, q4, _⟩ := hr hok1
            simp only [Slc.len] at hb
            obtain ⟨q5, b, o', q6, q7⟩ := q4 (by omega)
            refine ⟨_, w, κ, Ds, .mk (some ⟨b, o' + lo * sz + i.toNat * sz, none⟩) 0 fun _ => .leaf, No, run b _ q7, h, .ad, rfl, Free.no, .ad hle fun _ => ⟨false, sz, cs, b, o', q1, q6, by simp [K.A, Nat.add_mul, Nat.add_assoc]⟩⟩
        | ro m sz cs =>
          simp only [Option.some.injEq] at ht; subst ht
          simp only [Slc.tree] at g2
          simp only [Slc.len] at hb
          cases g2 with
          | own => exact absurd rfl (g5 _ _ _ rfl)
          | own0 => exact absurd rfl (g5 _ _ _ rfl)
          | @look _ _ _ _ A cap kid n b off hm hsz' hn hc hA hp hs hv hk =>
            have hne : cs ≠ [] := by rintro rfl; simp at hb; omega
            obtain ⟨hA1, hA2⟩ := hA hne
            exact ⟨_, w, κ, Ds, .mk (some ⟨b, off + i.toNat * sz, none⟩) 0 kid, No, run b off (by simpa [K.A] using hA1), h, .ra b off hm rfl (fun _ => hA2) hs hv hk, rfl, Free.no, .ra⟩
      · cases ht
    · cases he
  · rename_i n el kd i hu hix
    have hi := h.eval ix
    rw [hix] at hi
    simp only [val] at hi
    simp only [Option.bind_eq_some_iff] at he
    obtain ⟨l, hl, he⟩ := he
    split at he
    · rename_i hok
      obtain ⟨hb, hok2⟩ := hok
      obtain ⟨info, hinfo⟩ := Option.isSome_iff_exists.1 hok2
      simp only [Option.some.injEq, Prod.mk.injEq] at he
      obtain ⟨rfl, rfl⟩ := he
      obtain ⟨b, o', k, g1, g2, g3, g4⟩ := at_ok h hl (i.toNat * C.P.cellsOf el)
      refine ⟨_, w, κ, Ds, k, No, ?_, h, g2, rfl, Free.no, g4⟩
      have hcell : C.P.cellsOf el = info.size := by simp [Program.cellsOf, hinfo]
      rw [hcell] at g3 ⊢
      simp [execOp, ho, Instr.indexAt, hi, asIntOf, run_underlying hu, g1, Instr.sureAddr, hb.1, hb.2, sizeOf, typeInfo, hinfo, g3, Addr.add_lit]
    · cases he
  · cases he

/-- A nil check that passes. -/
def nilV (σ : S) (x : Operand) : Option (T × S) :=
  match σ.opd x with
  | .nd true _ _ _ | .ad .. | .ra .. => mv σ x
  | _ => none
theorem nilV_val (hC : C.Ok) {o : Oper} {x : Operand} (ho : o.op = .nilCheck x) {t : T} {σ' : S} (he : nilV σ x = some (t, σ')) (hp : ∀ κ Ds (a : Act) w, SR C σ κ Ds a.tmps w → ∃ ad, a.eval x = .pointer (some ad)) : ValOk C o σ t σ' := by
  have hm : mv σ x = some (t, σ') := by
    unfold nilV at he
    split at he <;> first | exact he | cases he
  refine mv_val hC (fun κ Ds a w h => ?_) hm
  obtain ⟨ad, hx⟩ := hp κ Ds a w h
  simp [execOp, ho, hx]

def pickV (σ : S) (c x y : Operand) : Option (T × S) :=
  match σ.opd c with
  | .sc (.bool b) => (match σ.opd (if b then x else y) with | .sc v => some (.sc v, σ) | _ => none)
  | _ => none
theorem pickV_val {o : Oper} {c x y : Operand} (ho : o.op = .pick c x y) {t : T} {σ' : S} (he : pickV σ c x y = some (t, σ')) : ValOk C o σ t σ' := by
  intro κ Ds a w h
  unfold pickV at he
  split at he
  · rename_i b hc
    have h1 := h.eval c
    rw [hc] at h1; simp only [val] at h1
    split at he
    · rename_i v hv
      simp only [Option.some.injEq, Prod.mk.injEq] at he
      obtain ⟨rfl, rfl⟩ := he
      have h2 := h.eval (if b then x else y)
      have h3 := h.opdRep (if b then x else y)
      rw [hv] at h2 h3
      refine ⟨v, w, κ, Ds, .leaf, No, ?_, h, ?_, rfl, Free.no, .solid rfl⟩
      · cases b <;> simp_all [execOp, asBool, val]
      · generalize opdD Ds (if b then x else y) = DD at h3
        cases h3 with
        | sc h => exact .sc h
    · cases he
  · cases he

/-- len of what can be told of by its tree. -/
def lenV (P : Program) (σ : S) (ts : Array TypeId) (x : Operand) : Option (T × S) :=
  match (ts[0]?).bind P.underlying with
  | some (.slice _) => (σ.slc x).map fun l => (.int l.len, σ)
  | some .string => (match σ.opd x with | .sc (.string s) => some (.int s.size, σ) | _ => none)
  | _ => none
theorem sc_val {o : Oper} {v : Value} (hs : isSc v = true) (h : ∀ κ Ds (a : Act) w, SR C σ κ Ds a.tmps w → (execOp a.eval o).run C.P w = .ok (.value v) w) : ValOk C o σ (.sc v) σ :=
  fun κ Ds a w hr => ⟨v, w, κ, Ds, .leaf, No, h κ Ds a w hr, hr, .sc hs, rfl, Free.no, .solid rfl⟩
theorem lenV_val {o : Oper} {ts : Array TypeId} {x : Operand} (ho : o.op = .call { callee := .builtin .len, args := #[x], argTypes := ts }) {t : T} {σ' : S} (he : lenV C.P σ ts x = some (t, σ')) : ValOk C o σ t σ' := by
  unfold lenV at he
  split at he
  · rename_i e hu
    simp only [Option.map_eq_some_iff, Prod.mk.injEq] at he
    obtain ⟨l, hl, rfl, rfl⟩ := he
    refine sc_val rfl fun κ Ds a w h => ?_
    obtain ⟨k, g1, g2, g3, g4, g5⟩ := h.slc hl
    simp only [Option.bind_eq_some_iff] at hu
    obtain ⟨t0, ht0, hu⟩ := hu
    simp [execOp, ho, resolve, invoke, builtin, Builtin.len_, ht0, run_underlying hu, g4, goInt]
  · rename_i hu
    split at he
    · rename_i s hs
      simp only [Option.some.injEq, Prod.mk.injEq] at he
      obtain ⟨rfl, rfl⟩ := he
      refine sc_val rfl fun κ Ds a w h => ?_
      have h1 := h.eval x
      rw [hs] at h1; simp only [val] at h1
      simp only [Option.bind_eq_some_iff] at hu
      obtain ⟨t0, ht0, hu⟩ := hu
      simp [execOp, ho, resolve, invoke, builtin, Builtin.len_, ht0, run_underlying hu, h1, goInt]
    · cases he
  · cases he

/-- Two whole numbers, truths or texts. -/
def intT (op : BinOp) (k : IntKind) (x y : Int) : Option Value :=
  match op with
  | .add => some (.int k (k.wrap (x + y)))
  | .sub => some (.int k (k.wrap (x - y)))
  | .mul => some (.int k (k.wrap (x * y)))
  | .quo => if y = 0 then none else some (.int k (k.wrap (x.tdiv y)))
  | .rem => if y = 0 then none else some (.int k (x.tmod y))
  | .eql => some (.bool (x == y))
  | .neq => some (.bool (x != y))
  | .lss => some (.bool (decide (x < y)))
  | .leq => some (.bool (decide (x ≤ y)))
  | .gtr => some (.bool (decide (x > y)))
  | .geq => some (.bool (decide (x ≥ y)))
  | _ => none
def strT (op : BinOp) (x y : ByteArray) : Option Value :=
  match op with
  | .eql => some (.bool (x.toList == y.toList))
  | .neq => some (.bool (!(x.toList == y.toList)))
  | .add => if ((x.size + y.size : Nat) : Int) ≤ 9223372036854775807 then some (.string (x ++ y)) else none
  | _ => none
def boolT (P : Program) (op : BinOp) (t : TypeId) (x y : Bool) : Option Value :=
  match P.underlying t, op with
  | some .bool, .eql => some (.bool (x == y))
  | some .bool, .neq => some (.bool (!(x == y)))
  | _, _ => none
def binT (P : Program) (op : BinOp) (t : TypeId) : Value → Value → Option Value
  | .int k x, .int k' y => if k = k' then intT op k x y else none
  | .string x, .string y => strT op x y
  | .bool x, .bool y => boolT P op t x y
  | _, _ => none
def binV (P : Program) (σ : S) (op : BinOp) (t : TypeId) (x y : Operand) : Option (T × S) :=
  match σ.opd x, σ.opd y with
  | .sc u, .sc v => (binT P op t u v).map fun r => (.sc r, σ)
  | _, _ => none
theorem run_intT {P : Program} {op : BinOp} {t : TypeId} {k : IntKind} {x y : Int} {r : Value} (h : intT op k x y = some r) (w : World) : (binOp op t (.int k x) (.int k y)).run P w = .ok r w ∧ isSc r = true := by
  unfold intT at h
  split at h <;> first
    | (simp only [Option.some.injEq] at h; subst h; simp [binOp, Op.intArith, Op.intCmp, isSc]; done)
    | (split at h
       · cases h
       · simp only [Option.some.injEq] at h; subst h; simp [binOp, Op.intDiv, isSc, *]; done)
    | cases h
theorem run_strT {P : Program} {op : BinOp} {t : TypeId} {x y : ByteArray} {r : Value} (h : strT op x y = some r) (w : World) : (binOp op t (.string x) (.string y)).run P w = .ok r w ∧ isSc r = true := by
  unfold strT at h
  split at h
  · simp only [Option.some.injEq] at h; subst h; simp [binOp, Op.stringOp, isSc]
  · simp only [Option.some.injEq] at h; subst h; simp [binOp, Op.stringOp, isSc]
  · split at h
    · rename_i hle
      simp only [Option.some.injEq] at h; subst h
      have hn : ¬ ((x.size + y.size : Nat) : Int) > IntKind.i64.max := by rw [IntKind.max_i64]; omega
      constructor
      · simp only [binOp, Op.stringOp, if_neg hn]; rfl
      · rfl
    · cases h
  · cases h
theorem run_boolT {P : Program} {op : BinOp} {t : TypeId} {x y : Bool} {r : Value} (h : boolT P op t x y = some r) (w : World) : (binOp op t (.bool x) (.bool y)).run P w = .ok r w ∧ isSc r = true := by
  unfold boolT at h
  split at h
  · rename_i hu
    simp only [Option.some.injEq] at h; subst h; exact ⟨run_eql_bool w t x y hu, rfl⟩
  · rename_i hu
    simp only [Option.some.injEq] at h; subst h; exact ⟨run_neq_bool w t x y hu, rfl⟩
  · cases h
theorem binV_val {o : Oper} {op : BinOp} {t yt : TypeId} {x y : Operand} (ho : o.op = .binOp op t x y yt) {r : T} {σ' : S} (he : binV C.P σ op t x y = some (r, σ')) : ValOk C o σ r σ' := by
  unfold binV at he
  split at he
  · rename_i u v hu hv
    simp only [Option.map_eq_some_iff, Prod.mk.injEq] at he
    obtain ⟨z, hz, rfl, rfl⟩ := he
    have key : ∀ w, (binOp op t u v).run C.P w = .ok z w ∧ isSc z = true ∧ ∀ x y, eqGuard op t x y u v = pure () := by
      intro w
      unfold binT at hz
      split at hz
      · split at hz
        · rename_i e; subst e
          obtain ⟨h1, h2⟩ := run_intT (P := C.P) (t := t) hz w
          exact ⟨h1, h2, fun _ _ => eqGuard_at_int _ _ _ _ _ _ _⟩
        · cases hz
      · obtain ⟨h1, h2⟩ := run_strT (P := C.P) (t := t) hz w
        exact ⟨h1, h2, fun _ _ => eqGuard_at_string _ _ _ _ _ _⟩
      · obtain ⟨h1, h2⟩ := run_boolT (P := C.P) hz w
        exact ⟨h1, h2, fun _ _ => eqGuard_at_bool _ _ _ _ _ _⟩
      · cases hz
    refine sc_val (key default).2.1 fun κ Ds a w h => ?_
    have h1 := h.eval x
    have h2 := h.eval y
    rw [hu] at h1; rw [hv] at h2
    simp only [val] at h1 h2
    obtain ⟨k1, k2, k3⟩ := key w
    simp [execOp, ho, h1, h2, k1, k3]
  · cases he

def unV (σ : S) (op : UnOp) (x : Operand) : Option (T × S) :=
  match op, σ.opd x with
  | .not, .sc (.bool b) => some (.bool !b, σ)
  | .neg, .sc (.int k n) => some (.sc (.int k (k.wrap (0 - n))), σ)
  | _, _ => none
theorem unV_val {o : Oper} {op : UnOp} {t : TypeId} {x : Operand} (ho : o.op = .unOp op t x) {r : T} {σ' : S} (he : unV σ op x = some (r, σ')) : ValOk C o σ r σ' := by
  unfold unV at he
  split at he
  · rename_i b hb
    simp only [Option.some.injEq, Prod.mk.injEq] at he
    obtain ⟨rfl, rfl⟩ := he
    refine sc_val rfl fun κ Ds a w h => ?_
    have h1 := h.eval x
    rw [hb] at h1; simp only [val] at h1
    simp [execOp, ho, h1, Op.unary]
  · rename_i k n hb
    simp only [Option.some.injEq, Prod.mk.injEq] at he
    obtain ⟨rfl, rfl⟩ := he
    refine sc_val rfl fun κ Ds a w h => ?_
    have h1 := h.eval x
    rw [hb] at h1; simp only [val] at h1
    simp [execOp, ho, h1, Op.unary, Op.intArith]
  · cases he

/-- A component of several results, taken out of them. -/
def extV (σ : S) (x : Operand) (i : Nat) : Option (T × S) :=
  match x with
  | .tmp s => (match σ.sl s with
    | .gp 1 _ cs => (cs[i]?).map fun c => (c, ⟨upd σ.sl s (.gp 1 0 (cs.set i .dead)), σ.st, σ.pt⟩)
    | _ => none)
  | _ => none
theorem RefOk.keepGp {s : Nat} {t' : T} {k' : K} (hg : ∀ p ptr sz cs, getP (σ.sl s) p ≠ some (.nd ptr .own sz cs)) {t : T} {k : K} (h : RefOk σ κ t k) : RefOk ⟨upd σ.sl s t', σ.st, σ.pt⟩ (upd κ s k') t k := by
  induction h with
  | solid h => exact .solid h
  | ra => exact .ra
  | @rf st s0 p lo n sz k hle h =>
    refine .rf hle fun e => ?_
    obtain ⟨cs, h1, h2⟩ := h e
    have hs : s0 ≠ s := by rintro rfl; exact hg _ _ _ _ h1
    simp only [upd_ne _ _ _ _ hs]
    exact ⟨cs, h1, h2⟩
  | @ad st s0 p o k hle h =>
    refine .ad hle fun e => ?_
    obtain ⟨ptr, sz, cs, b, off, h1, h2⟩ := h e
    have hs : s0 ≠ s := by rintro rfl; exact hg _ _ _ _ h1
    simp only [upd_ne _ _ _ _ hs]
    exact ⟨ptr, sz, cs, b, off, h1, h2⟩
  | gp _ ih => exact .gp ih
theorem extV_val {o : Oper} {x : Operand} {i : Nat} (ho : o.op = .extract x i) {r : T} {σ' : S} (he : extV σ x i = some (r, σ')) : ValOk C o σ r σ' := by
  unfold extV at he
  split at he
  · rename_i s
    split at he
    · rename_i f cs hs
      simp only [Option.map_eq_some_iff, Prod.mk.injEq] at he
      obtain ⟨c, hc, rfl, rfl⟩ := he
      intro κ Ds a w h
      have hr := h.rep s
      have hf := h.ref s
      have hev := h.eval (.tmp s)
      simp only [S.opd, opdK] at hev
      rw [hs] at hr hf hev
      have hlt : i < cs.length := (List.getElem?_eq_some_iff.1 hc).1
      have hng : ∀ p ptr sz cs', getP (σ.sl s) p ≠ some (.nd ptr .own sz cs') := by
        intro p ptr sz cs'
        rw [hs]
        cases p <;> simp [getP]
      generalize hks : κ s = ks at hr hf hev
      cases hr with
      | gp Dk hk hout hd hD =>
        cases hf with
        | solid h => simp [T.solid] at h
        | gp hrf =>
          have hkid : ∀ j, (K.mk ks.A ks.cap fun j => if j = i then .lit (val c (ks.kid i)) else ks.kid j).kid j = if j = i then .lit (val c (ks.kid i)) else ks.kid j := fun _ => rfl
          have hget : ∀ j d, (cs.set i T.dead)[j]? = some d → (j = i ∧ d = .dead) ∨ (j ≠ i ∧ cs[j]? = some d) := by
            intro j d hj
            rw [List.getElem?_set] at hj
            by_cases e : i = j
            · subst e; simp [hlt] at hj; exact .inl ⟨rfl, hj.symm⟩
            · simp [e] at hj; exact .inr ⟨fun e' => e e'.symm, hj⟩
          have hrep' : Rep w C.St C.Vw (.gp 1 0 (cs.set i .dead)) (.mk ks.A ks.cap fun j => if j = i then .lit (val c (ks.kid i)) else ks.kid j) (fun x => ∃ j, j ≠ i ∧ Dk j x) := by
            refine .gp (fun j x => j ≠ i ∧ Dk j x) (fun j d hj => ?_) (fun j x hx => by simpa using hout j x hx.2) (fun j j' x hx hx' => hd j j' x hx.2 hx'.2) (fun x => Iff.rfl)
            rw [hkid]
            rcases hget j d hj with ⟨rfl, rfl⟩ | ⟨e, hj⟩
            · simp only [if_true]; exact Rep.dead.congrD fun x => ⟨fun h => h.elim, fun h => h.1 rfl⟩
            · simp only [e, if_false]
              exact (hk j d hj).congrD fun x => ⟨fun h => ⟨e, h⟩, fun h => h.2⟩
          have hvals : vals (cs.set i .dead) (K.mk ks.A ks.cap fun j => if j = i then .lit (val c (ks.kid i)) else ks.kid j).kid 0 = vals cs ks.kid 0 := by
            apply List.ext_getElem?
            intro j
            simp only [vals_get, Nat.zero_add, hkid]
            rw [List.getElem?_set]
            by_cases e : i = j
            · subst e; simp [hlt, val, (List.getElem?_eq_some_iff.1 hc).2]
            · simp [e, Ne.symm e]
          refine ⟨_, w, upd κ s (.mk ks.A ks.cap fun j => if j = i then .lit (val c (ks.kid i)) else ks.kid j), upd Ds s (fun x => ∃ j, j ≠ i ∧ Dk j x), ks.kid i, Dk i, ?_, ?_, hk i c hc, rfl, ⟨fun s' x hx hx' => ?_, fun x hx => h.own s x ((hD x).2 ⟨i, hx⟩)⟩, (hrf i c hc).keepGp hng⟩
          · have hv : (vals cs ks.kid 0)[i]? = some (val c (ks.kid i)) := by simp [vals_get, hc]
            simp [execOp, ho, hev, val, Instr.extract, hv]
          · refine ⟨h.size, fun s' => ?_, fun s' => ?_, fun s1 s2 x h1 h2 => ?_, fun s' x hx => ?_, fun s' => ?_, fun j hj => ?_, h.fr⟩
            · by_cases e : s' = s
              · subst e; simp only [upd_same, val, hvals, h.vals s', hs, hks]
              · simp only [upd_ne _ _ _ _ e, h.vals s']
            · by_cases e : s' = s
              · subst e; simpa only [upd_same] using hrep'
              · simpa only [upd_ne _ _ _ _ e] using h.rep s'
            · have sub : ∀ s' x, upd Ds s (fun x => ∃ j, j ≠ i ∧ Dk j x) s' x → Ds s' x := fun s' x hx => by
                by_cases e : s' = s
                · subst e; simp only [upd_same] at hx; obtain ⟨j, _, hj⟩ := hx; exact (hD x).2 ⟨j, hj⟩
                · simpa only [upd_ne _ _ _ _ e] using hx
              exact h.dis s1 s2 x (sub s1 x h1) (sub s2 x h2)
            · by_cases e : s' = s
              · subst e; simp only [upd_same] at hx; obtain ⟨j, _, hj⟩ := hx; exact h.own s' x ((hD x).2 ⟨j, hj⟩)
              · simp only [upd_ne _ _ _ _ e] at hx; exact h.own s' x hx
            · by_cases e : s' = s
              · subst e
                simp only [upd_same]
                refine .gp fun j d hj => ?_
                rw [hkid]
                rcases hget j d hj with ⟨rfl, rfl⟩ | ⟨e, hj⟩
                · exact .solid rfl
                · simp only [e, if_false]; exact (hrf j d hj).keepGp hng
              · simp only [upd_ne _ _ _ _ e]; exact (h.ref s').keepGp hng
            · by_cases e : j = s
              · subst e
                have := h.par j hj
                rw [hks] at this
                simpa only [upd_same, K.A, K.cap] using this
              · simp only [upd_ne _ _ _ _ e]; exact h.par j hj
          · by_cases e : s' = s
            · subst e; simp only [upd_same] at hx; obtain ⟨j, hj, hj'⟩ := hx; exact hj (hd _ _ x hj' hx')
            · simp only [upd_ne _ _ _ _ e] at hx; exact e (h.dis s' s x hx ((hD x).2 ⟨i, hx'⟩))
    · cases he
  · cases he
end Go.Proofs.Ytnbahnpckfelpaa.VL
