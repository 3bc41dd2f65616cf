import Derived.Test.YtnbahnpckfelpaaVLo3
import Derived.Laws.IdiomStrings
import Derived.Laws.Small
/-! VL, part K2: conversions, max, clear, nil lists of a type. -/
namespace Go.Proofs.Ytnbahnpckfelpaa.VL
open Go.RowKit
set_option linter.unusedVariables false
variable {C : Ctx} {σ : S} {κ : Nat → K} {Ds : Nat → Nat → Prop} {a : Act} {tmps : Array Value} {w : World}

def convV (P : Program) (σ : S) (src dst : TypeId) (x : Operand) : Option (T × S) :=
  match P.underlying dst, σ.opd x with
  | some (.int k), .sc (.int _ n) => if (P.underlying src).isSome then some (.sc (.int k (k.wrap n)), σ) else none
  | some (.slice e), .sc (.string s) => (match P.underlying src, P.underlying e with
    | some .string, some (.int .u8) => some (.nd false .own 1 (byteT s), σ)
    | _, _ => none)
  | _, _ => none
theorem bytesRow_get (s : ByteArray) (c i : Nat) (h : i < s.size) : (bytesRow s c)[i]? = some (.int .u8 (s.data[i]'h).toNat) := by
  have hs : s.data.size = s.size := rfl
  unfold bytesRow
  have h2 : i < s.data.size := h
  rw [Array.getElem?_append_left (by simpa using h2)]
  simp only [Array.getElem?_map, Array.getElem?_eq_getElem h2, Option.map_some]
theorem byteT_len (s : ByteArray) : (byteT s).length = s.size := by simp [byteT]
theorem byteT_get (s : ByteArray) (i : Nat) (c : T) (h : (byteT s)[i]? = some c) : ∃ hi : i < s.size, c = .sc (.int .u8 (s.data[i]'hi).toNat) := by
  have hi : i < s.size := by rw [← byteT_len]; exact (List.getElem?_eq_some_iff.1 h).1
  refine ⟨hi, ?_⟩
  have hi2 : i < s.data.size := hi
  simp only [byteT, List.getElem?_map, Option.map_eq_some_iff, Array.getElem?_toList] at h
  obtain ⟨b, hb, rfl⟩ := h
  rw [Array.getElem?_eq_getElem hi2] at hb
  injection hb with hb
  rw [hb]
theorem convV_val (hC : C.Ok) {o : Oper} {src dst : TypeId} {x : Operand} (ho : o.op = .convert src dst x) {t : T} {σ' : S} (he : convV C.P σ src dst x = some (t, σ')) : ValOk C o σ t σ' := by
  intro κ Ds a w h
  unfold convV at he
  have hex : execOp a.eval o = (do pure (.value (← convert src dst (a.eval x)))) := by rw [execOp, ho]
  split at he
  · rename_i k k' n hd hx
    split at he
    · rename_i hs
      simp only [Option.some.injEq, Prod.mk.injEq] at he
      obtain ⟨rfl, rfl⟩ := he
      have e1 : a.eval x = .int k' n := by have := h.eval x; rw [hx] at this; exact this
      have hk : C.P.intKind dst = k := by simp [Program.intKind, hd]
      have hrun := run_convert_int (P := C.P) w src dst k' n hs (by rw [hk]; exact hd)
      have hrun' : (convert src dst (.int k' n)).run C.P w = .ok (.int k (k.wrap n)) w := by
        obtain ⟨d, hd'⟩ := Option.isSome_iff_exists.mp hs
        simp [convert, run_underlying hd', run_underlying hd, Conv.intToInt]
      exact ⟨_, w, κ, Ds, .leaf, No, by rw [hex, e1, Sem.run_bind, hrun']; rfl, h, .sc rfl, rfl, Free.no, .solid rfl⟩
    · cases he
  · rename_i e s hd hx
    split at he
    · rename_i hs hu
      simp only [Option.some.injEq, Prod.mk.injEq] at he
      obtain ⟨rfl, rfl⟩ := he
      have e1 : a.eval x = .string s := by have := h.eval x; rw [hx] at this; exact this
      have hrun := run_bytes_of_string (P := C.P) w src dst e s hs hd hu
      have hcap : s.size ≤ grownCap w s.size 0 e := grownCap_ge _ _ _ _
      have hsr : SR C σ κ Ds a.tmps (w.drew.alloc (.cells (bytesRow s (grownCap w s.size 0 e)) e ((bytesRow s (grownCap w s.size 0 e)).size, (bytesRow s (grownCap w s.size 0 e)).size + 1))) := h.drew.alloc hC _
      refine ⟨.slice (some ⟨w.heap.size, 0, none⟩) s.size (grownCap w s.size 0 e), _, κ, Ds, .mk (some ⟨w.heap.size, 0, none⟩) (grownCap w s.size 0 e) fun _ => .leaf, fun x => x = w.heap.size, by rw [hex, e1, Sem.run_bind, hrun]; rfl, hsr, ?_, ?_, ⟨fun s x hx hx' => ?_, fun x hx => ?_⟩, .solid rfl⟩
      · refine .own s.size w.heap.size 0 (bytesRow s (grownCap w s.size 0 e)) e ((bytesRow s (grownCap w s.size 0 e)).size, (bytesRow s (grownCap w s.size 0 e)).size + 1) (fun _ => No) (by omega) (by rw [byteT_len]; omega) hcap ?_ (.inr ?_) ?_ (fun i c hi => ?_) (fun i c hi => ?_) (fun i c hi => ?_) (fun _ _ h => h.elim) (fun _ _ h => h.elim) (fun _ _ _ h => h.elim) (fun x => ⟨.inl, fun h => h.elim id fun ⟨_, h⟩ => h.elim⟩)
        · exact heap_alloc_new w.drew _
        · exact Nat.le_refl _
        · have : s.data.size = s.size := rfl
          unfold bytesRow; simp; omega
        · obtain ⟨_, rfl⟩ := byteT_get s i c hi; rfl
        · obtain ⟨hlt, rfl⟩ := byteT_get s i c hi
          rw [Nat.zero_add, bytesRow_get s _ i hlt]; rfl
        · obtain ⟨_, rfl⟩ := byteT_get s i c hi; exact .sc rfl
      · simp only [val, K.A, K.cap, byteT_len, Nat.div_one]
      · have := (h.rep s).lt x hx; omega
      · exact .inl (by rw [hx]; exact h.fr.size)
    · cases he
  · cases he

def maxV (σ : S) (x y : Operand) : Option (T × S) :=
  match σ.opd x, σ.opd y with
  | .sc (.int k n), .sc (.int k' m) => if k = k' then some (.sc (.int k (if m > n then m else n)), σ) else none
  | _, _ => none
theorem maxV_val {o : Oper} {ts : Array TypeId} {x y : Operand} (ho : o.op = .call { callee := .builtin .max, args := #[x, y], argTypes := ts }) {t : T} {σ' : S} (he : maxV σ x y = some (t, σ')) : ValOk C o σ t σ' := by
  intro κ Ds a w h
  unfold maxV at he
  split at he
  · rename_i k n k' m hx hy
    split at he
    · rename_i hk
      subst hk
      simp only [Option.some.injEq, Prod.mk.injEq] at he
      obtain ⟨rfl, rfl⟩ := he
      have e1 : a.eval x = .int k n := by have := h.eval x; rw [hx] at this; exact this
      have e2 : a.eval y = .int k m := by have := h.eval y; rw [hy] at this; exact this
      refine ⟨_, w, κ, Ds, .leaf, No, ?_, h, .sc rfl, rfl, Free.no, .solid rfl⟩
      have hm := run_max_int2 (P := C.P) (w := w) ts o.type k k n m
      simp [execOp, ho, resolve, invoke, builtin, e1, e2, hm, val]
    · cases he
  · cases he

def clearV (P : Program) (σ : S) (ts : Array TypeId) (x : Operand) : Option (T × S) :=
  match (ts[0]?).bind P.underlying with
  | some (.slice e) => match zeroT P e, σ.slc x with
    | some [.sc z], some (.ref st s p lo n sz) =>
      if st = σ.st s ∧ sz = 1 then match getP (σ.sl s) p with
        | some (.nd false .own sz' cs) => if sz' = 1 ∧ lo + n ≤ cs.length ∧ 0 < n then some (T.un, σ.write s p lo false sz' cs (List.replicate n (.sc z))) else (if n = 0 then some (T.un, σ) else none)
        | _ => none
      else none
    | _, _ => none
  | _ => none
theorem vals_replicate (z : Value) (f : Nat → K) : ∀ (n i : Nat), VL.vals (List.replicate n (.sc z)) f i = List.replicate n z
  | 0, _ => rfl
  | n + 1, i => by simp only [List.replicate_succ, VL.vals, val, vals_replicate z f n]
theorem clearV_val (hC : C.Ok) {o : Oper} {ts : Array TypeId} {x : Operand} (ho : o.op = .call { callee := .builtin .clear, args := #[x], argTypes := ts }) {t : T} {σ' : S} (he : clearV C.P σ ts x = some (t, σ')) : ValOk C o σ t σ' := by
  intro κ Ds a w h
  unfold clearV at he
  split at he
  · rename_i e hu
    obtain ⟨tx, ht0, hu'⟩ := Option.bind_eq_some_iff.1 hu
    split at he
    · rename_i z st s p lo n sz hz hsl
      split at he
      · rename_i hst
        obtain ⟨hst, rfl⟩ := hst
        obtain ⟨k, q1, q2, q3, q4, q5⟩ := h.slc hsl
        split at he
        · rename_i sz' cs hg
          split at he
          · rename_i hok
            obtain ⟨rfl, hle, hn⟩ := hok
            simp only [Option.some.injEq, Prod.mk.injEq] at he
            obtain ⟨rfl, rfl⟩ := he
            cases q3 with
            | solid h => simp [T.solid, Slc.tree] at h
            | rf hle' hrf =>
              obtain ⟨cs', g1, g2, g3, g4, g5⟩ := hrf hst
              obtain ⟨_, b, o', g6, g7⟩ := g4 (by omega)
              simp only [zeroT, Option.map_eq_some_iff, Option.bind_eq_some_iff] at hz
              obtain ⟨zv, ⟨info, hi, hzv⟩, hzz⟩ := hz
              have hzs : isSc z = true ∧ zv.cells.toList = [z] := by
                match hl : zv.cells.toList with
                | [] => rw [hl] at hzz; cases hzz
                | [v] =>
                  rw [hl] at hzz
                  simp only [List.map_cons, List.map_nil, List.cons.injEq, and_true] at hzz
                  unfold constT1 at hzz
                  split at hzz
                  · cases hzz
                  · split at hzz
                    · rename_i hv; injection hzz with hzz; subst hzz; exact ⟨hv, rfl⟩
                    · cases hzz
                | _ :: _ :: _ => rw [hl] at hzz; simp at hzz
              obtain ⟨hzs, hzl⟩ := hzs
              have hrow : Row C Ds w (List.replicate n (.sc z)) (fun _ => .leaf) (fun _ => No) :=
                ⟨fun i c hi => by rw [List.mem_replicate.1 (List.mem_of_getElem? hi) |>.2]; exact .sc hzs, fun i c hi => by rw [List.mem_replicate.1 (List.mem_of_getElem? hi) |>.2]; rfl, fun _ _ h => h.elim, fun _ => Free.no, fun _ _ _ h => h.elim⟩
              have hone : ∀ v ∈ VL.vals (List.replicate n (.sc z)) (fun _ => K.leaf) 0, v.oneCell' = true := fun v hv => by
                rw [vals_replicate] at hv
                rw [(List.mem_replicate.1 hv).2]
                cases z <;> simp [isSc] at hzs <;> rfl
              obtain ⟨w', κ', Ds', r1, r2⟩ := h.write hC hg hrow (off := lo) (by simpa using hle) g6 hone
              refine ⟨_, w', κ', Ds', .leaf, No, ?_, r2, rep_un, val_un, Free.no, ref_un⟩
              have hn' : ∃ m, n = m + 1 := ⟨n - 1, by omega⟩
              have hzr : (zeroValue e).run C.P w = .ok zv w := by simp [zeroValue, typeInfo, hi, hzv]
              have hcells : (Builtin.zeroCells zv.cells n).toList = VL.vals (List.replicate n (.sc z)) (fun _ => K.leaf) 0 := by
                rw [vals_replicate]
                have : zv.cells = #[z] := by apply Array.ext'; simpa using hzl
                rw [this]
                apply List.ext_getElem
                · simp [Builtin.zeroCells]
                · intro i h1 h2
                  simp [Builtin.zeroCells, Nat.mod_one]
              have ht : ts[0]? = some tx := ht0
              have hev : a.eval x = .slice (some ⟨b, o' + lo, none⟩) n k.cap := by
                rw [q4]; rw [show k.A = some ⟨b, o' + lo * 1, none⟩ from g7]; simp [Slc.len]
              obtain ⟨m, rfl⟩ := hn'
              rw [← hcells] at r1
              simp [execOp, ho, resolve, invoke, builtin, Builtin.clear_, hev, ht, run_underlying hu', hzr, r1, undef]
          · split at he
            · rename_i hn
              simp only [Option.some.injEq, Prod.mk.injEq] at he
              obtain ⟨rfl, rfl⟩ := he
              subst hn
              refine ⟨_, w, κ, Ds, .leaf, No, ?_, h, rep_un, val_un, Free.no, ref_un⟩
              have ht : ts[0]? = some tx := ht0
              have hev : a.eval x = .slice k.A 0 k.cap := q4
              cases hA : k.A <;> simp [execOp, ho, resolve, invoke, builtin, Builtin.clear_, hev, hA, ht, run_underlying hu', undef]
            · cases he
        · cases he
      · cases he
    · cases he
  · cases he

/-- A nil list of a known type. -/
def nilT (P : Program) (ty : TypeId) (x : Operand) : Option T :=
  match x with
  | .const (.slice none 0 0) => match P.underlying ty with
    | some (.slice e) => if 0 < P.cellsOf e then some (.nd false .own (P.cellsOf e) []) else none
    | _ => none
  | _ => none
theorem nilT_val {o : Oper} {x : Operand} (ho : o.op = .assign x) {t : T} (he : nilT C.P o.type x = some t) : ValOk C o σ t σ := by
  intro κ Ds a w h
  unfold nilT at he
  split at he
  · split at he
    · split at he
      · rename_i hs
        simp only [Option.some.injEq] at he; subst he
        refine ⟨_, w, κ, Ds, .mk none 0 fun _ => .leaf, No, ?_, h, .own0 hs, rfl, Free.no, .solid rfl⟩
        simp [execOp, ho, Act.eval, val, K.A, K.cap]
      · cases he
    · cases he
  · cases he
end Go.Proofs.Ytnbahnpckfelpaa.VL
