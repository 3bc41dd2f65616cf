import Derived.Test.YtnbahnpckfelpaaVLg
import Derived.Laws.MakeOwn
/-! VL, part H: cuts, made rows, built values, function values. -/
namespace Go.Proofs.Ytnbahnpckfelpaa.VL
open Go.RowKit
set_option linter.unusedVariables false
variable {C : Ctx} {σ : S} {κ : Nat → K} {Ds : Nat → Nat → Prop} {a : Act} {tmps : Array Value} {w : World}

/-! x[lo:hi] -/
def bnd (σ : S) (d : Int) : Option Operand → Option Int
  | none => some d
  | some x => match σ.opd x with | .sc (.int _ i) => some i | _ => none
def Slc.cut (l : Slc) (lo hi : Nat) : T :=
  match l with
  | .ref st s p l0 n sz => .rf st s p (l0 + lo) (hi - lo) sz
  | .ro m sz cs => .nd false m sz ((cs.drop (lo * sz)).take ((hi - lo) * sz))
def cutV (P : Program) (σ : S) (t : TypeId) (x : Operand) (lo hi : Option Operand) : Option (T × S) :=
  match P.underlying t with
  | some (.slice e) => (σ.slc x).bind fun l => (bnd σ 0 lo).bind fun i => (bnd σ l.len hi).bind fun j =>
      if (0 ≤ i ∧ i ≤ j ∧ j ≤ l.len) ∧ l.okAt σ = true ∧ (P.info? e).isSome ∧ P.cellsOf e = l.sz then some (l.cut i.toNat j.toNat, σ) else none
  | some .string => (match σ.opd x with
      | .sc (.string s) => (bnd σ 0 lo).bind fun i => (bnd σ s.size hi).bind fun j => if 0 ≤ i ∧ i ≤ j ∧ j ≤ s.size then some (.str (s.extract i.toNat j.toNat), σ) else none
      | _ => none)
  | _ => none
theorem bnd_run (h : SR C σ κ Ds a.tmps w) {d : Int} {x : Option Operand} {i : Int} (hb : bnd σ d x = some i) : (x = none ∧ i = d) ∨ ∃ y k, x = some y ∧ a.eval y = .int k i := by
  unfold bnd at hb
  split at hb
  · simp at hb; exact .inl ⟨rfl, hb.symm⟩
  · split at hb
    · rename_i y _ k j hy
      simp at hb; subst hb
      have := h.eval y
      rw [hy] at this
      exact .inr ⟨y, k, rfl, this⟩
    · cases hb
theorem run_bounds {P : Program} (isSlice : Bool) (len cap : Nat) (hcap : len ≤ cap) {lo hi : Option Operand} {i j : Int} {ev : Operand → Value} (hlo : (lo = none ∧ i = 0) ∨ ∃ y k, lo = some y ∧ ev y = .int k i)
    (hhi : (hi = none ∧ j = len) ∨ ∃ y k, hi = some y ∧ ev y = .int k j) (h0 : 0 ≤ i) (h1 : i ≤ j) (h2 : j ≤ len) (w : World) :
    (Instr.sliceBounds isSlice len cap (lo.map ev) (hi.map ev) none).run P w = .ok (i.toNat, j.toNat, cap) w := by
  have e1 : (if isSlice = true then j ≤ (cap : Int) else j ≤ (cap : Int)) := by split <;> omega
  have hjc : j ≤ (cap : Int) := by omega
  have hj0 : 0 ≤ j := by omega
  have hij : i ≤ (j.toNat : Int) := by omega
  rcases hlo with ⟨rfl, rfl⟩ | ⟨y, k, rfl, hy⟩ <;> rcases hhi with ⟨rfl, rfl⟩ | ⟨z, k', rfl, hz⟩
  · simp [Instr.sliceBounds]
  · simp [Instr.sliceBounds, Instr.sliceBound, hz, asIntOf, hj0, hjc]
  · simp [Instr.sliceBounds, Instr.sliceBound, hy, asIntOf, h0, h1]
  · have hmx : ¬ max j 0 < i := by omega
    simp [Instr.sliceBounds, Instr.sliceBound, hy, hz, asIntOf, h0, hj0, hjc, hmx]
theorem cutV_val {o : Oper} {e : TypeId} {x : Operand} {lo hi : Option Operand} (ho : o.op = .slice e x lo hi none) {t : T} {σ' : S} (he : cutV C.P σ e x lo hi = some (t, σ')) : ValOk C o σ t σ' := by
  intro κ Ds a w h
  unfold cutV at he
  split at he
  · rename_i el hu
    simp only [Option.bind_eq_some_iff] at he
    obtain ⟨l, hl, i, hi', j, hj, he⟩ := he
    split at he
    · rename_i hok
      obtain ⟨⟨b0, b1, b2⟩, hok1, hok2, hok3⟩ := hok
      simp only [Option.some.injEq, Prod.mk.injEq] at he
      obtain ⟨rfl, rfl⟩ := he
      obtain ⟨info, hinfo⟩ := Option.isSome_iff_exists.1 hok2
      have hsz : info.size = l.sz := by rw [← hok3]; simp [Program.cellsOf, hinfo]
      obtain ⟨k, g1, g2, g3, g4, g5⟩ := h.slc hl
      have hlc : l.len ≤ k.cap := by
        cases l with
        | ref st s p l0 n sz =>
          simp only [Slc.okAt, beq_iff_eq] at hok1
          simp only [Slc.tree] at g3
          cases g3 with
          | solid h => simp [T.solid] at h
          | rf hle hr => obtain ⟨cs, q1, q2, q3, q4, _⟩ := hr hok1; exact q3
        | ro m sz cs =>
          simp only [Slc.tree] at g2
          cases g2 with
          | own => exact absurd rfl (g5 _ _ _ rfl)
          | own0 => exact absurd rfl (g5 _ _ _ rfl)
          | look n b off hm hsz' hn hc => simp only [Slc.len, K.cap, ← hn, Nat.mul_div_cancel _ hsz']; exact hc
      have run : (execOp a.eval o).run C.P w = .ok (.value (.slice (if k.cap = i.toNat then k.A else k.A.map (·.add (i.toNat * l.sz))) (j.toNat - i.toNat) (k.cap - i.toNat))) w := by
        have hb := run_bounds (P := C.P) true l.len k.cap hlc (bnd_run h hi') (bnd_run h hj) b0 b1 b2 w
        simp [execOp, ho, Instr.sliceAt, Instr.slice, run_underlying hu, g4, hb, sizeOf, typeInfo, hinfo, hsz]
      refine ⟨_, w, κ, Ds, .mk (if k.cap = i.toNat then k.A else k.A.map (·.add (i.toNat * l.sz))) (k.cap - i.toNat) (fun m => k.kid (i.toNat * l.sz + m)), No, run, h, ?_, ?_, Free.no, ?_⟩
      · cases l with
        | ref => exact .rf
        | ro m sz cs =>
          simp only [Slc.tree] at g2
          simp only [Slc.len] at b2
          generalize k = kk at *
          cases g2 with
          | own => exact absurd rfl (g5 _ _ _ rfl)
          | own0 => exact absurd rfl (g5 _ _ _ rfl)
          | @look _ _ _ _ A cap kid n b off hm hsz' hn hc hA hp hs hv hk =>
            have hn' : cs.length / sz = n := by rw [← hn]; exact Nat.mul_div_cancel _ hsz'
            rw [hn'] at b2
            have hl : ((cs.drop (i.toNat * sz)).take ((j.toNat - i.toNat) * sz)).length = (j.toNat - i.toNat) * sz := by
              rw [List.length_take, List.length_drop, ← hn, ← Nat.sub_mul]
              exact Nat.min_eq_left (Nat.mul_le_mul_right _ (by omega))
            have hg : ∀ m c, ((cs.drop (i.toNat * sz)).take ((j.toNat - i.toNat) * sz))[m]? = some c → cs[i.toNat * sz + m]? = some c ∧ m < (j.toNat - i.toNat) * sz := by
              intro m c hi
              rw [List.getElem?_take] at hi
              split at hi
              · rw [List.getElem?_drop] at hi; exact ⟨hi, ‹_›⟩
              · cases hi
            refine .look (j.toNat - i.toNat) b (off + i.toNat * sz) hm hsz' hl.symm (by simp only [K.cap]; omega) (fun hne => ?_) (by simp) (fun m c hi => hs _ c (hg m c hi).1) (fun m c hi => ?_) (fun m c hi => hk _ c (hg m c hi).1)
            · have hlt : 0 < (j.toNat - i.toNat) * sz := by rw [← hl]; exact List.length_pos_iff.2 hne
              have hlt' : i.toNat < j.toNat := by
                rcases Nat.lt_or_ge i.toNat j.toNat with h | h
                · exact h
                · rw [Nat.sub_eq_zero_of_le h] at hlt; omega
              have hcs : cs ≠ [] := by
                rintro rfl
                rcases Nat.mul_eq_zero.1 (show n * sz = 0 from hn) with h | h <;> omega
              obtain ⟨hA1, hA2⟩ := hA hcs
              refine ⟨?_, hA2⟩
              have hne' : ¬ cap = i.toNat := by omega
              show (if cap = i.toNat then A else A.map (·.add (i.toNat * sz))) = _
              rw [if_neg hne', hA1, Option.map_some, Addr.add_lit]
            · have := hv _ c (hg m c hi).1; rwa [← Nat.add_assoc] at this
      · cases l with
        | ref st s p l0 n sz => simp only [Slc.cut, val, K.A, K.cap]
        | ro m sz cs =>
          simp only [Slc.tree] at g2
          simp only [Slc.len] at b2
          cases g2 with
          | own => exact absurd rfl (g5 _ _ _ rfl)
          | own0 => exact absurd rfl (g5 _ _ _ rfl)
          | @look _ _ _ _ A cap kid n b off hm hsz' hn hc hA hp hs hv hk =>
            have hn' : cs.length / sz = n := by rw [← hn]; exact Nat.mul_div_cancel _ hsz'
            rw [hn'] at b2
            have hl : ((cs.drop (i.toNat * sz)).take ((j.toNat - i.toNat) * sz)).length = (j.toNat - i.toNat) * sz := by
              rw [List.length_take, List.length_drop, ← hn, ← Nat.sub_mul]
              exact Nat.min_eq_left (Nat.mul_le_mul_right _ (by omega))
            simp only [Slc.cut, val, hl, Nat.mul_div_cancel _ hsz']
            rfl
      · cases l with
        | ro => exact .solid rfl
        | ref st s p l0 n sz =>
          simp only [Slc.okAt, beq_iff_eq] at hok1
          simp only [Slc.tree] at g3
          simp only [Slc.len] at b2
          cases g3 with
          | solid h => simp [T.solid] at h
          | rf hle hr =>
            refine .rf hle fun _ => ?_
            obtain ⟨cs, q1, q2, q3, q4, q8⟩ := hr hok1
            refine ⟨cs, q1, Nat.le_trans (Nat.mul_le_mul_right _ (by omega)) q2, by show j.toNat - i.toNat ≤ k.cap - i.toNat; omega, fun hc => ?_, fun hl => ?_⟩
            case refine_2 =>
              obtain ⟨e1, e2⟩ := q8 (by omega)
              have hi0 : i.toNat = 0 := by omega
              refine ⟨?_, by show k.cap - i.toNat = _; omega⟩
              show (if k.cap = i.toNat then k.A else k.A.map (·.add (i.toNat * sz))) = _
              rw [hi0, Nat.zero_mul]
              split
              · exact e1
              · rw [← e1]; cases k.A <;> simp [Addr.add]
            replace hc : 0 < k.cap - i.toNat := hc
            obtain ⟨q5, b, o', q6, q7⟩ := q4 (by omega)
            have hne' : ¬ k.cap = i.toNat := by omega
            refine ⟨by show l0 + i.toNat + (k.cap - i.toNat) ≤ _; omega, b, o', q6, ?_⟩
            show (if k.cap = i.toNat then k.A else k.A.map (·.add (i.toNat * sz))) = _
            rw [if_neg hne', q7, Option.map_some, Addr.add_lit, Nat.add_mul, Nat.add_assoc]
    · cases he
  · rename_i hu
    split at he
    · rename_i s hs
      simp only [Option.bind_eq_some_iff] at he
      obtain ⟨i, hi', j, hj, he⟩ := he
      split at he
      · rename_i hb
        simp only [Option.some.injEq, Prod.mk.injEq] at he
        obtain ⟨rfl, rfl⟩ := he
        have h1 := h.eval x
        rw [hs] at h1; simp only [val] at h1
        have hbb := run_bounds (P := C.P) false s.size s.size (Nat.le_refl _) (bnd_run h hi') (bnd_run h hj) hb.1 hb.2.1 hb.2.2 w
        exact sc_val (σ := σ) rfl (fun κ Ds a w h => by
          have h1 := h.eval x
          rw [hs] at h1; simp only [val] at h1
          have hbb := run_bounds (P := C.P) false s.size s.size (Nat.le_refl _) (bnd_run h hi') (bnd_run h hj) hb.1 hb.2.1 hb.2.2 w
          simp [execOp, ho, Instr.sliceAt, Instr.slice, run_underlying hu, h1, hbb]) κ Ds a w h
      · cases he
    · cases he
  · cases he

/-! make([]T, n, c) -/
def zerosT (zs : List T) : Nat → List T
  | 0 => []
  | n + 1 => zs ++ zerosT zs n
def makeV (P : Program) (σ : S) (t : TypeId) (l c : Operand) : Option (T × S) :=
  match P.underlying t, σ.opd l, σ.opd c with
  | some (.slice e), .sc (.int _ n), .sc (.int _ m) =>
    (zeroT P e).bind fun zs => if (0 ≤ n ∧ n ≤ m ∧ (P.bytesOf e : Int) * m ≤ 281474976710656 ∧ m ≤ 9223372036854775807) ∧ P.cellsOf e = zs.length ∧ 0 < zs.length then some (.sl .own zs.length (zerosT zs n.toNat), σ) else none
  | _, _, _ => none
theorem zerosT_length (zs : List T) (n : Nat) : (zerosT zs n).length = n * zs.length := by
  induction n with
  | zero => simp [zerosT]
  | succ n ih => simp [zerosT, ih, Nat.succ_mul, Nat.add_comm]
theorem zerosT_get (zs : List T) (hz : 0 < zs.length) : ∀ (n i : Nat) (c : T), (zerosT zs n)[i]? = some c → zs[i % zs.length]? = some c ∧ i < n * zs.length
  | 0, i, c, h => by simp [zerosT] at h
  | n + 1, i, c, h => by
    simp only [zerosT] at h
    rw [List.getElem?_append] at h
    split at h
    · rename_i hi
      rw [Nat.mod_eq_of_lt hi]
      exact ⟨h, by rw [Nat.succ_mul]; omega⟩
    · rename_i hi
      obtain ⟨h1, h2⟩ := zerosT_get zs hz n _ c h
      have hm : (i - zs.length) % zs.length = i % zs.length := by
        conv => rhs; rw [show i = (i - zs.length) + zs.length by omega]
        rw [Nat.add_mod_right]
      rw [hm] at h1
      exact ⟨h1, by rw [Nat.succ_mul]; omega⟩
theorem madeCells_get (z : Array Value) (hz : 0 < z.size) {n i : Nat} (hi : i < n) : (madeCells z n)[i]? = z[i % z.size]? := by
  have hm : i % z.size < z.size := Nat.mod_lt _ hz
  rw [Array.getElem?_eq_getElem hm, madeCells, Array.getElem?_map, Array.getElem?_range, if_pos hi, Option.map_some, getElem!_pos z _ hm]
theorem Rep.made {el : TypeId} {z : Array Value} (hz : 0 < z.size) {n m : Nat} (hnm : n ≤ m) (w : World) (St Vw : Nat → Prop) :
    Rep (w.alloc (.cells (madeCells z (m * z.size)) el)) St Vw (.sl .own z.size (zerosT (z.toList.map constT1) n)) (.mk (some ⟨w.heap.size, 0, none⟩) m fun i => constK1 (z.getD (i % z.size) undef)) (fun x => x = w.heap.size) := by
  have hzl : (z.toList.map constT1).length = z.size := by simp
  have hlen : n * z.size ≤ m * z.size := Nat.mul_le_mul_right _ hnm
  have hget : ∀ (i : Nat) (c : T), (zerosT (z.toList.map constT1) n)[i]? = some c → ∃ v, z[i % z.size]? = some v ∧ c = constT1 v ∧ i < n * z.size := by
    intro i c hi
    obtain ⟨h1, h2⟩ := zerosT_get _ (by rw [hzl]; exact hz) _ _ _ hi
    rw [hzl] at h1 h2
    rw [List.getElem?_map, Option.map_eq_some_iff] at h1
    obtain ⟨v, hv, rfl⟩ := h1
    exact ⟨v, by rw [← Array.getElem?_toList]; exact hv, rfl, h2⟩
  refine .own n w.heap.size 0 _ el (0, 0) (fun _ => No) hz (by rw [zerosT_length, hzl]) hnm (heap_alloc_new w _) (.inl rfl) ?_ (fun i c hi => ?_) (fun i c hi => ?_) (fun i c hi => ?_) (fun _ _ h => h.elim) (fun _ _ h => h.elim) (fun _ _ _ h => h.elim) (fun x => ⟨.inl, fun h => h.elim id fun ⟨_, h⟩ => h.elim⟩)
  · rw [size_madeCells]; omega
  · obtain ⟨v, _, rfl, _⟩ := hget i c hi; exact solid_const1 v
  · obtain ⟨v, hv, rfl, hlt⟩ := hget i c hi
    have hg : z.getD (i % z.size) undef = v := by rw [Array.getD_eq_getD_getElem?, hv]; rfl
    rw [Nat.zero_add, madeCells_get z hz (by omega), hv, hg, val_const1]
  · obtain ⟨v, hv, rfl, _⟩ := hget i c hi
    have hg : z.getD (i % z.size) undef = v := by rw [Array.getD_eq_getD_getElem?, hv]; rfl
    rw [hg]; exact rep_const1 _ _ _ v
theorem makeV_val (hC : C.Ok) {o : Oper} {e : TypeId} {l c : Operand} (ho : o.op = .makeSlice e l c) {t : T} {σ' : S} (he : makeV C.P σ e l c = some (t, σ')) : ValOk C o σ t σ' := by
  intro κ Ds a w h
  unfold makeV at he
  split at he
  · rename_i el k1 n k2 m hu hl hc
    rw [Option.bind_eq_some_iff] at he
    obtain ⟨zs, hzs, he⟩ := he
    split at he
    · rename_i hok
      obtain ⟨⟨b0, b1, b2, b3⟩, b4, b5⟩ := hok
      rw [Option.some.injEq, Prod.mk.injEq] at he
      obtain ⟨rfl, rfl⟩ := he
      rw [zeroT, Option.map_eq_some_iff] at hzs
      obtain ⟨z, hzz, rfl⟩ := hzs
      rw [Option.bind_eq_some_iff] at hzz
      obtain ⟨info, hinfo, hz⟩ := hzz
      have e1 : a.eval l = .int k1 n := by have := h.eval l; rw [hl] at this; exact this
      have e2 : a.eval c = .int k2 m := by have := h.eval c; rw [hc] at this; exact this
      have c1 : C.P.bytesOf e = C.P.bytesOf e := rfl
      have c2 : C.P.bytesOf el = info.bytes := by rw [Program.bytesOf, hinfo]; rfl
      have c3 : C.P.cellsOf el = info.size := by rw [Program.cellsOf, hinfo]; rfl
      have hzl : (z.cells.toList.map constT1).length = z.cells.size := by rw [List.length_map]; rfl
      rw [c2] at b2
      rw [c3, hzl] at b4
      rw [hzl] at b5 ⊢
      have hrun := run_make (P := C.P) w e el info z hu hinfo hz k1 k2 n m b0 b1 b2 b3
      rw [b4] at hrun
      have hr := Rep.made (el := el) b5 (n := n.toNat) (m := m.toNat) (by omega) w C.St C.Vw
      refine ⟨.slice (some ⟨w.heap.size, 0, none⟩) n.toNat m.toNat, _, κ, Ds, _, _, ?_, h.alloc hC _, hr, ?_, ⟨fun s x hx hx' => ?_, fun x hx => ?_⟩, .solid rfl⟩
      · have : execOp a.eval o = (do pure (.value (← Instr.makeSlice e (a.eval l) (a.eval c)))) := by rw [execOp, ho]
        rw [this, e1, e2, Sem.run_bind, hrun]; rfl
      · have : (zerosT (z.cells.toList.map constT1) n.toNat).length / z.cells.size = n.toNat := by rw [zerosT_length, hzl, Nat.mul_div_cancel _ b5]
        show Value.slice _ _ _ = _
        rw [this]; rfl
      · have := (h.rep s).lt x hx; omega
      · exact .inl (by rw [hx]; exact h.fr.size)
    · cases he
  · cases he
end Go.Proofs.Ytnbahnpckfelpaa.VL
