import Derived.Test.YtnbahnpckfelpaaVLh
import Derived.Laws.Tables
/-! VL, part I: built values and slices, function values, elements of values. -/
namespace Go.Proofs.Ytnbahnpckfelpaa.VL
open Go.RowKit
set_option linter.unusedVariables false
variable {C : Ctx} {σ : S} {κ : Nat → K} {Ds : Nat → Nat → Prop} {a : Act} {tmps : Array Value} {w : World}

/-- Cells that no slot owns. -/
structure Row (C : Ctx) (Ds : Nat → Nat → Prop) (w : World) (cs : List T) (f : Nat → K) (Dk : Nat → Nat → Prop) : Prop where
  rep : ∀ (i : Nat) (c : T), cs[i]? = some c → Rep w C.St C.Vw c (f i) (Dk i)
  solid : ∀ (i : Nat) (c : T), cs[i]? = some c → c.solid = true
  out : ∀ i x, Dk i x → i < cs.length
  free : ∀ i, Free C Ds (Dk i)
  dis : ∀ i j x, Dk i x → Dk j x → i = j

def setR (cs : List T) (o : Nat) (ds : List T) : List T := cs.take o ++ ds ++ cs.drop (o + ds.length)
theorem setR_length {cs ds : List T} {o : Nat} (h : o + ds.length ≤ cs.length) : (setR cs o ds).length = cs.length := by
  simp only [setR, List.length_append, List.length_take, List.length_drop]; omega
theorem setR_get {α : Type} {cs ds : List α} {o : Nat} (h : o + ds.length ≤ cs.length) (i : Nat) :
    (cs.take o ++ ds ++ cs.drop (o + ds.length))[i]? = if i < o then cs[i]? else if i < o + ds.length then ds[i - o]? else cs[i]? := by
  rw [List.append_assoc, List.getElem?_append]
  have hl : (cs.take o).length = o := by rw [List.length_take]; omega
  rw [hl]
  split
  · rw [List.getElem?_take, if_pos ‹_›]
  · rw [List.getElem?_append]
    split
    · rw [if_pos (by omega)]
    · rw [if_neg (by omega), List.getElem?_drop]
      congr 1; omega
theorem Row.setR {cs ds : List T} {f g : Nat → K} {Dk Dg : Nat → Nat → Prop} {o : Nat} (h : Row C Ds w cs f Dk) (hd : Row C Ds w ds g Dg) (hdis : ∀ i j x, Dk i x → ¬ Dg j x) (hle : o + ds.length ≤ cs.length) :
    ∃ f' Dk', Row C Ds w (setR cs o ds) f' Dk' ∧ vals (VL.setR cs o ds) f' 0 = (vals cs f 0).take o ++ vals ds g 0 ++ (vals cs f 0).drop (o + ds.length) ∧ (∀ i x, Dk' i x → (∃ j, Dk j x) ∨ ∃ j, Dg j x) := by
  refine ⟨fun i => if i < o then f i else if i < o + ds.length then g (i - o) else f i, fun i x => if i < o then Dk i x else if i < o + ds.length then Dg (i - o) x else Dk i x, ⟨fun i c hi => ?_, fun i c hi => ?_, fun i x hx => ?_, fun i => ⟨fun s x hs hx => ?_, fun x hx => ?_⟩, fun i j x hi hj => ?_⟩, ?_, fun i x hx => ?_⟩
  · unfold VL.setR at hi
    rw [setR_get hle] at hi
    by_cases h1 : i < o
    · simp only [h1, if_true] at hi ⊢; exact h.rep i c hi
    · by_cases h2 : i < o + ds.length
      · simp only [h1, h2, if_true, if_false] at hi ⊢; exact hd.rep _ c hi
      · simp only [h1, h2, if_false] at hi ⊢; exact h.rep i c hi
  · unfold VL.setR at hi
    rw [setR_get hle] at hi
    split at hi
    · exact h.solid i c hi
    · split at hi
      · exact hd.solid _ c hi
      · exact h.solid i c hi
  · rw [setR_length hle]
    split at hx
    · exact h.out i x hx
    · split at hx
      · omega
      · exact h.out i x hx
  · split at hx
    · exact (h.free i).dis s x hs hx
    · split at hx
      · exact (hd.free _).dis s x hs hx
      · exact (h.free i).dis s x hs hx
  · split at hx
    · exact (h.free i).own x hx
    · split at hx
      · exact (hd.free _).own x hx
      · exact (h.free i).own x hx
  · split at hi <;> split at hj
    · exact h.dis i j x hi hj
    · split at hj
      · exact absurd hj (hdis _ _ x hi)
      · exact h.dis i j x hi hj
    · split at hi
      · exact absurd hi (hdis _ _ x hj)
      · exact h.dis i j x hi hj
    · split at hi <;> split at hj
      · have := hd.dis _ _ x hi hj; omega
      · exact absurd hi (hdis _ _ x hj)
      · exact absurd hj (hdis _ _ x hi)
      · exact h.dis i j x hi hj
  · apply List.ext_getElem?
    intro i
    have hle' : o + (vals ds g 0).length ≤ (vals cs f 0).length := by simpa [vals_length] using hle
    have := setR_get hle' i
    rw [vals_length] at this
    rw [this, vals_get, VL.setR, setR_get hle]
    simp only [Nat.zero_add, vals_get]
    by_cases h1 : i < o
    · simp only [h1, if_true]
    · by_cases h2 : i < o + ds.length
      · simp only [h1, h2, if_true, if_false]
      · simp only [h1, h2, if_false]
  · dsimp only at hx
    split at hx
    · exact .inl ⟨_, hx⟩
    · split at hx
      · exact .inr ⟨_, hx⟩
      · exact .inl ⟨_, hx⟩

def partT : T → Option (List T)
  | .gp 0 _ cs => some cs
  | .sc v => some [.sc v]
  | .nd ptr m sz cs => some [.nd ptr m sz cs]
  | _ => none
theorem partT_row {t : T} {k : K} {D : Nat → Prop} {ds : List T} (hr : Rep w C.St C.Vw t k D) (hw : t.whole = true) (hf : Free C Ds D) (he : partT t = some ds) :
    ∃ g Dg, Row C Ds w ds g Dg ∧ (val t k).cells = (vals ds g 0).toArray ∧ (∀ i x, Dg i x → D x) := by
  have one : t.solid = true → ds = [t] → (∀ cs, val t k ≠ .agg cs) → ∃ g Dg, Row C Ds w ds g Dg ∧ (val t k).cells = (vals ds g 0).toArray ∧ (∀ i x, Dg i x → D x) := by
    rintro hs rfl hn
    refine ⟨fun _ => k, fun i x => i = 0 ∧ D x, ⟨fun i c hi => ?_, fun i c hi => ?_, fun i x hx => by simp [hx.1], fun i => ⟨fun s x h1 h2 => hf.dis s x h1 h2.2, fun x hx => hf.own x hx.2⟩, fun i j x hi hj => by omega⟩, ?_, fun i x hx => hx.2⟩
    · cases i <;> simp at hi; subst hi; exact hr.congrD (by simp)
    · cases i <;> simp at hi; subst hi; exact hs
    · simp only [vals]
      cases hv : val t k <;> first | rfl | exact absurd hv (hn _)
  cases t with
  | gp kind f cs =>
    cases kind with
    | succ n => simp [partT] at he
    | zero =>
      simp [partT] at he; subst he
      cases hr with
      | gp Dk hk hout hd hD =>
        simp only [T.whole, List.all_eq_true] at hw
        exact ⟨k.kid, Dk, ⟨hk, fun i c hi => hw c (List.mem_of_getElem? hi), hout, fun i => ⟨fun s x h1 h2 => hf.dis s x h1 ((hD x).2 ⟨i, h2⟩), fun x hx => hf.own x ((hD x).2 ⟨i, hx⟩)⟩, hd⟩, by simp [val, Value.cells], fun i x hx => (hD x).2 ⟨i, hx⟩⟩
  | sc v =>
    simp [partT] at he; subst he
    refine one rfl rfl fun cs hcs => ?_
    cases hr with
    | sc hs => simp only [val] at hcs; subst hcs; simp [isSc] at hs
  | nd ptr m sz cs =>
    simp [partT] at he; subst he
    exact one rfl rfl fun cs hcs => by cases ptr <;> simp [val] at hcs
  | _ => simp [partT] at he

theorem fold_sets (off : Nat) : ∀ (l : List Value) (k : Nat) (cells : Array Value), off + k + l.length ≤ cells.size →
    (l.zipIdx k).foldl (fun cs (c, j) => cs.setIfInBounds (off + j) c) cells = (cells.toList.take (off + k) ++ l ++ cells.toList.drop (off + k + l.length)).toArray
  | [], k, cells, h => by simp
  | v :: l, k, cells, h => by
    simp only [List.length_cons] at h
    rw [List.zipIdx_cons, List.foldl_cons, fold_sets off l (k + 1) _ (by simp; omega)]
    apply Array.ext'
    apply List.ext_getElem?
    intro i
    have h1 : off + (k + 1) + l.length ≤ (cells.setIfInBounds (off + k) v).toList.length := by simp; omega
    have h2 : off + k + (v :: l).length ≤ cells.toList.length := by simp; omega
    show (List.take (off + (k + 1)) _ ++ l ++ List.drop (off + (k + 1) + l.length) _)[i]? = (List.take (off + k) _ ++ (v :: l) ++ List.drop (off + k + (v :: l).length) _)[i]?
    rw [setR_get h1, setR_get h2]
    simp only [List.length_cons, Array.getElem?_toList, Array.getElem?_setIfInBounds]
    by_cases c1 : i < off + k
    · rw [if_pos (by omega), if_pos c1, if_neg (by omega)]
    · by_cases c2 : i = off + k
      · subst c2
        rw [if_pos (by omega), if_pos rfl, if_neg c1, if_pos (by omega), if_pos (by omega)]
        simp
      · rw [if_neg (by omega), if_neg c1]
        by_cases c3 : i < off + k + (l.length + 1)
        · rw [if_pos (by omega), if_pos (by omega)]
          rw [show i - (off + k) = (i - (off + (k + 1))) + 1 by omega, List.getElem?_cons_succ]
        · rw [if_neg (by omega), if_neg (by omega), if_neg (by omega)]

def fillT (pl : Nat → Option (Nat × Nat)) : List (Nat × Operand) → S → List T → Option (List T × S)
  | [], σ, cs => some (cs, σ)
  | (i, x) :: r, σ, cs => (pl i).bind fun q => (σ.cons x).bind fun u => (partT u.1).bind fun ds => if ds.length = q.2 ∧ q.1 + q.2 ≤ cs.length then fillT pl r u.2 (setR cs q.1 ds) else none
theorem fillT_ok (hC : C.Ok) {pl : Nat → Option (Nat × Nat)} : ∀ {parts : List (Nat × Operand)} {σ σ' : S} {κ : Nat → K} {Ds : Nat → Nat → Prop} {cs cs' : List T} {f : Nat → K} {Dk : Nat → Nat → Prop}, SR C σ κ Ds a.tmps w → Row C Ds w cs f Dk →
    fillT pl parts σ cs = some (cs', σ') →
    ∃ κ' Ds' f', ∃ Dk' : Nat → Nat → Prop, SR C σ' κ' Ds' a.tmps w ∧ Row C Ds' w cs' f' Dk' ∧ Instr.fill pl (vals cs f 0).toArray (parts.map fun q => (q.1, a.eval q.2)) = some (vals cs' f' 0).toArray ∧ (∀ s x, Ds' s x → Ds s x) ∧ cs'.length = cs.length
  | [], σ, σ', κ, Ds, cs, cs', f, Dk, h, hrow, he => by
    simp [fillT] at he; obtain ⟨rfl, rfl⟩ := he
    exact ⟨κ, Ds, f, Dk, h, hrow, by simp [Instr.fill], fun _ _ h => h, rfl⟩
  | (i, x) :: r, σ, σ', κ, Ds, cs, cs', f, Dk, h, hrow, he => by
    simp only [fillT, Option.bind_eq_some_iff] at he
    obtain ⟨⟨off, sz⟩, hpl, ⟨t, σ1⟩, hc, ds, hds, he⟩ := he
    split at he
    · rename_i hok
      obtain ⟨h1, h2⟩ := hok
      simp only at h1 h2
      obtain ⟨κ1, Ds1, k1, D1, a1, a2, a3, a4, a5, a6, a7⟩ := h.cons hC hc
      obtain ⟨g, Dg, b1, b2, b3⟩ := partT_row a2 a5 a4 hds
      have hrow1 : Row C Ds1 w cs f Dk := ⟨hrow.rep, hrow.solid, hrow.out, fun i => (hrow.free i).sub a6, hrow.dis⟩
      have hle : off + ds.length ≤ cs.length := by omega
      obtain ⟨f2, Dk2, c1, c2, c3⟩ := hrow1.setR b1 (o := off) (fun i j x hi hj => by
        obtain ⟨s, hs⟩ := a7 x (b3 j x hj)
        exact (hrow.free i).dis s x hs hi) hle
      obtain ⟨κ3, Ds3, f3, Dk3, d1, d2, d3, d4, d5⟩ := fillT_ok hC a1 c1 he
      refine ⟨κ3, Ds3, f3, Dk3, d1, d2, ?_, fun s x hx => a6 s x (d4 s x hx), d5.trans (setR_length hle)⟩
      simp only [List.map_cons, Instr.fill, hpl]
      have hcz : (a.eval x).cells.size = ds.length := by rw [← a3, b2]; simp [vals_length]
      have hn : ¬ ((a.eval x).cells.size ≠ sz || off + (a.eval x).cells.size > (vals cs f 0).toArray.size) = true := by
        simp only [hcz, List.size_toArray, vals_length, ne_eq, Bool.or_eq_true, decide_eq_true_eq, not_or]
        simp; omega
      rw [if_neg hn]
      have hfold : (a.eval x).cells.zipIdx.foldl (fun cs (c, j) => cs.setIfInBounds (off + j) c) (vals cs f 0).toArray = (vals (setR cs off ds) f2 0).toArray := by
        rw [← a3, b2, ← Array.foldl_toList, Array.toList_zipIdx]
        have := fold_sets off (vals ds g 0) 0 (vals cs f 0).toArray (by simpa [vals_length] using hle)
        simp only [Nat.add_zero, vals_length] at this
        rw [c2]
        exact this
      rw [hfold]
      exact d3
    · cases he

/-! Values and slices that are written out. -/
theorem Row.const (vs : List Value) : Row C Ds w (vs.map constT1) (fun i => constK1 (vs.getD i undef)) (fun _ => No) ∧ vals (vs.map constT1) (fun i => constK1 (vs.getD i undef)) 0 = vs := by
  refine ⟨⟨fun i c hi => ?_, fun i c hi => ?_, fun _ _ h => h.elim, fun _ => Free.no, fun _ _ _ h => h.elim⟩, by simpa using vals_const1 vs 0⟩
  · rw [List.getElem?_map, Option.map_eq_some_iff] at hi
    obtain ⟨v, hv, rfl⟩ := hi
    simp only [List.getD, hv, Option.getD_some]
    exact rep_const1 w _ _ v
  · rw [List.getElem?_map, Option.map_eq_some_iff] at hi
    obtain ⟨v, _, rfl⟩ := hi; exact solid_const1 v
theorem Row.tree {cs : List T} {f : Nat → K} {Dk : Nat → Nat → Prop} (h : Row C Ds w cs f Dk) (kind n : Nat) : Rep w C.St C.Vw (.gp kind n cs) (.mk none 0 f) (fun x => ∃ i, Dk i x) ∧ Free C Ds (fun x => ∃ i, Dk i x) ∧ ∀ σ κ, RefOk σ κ (.gp kind n cs) (.mk none 0 f) :=
  ⟨.gp Dk h.rep h.out h.dis (fun _ => Iff.rfl), ⟨fun s x hs ⟨i, hi⟩ => (h.free i).dis s x hs hi, fun x ⟨i, hi⟩ => (h.free i).own x hi⟩, fun σ κ => .gp fun i c hi => .solid (h.solid i c hi)⟩

def placesT (P : Program) (t : TypeId) : Option (List (Nat × Nat)) :=
  match P.underlying t with
  | some (.struct fields) => fields.toList.mapM fun f => (P.info? f.type).map fun i => (f.offset, i.size)
  | _ => none
def buildV (P : Program) (σ : S) (t : TypeId) (parts : List (Nat × Operand)) : Option (T × S) :=
  (zeroT P t).bind fun zs =>
    match P.underlying t with
    | some (.struct _) => (placesT P t).bind fun pl => (fillT (fun i => pl[i]?) parts σ zs).map fun u => (.ag u.1, u.2)
    | some (.array _ e) => if (P.info? e).isSome then (fillT (fun i => some (i * P.cellsOf e, P.cellsOf e)) parts σ zs).map fun u => (.ag u.1, u.2) else none
    | _ => none
theorem buildV_val (hC : C.Ok) {o : Oper} {e : TypeId} {parts : Array (Nat × Operand)} (ho : o.op = .build e parts) {t : T} {σ' : S} (he : buildV C.P σ e parts.toList = some (t, σ')) : ValOk C o σ t σ' := by
  intro κ Ds a w h
  simp only [buildV, Option.bind_eq_some_iff] at he
  obtain ⟨zs, hzs, he⟩ := he
  simp only [zeroT, Option.map_eq_some_iff, Option.bind_eq_some_iff] at hzs
  obtain ⟨z, ⟨info, hinfo, hz⟩, rfl⟩ := hzs
  obtain ⟨r0, v0⟩ := Row.const (C := C) (Ds := Ds) (w := w) z.cells.toList
  have hparts : (parts.map fun (i, x) => (i, a.eval x)).toList = parts.toList.map fun q => (q.1, a.eval q.2) := by simp
  have fin : ∀ pl u, fillT pl parts.toList σ (z.cells.toList.map constT1) = some u → (∀ cells, Instr.fill pl z.cells (parts.toList.map fun q => (q.1, a.eval q.2)) = some cells → C.P.built e (parts.toList.map fun q => (q.1, a.eval q.2)) = some cells) → t = .ag u.1 → σ' = u.2 →
      ∃ v w' κ' Ds' k D, (execOp a.eval o).run C.P w = .ok (.value v) w' ∧ SR C σ' κ' Ds' a.tmps w' ∧ Rep w' C.St C.Vw t k D ∧ val t k = v ∧ Free C Ds' D ∧ RefOk σ' κ' t k := by
    rintro pl ⟨cs', σ1⟩ hf hb rfl rfl
    obtain ⟨κ', Ds', f', Dk', d1, d2, d3, d4, d5⟩ := fillT_ok hC h r0 hf
    rw [v0] at d3
    obtain ⟨q1, q2, q3⟩ := d2.tree 0 0
    refine ⟨_, w, κ', Ds', .mk none 0 f', _, ?_, d1, q1, rfl, q2, q3 _ _⟩
    have hrun := run_build (P := C.P) w e (parts.map fun (i, x) => (i, a.eval x)) _ (by rw [hparts]; exact hb _ d3)
    have : execOp a.eval o = (do pure (.value (← Instr.build e (parts.map fun (i, x) => (i, a.eval x))))) := by rw [execOp, ho]
    rw [this, Sem.run_bind, hrun]; rfl
  split at he
  · rename_i fields hu
    simp only [Option.bind_eq_some_iff, Option.map_eq_some_iff, Prod.mk.injEq] at he
    obtain ⟨pl, hpl, u, hf, h1, h2⟩ := he
    refine fin _ u hf (fun cells hc => ?_) h1.symm h2.symm
    simp only [placesT, hu] at hpl
    unfold Program.built
    rw [hinfo, hu]
    simp only [hz, hpl]
    have : (fun i : Nat => pl.toArray[i]?) = fun i : Nat => pl[i]? := by funext i; simp
    rw [this]; exact hc
  · rename_i n el hu
    split at he
    · rename_i hel
      simp only [Option.map_eq_some_iff, Prod.mk.injEq] at he
      obtain ⟨u, hf, h1, h2⟩ := he
      refine fin _ u hf (fun cells hc => ?_) h1.symm h2.symm
      obtain ⟨ie, hie⟩ := Option.isSome_iff_exists.1 hel
      have hsz : C.P.cellsOf el = ie.size := by simp [Program.cellsOf, hie]
      unfold Program.built
      rw [hinfo, hu]
      simp only [hz, hie]
      rw [hsz] at hc; exact hc
    · cases he
  · cases he

def buildSliceV (P : Program) (σ : S) (t : TypeId) (len : Nat) (parts : List (Nat × Operand)) : Option (T × S) :=
  match P.underlying t with
  | some (.slice e) => (zeroT P e).bind fun zs =>
      if P.cellsOf e = zs.length ∧ 0 < zs.length ∧ len * zs.length ≤ 16777216 then (fillT (fun i => some (i * zs.length, zs.length)) parts σ (zerosT zs len)).map fun u => (.sl .own zs.length u.1, u.2) else none
  | _ => none
theorem zerosT_const (vs : List Value) (n : Nat) : zerosT (vs.map constT1) n = (List.replicate n vs).flatten.map constT1 := by
  induction n with
  | zero => simp [zerosT]
  | succ n ih => simp [zerosT, ih, List.replicate_succ]
theorem range_flatten (z : Array Value) (hz : 0 < z.size) (n : Nat) : madeCells z (n * z.size) = (List.replicate n z.toList).flatten.toArray := by
  apply Array.ext'
  apply List.ext_getElem?
  intro i
  have hl : ∀ n, (List.replicate n z.toList).flatten.length = n * z.size := fun n => by simp
  have key : ∀ (n i : Nat), i < n * z.size → (List.replicate n z.toList).flatten[i]? = z.toList[i % z.size]? := by
    intro n
    induction n with
    | zero => intro i hi; omega
    | succ n ih =>
      intro i hi
      rw [List.replicate_succ, List.flatten_cons, List.getElem?_append]
      split
      · rename_i h; rw [Nat.mod_eq_of_lt (by simpa using h)]
      · rename_i h
        have h' : z.size ≤ i := by simpa using h
        rw [Nat.succ_mul] at hi
        rw [Array.length_toList, ih _ (by omega)]
        congr 1
        conv => rhs; rw [show i = (i - z.size) + z.size by omega]
        rw [Nat.add_mod_right]
  by_cases hi : i < n * z.size
  · show (madeCells z (n * z.size)).toList[i]? = _
    rw [Array.getElem?_toList, madeCells_get z hz hi, key n i hi, Array.getElem?_toList]
  · have h1 : (madeCells z (n * z.size)).toList.length ≤ i := by rw [Array.length_toList, size_madeCells]; omega
    have h2 : (List.replicate n z.toList).flatten.length ≤ i := by rw [hl]; omega
    rw [List.getElem?_eq_none h1]
    show none = (List.replicate n z.toList).flatten[i]?
    rw [List.getElem?_eq_none h2]
theorem buildSliceV_val (hC : C.Ok) {o : Oper} {e : TypeId} {len : Nat} {parts : Array (Nat × Operand)} (ho : o.op = .buildSlice e len parts) {t : T} {σ' : S} (he : buildSliceV C.P σ e len parts.toList = some (t, σ')) : ValOk C o σ t σ' := by
  intro κ Ds a w h
  unfold buildSliceV at he
  split at he
  · rename_i el hu
    simp only [Option.bind_eq_some_iff] at he
    obtain ⟨zs, hzs, he⟩ := he
    simp only [zeroT, Option.map_eq_some_iff, Option.bind_eq_some_iff] at hzs
    obtain ⟨z, ⟨info, hinfo, hz⟩, rfl⟩ := hzs
    split at he
    · rename_i hok
      obtain ⟨b1, b2, b3⟩ := hok
      simp only [Option.map_eq_some_iff, Prod.mk.injEq] at he
      obtain ⟨⟨cs', σ1⟩, hf, rfl, rfl⟩ := he
      have hzl : (z.cells.toList.map constT1).length = z.cells.size := by simp
      rw [hzl] at b1 b2 b3 hf ⊢
      rw [zerosT_const] at hf
      obtain ⟨r0, v0⟩ := Row.const (C := C) (Ds := Ds) (w := w) (List.replicate len z.cells.toList).flatten
      obtain ⟨κ', Ds', f', Dk', d1, d2, d3, d4, d5⟩ := fillT_ok hC h r0 hf
      rw [v0] at d3
      have hlen : cs'.length = len * z.cells.size := by rw [d5]; simp
      have c3 : info.size = z.cells.size := by rw [← b1]; simp [Program.cellsOf, hinfo]
      obtain ⟨g1, g2⟩ := Rep.new (St := C.St) (Vw := C.Vw) hC d1 (cs := cs') (f := f') (Dk := Dk') false (sz := z.cells.size) (n := len) el b2 hlen.symm d2.solid d2.rep d2.out d2.free d2.dis
      refine ⟨_, _, κ', Ds', _, _, ?_, d1.alloc hC _, g1, rfl, g2, .solid rfl⟩
      have hparts : (parts.map fun (i, x) => (i, a.eval x)).toList = parts.toList.map fun q => (q.1, a.eval q.2) := by simp
      have hstart : (Array.range (len * z.cells.size)).map ((if len * z.cells.size = 0 then (#[] : Array Value) else z.cells)[· % (if len * z.cells.size = 0 then (#[] : Array Value) else z.cells).size]!) = (List.replicate len z.cells.toList).flatten.toArray := by
        by_cases h0 : len * z.cells.size = 0
        · have hl0 : len = 0 := by rcases Nat.mul_eq_zero.1 h0 with h | h <;> omega
          subst hl0
          simp [Array.range_zero']
        · rw [if_neg h0]; exact range_flatten z.cells b2 len
      have hlim : ¬ len * z.cells.size > 2 ^ 24 := by omega
      have hval : val (.nd false .own z.cells.size cs') (.mk (some ⟨w.heap.size, 0, none⟩) len f') = .slice (some ⟨w.heap.size, 0, none⟩) len len := by
        simp only [val, K.A, K.cap, hlen, Nat.mul_div_cancel _ b2]
      rw [hval]
      have hrun : (Instr.buildSlice e len (parts.map fun (i, x) => (i, a.eval x))).run C.P w = .ok (.slice (some ⟨w.heap.size, 0, none⟩) len len) (w.alloc (.cells (vals cs' f' 0).toArray el)) := by
        have hfill := d3
        rw [← hparts, ← hstart] at hfill
        unfold Instr.buildSlice
        by_cases h0 : len * z.cells.size = 0
        · rw [if_pos h0] at hfill
          simp only [Sem.run_bind, run_underlying hu, Result.andThen_ok, sizeOf, typeInfo, run_program, hinfo, Sem.run_pure, c3, h0, if_true]
          simp only [h0] at hfill
          rw [if_neg (show ¬ (0 : Nat) > 2 ^ 24 by omega)]
          simp only [Sem.run_bind, Sem.run_pure, Result.andThen_ok]
          rw [hfill]
          simp [newRow]
        · rw [if_neg h0] at hfill
          simp only [Sem.run_bind, run_underlying hu, Result.andThen_ok, sizeOf, typeInfo, run_program, hinfo, Sem.run_pure, c3, if_neg hlim, if_neg h0, zeroValue, hz]
          rw [hfill]
          simp [newRow]
      have : execOp a.eval o = (do pure (.value (← Instr.buildSlice e len (parts.map fun (i, x) => (i, a.eval x))))) := by rw [execOp, ho]
      rw [this, Sem.run_bind, hrun]; rfl
    · cases he
  · cases he

/-! Borrowed: nothing turns. -/
def bor (σ : S) (x : Operand) : Option T :=
  match x with
  | .tmp s =>
    match σ.sl s with
    | .nd true .own _ _ => some (.ad (σ.st s) s [] 0)
    | .nd false .own sz cs => some (.rf (σ.st s) s [] 0 (cs.length / sz) sz)
    | .gp kind f cs => if cs.all noOwn1 then some (.gp kind f cs) else none
    | .dead => none
    | t => some t
  | .const v => if (constT v).copy then some (constT v) else none
  | .func f => some (.fn f [])
  | .global _ => none
theorem bor_ok (h : SR C σ κ Ds a.tmps w) {x : Operand} {t : T} (he : bor σ x = some t) : ∃ k, Rep w C.St C.Vw t k No ∧ val t k = a.eval x ∧ RefOk σ κ t k := by
  have hev := h.eval x
  unfold bor at he
  split at he
  · rename_i s
    have hr := h.rep s
    have hf := h.ref s
    simp only [S.opd, opdK] at hev
    split at he
    · rename_i sz cs hs
      simp only [Option.some.injEq] at he; subst he
      rw [hs] at hr hev
      obtain ⟨h1, h2, h3, h4⟩ := hr.own_cap
      obtain ⟨b, o', hA⟩ := h4 (.inr rfl)
      exact ⟨κ s, .ad, by rw [hev]; simp [val], .ad (Nat.le_refl _) fun _ => ⟨true, sz, cs, b, o', by simp [hs], by simpa [getK] using hA, by simpa using hA⟩⟩
    · rename_i sz cs hs
      simp only [Option.some.injEq] at he; subst he
      rw [hs] at hr hev
      obtain ⟨h1, h2, h3, h4⟩ := hr.own_cap
      refine ⟨κ s, .rf, by rw [hev]; simp [val], .rf (Nat.le_refl _) fun _ => ⟨cs, by simp [hs], by simp only [Nat.zero_add]; omega, h3, fun hc => ?_, fun _ => by simp [getK]⟩⟩
      obtain ⟨b, o', hA⟩ := h4 (.inl hc)
      exact ⟨by simp [getK], b, o', by simpa [getK] using hA, by simpa using hA⟩
    · rename_i kind f cs hs
      split at he
      · rename_i hall
        simp only [Option.some.injEq] at he; subst he
        rw [hs] at hr hf hev
        refine ⟨κ s, ?_, hev.symm, hf⟩
        cases hr with
        | gp Dk hk hout hd hD =>
          refine .gp (fun _ => No) (fun i c hi => ?_) (fun _ _ h => h.elim) (fun _ _ _ h => h.elim) (fun x => ⟨fun h => h.elim, fun ⟨_, h⟩ => h.elim⟩)
          simp only [List.all_eq_true] at hall
          exact noOwn1_rep (hall c (List.mem_of_getElem? hi)) (hk i c hi)
      · cases he
    · cases he
    · rename_i h1 h2 h3 h4
      simp only [Option.some.injEq] at he; subst he
      refine ⟨κ s, ?_, hev.symm, hf⟩
      refine noOwn1_rep ?_ hr
      cases hs : σ.sl s with
      | sc v => rfl
      | nd ptr m sz cs =>
        simp only [noOwn1, bne_iff_ne, ne_eq]
        rintro rfl
        cases ptr
        · exact h2 _ _ hs
        · exact h1 _ _ hs
      | gp kind f cs => exact absurd hs (h3 _ _ _)
      | rf => rfl
      | ad => rfl
      | ra => rfl
      | dead => exact absurd hs h4
  · split at he
    · rename_i hc
      simp only [Option.some.injEq] at he; subst he
      exact ⟨_, copy_rep hc (rep_const w _ _ _), hev.symm, ref_const _ _ _⟩
    · cases he
  · simp only [Option.some.injEq] at he; subst he
    exact ⟨_, h.opdRep (.func _), hev.symm, h.opdRef (.func _)⟩
  · cases he

def bors (σ : S) : List Operand → Option (List T)
  | [] => some []
  | x :: xs => (bor σ x).bind fun t => (bors σ xs).map fun ts => t :: ts
theorem bors_ok (h : SR C σ κ Ds a.tmps w) : ∀ {xs : List Operand} {ts : List T}, bors σ xs = some ts →
    ∃ f : Nat → K, (∀ (i : Nat) (c : T), ts[i]? = some c → Rep w C.St C.Vw c (f i) No ∧ RefOk σ κ c (f i)) ∧ vals ts f 0 = xs.map a.eval
  | [], ts, he => by simp [bors] at he; subst he; exact ⟨fun _ => .leaf, by simp, rfl⟩
  | x :: xs, ts, he => by
    simp only [bors, Option.bind_eq_some_iff, Option.map_eq_some_iff] at he
    obtain ⟨t, ht, r, hr, rfl⟩ := he
    obtain ⟨k, h1, h2, h3⟩ := bor_ok h ht
    obtain ⟨f, g1, g2⟩ := bors_ok h hr
    refine ⟨fun i => match i with | 0 => k | i + 1 => f i, fun i c hi => ?_, ?_⟩
    · cases i with
      | zero => simp at hi; subst hi; exact ⟨h1, h3⟩
      | succ i => exact g1 i c (by simpa using hi)
    · simp only [vals, h2, List.map_cons, ← g2]
      congr 1
      exact vals_congr _ _ _ _ _ fun k _ => by simp [Nat.add_comm]

def fnV (σ : S) (fn : Fn) (first captured : Array Operand) : Option (T × S) :=
  match fn, first.toList with
  | .func f, [] => (bors σ captured.toList).map fun ts => (.gp 2 f ts, σ)
  | _, _ => none
theorem fnV_val {o : Oper} {fn : Fn} {first captured : Array Operand} (ho : o.op = .makeFunc fn first captured) {t : T} {σ' : S} (he : fnV σ fn first captured = some (t, σ')) : ValOk C o σ t σ' := by
  intro κ Ds a w h
  unfold fnV at he
  split at he
  · rename_i f hfirst
    simp only [Option.map_eq_some_iff, Prod.mk.injEq] at he
    obtain ⟨ts, hts, rfl, rfl⟩ := he
    obtain ⟨g, g1, g2⟩ := bors_ok h hts
    refine ⟨_, w, κ, Ds, .mk none 0 g, No, ?_, h, .gp (fun _ => No) (fun i c hi => (g1 i c hi).1) (fun _ _ h => h.elim) (fun _ _ _ h => h.elim) (fun x => ⟨fun h => h.elim, fun ⟨_, h⟩ => h.elim⟩), rfl, Free.no, .gp fun i c hi => (g1 i c hi).2⟩
    have hf : first = #[] := by apply Array.ext'; simpa using hfirst
    have e : (VL.vals ts g 0).toArray = captured.map a.eval := by
      rw [g2]
      apply Array.ext'
      rw [Array.toList_map]
    have : val (.gp 2 f ts) (.mk none 0 g) = .func (.func f) #[] (captured.map a.eval) := by rw [← e]; rfl
    rw [this]
    simp [execOp, ho, Instr.makeFunc, hf]
  · cases he

/-- An element of an array's value, a byte of a text. -/
def ixV (P : Program) (σ : S) (t : TypeId) (x ix : Operand) : Option (T × S) :=
  match P.underlying t, σ.opd x, σ.opd ix with
  | some (.array n e), .gp 0 _ cs, .sc (.int _ i) =>
    if (0 ≤ i ∧ i < n) ∧ aggT P e = some false ∧ P.cellsOf e = 1 ∧ (P.info? e).isSome then (cs[i.toNat]?).bind fun c => if noOwn1 c then some (c, σ) else none else none
  | some .string, .sc (.string s), .sc (.int _ i) => if 0 ≤ i then (s[i.toNat]?).map fun b => (.sc (.int .u8 b.toNat), σ) else none
  | _, _, _ => none
theorem ixV_val {o : Oper} {e : TypeId} {x ix : Operand} (ho : o.op = .index e x ix) {t : T} {σ' : S} (he : ixV C.P σ e x ix = some (t, σ')) : ValOk C o σ t σ' := by
  unfold ixV at he
  split at he
  · rename_i n el f cs kd i hu hx hix
    split at he
    · rename_i hok
      obtain ⟨hb, hag, h1, hin⟩ := hok
      simp only [Option.bind_eq_some_iff] at he
      obtain ⟨c, hc, he⟩ := he
      split at he
      · rename_i hno
        simp only [Option.some.injEq, Prod.mk.injEq] at he
        obtain ⟨rfl, rfl⟩ := he
        intro κ Ds a w h
        have e1 := h.eval x
        have e2 := h.eval ix
        have hr := h.opdRep x
        have hf := h.opdRef x
        rw [hx] at e1 hr hf
        rw [hix] at e2
        simp only [val] at e2
        generalize opdK κ x = kk at e1 hr hf
        generalize opdD Ds x = DD at hr
        obtain ⟨info, hinfo⟩ := Option.isSome_iff_exists.1 hin
        have hsz : info.size = 1 := by rw [← h1]; simp [Program.cellsOf, hinfo]
        cases hr with
        | gp Dk hk hout hd hD =>
          cases hf with
          | solid h => simp [T.solid] at h
          | gp hrf =>
            refine ⟨_, w, κ, Ds, kk.kid i.toNat, No, ?_, h, noOwn1_rep hno (hk _ _ hc), rfl, Free.no, hrf _ _ hc⟩
            have hv : (vals cs kk.kid 0)[i.toNat]? = some (val c (kk.kid i.toNat)) := by rw [vals_get, hc, Nat.zero_add]; rfl
            have hb1 := hb.1
            have hb2 := hb.2
            simp [execOp, ho, Instr.index, e1, e2, asIntOf, run_underlying hu, val, hb1, hb2, sizeOf, typeInfo, hinfo, hsz, part, run_isAgg hag, hv]
      · cases he
    · cases he
  · rename_i s kd i hu hx hix
    split at he
    · rename_i h0
      simp only [Option.map_eq_some_iff, Prod.mk.injEq] at he
      obtain ⟨b, hb, rfl, rfl⟩ := he
      refine sc_val rfl fun κ Ds a w h => ?_
      have e1 := h.eval x
      have e2 := h.eval ix
      rw [hx] at e1; rw [hix] at e2
      simp only [val] at e1 e2
      simp [execOp, ho, Instr.index, e1, e2, asIntOf, run_underlying hu, h0, hb]
    · cases he
  · cases he
end Go.Proofs.Ytnbahnpckfelpaa.VL
