import Derived.Test.YtnbahnpckfelpaaVLj2
/-! VL, part J3: append. -/
namespace Go.Proofs.Ytnbahnpckfelpaa.VL
open Go.RowKit
set_option linter.unusedVariables false
variable {C : Ctx} {σ : S} {κ : Nat → K} {Ds : Nat → Nat → Prop} {a : Act} {tmps : Array Value} {w : World}

/-- Another world in which every block that counts is the same. -/
theorem SR.worldD (h : SR C σ κ Ds tmps w) {w' : World} (hw : ∀ x, ((∃ s, Ds s x) ∨ C.St x ∨ C.Vw x) → w'.heap[x]? = w.heap[x]?) (hf : Fr C.w0 C.Dx w') : SR C σ κ Ds tmps w' where
  size := h.size
  vals := h.vals
  rep := fun s => (h.rep s).keep fun x hx => hw x (hx.imp (fun h => ⟨s, h⟩) id)
  dis := h.dis
  own := h.own
  ref := h.ref
  par := h.par
  fr := hf

/-- Cells, and where they come from: what an appended list hands over. -/
structure News (C : Ctx) (Ds : Nat → Nat → Prop) (w : World) (ds : List T) (g : Nat → K) (Dg : Nat → Nat → Prop) : Prop where
  row : Row C Ds w ds g Dg

/-- Two rows in a row. -/
theorem Row.app {cs ds : List T} {f g : Nat → K} {Dk Dg : Nat → Nat → Prop} (h : Row C Ds w cs f Dk) (hd : Row C Ds w ds g Dg) (hdis : ∀ i j x, Dk i x → ¬ Dg j x) :
    Row C Ds w (cs ++ ds) (fun i => if i < cs.length then f i else g (i - cs.length)) (fun i x => if i < cs.length then Dk i x else Dg (i - cs.length) x) ∧
    vals (cs ++ ds) (fun i => if i < cs.length then f i else g (i - cs.length)) 0 = vals cs f 0 ++ vals ds g 0 := by
  refine ⟨⟨fun i c hi => ?_, fun i c hi => ?_, fun i x hx => ?_, fun i => ?_, fun i j x hi hj => ?_⟩, ?_⟩
  · rw [List.getElem?_append] at hi
    by_cases c1 : i < cs.length
    · simp only [if_pos c1] at hi ⊢; exact h.rep i c hi
    · simp only [if_neg c1] at hi ⊢; exact hd.rep _ c hi
  · rw [List.getElem?_append] at hi
    by_cases c1 : i < cs.length
    · simp only [if_pos c1] at hi; exact h.solid i c hi
    · simp only [if_neg c1] at hi; exact hd.solid _ c hi
  · rw [List.length_append]
    by_cases c1 : i < cs.length
    · omega
    · simp only [if_neg c1] at hx; have := hd.out _ x hx; omega
  · by_cases c1 : i < cs.length
    · simp only [if_pos c1]; exact h.free i
    · simp only [if_neg c1]; exact hd.free _
  · by_cases c1 : i < cs.length <;> by_cases c2 : j < cs.length
    · simp only [if_pos c1, if_pos c2] at hi hj; exact h.dis i j x hi hj
    · simp only [if_pos c1, if_neg c2] at hi hj; exact absurd hj (hdis _ _ x hi)
    · simp only [if_neg c1, if_pos c2] at hi hj; exact absurd hi (hdis _ _ x hj)
    · simp only [if_neg c1, if_neg c2] at hi hj; have := hd.dis _ _ x hi hj; omega
  · rw [vals_append]
    congr 1
    · exact vals_congr _ _ _ _ _ fun k hk => by simp [hk]
    · exact vals_congr _ _ _ _ _ fun k hk => by rw [if_neg (by omega)]; congr 1; omega

/-- A new block: the cells, and room behind them. -/
theorem Rep.newCap (hC : C.Ok) (h : SR C σ κ Ds tmps w) {cs : List T} {f : Nat → K} {Dk : Nat → Nat → Prop} (hr : Row C Ds w cs f Dk) {sz n cap : Nat} (arr : Array Value) (e : TypeId) (hsz : 0 < sz) (hn : n * sz = cs.length) (hc : n ≤ cap)
    (hcap : cap * sz ≤ arr.size) (hv : ∀ i, i < cs.length → arr[i]? = (vals cs f 0)[i]?) :
    Rep (w.alloc (.cells arr e)) C.St C.Vw (.sl .own sz cs) (.mk (some ⟨w.heap.size, 0, none⟩) cap f) (fun x => x = w.heap.size ∨ ∃ i, Dk i x) ∧
    Free C Ds (fun x => x = w.heap.size ∨ ∃ i, Dk i x) := by
  have hlt : ∀ i x, Dk i x → x < w.heap.size := fun i x hx => (hr.rep i _ (List.getElem?_eq_getElem (hr.out i x hx))).lt x hx
  refine ⟨.own n w.heap.size 0 arr e (0, 0) Dk hsz hn hc (heap_alloc_new w _) (.inl rfl) (by omega) hr.solid (fun i c hi => ?_) (fun i c hi => ?_) hr.out (fun i x hx => ?_) hr.dis (fun x => Iff.rfl), ⟨fun s x hx => ?_, fun x hx => ?_⟩⟩
  · have hlt := (List.getElem?_eq_some_iff.1 hi).1
    rw [Nat.zero_add, hv i hlt, vals_get, hi, Nat.zero_add]; rfl
  · refine (hr.rep i c hi).keep fun x hx => Below.heap_alloc _ _ _ ?_
    rcases hx with hx | hx
    · exact hlt i x hx
    · exact Nat.lt_of_lt_of_le (hC.old x hx).1 h.fr.size
  · have := hlt i x hx; omega
  · rintro (rfl | ⟨i, hi⟩)
    · have := (h.rep s).lt _ hx; omega
    · exact (hr.free i).dis s x hx hi
  · rcases hx with rfl | ⟨i, hi⟩
    · exact .inl h.fr.size
    · exact (hr.free i).own x hi

theorem Fr.drew {w0 : World} {Dx : Nat → Prop} (h : Fr w0 Dx w) : Fr w0 Dx w.drew := ⟨h.os, h.tape, h.output, h.size, h.block⟩
theorem SR.drew (h : SR C σ κ Ds tmps w) : SR C σ κ Ds tmps w.drew := h.worldD (fun _ _ => rfl) h.fr.drew

theorem Row.drew {cs : List T} {f : Nat → K} {Dk : Nat → Nat → Prop} (h : Row C Ds w cs f Dk) : Row C Ds w.drew cs f Dk :=
  ⟨fun i c hi => (h.rep i c hi).keep fun _ _ => rfl, h.solid, h.out, h.free, h.dis⟩

/-- The run of append on an owned list. -/
theorem append_run (hC : C.Ok) (h : SR C σ κ Ds tmps w) {sz : Nat} {cs : List T} {k : K} {D : Nat → Prop} (hx : Rep w C.St C.Vw (.sl .own sz cs) k D) (hfr : Free C Ds D)
    {ds : List T} {g : Nat → K} {Dg : Nat → Nat → Prop} (hy : Row C Ds w ds g Dg) (hdis : ∀ i x, Dg i x → ¬ D x)
    {t tx ty e : TypeId} {i : TypeInfo} {z : Value} (ht : C.P.underlying t = some (.slice e)) (hi : C.P.info? e = some i) (hz : i.zero = some z) (hisz : i.size = sz) (hzs : z.cells.size = sz)
    {y : Value} {n : Nat} (hs : Src C.P i.size tx y n (vals ds g 0) w) (hfit : (cs.length / sz + n) * i.bytes ≤ 140737488355328) (h63 : ((cs.length / sz + n : Nat) : Int) ≤ 9223372036854775807) :
    ∃ v w' k' D', (Builtin.append_ #[t, tx] ty #[val (.sl .own sz cs) k, y]).run C.P w = .ok v w' ∧ SR C σ κ Ds tmps w' ∧ Rep w' C.St C.Vw (.sl .own sz (cs ++ ds)) k' D' ∧ val (.sl .own sz (cs ++ ds)) k' = v ∧ Free C Ds D' ∧ (∀ x, x < w.heap.size → D' x → D x ∨ ∃ i, Dg i x) := by
  have hdl : ds.length = n * sz := by have := hs.newsLen; rw [vals_length, hisz] at this; exact this
  have hsc := hs.cells
  rw [hisz] at hsc
  obtain ⟨hsz, hmul, hcap, hA⟩ := hx.own_cap
  have hlen : cs.length = cs.length / sz * sz := hmul.symm
  generalize hq : cs.length / sz = q at *
  have htot : (q + n) * sz = (cs ++ ds).length := by rw [List.length_append, Nat.add_mul, hmul, hdl]
  have hdiv : (cs ++ ds).length / sz = q + n := by rw [← htot, Nat.mul_div_cancel _ hsz]
  have hval : ∀ A c kid, val (.sl .own sz (cs ++ ds)) (.mk A c kid) = .slice A (q + n) c := fun A c kid => by simp only [val, K.A, K.cap, hdiv]
  have hval0 : val (.sl .own sz cs) k = .slice k.A q k.cap := by simp only [val, hq]
  -- the old cells as a row
  have hrow : ∃ f Dk, Row C Ds w cs f Dk ∧ (∀ i x, Dk i x → D x) ∧ (∀ w'' : World, w''.heap = w.heap → (Builtin.firstCells i.size q (.slice k.A q k.cap)).run C.P w'' = .ok (vals cs f 0).toArray w'') := by
    cases hx with
    | look n b off hm => exact absurd rfl hm
    | @own0 _ A kid hsz0 =>
      refine ⟨fun _ => .leaf, fun _ => No, ⟨by simp, by simp, fun _ _ h => h.elim, fun _ => Free.no, fun _ _ _ h => h.elim⟩, fun _ _ h => h.elim, fun w'' _ => ?_⟩
      have hq0 : q = 0 := by simpa using hq.symm
      subst hq0
      simp only [K.A, K.cap, vals]
      cases A with
      | none => exact run_firstCells_none w'' _ _ _ _
      | some b => exact run_firstCells_some w'' _ _ b _ _ [] (by simp) (by simp)
    | @own _ _ _ cap kid _ n' b off arr e' fz Dk hsz' hn' hc' hh hf hcap' hs' hv' hk' hout' hb' hd' hD' =>
      refine ⟨kid, Dk, ⟨hk', hs', hout', fun i => ⟨fun s x h1 h2 => hfr.dis s x h1 ((hD' x).2 (.inr ⟨i, h2⟩)), fun x h2 => hfr.own x ((hD' x).2 (.inr ⟨i, h2⟩))⟩, hd'⟩, fun i x hx => (hD' x).2 (.inr ⟨i, hx⟩), fun w'' hw'' => ?_⟩
      simp only [K.A, K.cap]
      refine run_firstCells_some w'' _ _ _ _ _ _ (by rw [vals_length, hisz]; omega) fun j v hj => ?_
      rw [vals_get] at hj
      simp only [Option.map_eq_some_iff] at hj
      obtain ⟨c, hc, rfl⟩ := hj
      rw [Addr.add_lit, Nat.zero_add]
      have := hv' j c hc
      simp only [World.cell?, hw'', hh]
      simpa using this
  obtain ⟨f, Dk, hf, hDk, hfirst⟩ := hrow
  by_cases hroom : q + n ≤ k.cap
  · -- room
    cases hx with
    | look n b off hm => exact absurd rfl hm
    | @own0 _ A kid hsz0 =>
      simp only [K.cap] at hroom
      have hq0 : q = 0 := by omega
      have hn0 : n = 0 := by omega
      subst hq0 hn0
      have hds : ds = [] := List.eq_nil_of_length_eq_zero (by omega)
      subst hds
      refine ⟨.slice A 0 0, w, .mk A 0 kid, No, ?_, h, by simpa using Rep.own0 hsz0, by rw [hval], Free.no, fun _ _ h => h.elim⟩
      rw [hval0]
      have hcells := hs.cells
      simp only [vals] at hcells
      rcases hs.kind with ⟨e', hk⟩ | hk <;> cases A <;> simp [Builtin.append_, run_underlying ht, run_underlying hk, sizeOf, typeInfo, hi, hs.len, hcells, K.A, K.cap, storeCells]
    | @own _ _ _ cap kid _ n' b off arr e' fz Dk' hsz' hn' hc' hh hff hcap' hs' hv' hk' hout' hb' hd' hD' =>
      simp only [K.cap] at hroom
      have hb : D b := (hD' b).2 (.inl rfl)
      have hmulcap : (q + n) * sz ≤ cap * sz := Nat.mul_le_mul_right _ hroom
      have hst := run_storeFz C.P b (off + q * sz) e' fz (vals ds g 0) 0 arr w hh hff (by rw [vals_length, hdl]; rw [Nat.add_mul] at hmulcap; omega) hs.one
      simp only [Nat.add_zero] at hst
      have hwlt : b < w.heap.size := (Array.getElem?_eq_some_iff.1 hh).1
      generalize harr : (arr.toList.take (off + q * sz) ++ vals ds g 0 ++ arr.toList.drop (off + q * sz + (vals ds g 0).length)).toArray = arr' at hst
      have hle : off + q * sz + (vals ds g 0).length ≤ arr.toList.length := by rw [vals_length, hdl, Array.length_toList]; rw [Nat.add_mul] at hmulcap; omega
      have hsize : arr'.size = arr.size := by
        rw [← harr]; simp only [List.size_toArray, List.length_append, List.length_take, List.length_drop, Array.length_toList] at hle ⊢; omega
      have hget : ∀ j, arr'[j]? = if j < off + q * sz then arr[j]? else if j < off + q * sz + (vals ds g 0).length then (vals ds g 0)[j - (off + q * sz)]? else arr[j]? := by
        intro j
        rw [← harr]
        have := setR_get (cs := arr.toList) (ds := vals ds g 0) (o := off + q * sz) hle j
        simpa using this
      have hother : ∀ x, x ≠ b → (w.setRow b arr').heap[x]? = w.heap[x]? := fun x hx => setRow_other w b x arr' hx
      have hstab : ∀ x, C.St x ∨ C.Vw x → x ≠ b := fun x hx e => by
        subst e
        have := hC.old x hx
        rcases hfr.own x hb with h | h
        · omega
        · exact this.2 h
      have hDkb : ∀ i, ¬ Dk' i b := fun i hx => hb' i b hx rfl
      have hDgb : ∀ i, ¬ Dg i b := fun i hx => hdis i b hx hb
      obtain ⟨ra, va⟩ := Row.app (C := C) (Ds := Ds) (w := w) (cs := cs) (f := kid) (Dk := Dk') ⟨hk', hs', hout', fun i => ⟨fun s x h1 h2 => hfr.dis s x h1 ((hD' x).2 (.inr ⟨i, h2⟩)), fun x h2 => hfr.own x ((hD' x).2 (.inr ⟨i, h2⟩))⟩, hd'⟩ hy
        (fun i j x h1 h2 => hdis j x h2 ((hD' x).2 (.inr ⟨i, h1⟩)))
      generalize hgf : (fun i => if i < cs.length then kid i else g (i - cs.length)) = gf at ra va
      generalize hgD : (fun i x => if i < cs.length then Dk' i x else Dg (i - cs.length) x) = gD at ra
      have hgDb : ∀ i, ¬ gD i b := fun i hx => by
        rw [← hgD] at hx
        by_cases c : i < cs.length
        · simp only [if_pos c] at hx; exact hDkb i hx
        · simp only [if_neg c] at hx; exact hDgb _ hx
      refine ⟨.slice (some ⟨b, off, none⟩) (q + n) cap, w.setRow b arr', .mk (some ⟨b, off, none⟩) cap gf, fun x => x = b ∨ ∃ i, gD i x, ?_, ?_, ?_, by rw [hval], ⟨fun s x hx hx' => ?_, fun x hx => ?_⟩, fun x _ hx => ?_⟩
      · rw [hval0]
        rcases hs.kind with ⟨e', hk⟩ | hk <;> simp [Builtin.append_, run_underlying ht, run_underlying hk, sizeOf, typeInfo, hi, hs.len, hsc, K.A, K.cap, hroom, hisz, Addr.add_lit, hst]
      · refine h.worldD (fun x hx => hother x ?_) (h.fr.setRow (hfr.own b hb))
        rcases hx with ⟨s, hs⟩ | hx
        · rintro rfl; exact hfr.dis s x hs hb
        · exact hstab x hx
      · refine .own (q + n) b off arr' e' fz gD hsz' htot hroom (setRow_heap w b arr arr' e' fz hh) (by rw [hsize]; exact hff) (by rw [hsize]; exact hcap') ra.solid (fun i c hi => ?_) (fun i c hi => ?_) ra.out (fun i x hx => ?_) ra.dis (fun x => Iff.rfl)
        · have hvi : (vals cs kid 0 ++ vals ds g 0)[i]? = some (val c (gf i)) := by rw [← va, vals_get, hi, Nat.zero_add]; rfl
          have hlt := (List.getElem?_eq_some_iff.1 hi).1
          rw [← htot, Nat.add_mul] at hlt
          rw [hget]
          rw [List.getElem?_append, vals_length] at hvi
          by_cases c1 : i < cs.length
          · rw [if_pos c1] at hvi
            rw [if_pos (by omega)]
            rw [vals_get] at hvi
            simp only [Option.map_eq_some_iff] at hvi
            obtain ⟨c', hc1, hc2⟩ := hvi
            rw [← hc2, Nat.zero_add]; exact hv' i c' hc1
          · rw [if_neg c1] at hvi
            rw [if_neg (by omega), if_pos (by rw [vals_length, hdl]; omega), show off + i - (off + q * sz) = i - cs.length by omega]; exact hvi
        · exact (ra.rep i c hi).keep fun x hx => hother x (by
            rintro rfl
            rcases hx with hx | hx
            · exact hgDb _ hx
            · exact hstab x hx rfl)
        · rintro rfl; exact hgDb _ hx
      · rcases hx' with rfl | ⟨i, hi⟩
        · exact hfr.dis s x hx hb
        · exact (ra.free i).dis s x hx hi
      · rcases hx with rfl | ⟨i, hi⟩
        · exact hfr.own x hb
        · exact (ra.free i).own x hi
      · rcases hx with rfl | ⟨i, hi⟩
        · exact .inl hb
        · rw [← hgD] at hi
          by_cases c : i < cs.length
          · simp only [if_pos c] at hi; exact .inl ((hD' x).2 (.inr ⟨i, hi⟩))
          · simp only [if_neg c] at hi; exact .inr ⟨_, hi⟩
  · -- none
    have hroom' : k.cap < q + n := by omega
    have hgrow := run_append_grow_src (P := C.P) w t tx ty e i z ht hi hz k.A q k.cap (vals cs f 0) (hfirst w.drew rfl) y n (vals ds g 0) hs hroom' h63 (growslice_fits hroom' hfit)
    obtain ⟨ra, va⟩ := hf.app hy (fun i j x h1 h2 => hdis j x h2 (hDk i x h1))
    generalize hgf : (fun i => if i < cs.length then f i else g (i - cs.length)) = gf at ra va
    generalize hgD : (fun i x => if i < cs.length then Dk i x else Dg (i - cs.length) x) = gD at ra
    have hge := grownCap_ge w (q + n) k.cap e
    obtain ⟨r1, r2⟩ := Rep.newCap hC h.drew ra.drew (sz := sz) (n := q + n) (cap := grownCap w (q + n) k.cap e) ((vals cs f 0 ++ vals ds g 0).toArray ++ Builtin.zeroCells z.cells (grownCap w (q + n) k.cap e - (q + n))) e hsz htot hge
      (by
        simp only [Array.size_append, List.size_toArray, size_zeroCells, hzs, List.length_append, vals_length]
        rw [← List.length_append, ← htot, ← Nat.add_mul]; exact Nat.mul_le_mul_right _ (by omega))
      (fun j hj => by
        rw [va, Array.getElem?_append_left (by simpa [vals_length] using hj)]; simp)
    refine ⟨_, _, _, _, by rw [hval0]; exact hgrow, h.drew.alloc hC _, r1, by rw [hval]; rfl, r2, fun x hx hx' => ?_⟩
    rcases hx' with rfl | ⟨i, hi⟩
    · exact absurd hx (Nat.lt_irrefl _)
    · rw [← hgD] at hi
      by_cases c : i < cs.length
      · simp only [if_pos c] at hi; exact .inl (hDk i x hi)
      · simp only [if_neg c] at hi; exact .inr ⟨_, hi⟩
end Go.Proofs.Ytnbahnpckfelpaa.VL
