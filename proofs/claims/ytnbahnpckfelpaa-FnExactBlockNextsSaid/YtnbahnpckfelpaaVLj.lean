import Derived.Test.YtnbahnpckfelpaaVLi
import Derived.Laws.Append
import Derived.Laws.AppendOwn
import Derived.Laws.CopyRow
/-! VL, part J: stores, appends. -/
namespace Go.Proofs.Ytnbahnpckfelpaa.VL
open Go.RowKit
set_option linter.unusedVariables false
variable {C : Ctx} {σ : S} {κ : Nat → K} {Ds : Nat → Nat → Prop} {a : Act} {tmps : Array Value} {w : World}

theorem frozen_no {w : World} {b o : Nat} {arr : Array Value} {e : TypeId} {fz : Nat × Nat} (hh : w.heap[b]? = some (.cells arr e fz)) (hf : fz.2 = 0 ∨ arr.size ≤ fz.1) (ho : o < arr.size) : w.frozen? ⟨b, o, none⟩ = false := by
  obtain ⟨lo, hi⟩ := fz
  simp only [World.frozen?, hh, Bool.and_eq_false_iff, decide_eq_false_iff_not]
  simp only at hf
  omega
theorem run_storeFz (P : Program) (g o : Nat) (t : TypeId) (fz : Nat × Nat) : ∀ (vs : List Value) (i : Nat) (cur : Array Value) (w : World), w.heap[g]? = some (.cells cur t fz) → (fz.2 = 0 ∨ cur.size ≤ fz.1) → o + i + vs.length ≤ cur.size → (∀ v ∈ vs, v.oneCell' = true) →
    (storeCells ⟨g, o, none⟩ vs i).run P w = .ok () (w.setRow g (cur.toList.take (o + i) ++ vs ++ cur.toList.drop (o + i + vs.length)).toArray)
  | [], i, cur, w, hg, _, _, _ => by
    simp only [storeCells, List.append_nil, List.length_nil, Nat.add_zero, List.take_append_drop, Array.toArray_toList]
    rw [setRow_self w g cur t fz hg]; rfl
  | v :: rest, i, cur, w, hg, hf, hl, h1 => by
    have hi : o + i < cur.size := by simp at hl; omega
    have hcell : w.cell? ⟨g, o + i, none⟩ = some cur[o + i] := by simp [World.cell?, hg, hi]
    have hfro := frozen_no hg hf hi
    have hst : (store ((⟨g, o, none⟩ : Addr).add i) v).run P w = .ok () (w.setRow g (cur.setIfInBounds (o + i) v)) := by
      rw [Addr.add_lit, run_store P w _ v _ (h1 v (by simp))]
      simp only [hcell, hfro]
      rw [setCell_eq_setRow w g (o + i) cur t fz v hg]; rfl
    have hg' := setRow_heap w g cur (cur.setIfInBounds (o + i) v) t fz hg
    have ih := run_storeFz P g o t fz rest (i + 1) _ _ hg' (by simpa using hf) (by simp at hl ⊢; omega) (fun u hu => h1 u (by simp [hu]))
    simp only [storeCells, Sem.run_bind, hst, Result.andThen_ok, ih, setRow_setRow]
    congr 2
    apply Array.ext'
    apply List.ext_getElem?
    intro j
    have e1 : o + (i + 1) + rest.length ≤ (cur.setIfInBounds (o + i) v).toList.length := by simp at hl ⊢; omega
    have e2 : o + i + (v :: rest).length ≤ cur.toList.length := by simpa using hl
    show (List.take (o + (i + 1)) _ ++ rest ++ List.drop (o + (i + 1) + rest.length) _)[j]? = (List.take (o + i) _ ++ (v :: rest) ++ List.drop (o + i + (v :: rest).length) _)[j]?
    rw [setR_get e1, setR_get e2]
    simp only [List.length_cons, Array.getElem?_toList, Array.getElem?_setIfInBounds]
    by_cases c1 : j < o + i
    · rw [if_pos (by omega), if_pos c1, if_neg (by omega)]
    · by_cases c2 : j = o + i
      · subst c2
        rw [if_pos (by omega), if_pos rfl, if_neg c1, if_pos (by omega), if_pos (by omega)]
        simp
      · rw [if_neg (by omega), if_neg c1]
        by_cases c3 : j < o + i + (rest.length + 1)
        · rw [if_pos (by omega), if_pos (by omega)]
          rw [show j - (o + i) = (j - (o + (i + 1))) + 1 by omega, List.getElem?_cons_succ]
        · rw [if_neg (by omega), if_neg (by omega), if_neg (by omega)]

theorem Fr.setRow {w0 : World} {Dx : Nat → Prop} (h : Fr w0 Dx w) {b : Nat} {cs : Array Value} (hb : w0.heap.size ≤ b ∨ Dx b) : Fr w0 Dx (w.setRow b cs) :=
  ⟨h.os, h.tape, h.output, by rw [setRow_size]; exact h.size, fun x hx hd => by
    rw [setRow_other _ _ _ _ (fun e => by subst e; rcases hb with hb | hb; omega; exact hd hb)]; exact h.block x hx hd⟩

def T.isSc : T → Bool
  | .sc _ => true
  | _ => false
/-- A node's cells from off on are ds now. -/
def S.write (σ : S) (s : Nat) (p : List Nat) (off : Nat) (ptr : Bool) (sz : Nat) (cs ds : List T) : S :=
  if ((cs.drop off).take ds.length).all T.isSc && ds.all T.isSc then σ.setAt s p (.nd ptr .own sz (setR cs off ds)) else σ.setAtB s p (.nd ptr .own sz (setR cs off ds))

/-- Writing a row of cells into a node. -/
theorem SR.write (hC : C.Ok) (h : SR C σ κ Ds tmps w) {s : Nat} {p : List Nat} {ptr : Bool} {sz : Nat} {cs ds : List T} {g : Nat → K} {Dg : Nat → Nat → Prop} {off : Nat} (hg : getP (σ.sl s) p = some (.nd ptr .own sz cs)) (hrow : Row C Ds w ds g Dg)
    (hle : off + ds.length ≤ cs.length) {b o : Nat} (hA : (getK (κ s) p).A = some ⟨b, o, none⟩) (h1 : ∀ v ∈ VL.vals ds g 0, v.oneCell' = true) :
    ∃ w' κ' Ds', (storeCells ⟨b, o + off, none⟩ (VL.vals ds g 0)).run C.P w = .ok () w' ∧ SR C (σ.write s p off ptr sz cs ds) κ' Ds' tmps w' := by
  obtain ⟨D', r1, r2, r3⟩ := h.set hC hg
  generalize hkk : getK (κ s) p = kk at r1 hA r3
  cases r1 with
  | look n b off hm => exact absurd rfl hm
  | own0 hsz =>
    have hds : ds = [] := by simp at hle; exact hle.2
    subst hds
    have e : T.nd false .own sz (VL.setR [] off []) = .nd false .own sz [] := by simp [VL.setR]
    have hc0 := (r3 w _ _ No (.own0 hsz) rfl rfl (fun _ => ⟨rfl, rfl⟩) (fun x _ _ => rfl) (fun x hx => hx.elim) h.fr).2 (SameShape.refl _ _)
    exact ⟨w, _, _, rfl, by unfold S.write; rw [if_pos (by simp), e]; exact hc0⟩
  | @own _ _ _ cap kid _ n b' o' arr e fz Dk hsz hn hc hh hf hcap hs hv hk hout hb hd hD =>
    simp only [K.A, Option.some.injEq, Addr.mk.injEq] at hA
    obtain ⟨rfl, rfl, _⟩ := hA
    have hbD : Ds s b' := r2 _ ((hD b').2 (.inl rfl))
    have hncap : n * sz ≤ cap * sz := Nat.mul_le_mul_right _ hc
    have hst := run_storeFz C.P b' (o' + off) e fz (VL.vals ds g 0) 0 arr w hh hf (by rw [vals_length]; omega) h1
    suffices H : ∃ κ' Ds', SR C (σ.write s p off ptr sz cs ds) κ' Ds' tmps (w.setRow b' (arr.toList.take (o' + off + 0) ++ VL.vals ds g 0 ++ arr.toList.drop (o' + off + 0 + (VL.vals ds g 0).length)).toArray) from by
      obtain ⟨κ', Ds', hx⟩ := H
      exact ⟨_, κ', Ds', hst, hx⟩
    generalize hA' : (arr.toList.take (o' + off + 0) ++ VL.vals ds g 0 ++ arr.toList.drop (o' + off + 0 + (VL.vals ds g 0).length)).toArray = arr'
    have hsize : arr'.size = arr.size := by
      rw [← hA']; simp only [List.size_toArray, List.length_append, List.length_take, List.length_drop, vals_length, Array.length_toList]; omega
    have hlen2 : o' + off + ds.length ≤ arr'.size := by rw [hsize]; omega
    have hget : ∀ j, arr'[j]? = if j < o' + off then arr[j]? else if j < o' + off + ds.length then (VL.vals ds g 0)[j - (o' + off)]? else arr[j]? := by
      intro j
      rw [← hA']
      have := setR_get (cs := arr.toList) (ds := VL.vals ds g 0) (o := o' + off) (by rw [vals_length, Array.length_toList]; rw [hsize] at hlen2; omega) j
      simpa [vals_length] using this
    have hw' : (w.setRow b' arr').heap[b']? = some (.cells arr' e fz) := setRow_heap w b' arr arr' e fz hh
    have hother : ∀ x, x ≠ b' → (w.setRow b' arr').heap[x]? = w.heap[x]? := fun x hx => setRow_other w b' x arr' hx
    have hstab : ∀ x, C.St x ∨ C.Vw x → x ≠ b' := fun x hx e => by
      subst e
      have := hC.old x hx
      rcases h.own s x hbD with h | h
      · omega
      · exact this.2 h
    have hkeep : ∀ {c : T} {kc : K} {D : Nat → Prop}, Rep w C.St C.Vw c kc D → ¬ D b' → Rep (w.setRow b' arr') C.St C.Vw c kc D := fun hr hnb =>
      hr.keep fun x hx => hother x (by
        rintro rfl
        rcases hx with hx | hx
        · exact hnb hx
        · exact hstab x hx rfl)
    have hDgb : ∀ i, ¬ Dg i b' := fun i hx => (hrow.free i).dis s b' hbD hx
    have hDkg : ∀ i j x, Dk i x → ¬ Dg j x := fun i j x hi hj => (hrow.free j).dis s x (r2 x ((hD x).2 (.inr ⟨i, hi⟩))) hj
    have hnew : Rep (w.setRow b' arr') C.St C.Vw (.nd ptr .own sz (setR cs off ds)) (.mk (some ⟨b', o', none⟩) cap fun i => if i < off then kid i else if i < off + ds.length then g (i - off) else kid i)
        (fun x => x = b' ∨ ∃ i, (if i < off then Dk i x else if i < off + ds.length then Dg (i - off) x else Dk i x)) := by
      refine .own n b' o' arr' e fz (fun i x => if i < off then Dk i x else if i < off + ds.length then Dg (i - off) x else Dk i x) hsz (by rw [setR_length hle]; exact hn) hc hw' (by rw [hsize]; exact hf) (by rw [hsize]; exact hcap)
        (fun i c hi => ?_) (fun i c hi => ?_) (fun i c hi => ?_) (fun i x hx => ?_) (fun i x hx => ?_) (fun i j x hi hj => ?_) (fun x => Iff.rfl)
      · unfold VL.setR at hi; rw [setR_get hle] at hi
        split at hi
        · exact hs i c hi
        · split at hi
          · exact hrow.solid _ c hi
          · exact hs i c hi
      · unfold VL.setR at hi; rw [setR_get hle] at hi
        rw [hget]
        by_cases c1 : i < off
        · simp only [c1, if_true] at hi ⊢
          rw [if_pos (by omega)]; exact hv i c hi
        · by_cases c2 : i < off + ds.length
          · simp only [c1, c2, if_true, if_false] at hi ⊢
            rw [if_neg (by omega), if_pos (by omega), vals_get, show o' + i - (o' + off) = i - off by omega, hi, Nat.zero_add]; rfl
          · simp only [c1, c2, if_false] at hi ⊢
            rw [if_neg (by omega), if_neg (by omega)]; exact hv i c hi
      · unfold VL.setR at hi; rw [setR_get hle] at hi
        by_cases c1 : i < off
        · simp only [c1, if_true] at hi ⊢; exact hkeep (hk i c hi) fun hx => hb i b' hx rfl
        · by_cases c2 : i < off + ds.length
          · simp only [c1, c2, if_true, if_false] at hi ⊢; exact hkeep (hrow.rep _ c hi) (hDgb _)
          · simp only [c1, c2, if_false] at hi ⊢; exact hkeep (hk i c hi) fun hx => hb i b' hx rfl
      · rw [setR_length hle]
        split at hx
        · exact hout i x hx
        · split at hx
          · omega
          · exact hout i x hx
      · have hx := hx
        split at hx
        · exact hb i x hx
        · split at hx
          · rintro rfl; exact hDgb _ hx
          · exact hb i x hx
      · have hi := hi
        split at hi <;> split at hj
        · exact hd i j x hi hj
        · split at hj
          · exact absurd hj (hDkg _ _ x hi)
          · exact hd i j x hi hj
        · split at hi
          · exact absurd hi (hDkg _ _ x hj)
          · exact hd i j x hi hj
        · split at hi <;> split at hj
          · have := hrow.dis _ _ x hi hj; omega
          · exact absurd hi (hDkg _ _ x hj)
          · exact absurd hj (hDkg _ _ x hi)
          · exact hd i j x hi hj
    have hcond := r3 (w.setRow b' arr') (.nd ptr .own sz (setR cs off ds)) _ _ hnew (by cases ptr <;> simp [val, K.A, K.cap, setR_length hle]) rfl (fun _ => ⟨rfl, rfl⟩)
      (fun x _ hx => hother x fun e => hx ((hD x).2 (.inl e)))
      (fun x hx => by
        rcases hx with rfl | ⟨i, hi⟩
        · exact .inl ((hD _).2 (.inl rfl))
        · split at hi
          · exact .inl ((hD x).2 (.inr ⟨i, hi⟩))
          · split at hi
            · exact .inr (.inr ⟨fun s' hs' => (hrow.free _).dis s' x hs' hi, (hrow.free _).own x hi⟩)
            · exact .inl ((hD x).2 (.inr ⟨i, hi⟩)))
      (h.fr.setRow (h.own s b' hbD))
    unfold S.write
    split
    · rename_i hsc
      simp only [Bool.and_eq_true, List.all_eq_true] at hsc
      refine ⟨_, _, hcond.2 fun q ptr' sz' cs' hq => ?_⟩
      cases q with
      | nil =>
        simp only [getP_nil, Option.some.injEq, T.nd.injEq] at hq
        obtain ⟨rfl, _, rfl, rfl⟩ := hq
        exact ⟨_, getP_nil _, setR_length hle, rfl, rfl⟩
      | cons c q =>
        simp only [getP, Option.bind_eq_some_iff] at hq
        obtain ⟨y, hy, hq⟩ := hq
        have hy0 := hy
        by_cases c1 : off ≤ c ∧ c < off + ds.length
        · have hin : y ∈ (cs.drop off).take ds.length := by
            apply List.mem_of_getElem? (i := c - off)
            rw [List.getElem?_take, if_pos (by omega), List.getElem?_drop, show off + (c - off) = c by omega]; exact hy
          have := hsc.1 y hin
          cases y <;> simp [T.isSc] at this
          cases q <;> simp [getP] at hq
        · refine ⟨cs', ?_, rfl, ?_, ?_⟩
          · unfold VL.setR
            simp only [getP]
            rw [setR_get hle]
            by_cases c2 : c < off
            · rw [if_pos c2, hy]; exact hq
            · rw [if_neg c2, if_neg (by omega), hy]; exact hq
          · simp only [getK, K.kid]
            by_cases c2 : c < off
            · rw [if_pos c2]
            · rw [if_neg c2, if_neg (by omega)]
          · simp only [getK, K.kid]
            by_cases c2 : c < off
            · rw [if_pos c2]
            · rw [if_neg c2, if_neg (by omega)]
    · exact ⟨_, _, hcond.1⟩
end Go.Proofs.Ytnbahnpckfelpaa.VL
