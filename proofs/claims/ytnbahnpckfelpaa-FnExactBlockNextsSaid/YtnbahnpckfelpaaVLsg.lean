import Derived.Test.YtnbahnpckfelpaaVLfa
import Derived.Test.YtnbahnpckfelpaaVLsh
/-! VL, part Sg: the library's sort and compact, told by trees. -/
namespace Go.Proofs.Ytnbahnpckfelpaa.VL
open Go.RowKit Go.Sort
set_option linter.unusedVariables false
variable {w : World}

theorem put_facts {b off : Nat} {arr : Array Value} {e : TypeId} {fz : Nat × Nat} (n : Nat) (os : Array Obj) (hh : w.heap[b]? = some (.cells arr e fz)) (d : Array Int) :
    (grow (putRow (Value.int .i64) (Sort.ahead w n) b off d) os).heap[b]? = some (.cells (putCells (Value.int .i64) off d arr) e fz) ∧
    (∀ x, x < w.heap.size → x ≠ b → (grow (putRow (Value.int .i64) (Sort.ahead w n) b off d) os).heap[x]? = w.heap[x]?) ∧ w.heap.size ≤ (grow (putRow (Value.int .i64) (Sort.ahead w n) b off d) os).heap.size := by
  have hb : b < w.heap.size := (Array.getElem?_eq_some_iff.1 hh).1
  have hm : (putRow (Value.int .i64) (Sort.ahead w n) b off d).heap = w.heap.modify b (onCells (putCells (Value.int .i64) off d)) := rfl
  have hs : (putRow (Value.int .i64) (Sort.ahead w n) b off d).heap.size = w.heap.size := by rw [hm, Array.size_modify]
  refine ⟨?_, fun x hx hne => ?_, ?_⟩
  · show (((putRow (Value.int .i64) (Sort.ahead w n) b off d).heap) ++ os)[b]? = _
    rw [Array.getElem?_append_left (by omega), hm, Array.getElem?_modify, if_pos rfl, hh]; rfl
  · show (((putRow (Value.int .i64) (Sort.ahead w n) b off d).heap) ++ os)[x]? = _
    rw [Array.getElem?_append_left (by omega), hm, Array.getElem?_modify, if_neg (fun e => hne e.symm)]
  · show _ ≤ (((putRow (Value.int .i64) (Sort.ahead w n) b off d).heap) ++ os).size
    rw [Array.size_append, hs]; omega
theorem putCells_size (off : Nat) (d : Array Int) (arr : Array Value) : (putCells (Value.int .i64) off d arr).size = arr.size := by simp [putCells]
theorem putCells_get (off : Nat) (d : List Int) (arr : Array Value) (i : Nat) (hi : i < d.length) (ha : off + i < arr.size) : (putCells (Value.int .i64) off d.toArray arr)[off + i]? = some (.int .i64 d[i]) := by
  have h1 : off ≤ off + i ∧ off + i < off + d.length := ⟨by omega, by omega⟩
  simp only [putCells, Array.getElem?_mapIdx, Array.getElem?_eq_getElem ha, Option.map_some, List.size_toArray, h1, and_self, if_true]
  congr 2
  rw [show off + i - off = i by omega]
  simp [hi]

theorem ints_rep {St Vw : Nat → Prop} {xs : List Int} {k : K} {D : Nat → Prop} (h : Rep w St Vw (.nd false .own 1 (ints xs)) k D) (hne : xs ≠ []) :
    ∃ b off arr e fz cap kid, k = .mk (some ⟨b, off, none⟩) cap kid ∧ w.heap[b]? = some (.cells arr e fz) ∧ (fz.2 = 0 ∨ arr.size ≤ fz.1) ∧ off + cap ≤ arr.size ∧ xs.length ≤ cap ∧
      (∀ (i : Nat) (x : Int), xs[i]? = some x → arr[off + i]? = some (.int .i64 x)) ∧ ∀ x, D x ↔ x = b := by
  generalize ht : T.nd false .own 1 (ints xs) = t at h
  cases h with
  | @own ptr sz cs cap kid _ n b off arr e fz Ds hsz hn hc hh hf hcap hs hv hk hout hb hd hD =>
    simp only [T.nd.injEq] at ht
    obtain ⟨rfl, _, rfl, rfl⟩ := ht
    refine ⟨b, off, arr, e, fz, cap, kid, rfl, hh, hf, by omega, by rw [ints_len] at hn; omega, fun i x hi => ?_, fun x => ?_⟩
    · exact hv i (T.int x) (by rw [ints_get, hi]; rfl)
    · rw [hD]
      constructor
      · rintro (h | ⟨i, hi⟩)
        · exact h
        · exfalso
          have hlt := hout i x hi
          rw [ints_len] at hlt
          have := hk i (T.int xs[i]) (by rw [ints_get, List.getElem?_eq_getElem hlt]; rfl)
          generalize hds : Ds i = DD at this hi
          cases this
          exact hi
      · exact .inl
  | own0 => simp only [T.nd.injEq] at ht; exact absurd (List.map_eq_nil_iff.1 ht.2.2.2) hne
  | look n b off hm => simp only [T.nd.injEq] at ht; exact absurd ht.2.1.symm hm
  | _ => cases ht
theorem ints_rep_mk {St Vw : Nat → Prop} {ys : List Int} {b off cap : Nat} {arr : Array Value} {e : TypeId} {fz : Nat × Nat} {kid : Nat → K} (hh : w.heap[b]? = some (.cells arr e fz)) (hf : fz.2 = 0 ∨ arr.size ≤ fz.1) (hc : off + cap ≤ arr.size) (hl : ys.length ≤ cap)
    (hv : ∀ (i : Nat) (x : Int), ys[i]? = some x → arr[off + i]? = some (.int .i64 x)) : Rep w St Vw (.nd false .own 1 (ints ys)) (.mk (some ⟨b, off, none⟩) cap kid) (fun x => x = b) := by
  have hg : ∀ (i : Nat) (c : T), (ints ys)[i]? = some c → ∃ x, ys[i]? = some x ∧ c = T.int x := fun i c hi => by
    rw [ints_get, Option.map_eq_some_iff] at hi
    obtain ⟨x, h1, rfl⟩ := hi
    exact ⟨x, h1, rfl⟩
  refine .own ys.length b off arr e fz (fun _ => No) (by omega) (by rw [ints_len]; omega) hl hh hf (by omega) (fun i c hi => ?_) (fun i c hi => ?_) (fun i c hi => ?_) (fun _ _ h => h.elim) (fun _ _ h => h.elim) (fun _ _ _ h => h.elim) (fun x => ⟨.inl, fun h => h.elim id fun ⟨_, h⟩ => h.elim⟩)
  · obtain ⟨x, _, rfl⟩ := hg i c hi; rfl
  · obtain ⟨x, h1, rfl⟩ := hg i c hi; exact hv i x h1
  · obtain ⟨x, _, rfl⟩ := hg i c hi; exact .sc rfl
theorem args_one {St Vw : Nat → Prop} {t : T} {ks : Nat → K} {Dk : Nat → Nat → Prop} (ha : Args w St Vw [t] ks Dk) : ∀ i x, Dk i x ↔ i = 0 ∧ Dk 0 x := fun i x =>
  ⟨fun h => (by have := ha.out i x h; simp at this; subst this; exact ⟨rfl, h⟩), fun ⟨h1, h2⟩ => h1 ▸ h2⟩

def sortL (xs : List Int) : List Int := xs.mergeSort fun x y => decide (x ≤ y)
theorem g113 (xs : List Int) (hl : xs.length ≤ 1048576) : Gives Try.prog 113 [.nd false .own 1 (ints xs)] (fun outs t => t = T.un ∧ outs = [.nd false .own 1 (ints (sortL xs))]) := by
  intro w St Vw ks Dk ha
  have h0 := ha.rep 0 _ rfl
  have hall := args_one ha
  by_cases hne : xs = []
  · subst hne
    have hs : sortL [] = [] := by simp [sortL]
    refine (Try.slices_Sort_int_none (ks 0).A (ks 0).cap w).mono fun e w' ⟨he, hw⟩ => ?_
    subst he hw
    refine ⟨[.nd false .own 1 (ints [])], T.un, .leaf, No, ks, Dk, rfl, ⟨rfl, by rw [hs]⟩, rfl, ⟨rfl, rfl, rfl, Nat.le_refl _, fun _ _ _ => rfl⟩, rep_un, rfl, fun i c hi => ?_, fun i c hi => ?_, fun _ _ _ _ => ⟨rfl, rfl⟩, fun i x hx => by simpa using ha.out i x hx, ha.dis, fun _ _ _ h => h.elim, fun x hx => ?_⟩
    · exact ha.rep i c hi
    · exact ha.closed i c hi
    · rcases hx with hx | hx
      · exact hx.elim
      · exact .inr hx
  · obtain ⟨b, off, arr, e, fz, cap, kid, hk, hh, hf, hc, hl2, hv, hD⟩ := ints_rep h0 hne
    have hb : b < w.heap.size := (Array.getElem?_eq_some_iff.1 hh).1
    have hval : (vals [T.nd false .own 1 (ints xs)] ks 0).toArray = #[.slice (some ⟨b, off, none⟩) xs.length cap] := by
      simp only [vals, val, hk, K.A, K.cap, ints_len, Nat.div_one]
    rw [hval]
    have hH : Go.Sort.Holds (Value.int .i64) w b off xs.toArray := fun j hj => by
      have hj' : j < xs.length := by simpa using hj
      have hcell := hv j xs[j] (List.getElem?_eq_getElem hj')
      refine ⟨?_, frozen_no hh hf (by omega)⟩
      simp only [World.cell?, hh]
      simpa [hj'] using hcell
    refine (Try.slices_Sort_int b off cap xs w hH hb (by omega)).mono fun e w' ⟨he, n, os, hw⟩ => ?_
    subst he
    have hsl : (sortL xs).length = xs.length := by simp [sortL]
    have hp := put_facts (w := w) (off := off) n os hh (sortL xs).toArray
    obtain ⟨p1, p2, p3⟩ := hp
    rw [show xs.mergeSort (fun x y => decide (x ≤ y)) = sortL xs from rfl] at hw
    have e1 : w'.os = w.os := by rw [hw]; rfl
    have e2 : w'.tape = w.tape := by rw [hw]; rfl
    have e3 : w'.output = w.output := by rw [hw]; rfl
    rw [← hw] at p1 p2 p3
    have hr : ∀ St Vw, Rep w' St Vw (.nd false .own 1 (ints (sortL xs))) (.mk (some ⟨b, off, none⟩) cap fun _ => .leaf) (fun x => x = b) := fun St Vw =>
      ints_rep_mk p1 (by rw [putCells_size]; exact hf) (by rw [putCells_size]; exact hc) (by omega) fun i x hi => by
        have hi' := (List.getElem?_eq_some_iff.1 hi).1
        have hx := (List.getElem?_eq_some_iff.1 hi).2
        rw [putCells_get off (sortL xs) arr i hi' (by omega), hx]
    refine ⟨[.nd false .own 1 (ints (sortL xs))], T.un, .leaf, No, fun _ => .mk (some ⟨b, off, none⟩) cap fun _ => .leaf, Dk, rfl, ⟨rfl, rfl⟩, rfl, ⟨e1, e2, e3, p3, fun x hx hd => ?_⟩, rep_un, rfl, fun i c hi => ?_, fun i c hi => ?_, fun i c hi _ => ?_, fun i x hx => by simpa using ha.out i x hx, ha.dis, fun _ _ _ h => h.elim, fun x hx => ?_⟩
    · exact p2 x hx fun e => hd ⟨0, (hD x).2 e⟩
    · cases i with
      | zero => simp at hi; subst hi; exact (hr _ _).congrD fun x => (hD x).symm
      | succ i => simp at hi
    · cases i with
      | zero => simp at hi; subst hi; rfl
      | succ i => simp at hi
    · cases i with
      | zero => rw [hk]; exact ⟨rfl, rfl⟩
      | succ i => simp at hi
    · rcases hx with hx | hx
      · exact hx.elim
      · exact .inr hx
theorem compact_le (xs : List Int) : (Lib.compact xs).length ≤ xs.length := by
  unfold Lib.compact Lib.compactUpTo
  rw [List.length_map]
  exact Nat.le_trans (List.length_filter_le _ _) (by simp)
theorem g114 (xs : List Int) (hl : xs.length ≤ 1048576) : Gives Try.prog 114 [.nd false .own 1 (ints xs)] (fun _ t => t = .nd false .own 1 (ints (Lib.compact xs))) := by
  intro w St Vw ks Dk ha
  have h0 := ha.rep 0 _ rfl
  have hall := args_one ha
  by_cases hne : xs = []
  · subst hne
    have hs : Lib.compact [] = [] := List.length_eq_zero_iff.1 (Nat.le_zero.1 (compact_le []))
    refine (Try.slices_Compact_int_empty (ks 0).A (ks 0).cap w).mono fun e w' ⟨he, hw⟩ => ?_
    subst he hw
    refine ⟨[.dead], .nd false .own 1 (ints []), ks 0, Dk 0, fun _ => .leaf, fun _ => No, rfl, by rw [hs], rfl, ⟨rfl, rfl, rfl, Nat.le_refl _, fun _ _ _ => rfl⟩, h0, rfl, fun i c hi => ?_, fun i c hi => ?_, fun i c hi hne => ?_, fun _ _ h => h.elim, fun _ _ _ h => h.elim, fun _ _ h => h.elim, fun x hx => ?_⟩
    · cases i with
      | zero => simp at hi; subst hi; exact .dead
      | succ i => simp at hi
    · cases i with
      | zero => simp at hi; subst hi; rfl
      | succ i => simp at hi
    · cases i with
      | zero => simp at hi; exact absurd hi.symm hne
      | succ i => simp at hi
    · rcases hx with hx | ⟨_, hx⟩
      · exact .inr ⟨0, hx⟩
      · exact hx.elim
  · obtain ⟨b, off, arr, e, fz, cap, kid, hk, hh, hf, hc, hl2, hv, hD⟩ := ints_rep h0 hne
    have hb : b < w.heap.size := (Array.getElem?_eq_some_iff.1 hh).1
    have hval : (vals [T.nd false .own 1 (ints xs)] ks 0).toArray = #[.slice (some ⟨b, off, none⟩) xs.length cap] := by
      simp only [vals, val, hk, K.A, K.cap, ints_len, Nat.div_one]
    rw [hval]
    have hH : Go.Sort.Holds (Value.int .i64) w b off xs.toArray := fun j hj => by
      have hj' : j < xs.length := by simpa using hj
      have hcell := hv j xs[j] (List.getElem?_eq_getElem hj')
      refine ⟨?_, frozen_no hh hf (by omega)⟩
      simp only [World.cell?, hh]
      simpa [hj'] using hcell
    refine (Try.slices_Compact_int b off cap xs w hH (by omega) hl2).mono fun e w' ⟨he, n, hw⟩ => ?_
    subst he
    have hle := compact_le xs
    have hp := put_facts (w := w) (off := off) n #[] hh (Lib.compact xs ++ List.replicate (xs.length - (Lib.compact xs).length) 0).toArray
    rw [grow_empty] at hp
    obtain ⟨p1, p2, p3⟩ := hp
    have e1 : w'.os = w.os := by rw [hw]; rfl
    have e2 : w'.tape = w.tape := by rw [hw]; rfl
    have e3 : w'.output = w.output := by rw [hw]; rfl
    rw [← hw] at p1 p2 p3
    have hr : ∀ St Vw, Rep w' St Vw (.nd false .own 1 (ints (Lib.compact xs))) (.mk (some ⟨b, off, none⟩) cap fun _ => .leaf) (fun x => x = b) := fun St Vw =>
      ints_rep_mk p1 (by rw [putCells_size]; exact hf) (by rw [putCells_size]; exact hc) (by omega) fun i x hi => by
        have hi' := (List.getElem?_eq_some_iff.1 hi).1
        have hx := (List.getElem?_eq_some_iff.1 hi).2
        rw [putCells_get off _ arr i (by simp; omega) (by omega)]
        rw [List.getElem_append_left hi', hx]
    refine ⟨[.dead], .nd false .own 1 (ints (Lib.compact xs)), .mk (some ⟨b, off, none⟩) cap fun _ => .leaf, Dk 0, fun _ => .leaf, fun _ => No, ?_, rfl, rfl, ⟨e1, e2, e3, p3, fun x hx hd => ?_⟩, (hr _ _).congrD fun x => (hD x).symm, rfl, fun i c hi => ?_, fun i c hi => ?_, fun i c hi hne => ?_, fun _ _ h => h.elim, fun _ _ _ h => h.elim, fun _ _ h => h.elim, fun x hx => ?_⟩
    · simp only [val, K.A, K.cap, ints_len, Nat.div_one]
    · exact p2 x hx fun e => hd ⟨0, (hD x).2 e⟩
    · cases i with
      | zero => simp at hi; subst hi; exact .dead
      | succ i => simp at hi
    · cases i with
      | zero => simp at hi; subst hi; rfl
      | succ i => simp at hi
    · cases i with
      | zero => simp at hi; exact absurd hi.symm hne
      | succ i => simp at hi
    · rcases hx with hx | ⟨_, hx⟩
      · exact .inr ⟨0, hx⟩
      · exact hx.elim
end Go.Proofs.Ytnbahnpckfelpaa.VL
