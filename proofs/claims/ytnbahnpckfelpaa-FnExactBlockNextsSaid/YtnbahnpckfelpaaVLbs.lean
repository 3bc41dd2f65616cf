import Derived.Test.YtnbahnpckfelpaaVLbr
/-! VL, part Bs: pieces, as the form says them. -/
namespace Go.Proofs.Ytnbahnpckfelpaa.VL
open Go.ChangeShapes Go.WideShapes Go.ChangeAt Go.RowKit
set_option linter.unusedVariables false
variable {H : Type} {enc : TypeId × Value → H} {w : World} {sp : Nat → Bool}

structure InsWf (i : Ins) : Prop where
  a : okInt i.a
  b : okInt i.b
  c : okInt i.c
  d : okInt i.d
  e : okInt i.e
  g : okInt i.g
  xs : ∀ x ∈ i.xs, okInt x
  len : i.xs.length ≤ maxLen
structure PcWf (p : Pc) : Prop where
  a : okInt p.a
  b : okInt p.b
  c : okInt p.c
  l : ∀ i ∈ p.l, InsWf i
  len : p.l.length ≤ maxLen
theorem flat_ints : ∀ (els : List (List T)), (∀ el ∈ els, (∃ n, okInt n ∧ el = [T.int n]) ∧ el.length = 1) → ∃ xs : List Int, els.flatten = ints xs ∧ xs.length = els.length ∧ ∀ x ∈ xs, okInt x
  | [], _ => ⟨[], rfl, rfl, by simp⟩
  | el :: els, h => by
    obtain ⟨xs, h1, h2, h3⟩ := flat_ints els fun e he => h e (by simp [he])
    obtain ⟨⟨n, hn, rfl⟩, _⟩ := h el (by simp)
    refine ⟨n :: xs, by simp [h1, ints], by simp [h2], fun x hx => ?_⟩
    rcases List.mem_cons.1 hx with rfl | hx
    · exact hn
    · exact h3 x hx
theorem flat_ins : ∀ (els : List (List T)), (∀ el ∈ els, (∃ i, InsWf i ∧ el = insC .vw i) ∧ el.length = 7) → ∃ l : List Ins, els.flatten = insL .vw l ∧ l.length = els.length ∧ ∀ i ∈ l, InsWf i
  | [], _ => ⟨[], rfl, rfl, by simp⟩
  | el :: els, h => by
    obtain ⟨l, h1, h2, h3⟩ := flat_ins els fun e he => h e (by simp [he])
    obtain ⟨⟨i, hi, rfl⟩, _⟩ := h el (by simp)
    refine ⟨i :: l, by simp [h1, insL], by simp [h2], fun x hx => ?_⟩
    rcases List.mem_cons.1 hx with rfl | hx
    · exact hi
    · exact h3 x hx
theorem c3' : Try.prog.cellsOf 3 = 1 := by kernel_rfl
theorem c45' : Try.prog.cellsOf 45 = 1 := by kernel_rfl
theorem c37' : Try.prog.cellsOf 37 = 1 := by kernel_rfl
theorem c107' : Try.prog.cellsOf 107 = 7 := by kernel_rfl
theorem c39' : Try.prog.cellsOf 39 = 4 := by kernel_rfl
theorem read_ints {n : Nat} {cs : List Value} {y : DataW H × List MemPlace} (h : DataW.trod enc Try.prog w 0 sp true n 45 cs = some y) :
    ∃ (xs : List Int) (k : K), xs.length ≤ maxLen ∧ (∀ x ∈ xs, okInt x) ∧ Cells w [.nd false .vw 1 (ints xs)] (fun _ => k) cs := by
  obtain ⟨els, k, h1, h2, h3⟩ := read_slice Try.underlying45 c3' (by omega) (fun ts => ∃ n, okInt n ∧ ts = [T.int n]) (fun n cs y hy => by
    obtain ⟨m, h1, rfl⟩ := read_int Try.underlying3 hy
    exact ⟨_, _, ⟨m, h1, rfl⟩, cells_one rfl⟩) h
  obtain ⟨xs, e1, e2, e3⟩ := flat_ints els h1
  rw [e1] at h3
  exact ⟨xs, k, by omega, e3, h3⟩
theorem seven {α : Type} {l : List α} (h : l.length = 7) : ∃ a b c d e f g, l = [a, b, c, d, e, f, g] := by
  match l, h with
  | [a, b, c, d, e, f, g], _ => exact ⟨a, b, c, d, e, f, g, rfl⟩
theorem four {α : Type} {l : List α} (h : l.length = 4) : ∃ a b c d, l = [a, b, c, d] := by
  match l, h with
  | [a, b, c, d], _ => exact ⟨a, b, c, d, rfl⟩
theorem read_ins {n : Nat} {cs : List Value} {y : DataW H × List MemPlace} (h : DataW.trod enc Try.prog w 0 sp true n 107 cs = some y) :
    ∃ ts kid, (∃ i, InsWf i ∧ ts = insC .vw i) ∧ Cells w ts kid cs := by
  obtain ⟨xs, m, _, _, hl, hlen, hf⟩ := DataW.trod_struct Try.underlying107 h
  rw [c107'] at hl
  obtain ⟨v0, v1, v2, v3, v4, v5, v6, rfl⟩ := seven hl
  obtain ⟨y0, y1, y2, y3, y4, y5, y6, rfl⟩ := seven (l := xs) (by rw [hlen]; rfl)
  have f0 : DataW.trod enc Try.prog w 0 sp true m 3 (([v0, v1, v2, v3, v4, v5, v6].drop 0).take (Try.prog.cellsOf 3)) = some y0 := hf 0 _ rfl
  have f1 : DataW.trod enc Try.prog w 0 sp true m 3 (([v0, v1, v2, v3, v4, v5, v6].drop 1).take (Try.prog.cellsOf 3)) = some y1 := hf 1 _ rfl
  have f2 : DataW.trod enc Try.prog w 0 sp true m 3 (([v0, v1, v2, v3, v4, v5, v6].drop 2).take (Try.prog.cellsOf 3)) = some y2 := hf 2 _ rfl
  have f3 : DataW.trod enc Try.prog w 0 sp true m 3 (([v0, v1, v2, v3, v4, v5, v6].drop 3).take (Try.prog.cellsOf 3)) = some y3 := hf 3 _ rfl
  have f4 : DataW.trod enc Try.prog w 0 sp true m 3 (([v0, v1, v2, v3, v4, v5, v6].drop 4).take (Try.prog.cellsOf 3)) = some y4 := hf 4 _ rfl
  have f5 : DataW.trod enc Try.prog w 0 sp true m 45 (([v0, v1, v2, v3, v4, v5, v6].drop 5).take (Try.prog.cellsOf 45)) = some y5 := hf 5 _ rfl
  have f6 : DataW.trod enc Try.prog w 0 sp true m 3 (([v0, v1, v2, v3, v4, v5, v6].drop 6).take (Try.prog.cellsOf 3)) = some y6 := hf 6 _ rfl
  simp only [c3', c45', List.drop_succ_cons, List.drop_zero, List.take_succ_cons, List.take_zero] at f0 f1 f2 f3 f4 f5 f6
  obtain ⟨n0, w0, e0⟩ := read_int Try.underlying3 f0
  obtain ⟨n1, w1, e1⟩ := read_int Try.underlying3 f1
  obtain ⟨n2, w2, e2⟩ := read_int Try.underlying3 f2
  obtain ⟨n3, w3, e3⟩ := read_int Try.underlying3 f3
  obtain ⟨n4, w4, e4⟩ := read_int Try.underlying3 f4
  obtain ⟨xs, k, w5, w5', g5⟩ := read_ints f5
  obtain ⟨n6, w6, e6⟩ := read_int Try.underlying3 f6
  simp only [List.cons.injEq, and_true] at e0 e1 e2 e3 e4 e6
  subst e0 e1 e2 e3 e4 e6
  exact ⟨_, _, ⟨⟨n0, n1, n2, n3, n4, xs, n6⟩, ⟨w0, w1, w2, w3, w4, w6, w5', w5⟩, rfl⟩, cells_app (cells_one (v := .int .i64 n0) rfl) (cells_app (cells_one (v := .int .i64 n1) rfl) (cells_app (cells_one (v := .int .i64 n2) rfl) (cells_app (cells_one (v := .int .i64 n3) rfl) (cells_app (cells_one (v := .int .i64 n4) rfl) (cells_app g5 (cells_one (v := .int .i64 n6) rfl))))))⟩
theorem read_insL {n : Nat} {cs : List Value} {y : DataW H × List MemPlace} (h : DataW.trod enc Try.prog w 0 sp true n 37 cs = some y) :
    ∃ (l : List Ins) (k : K), l.length ≤ maxLen ∧ (∀ i ∈ l, InsWf i) ∧ Cells w [.nd false .vw 7 (insL .vw l)] (fun _ => k) cs := by
  obtain ⟨els, k, h1, h2, h3⟩ := read_slice Try.underlying37 c107' (by omega) (fun ts => ∃ i, InsWf i ∧ ts = insC .vw i) (fun n cs y hy => read_ins hy) h
  obtain ⟨l, e1, e2, e3⟩ := flat_ins els h1
  rw [e1] at h3
  exact ⟨l, k, by omega, e3, h3⟩
theorem read_pc {n : Nat} {cs : List Value} {y : DataW H × List MemPlace} (h : DataW.trod enc Try.prog w 0 sp true n 39 cs = some y) :
    ∃ ts kid, (∃ p, PcWf p ∧ ts = pcC .vw p) ∧ Cells w ts kid cs := by
  obtain ⟨xs, m, _, _, hl, hlen, hf⟩ := DataW.trod_struct Try.underlying39 h
  rw [c39'] at hl
  obtain ⟨v0, v1, v2, v3, rfl⟩ := four hl
  obtain ⟨y0, y1, y2, y3, rfl⟩ := four (l := xs) (by rw [hlen]; rfl)
  have f0 : DataW.trod enc Try.prog w 0 sp true m 3 (([v0, v1, v2, v3].drop 0).take (Try.prog.cellsOf 3)) = some y0 := hf 0 _ rfl
  have f1 : DataW.trod enc Try.prog w 0 sp true m 3 (([v0, v1, v2, v3].drop 1).take (Try.prog.cellsOf 3)) = some y1 := hf 1 _ rfl
  have f2 : DataW.trod enc Try.prog w 0 sp true m 3 (([v0, v1, v2, v3].drop 2).take (Try.prog.cellsOf 3)) = some y2 := hf 2 _ rfl
  have f3 : DataW.trod enc Try.prog w 0 sp true m 37 (([v0, v1, v2, v3].drop 3).take (Try.prog.cellsOf 37)) = some y3 := hf 3 _ rfl
  simp only [c3', c37', List.drop_succ_cons, List.drop_zero, List.take_succ_cons, List.take_zero] at f0 f1 f2 f3
  obtain ⟨n0, w0, e0⟩ := read_int Try.underlying3 f0
  obtain ⟨n1, w1, e1⟩ := read_int Try.underlying3 f1
  obtain ⟨n2, w2, e2⟩ := read_int Try.underlying3 f2
  obtain ⟨l, k, w3, w3', g3⟩ := read_insL f3
  simp only [List.cons.injEq, and_true] at e0 e1 e2
  subst e0 e1 e2
  exact ⟨_, _, ⟨⟨n0, n1, n2, l⟩, ⟨w0, w1, w2, w3', w3⟩, rfl⟩, cells_app (cells_one (v := .int .i64 n0) rfl) (cells_app (cells_one (v := .int .i64 n1) rfl) (cells_app (cells_one (v := .int .i64 n2) rfl) g3))⟩
/-- A struct, as it is handed in. -/
theorem cells_agg {ts : List T} {kid : Nat → K} {cs : Array Value} (h : Cells w ts kid cs.toList) : Rep w No (Seen w) (.ag ts) (.mk none 0 kid) No ∧ val (.ag ts) (.mk none 0 kid) = .agg cs ∧ (T.ag ts).closed = true := by
  refine ⟨.gp (fun _ => No) (fun i c hi => h.rep i c hi) (fun _ _ h => h.elim) (fun _ _ _ h => h.elim) (fun x => ⟨fun h => h.elim, fun ⟨_, h⟩ => h.elim⟩), ?_, ?_⟩
  · show Value.agg (vals ts kid 0).toArray = .agg cs
    rw [h.vals]
  · simp only [T.closed]
    exact closeds_all fun i c hi => (by
      have := h.solid i c hi
      cases c <;> simp_all [T.solid, T.closed])
/-- A law of pieces: from its walk to its contract. -/
theorem law1 {f : Nat} {p : Pc} {kid : Nat → K} {cs : Array Value} (hc : Cells w (pcC .vw p) kid cs.toList) (hg : Gives Try.prog f [.ag (pcC .vw p)] (fun _ t => t = .bool true)) :
    Calls Try.prog f #[.agg cs] w fun e w' => e = .returned (.bool true) ∧ Below w.heap.size w w' := by
  obtain ⟨h1, h2, h3⟩ := cells_agg hc
  have := hg w No (Seen w) (fun _ => .mk none 0 kid) (fun _ => No) ⟨fun j c hj => ?_, fun j c hj => ?_, fun _ _ h => h.elim, fun _ _ _ h => h.elim, fun x hx => ⟨hx.elim (fun h => h.elim) id, fun _ h => h.elim⟩⟩
  · have e : (vals [T.ag (pcC .vw p)] (fun _ => K.mk none 0 kid) 0).toArray = #[.agg cs] := by
      simp only [vals, h2]
    rw [e] at this
    refine this.mono fun e w' ⟨outs, t, k, D, ks', D', e1, e2, e3, e4⟩ => ?_
    subst e2
    exact ⟨e1, ⟨e4.fr.os, e4.fr.tape, e4.fr.output, e4.fr.size, fun x hx => e4.fr.block x hx fun ⟨_, h⟩ => h.elim⟩⟩
  · match j with
    | 0 => simp at hj; subst hj; exact h1
    | j + 1 => simp at hj
  · match j with
    | 0 => simp at hj; subst hj; exact h3
    | j + 1 => simp at hj
/-- A law of pieces and a number: from its walk to its contract. -/
theorem law2 {f : Nat} {p : Pc} {i : Int} {kid : Nat → K} {cs : Array Value} (hc : Cells w (pcC .vw p) kid cs.toList) (hg : Gives Try.prog f [.ag (pcC .vw p), .int i] (fun _ t => t = .bool true)) :
    Calls Try.prog f #[.agg cs, .int .i64 i] w fun e w' => e = .returned (.bool true) ∧ Below w.heap.size w w' := by
  obtain ⟨h1, h2, h3⟩ := cells_agg hc
  have := hg w No (Seen w) (fun j => match j with | 0 => .mk none 0 kid | _ => .leaf) (fun _ => No) ⟨fun j c hj => ?_, fun j c hj => ?_, fun _ _ h => h.elim, fun _ _ _ h => h.elim, fun x hx => ⟨hx.elim (fun h => h.elim) id, fun _ h => h.elim⟩⟩
  · have e : (vals [T.ag (pcC .vw p), T.int i] (fun j => match j with | 0 => K.mk none 0 kid | _ => .leaf) 0).toArray = #[.agg cs, .int .i64 i] := by
      simp only [vals, h2]; rfl
    rw [e] at this
    refine this.mono fun e w' ⟨outs, t, k, D, ks', D', e1, e2, e3, e4⟩ => ?_
    subst e2
    exact ⟨e1, ⟨e4.fr.os, e4.fr.tape, e4.fr.output, e4.fr.size, fun x hx => e4.fr.block x hx fun ⟨_, h⟩ => h.elim⟩⟩
  · match j with
    | 0 => simp at hj; subst hj; exact h1
    | 1 => simp at hj; subst hj; exact .sc rfl
    | j + 2 => simp at hj
  · match j with
    | 0 => simp at hj; subst hj; exact h3
    | 1 => simp at hj; subst hj; rfl
    | j + 2 => simp at hj
end Go.Proofs.Ytnbahnpckfelpaa.VL
