import Derived.Test.YtnbahnpckfelpaaVLl
import Derived.Laws.ResultCell
/-! VL, part M: functions: what they are given, what they hand back. -/
namespace Go.Proofs.Ytnbahnpckfelpaa.VL
open Go.RowKit
set_option linter.unusedVariables false
variable {C : Ctx} {σ : S} {κ : Nat → K} {Ds : Nat → Nat → Prop} {a : Act} {tmps : Array Value} {w : World}

mutual
/-- No borrowed part anywhere without. -/
def T.closed : T → Bool
  | .rf .. | .ad .. => false
  | .gp _ _ cs => T.closeds cs
  | _ => true
def T.closeds : List T → Bool
  | [] => true
  | c :: cs => c.closed && T.closeds cs
end
theorem closeds_get : ∀ {cs : List T}, T.closeds cs = true → ∀ (i : Nat) (c : T), cs[i]? = some c → c.closed = true
  | [], _, i, c, h => by simp at h
  | d :: cs, hn, i, c, h => by
    simp only [T.closeds, Bool.and_eq_true] at hn
    cases i with
    | zero => simp at h; subst h; exact hn.1
    | succ i => exact closeds_get hn.2 i c (by simpa using h)
theorem Rep.ref {St Vw : Nat → Prop} {t : T} {k : K} {D : Nat → Prop} (h : Rep w St Vw t k D) : t.closed = true → RefOk σ κ t k := by
  induction h with
  | sc | dead | look | own0 | own => exact fun _ => .solid rfl
  | rf | ad => intro h; simp [T.closed] at h
  | ra => exact fun _ => .ra
  | gp Ds hk hout hd hD ih => exact fun h => .gp fun i c hi => ih i c hi (closeds_get h i c hi)
theorem whole_closed {t : T} (h : t.whole = true) : t.closed = true := by
  have hs : ∀ t : T, t.solid = true → t.closed = true := fun t h => by cases t <;> simp_all [T.solid, T.closed]
  cases t with
  | gp kind f cs =>
    simp only [T.whole, List.all_eq_true] at h
    simp only [T.closed]
    induction cs with
    | nil => rfl
    | cons c cs ih => simp only [T.closeds, Bool.and_eq_true]; exact ⟨hs c (h c (by simp)), ih fun d hd => h d (by simp [hd])⟩
  | ra => rfl
  | sc => rfl
  | nd => rfl
  | dead => rfl
  | _ => exact hs _ h

/-- A result variable's value, taken. -/
def resT1 (P : Program) (σ : S) : ResultVar → Option (T × S)
  | .tmp r => σ.cons (.tmp r)
  | .cell r t => (σ.cons (.tmp r)).bind fun u => match u.1 with
    | .nd true .own sz cs => if sz = 1 ∧ aggT P t = some true ∧ P.cellsOf t = cs.length then some (.ag cs, u.2) else none
    | _ => none
def resT (P : Program) : List ResultVar → S → Option (List T × S)
  | [], σ => some ([], σ)
  | r :: rs, σ => (resT1 P σ r).bind fun u => (resT P rs u.2).bind fun v => some (u.1 :: v.1, v.2)
def resVal (P : Program) (tmps : Array Value) : ResultVar → Sem Value
  | .tmp t => pure (tmps.getD t undef)
  | .cell a t => do loadVar t (← asAddr (tmps.getD a undef))

theorem resT1_ok (hC : C.Ok) (h : SR C σ κ Ds a.tmps w) {r : ResultVar} {t : T} {σ' : S} (he : resT1 C.P σ r = some (t, σ')) :
    ∃ κ' Ds' k D, SR C σ' κ' Ds' a.tmps w ∧ Rep w C.St C.Vw t k D ∧ (resVal C.P a.tmps r).run C.P w = .ok (val t k) w ∧ Free C Ds' D ∧ t.closed = true ∧ (∀ s x, Ds' s x → Ds s x) ∧ (∀ x, D x → ∃ s, Ds s x) := by
  cases r with
  | tmp r =>
    obtain ⟨κ', Ds', k, D, h1, h2, h3, h4, h5, h6, h7⟩ := h.cons hC (x := .tmp r) he
    exact ⟨κ', Ds', k, D, h1, h2, by rw [h3]; rfl, h4, whole_closed h5, h6, h7⟩
  | cell r ty =>
    simp only [resT1, Option.bind_eq_some_iff] at he
    obtain ⟨⟨u, σ1⟩, hu, he⟩ := he
    obtain ⟨κ', Ds', k, D, h1, h2, h3, h4, h5, h6, h7⟩ := h.cons hC (x := .tmp r) hu
    split at he
    · rename_i sz cs hcs
      simp only at hcs
      subst hcs
      split at he
      · rename_i hok
        obtain ⟨rfl, hag, hsz⟩ := hok
        simp only [Option.some.injEq, Prod.mk.injEq] at he
        obtain ⟨rfl, rfl⟩ := he
        cases h2 with
        | look n b off hm => exact absurd rfl hm
        | @own _ _ _ cap kid _ n b off arr e fz Dk hsz1 hn hc hh hf hcap hs hv hk hout hb hd hD =>
          refine ⟨κ', Ds', .mk none 0 kid, fun x => ∃ i, Dk i x, h1, .gp Dk hk hout hd (fun x => Iff.rfl), ?_, ⟨fun s x hx ⟨i, hi⟩ => h4.dis s x hx ((hD x).2 (.inr ⟨i, hi⟩)), fun x ⟨i, hi⟩ => h4.own x ((hD x).2 (.inr ⟨i, hi⟩))⟩, whole_closed (by simp only [T.whole, List.all_eq_true]; intro c hc; obtain ⟨i, hi⟩ := List.getElem?_of_mem hc; exact hs i c hi), h6, fun x ⟨i, hi⟩ => h7 x ((hD x).2 (.inr ⟨i, hi⟩))⟩
          have hev : a.tmps.getD r undef = .pointer (some ⟨b, off, none⟩) := h3.symm
          have hcells := run_loadCells_list (P := C.P) w ⟨b, off, none⟩ (VL.vals cs kid 0) (fun j v hj => by
            rw [vals_get] at hj
            simp only [Option.map_eq_some_iff] at hj
            obtain ⟨c, hc, rfl⟩ := hj
            rw [Addr.add_lit, Nat.zero_add]
            simp only [World.cell?, hh]
            simpa using hv j c hc)
          rw [vals_length, ← hsz] at hcells
          have hu := run_isAgg hag w
          simp only [aggT, Option.map_eq_some_iff] at hag
          obtain ⟨d, hd', _⟩ := hag
          obtain ⟨i, hi, hi1, _⟩ := info_of_underlying hd'
          rw [hi1] at hcells
          simp [resVal, hev, asAddr, loadVar, hu, sizeOf, typeInfo, hi, hcells, val]
          rfl
      · cases he
    · cases he

theorem resT_ok (hC : C.Ok) : ∀ {rs : List ResultVar} {ts : List T} {σ σ' : S} {κ : Nat → K} {Ds : Nat → Nat → Prop}, SR C σ κ Ds a.tmps w → resT C.P rs σ = some (ts, σ') →
    ∃ κ' Ds' f, ∃ Dk : Nat → Nat → Prop, SR C σ' κ' Ds' a.tmps w ∧ (∀ (i : Nat) (c : T), ts[i]? = some c → Rep w C.St C.Vw c (f i) (Dk i) ∧ c.closed = true) ∧ (∀ i x, Dk i x → i < ts.length) ∧
      (rs.mapM (resVal C.P a.tmps)).run C.P w = .ok (vals ts f 0) w ∧ (∀ i, Free C Ds' (Dk i)) ∧ (∀ i j x, Dk i x → Dk j x → i = j) ∧ (∀ s x, Ds' s x → Ds s x) ∧ (∀ i x, Dk i x → ∃ s, Ds s x)
  | [], ts, σ, σ', κ, Ds, h, he => by
    simp [resT] at he
    obtain ⟨rfl, rfl⟩ := he
    exact ⟨κ, Ds, fun _ => .leaf, fun _ => No, h, by simp, fun _ _ h => h.elim, rfl, fun _ => Free.no, fun _ _ _ h => h.elim, fun _ _ h => h, fun _ _ h => h.elim⟩
  | r :: rs, ts, σ, σ', κ, Ds, h, he => by
    simp only [resT, Option.bind_eq_some_iff] at he
    obtain ⟨⟨t1, σ1⟩, he1, ⟨ts2, σ2⟩, he2, he⟩ := he
    simp only [Option.some.injEq, Prod.mk.injEq] at he
    obtain ⟨rfl, rfl⟩ := he
    obtain ⟨κ1, Ds1, k1, D1, a1, a2, a3, a4, a5, a6, a7⟩ := resT1_ok hC h he1
    obtain ⟨κ2, Ds2, f2, Dk2, b1, b2, b3, b4, b5, b6, b7, b8⟩ := resT_ok hC a1 he2
    have hD : ∀ j x, Dk2 j x → ¬ D1 x := fun j x hx hx' => by
      obtain ⟨s, hs⟩ := b8 j x hx
      exact a4.dis s x hs hx'
    refine ⟨κ2, Ds2, fun i => match i with | 0 => k1 | i + 1 => f2 i, fun i => match i with | 0 => D1 | i + 1 => Dk2 i, b1, fun i d hi => ?_, fun i x hi => ?_, ?_, fun i => ?_, fun i j x hi hj => ?_, fun s x hx => a6 s x (b7 s x hx), fun i x hx => ?_⟩
    · cases i with
      | zero => simp at hi; subst hi; exact ⟨a2, a5⟩
      | succ i => exact b2 i d (by simpa using hi)
    · cases i with
      | zero => simp
      | succ i => simpa using b3 i x hi
    · simp only [List.mapM_cons, Sem.run_bind, a3, Result.andThen_ok, b4, Sem.run_pure, vals]
      congr 2
      exact vals_congr _ _ _ _ _ fun k _ => by simp [Nat.add_comm]
    · cases i with
      | zero => exact a4.sub b7
      | succ i => exact b5 i
    · cases i with
      | zero =>
        cases j with
        | zero => rfl
        | succ j => exact absurd hi (hD j x hj)
      | succ i =>
        cases j with
        | zero => exact absurd hj (hD i x hi)
        | succ j => have := b6 i j x hi hj; omega
    · cases i with
      | zero => exact a7 x hx
      | succ i =>
        obtain ⟨s, hs⟩ := b8 i x hx
        exact ⟨s, a6 s x hs⟩

/-- One result, or all of them. -/
def packT : List T → T
  | [t] => t
  | ts => .tu ts
def packV : List Value → Value
  | [v] => v
  | vs => .tuple vs.toArray
theorem results_run {P : Program} {fn : Func} {tmps : Array Value} {w : World} {vs : List Value} (h : (fn.results.toList.mapM (resVal P tmps)).run P w = .ok vs w) :
    (results fn tmps).run P w = .ok (packV vs) w := by
  have e : (fn.results.mapM (resVal P tmps)).run P w = .ok vs.toArray w := by
    rw [Array.mapM_eq_mapM_toList, Sem.run_map, h]; rfl
  have e2 : results fn tmps = (do let vs ← fn.results.mapM (resVal P tmps); pure (if h : vs.size = 1 then vs[0] else .tuple vs)) := by
    unfold results
    congr 2
  rw [e2, Sem.run_bind, e]
  simp only [Result.andThen_ok, Sem.run_pure]
  congr 1
  match vs with
  | [] => rfl
  | [v] => rfl
  | v :: u :: r => simp [packV]
end Go.Proofs.Ytnbahnpckfelpaa.VL
