import Derived.Test.YtnbahnpckfelpaaVLj3
/-! VL, part J4: append, as an operation. -/
namespace Go.Proofs.Ytnbahnpckfelpaa.VL
open Go.RowKit
set_option linter.unusedVariables false
variable {C : Ctx} {σ : S} {κ : Nat → K} {Ds : Nat → Nat → Prop} {a : Act} {tmps : Array Value} {w : World}

theorem own_row {sz : Nat} {cs : List T} {k : K} {D : Nat → Prop} (hx : Rep w C.St C.Vw (.sl .own sz cs) k D) (hfr : Free C Ds D) :
    ∃ f Dk, Row C Ds w cs f Dk ∧ (∀ i x, Dk i x → D x) ∧ (k.A = none → cs = []) ∧ ∀ a, k.A = some a → ∀ j v, (vals cs f 0)[j]? = some v → w.cell? (a.add j) = some v := by
  cases hx with
  | look n b off hm => exact absurd rfl hm
  | @own0 _ A kid hsz0 => exact ⟨fun _ => .leaf, fun _ => No, ⟨by simp, by simp, fun _ _ h => h.elim, fun _ => Free.no, fun _ _ _ h => h.elim⟩, fun _ _ h => h.elim, fun _ => rfl, fun a _ j v hj => by simp [vals] at hj⟩
  | @own _ _ _ cap kid _ n' b off arr e' fz Dk hsz' hn' hc' hh hf hcap' hs' hv' hk' hout' hb' hd' hD' =>
    refine ⟨kid, Dk, ⟨hk', hs', hout', fun i => ⟨fun s x h1 h2 => hfr.dis s x h1 ((hD' x).2 (.inr ⟨i, h2⟩)), fun x h2 => hfr.own x ((hD' x).2 (.inr ⟨i, h2⟩))⟩, hd'⟩, fun i x hx => (hD' x).2 (.inr ⟨i, hx⟩), fun h => by simp [K.A] at h, fun a ha j v hj => ?_⟩
    simp only [K.A, Option.some.injEq] at ha
    subst ha
    rw [vals_get] at hj
    simp only [Option.map_eq_some_iff] at hj
    obtain ⟨c, hc, rfl⟩ := hj
    rw [Addr.add_lit, Nat.zero_add]
    have := hv' j c hc
    simp only [World.cell?, hh]
    simpa using this

theorem Src.ofList {P : Program} {size : Nat} {tx e' : TypeId} (hk : P.underlying tx = some (.slice e')) {A : Option Addr} {n c : Nat} {news : List Value} (hl : news.length = n * size) (hsz : 0 < size) (hA : A = none → news = [])
    (hnews : ∀ a, A = some a → ∀ j u, news[j]? = some u → w.cell? (a.add j) = some u) (h1 : ∀ u ∈ news, u.oneCell' = true) : Src P size tx (.slice A n c) n news w := by
  cases A with
  | some a => exact Src.ofSlice w hk a n c news hl (hnews a rfl) h1
  | none =>
    have hn := hA rfl
    subst hn
    have hn0 : n = 0 := by
      rcases Nat.eq_zero_or_pos n with h | h
      · exact h
      · have := Nat.mul_pos h hsz; simp at hl; omega
    subst hn0
    exact Src.ofNil w hk c

def byteT (s : ByteArray) : List T := s.data.toList.map fun b => .sc (.int .u8 b.toNat)
/-- What the second argument of an append hands over: the cells, how many elements. -/
def srcT (P : Program) (σ : S) (tx : TypeId) (es : Nat) (y : Operand) : Option (List T × Nat × S) :=
  match P.underlying tx with
  | some (.slice _) =>
    match σ.slc y with
    | some (.ref st s p lo n sz) =>
      if st = σ.st s ∧ sz = es then
        match getP (σ.sl s) p with
        | some (.nd false .own sz' cs) =>
          if ((cs.drop (lo * sz)).take (n * sz)).all copy1 then some ((cs.drop (lo * sz)).take (n * sz), n, σ)
          else (σ.cons y).bind fun u => match u.1 with
            | .nd false .own sz2 ds => if sz2 = es then some (ds, ds.length / es, u.2) else none
            | _ => none
        | _ => none
      else none
    | some (.ro _ sz cs) => if sz = es ∨ cs = [] then some (cs, cs.length / sz, σ) else none
    | none => none
  | some .string =>
    match σ.opd y with
    | .sc (.string s) => if es = 1 then some (byteT s, s.size, σ) else none
    | _ => none
  | _ => none

theorem srcT_ok (hC : C.Ok) (h : SR C σ κ Ds a.tmps w) {tx : TypeId} {es n : Nat} {y : Operand} {ds : List T} {σ' : S} (hes : 0 < es) (he : srcT C.P σ tx es y = some (ds, n, σ')) (h1 : ds.all T.one = true) :
    ∃ κ' Ds' g Dg, SR C σ' κ' Ds' a.tmps w ∧ Row C Ds' w ds g Dg ∧ Src C.P es tx (a.eval y) n (vals ds g 0) w := by
  unfold srcT at he
  split at he
  · rename_i e' hu
    split at he
    · rename_i st s p lo n' sz hl
      obtain ⟨k, g1, g2, g3, g4, g5⟩ := h.slc hl
      split at he
      · rename_i hok
        obtain ⟨hst, rfl⟩ := hok
        split at he
        · rename_i sz' cs hg
          split at he
          · rename_i hcopy
            simp only [Option.some.injEq, Prod.mk.injEq] at he
            obtain ⟨rfl, rfl, rfl⟩ := he
            simp only [Slc.tree] at g3
            cases g3 with
            | solid h => simp [T.solid] at h
            | rf hle hr =>
              obtain ⟨cs', q1, q2, q3, q4, _⟩ := hr hst
              rw [hg] at q1
              simp only [Option.some.injEq, T.nd.injEq, true_and] at q1
              obtain ⟨rfl, rfl⟩ := q1
              have hln : ((cs.drop (lo * sz')).take (n' * sz')).length = n' * sz' := by
                rw [List.length_take, List.length_drop]; rw [Nat.add_mul] at q2; omega
              have hgi : ∀ i c, ((cs.drop (lo * sz')).take (n' * sz'))[i]? = some c → cs[lo * sz' + i]? = some c := by
                intro i c hi
                rw [List.getElem?_take] at hi
                split at hi
                · rwa [List.getElem?_drop] at hi
                · cases hi
              have hone := fun (i : Nat) (c : T) (hi : ((cs.drop (lo * sz')).take (n' * sz'))[i]? = some c) => List.all_eq_true.1 hcopy c (List.mem_of_getElem? hi)
              by_cases hn0 : n' = 0
              · subst hn0
                simp only [Nat.zero_mul, List.take_zero]
                refine ⟨κ, Ds, fun _ => .leaf, fun _ => No, h, ⟨by simp, by simp, fun _ _ h => h.elim, fun _ => Free.no, fun _ _ _ h => h.elim⟩, ?_⟩
                simp only [Slc.len] at g4
                rw [g4]
                exact Src.ofList hu (by simp [vals]) hes (fun _ => rfl) (fun _ _ j u hj => by simp [vals] at hj) (by simp [vals])
              · obtain ⟨_, b, o', q6, q7⟩ := q4 (by have q3' : n' ≤ k.cap := q3; omega)
                obtain ⟨kid, hat⟩ := h.locOwn (off := 0) (v := .pointer (some ⟨b, o' + 0, none⟩)) hg q6 rfl
                have hrow : Row C Ds w ((cs.drop (lo * sz')).take (n' * sz')) (fun i => kid (lo * sz' + i)) (fun _ => No) :=
                  ⟨fun i c hi => by
                    obtain ⟨D, hD⟩ := hat.rep _ c (hgi i c hi)
                    exact copy1_rep (hone i c hi) hD, fun i c hi => hat.solid _ c (hgi i c hi), fun _ _ h => h.elim, fun _ => Free.no, fun _ _ _ h => h.elim⟩
                refine ⟨κ, Ds, _, _, h, hrow, ?_⟩
                rw [g4]
                refine Src.ofList hu (by rw [vals_length, hln]; rfl) hes (fun hn => by rw [q7] at hn; cases hn) (fun ad had j u hj => ?_) (hrow.one h1)
                rw [q7, Option.some.injEq] at had
                subst had
                rw [vals_get] at hj
                simp only [Option.map_eq_some_iff] at hj
                obtain ⟨c, hc, rfl⟩ := hj
                rw [Addr.add_lit, Nat.add_assoc, hat.cell _ c (hgi j c hc), Nat.zero_add]
          · simp only [Option.bind_eq_some_iff] at he
            obtain ⟨⟨u, σ1⟩, hu1, he⟩ := he
            obtain ⟨κ1, Ds1, k1, D, c1, c2, c3, c4, c5, c6, c7⟩ := h.cons hC hu1
            split at he
            · rename_i sz2 ds2 hu2
              split at he
              · rename_i hsz2
                simp only [Option.some.injEq, Prod.mk.injEq] at he
                obtain ⟨rfl, rfl, rfl⟩ := he
                simp only at hu2 hsz2
                subst hu2 hsz2
                obtain ⟨f, Dk, r1, r2, r3, r4⟩ := own_row c2 c4
                obtain ⟨_, m1, m2, _⟩ := c2.own_cap
                refine ⟨κ1, Ds1, f, Dk, c1, r1, ?_⟩
                rw [← c3]
                exact Src.ofList hu (by rw [vals_length]; exact m1.symm) hes (fun hn => by rw [r3 hn]; rfl) r4 (r1.one h1)
              · cases he
            · cases he
        · cases he
      · cases he
    · rename_i m sz cs hl
      obtain ⟨k, g1, g2, g3, g4, g5⟩ := h.slc hl
      split at he
      · rename_i hsz
        simp only [Option.some.injEq, Prod.mk.injEq] at he
        obtain ⟨rfl, rfl, rfl⟩ := he
        simp only [Slc.tree] at g2
        have hm := g5 _ _ _ rfl
        generalize hkk : k = kk at g2
        cases g2 with
        | own => exact absurd rfl hm
        | own0 => exact absurd rfl hm
        | @look _ _ _ _ A cap kid n b off hm' hsz' hn hc hA hp hs hv hk =>
          subst hkk
          have hrow : Row C Ds w cs kid (fun _ => No) := ⟨hk, hs, fun _ _ h => h.elim, fun _ => Free.no, fun _ _ _ h => h.elim⟩
          refine ⟨κ, Ds, kid, fun _ => No, h, hrow, ?_⟩
          rw [g4]
          have hn' : cs.length / sz = n := by rw [← hn, Nat.mul_div_cancel _ hsz']
          refine Src.ofList hu ?_ hes (fun hn => ?_) (fun ad had j u hj => ?_) (hrow.one h1)
          · rw [vals_length]
            rcases hsz with rfl | rfl
            · simp only [Slc.len]; rw [hn', hn]
            · simp [Slc.len]
          · by_cases hc0 : cs = []
            · subst hc0; rfl
            · rw [K.A, (hA hc0).1] at hn; cases hn
          · rw [vals_get] at hj
            simp only [Option.map_eq_some_iff] at hj
            obtain ⟨c, hc, rfl⟩ := hj
            have hne : cs ≠ [] := by rintro rfl; simp at hc
            rw [K.A, (hA hne).1, Option.some.injEq] at had
            subst had
            rw [Addr.add_lit, hv j c hc, Nat.zero_add]
      · cases he
    · cases he
  · rename_i hu
    split at he
    · rename_i s hy
      split at he
      · rename_i h1s
        subst h1s
        simp only [Option.some.injEq, Prod.mk.injEq] at he
        obtain ⟨rfl, rfl, rfl⟩ := he
        have e1 := h.eval y
        rw [hy] at e1
        simp only [val] at e1
        have hget : ∀ (i : Nat) (c : T), (byteT s)[i]? = some c → ∃ b : UInt8, c = T.sc (.int .u8 b.toNat) := by
          intro i c hi
          simp only [byteT, List.getElem?_map, Option.map_eq_some_iff] at hi
          obtain ⟨b, _, rfl⟩ := hi
          exact ⟨b, rfl⟩
        refine ⟨κ, Ds, fun _ => .leaf, fun _ => No, h, ⟨fun i c hi => ?_, fun i c hi => ?_, fun _ _ h => h.elim, fun _ => Free.no, fun _ _ _ h => h.elim⟩, ?_⟩
        · obtain ⟨b, rfl⟩ := hget i c hi; exact Rep.sc rfl
        · obtain ⟨b, rfl⟩ := hget i c hi; rfl
        · rw [e1]
          have : vals (byteT s) (fun _ => .leaf) 0 = byteCells s := by
            apply List.ext_getElem?
            intro j
            rw [vals_get]
            simp only [byteT, byteCells, List.getElem?_map, Option.map_map]
            rfl
          rw [this]
          exact Src.ofString w hu s
      · cases he
    · cases he
  · cases he

def zsize (P : Program) (e : TypeId) : Option Nat := ((P.info? e).bind (·.zero)).map fun z => z.cells.size
/-- The list that is appended to. -/
def S.lst (σ : S) (es : Nat) (x : Operand) : Option (List T × S) :=
  match x with
  | .const (.slice none 0 0) => some ([], σ)
  | _ => (σ.cons x).bind fun u => match u.1 with
    | .nd false .own sz cs => if sz = es then some (cs, u.2) else none
    | _ => none
theorem lst_ok (hC : C.Ok) (h : SR C σ κ Ds a.tmps w) {es : Nat} {x : Operand} {cs : List T} {σ' : S} (hes : 0 < es) (he : σ.lst es x = some (cs, σ')) :
    ∃ κ' Ds' k D, SR C σ' κ' Ds' a.tmps w ∧ Rep w C.St C.Vw (.sl .own es cs) k D ∧ val (.sl .own es cs) k = a.eval x ∧ Free C Ds' D ∧ (∀ s x, Ds' s x → Ds s x) ∧ (∀ x, D x → ∃ s, Ds s x) := by
  unfold S.lst at he
  split at he
  · simp only [Option.some.injEq, Prod.mk.injEq] at he
    obtain ⟨rfl, rfl⟩ := he
    exact ⟨κ, Ds, .mk none 0 fun _ => .leaf, No, h, .own0 hes, by simp [val, K.A, K.cap, Act.eval], Free.no, fun _ _ h => h, fun _ h => h.elim⟩
  · simp only [Option.bind_eq_some_iff] at he
    obtain ⟨⟨u, σ1⟩, hu1, he⟩ := he
    obtain ⟨κ1, Ds1, k1, D, c1, c2, c3, c4, c5, c6, c7⟩ := h.cons hC hu1
    split at he
    · rename_i sz2 ds2 hu2
      split at he
      · rename_i hsz2
        simp only [Option.some.injEq, Prod.mk.injEq] at he
        obtain ⟨rfl, rfl⟩ := he
        simp only at hu2 hsz2
        subst hu2 hsz2
        exact ⟨κ1, Ds1, k1, D, c1, c2, c3, c4, c6, c7⟩
      · cases he
    · cases he

def appendV (P : Program) (σ : S) (ts : Array TypeId) (x y : Operand) : Option (T × S) :=
  match ts[0]?, ts[1]? with
  | some t, some tx =>
    match P.underlying t with
    | some (.slice e) =>
      (zsize P e).bind fun es => (srcT P σ tx es y).bind fun q => (q.2.2.lst es x).bind fun u =>
        if (0 < es ∧ P.cellsOf e = es ∧ q.1.all T.one = true) ∧ (u.1.length / es + q.2.1) * P.bytesOf e ≤ 140737488355328 ∧ u.1.length / es + q.2.1 ≤ 9223372036854775807 then some (.sl .own es (u.1 ++ q.1), u.2) else none
    | _ => none
  | _, _ => none
theorem appendV_val (hC : C.Ok) {o : Oper} {ts : Array TypeId} {x y : Operand} (hts : ts.size = 2) (ho : o.op = .call { callee := .builtin .append, args := #[x, y], argTypes := ts }) {t : T} {σ' : S} (he : appendV C.P σ ts x y = some (t, σ')) : ValOk C o σ t σ' := by
  intro κ Ds a w h
  unfold appendV at he
  split at he
  · rename_i t0 tx ht0 htx
    have hts' : ts = #[t0, tx] := by
      apply Array.ext'
      apply List.ext_getElem?
      intro i
      match i with
      | 0 => simpa using ht0
      | 1 => simpa using htx
      | i + 2 => simp [hts]
    split at he
    · rename_i e hu
      simp only [Option.bind_eq_some_iff] at he
      obtain ⟨es, hes, ⟨ds, n, σ1⟩, hsrc, ⟨cs, σ2⟩, hlst, he⟩ := he
      simp only at hlst he
      split at he
      · rename_i hok
        obtain ⟨⟨k1, k2, k3⟩, k4, k5⟩ := hok
        simp only [Option.some.injEq, Prod.mk.injEq] at he
        obtain ⟨rfl, rfl⟩ := he
        simp only [zsize, Option.map_eq_some_iff, Option.bind_eq_some_iff] at hes
        obtain ⟨z, ⟨info, hinfo, hz⟩, hzs⟩ := hes
        have hisz : info.size = es := by rw [← k2]; simp [Program.cellsOf, hinfo]
        have hbytes : C.P.bytesOf e = info.bytes := by simp [Program.bytesOf, hinfo]
        obtain ⟨κ1, Ds1, g, Dg, a1, a2, a3⟩ := srcT_ok hC h k1 hsrc k3
        obtain ⟨κ2, Ds2, k, D, b1, b2, b3, b4, b5, b6⟩ := lst_ok hC a1 k1 hlst
        have hrow : Row C Ds2 w ds g Dg := ⟨a2.rep, a2.solid, a2.out, fun i => (a2.free i).sub b5, a2.dis⟩
        obtain ⟨v, w', k', D', e1, e2, e3, e4, e5, e6⟩ := append_run hC b1 b2 b4 hrow (fun i x hx hx' => by
            obtain ⟨s, hs⟩ := b6 x hx'
            exact (a2.free i).dis s x hs hx) (t := t0) (ty := o.type) hu hinfo hz hisz hzs (by rw [hisz]; exact a3) (by rw [← hbytes]; exact k4) (by omega)
        refine ⟨v, w', κ2, Ds2, k', D', ?_, e2, e3, e4, e5, .solid rfl⟩
        subst hts'
        rw [b3] at e1
        simp [execOp, ho, resolve, invoke, builtin, e1]
      · cases he
    · cases he
  · cases he
end Go.Proofs.Ytnbahnpckfelpaa.VL
