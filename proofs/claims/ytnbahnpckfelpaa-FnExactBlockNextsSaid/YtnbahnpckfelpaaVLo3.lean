import Derived.Test.YtnbahnpckfelpaaVLo2
/-! VL, part O3: a call that lends; a call of a function value. -/
namespace Go.Proofs.Ytnbahnpckfelpaa.VL
open Go.RowKit
set_option linter.unusedVariables false
variable {C : Ctx} {σ : S} {κ : Nat → K} {Ds : Nat → Nat → Prop} {a : Act} {tmps : Array Value} {w : World}

/-- What is lent: where it lies, and its tree. -/
def lendT (σ : S) : T → Option (Nat × List Nat × T)
  | .rf st s p 0 n sz => if st = σ.st s then (match getP (σ.sl s) p with
      | some (.nd false .own sz' cs) => if sz' = sz ∧ n * sz = cs.length then some (s, p, .nd false .own sz' cs) else none
      | _ => none) else none
  | .ad st s p 0 => if st = σ.st s then (match getP (σ.sl s) p with
      | some (.nd true .own sz cs) => some (s, p, .nd true .own sz cs)
      | _ => none) else none
  | _ => none
def lendP (σ : S) (x : Operand) : Option (Nat × List Nat × T) :=
  match x with
  | .tmp d =>
    match σ.sl d with
    | .nd ptr .own sz cs => some (d, [], .nd ptr .own sz cs)
    | t => lendT σ t
  | _ => none
def S.hold (σ : S) (s : Nat) (p : List Nat) : S := if p = [] then σ.kill s else σ.setAtB s p .dead
def S.back (σ : S) (s : Nat) (p : List Nat) (t : T) : S := ⟨upd σ.sl s (setP (σ.sl s) p t), upd σ.st s (σ.st s + 2), σ.pt⟩
theorem back_sl (σ : S) (s : Nat) (p : List Nat) (t : T) (i : Nat) : (σ.back s p t).sl i = if i = s then setP (σ.sl s) p t else σ.sl i := rfl
theorem back_st (σ : S) (s : Nat) (p : List Nat) (t : T) (i : Nat) : (σ.back s p t).st i = if i = s then σ.st s + 2 else σ.st i := rfl
theorem back_pt (σ : S) (s : Nat) (p : List Nat) (t : T) (i : Nat) : (σ.back s p t).pt i = σ.pt i := rfl
/-- The same place, the same room. -/
def sameHead : T → T → Bool
  | .nd ptr .own sz cs, .nd ptr' .own sz' cs' => ptr == ptr' && sz == sz' && cs.length / sz == cs'.length / sz
  | _, _ => false

theorem sameHead_val {t t' : T} {k k' : K} (h : sameHead t t' = true) (hA : k'.A = k.A ∧ k'.cap = k.cap) : val t' k' = val t k := by
  unfold sameHead at h
  split at h
  · rename_i ptr sz cs ptr' sz' cs'
    simp only [Bool.and_eq_true, beq_iff_eq] at h
    obtain ⟨⟨rfl, rfl⟩, h3⟩ := h
    cases ptr <;> simp [val, hA.1, hA.2, h3]
  · cases h
theorem sameHead_inv {t t' : T} (h : sameHead t t' = true) : ∃ ptr sz cs cs', t = .nd ptr .own sz cs ∧ t' = .nd ptr .own sz cs' := by
  unfold sameHead at h
  split at h
  · rename_i ptr sz cs ptr' sz' cs'
    simp only [Bool.and_eq_true, beq_iff_eq] at h
    obtain ⟨⟨rfl, rfl⟩, h3⟩ := h
    exact ⟨_, _, _, _, rfl, rfl⟩
  · cases h
theorem sameHead_solid {t t' : T} (h : sameHead t t' = true) : t'.solid = true ∧ t.solid = true ∧ t.closed = true ∧ t'.closed = true ∧ t' ≠ .dead := by
  unfold sameHead at h
  split at h
  · exact ⟨rfl, rfl, rfl, rfl, by simp⟩
  · cases h

theorem Rep.sz_pos {St Vw : Nat → Prop} {ptr : Bool} {m : Md} {sz : Nat} {cs : List T} {k : K} {D : Nat → Prop} (h : Rep w St Vw (.nd ptr m sz cs) k D) : 0 < sz := by
  generalize ht : T.nd ptr m sz cs = t at h
  cases h <;> simp_all
theorem lendT_ok (h : SR C σ κ Ds tmps w) {u t : T} {k : K} {s : Nat} {p : List Nat} (hr : RefOk σ κ u k) (he : lendT σ u = some (s, p, t)) :
    getP (σ.sl s) p = some t ∧ val t (getK (κ s) p) = val u k ∧ t.solid = true ∧ t.closed = true := by
  unfold lendT at he
  split at he
  · rename_i st s' p' n sz
    split at he
    · rename_i hst
      split at he
      · rename_i sz' cs hg
        split at he
        · rename_i hn
          obtain ⟨rfl, hn⟩ := hn
          simp only [Option.some.injEq, Prod.mk.injEq] at he
          obtain ⟨rfl, rfl, rfl⟩ := he
          refine ⟨hg, ?_, rfl, rfl⟩
          cases hr with
          | solid h => simp [T.solid] at h
          | rf hle hrf =>
            obtain ⟨cs', g1, g2, g3, g4, g5⟩ := hrf hst
            obtain ⟨g6, g7⟩ := g5 rfl
            obtain ⟨D', r1, r2⟩ := (h.rep s').get hg
            have hsz : 0 < sz' := r1.sz_pos
            simp only [val, g6, g7, ← hn, Nat.mul_div_cancel _ hsz]
        · cases he
      · cases he
    · cases he
  · rename_i st s' p'
    split at he
    · rename_i hst
      split at he
      · rename_i sz cs hg
        simp only [Option.some.injEq, Prod.mk.injEq] at he
        obtain ⟨rfl, rfl, rfl⟩ := he
        refine ⟨hg, ?_, rfl, rfl⟩
        cases hr with
        | solid h => simp [T.solid] at h
        | ad hle hrf =>
          obtain ⟨ptr, sz', cs', b, off, g1, g2, g3⟩ := hrf hst
          simp only [val, g2, g3, Nat.add_zero]
      · cases he
    · cases he
  · cases he
theorem lendP_ok (h : SR C σ κ Ds a.tmps w) {x : Operand} {t : T} {s : Nat} {p : List Nat} (he : lendP σ x = some (s, p, t)) :
    getP (σ.sl s) p = some t ∧ val t (getK (κ s) p) = a.eval x ∧ t.solid = true ∧ t.closed = true := by
  unfold lendP at he
  split at he
  · rename_i d
    have hev := h.eval (.tmp d)
    split at he
    · rename_i ptr sz cs hd
      simp only [Option.some.injEq, Prod.mk.injEq] at he
      obtain ⟨rfl, rfl, rfl⟩ := he
      refine ⟨by simp [hd], ?_, rfl, rfl⟩
      rw [hev]; simp only [S.opd, opdK, getK, hd]
    · rename_i hd
      obtain ⟨h1, h2, h3, h4⟩ := lendT_ok h (h.ref d) he
      exact ⟨h1, h2.trans hev.symm, h3, h4⟩
  · cases he

theorem SR.setPt (h : SR C σ κ Ds tmps w) (pt : Nat → Nat) (hp : ∀ i, pt i = 0 → (κ i).A = (C.ks i).A ∧ (κ i).cap = (C.ks i).cap) : SR C ⟨σ.sl, σ.st, pt⟩ κ Ds tmps w := by
  have ref : ∀ {t : T} {k : K}, RefOk σ κ t k → RefOk ⟨σ.sl, σ.st, pt⟩ κ t k := fun h => by
    induction h with
    | solid h => exact .solid h
    | ra => exact .ra
    | rf h1 h2 => exact .rf h1 h2
    | ad h1 h2 => exact .ad h1 h2
    | gp _ ih => exact .gp ih
  exact ⟨h.size, h.vals, h.rep, h.dis, h.own, fun s => ref (h.ref s), hp, h.fr⟩

theorem getK_setK {St Vw : Nat → Prop} : ∀ {p : List Nat} {t t' : T} {k x : K} {D : Nat → Prop}, Rep w St Vw t k D → getP t p = some t' → getK (setK k p x) p = x
  | [], _, _, _, _, _, _, _ => by simp [setK, getK]
  | c :: p, t, t', k, x, D, h, hg => by
    cases h with
    | own n b off arr e fz Ds hsz hn hc hh hf hcap hs hv hk hout hb hd hD =>
      simp only [getP, Option.bind_eq_some_iff] at hg
      obtain ⟨y, hy, hg⟩ := hg
      simp only [setK, getK, K.kid, if_true]
      exact getK_setK (hk c y hy) hg
    | own0 => simp [getP] at hg
    | look n b off hm => cases ‹Md› <;> simp [getP] at hg; exact absurd rfl hm
    | _ => simp [getP] at hg
theorem getP_setP : ∀ {p : List Nat} {t t' x : T}, getP t p = some t' → getP (setP t p x) p = some x
  | [], _, _, _, _ => by simp
  | c :: p, t, t', x, h => by
    obtain ⟨ptr, sz, cs, rfl⟩ := getP_cons h
    simp only [getP, Option.bind_eq_some_iff] at h
    obtain ⟨y, hy, h⟩ := h
    have hlt := (List.getElem?_eq_some_iff.1 hy).1
    simp only [setP, hy, Option.getD_some, getP]
    rw [List.getElem?_set_self hlt]
    exact getP_setP h
theorem setP_setP : ∀ {p : List Nat} {t t' x y : T}, getP t p = some t' → setP (setP t p x) p y = setP t p y
  | [], _, _, _, _, _ => by simp
  | c :: p, t, t', x, y, h => by
    obtain ⟨ptr, sz, cs, rfl⟩ := getP_cons h
    simp only [getP, Option.bind_eq_some_iff] at h
    obtain ⟨z, hz, h⟩ := h
    have hlt := (List.getElem?_eq_some_iff.1 hz).1
    simp only [setP, hz, Option.getD_some]
    rw [List.getElem?_set_self hlt]
    simp only [Option.getD_some, List.set_set, setP_setP h]

/-- What is lent is held back while the call lasts; then it is put back as the callee left it. -/
theorem SR.lend (hC : C.Ok) (h : SR C σ κ Ds tmps w) {s : Nat} {p : List Nat} {t : T} (hg : getP (σ.sl s) p = some t) (hsol : t.solid = true) :
    ∃ κh Dsh D, SR C (σ.hold s p) κh Dsh tmps w ∧ Rep w C.St C.Vw t (getK (κ s) p) D ∧ Free C Dsh D ∧ (∀ s x, Dsh s x → Ds s x) ∧ (∀ x, D x → Ds s x) ∧
      ∀ (w' : World) (Dsh' : Nat → Nat → Prop) (t' : T) (k' : K) (D' : Nat → Prop), SR C (σ.hold s p) κh Dsh' tmps w' → Rep w' C.St C.Vw t' k' D' → Free C Dsh' D' → sameHead t t' = true → k'.A = (getK (κ s) p).A ∧ k'.cap = (getK (κ s) p).cap →
        ∃ κ2 Ds2, SR C (σ.back s p t') κ2 Ds2 tmps w' ∧ (∀ s x, Ds2 s x → Dsh' s x ∨ D' x) := by
  by_cases hp : p = []
  · subst hp
    simp at hg; subst hg
    refine ⟨_, _, Ds s, by simpa [S.hold] using h.kill s, by simpa [getK] using h.rep s, h.freed s, fun s' x hx => ?_, fun _ h => h, ?_⟩
    · by_cases hs : s' = s
      · subst hs; simp at hx; exact hx.elim
      · simpa [upd_ne _ _ _ _ hs] using hx
    · intro w' Dsh' t' k' D' g1 g2 g3 g4 g5
      simp only [S.hold, if_true] at g1
      have hv := sameHead_val (k := κ s) (k' := k') g4 (by simpa [getK] using g5)
      have hsl : s < C.n := by
        rw [← h.size]
        refine Classical.byContradiction fun hlt => ?_
        have := h.vals s
        rw [Array.getD_eq_getD_getElem?, Array.getElem?_eq_none (by omega)] at this
        obtain ⟨ptr, sz, cs, cs', e1, _⟩ := sameHead_inv g4
        rw [e1] at this
        cases ptr <;> simp [val, undef] at this
      have g6 := g1.put hsl g2 (fun s x _ hx => g3.dis s x hx) g3.own (.solid (sameHead_solid g4).1)
      have ht : tmps.setIfInBounds s (val t' k') = tmps := by
        rw [hv, ← h.vals s]
        apply Array.ext
        · simp
        · intro i h1 h2
          by_cases hi : i = s
          · subst hi; simp [Array.getD_eq_getD_getElem?, h2]
          · rw [Array.getElem_setIfInBounds h2, if_neg (fun e => hi e.symm)]
      rw [ht] at g6
      have g7 := g6.setPt σ.pt fun i hi => by
        by_cases his : i = s
        · subst his
          have := h.par i hi
          simp only [upd_same]
          exact ⟨(by simpa [getK] using g5.1 : k'.A = (κ i).A).trans this.1, (by simpa [getK] using g5.2 : k'.cap = (κ i).cap).trans this.2⟩
        · have := h.par i hi
          simp only [upd_ne _ _ _ _ his]; exact this
      have e : (⟨((σ.kill s).put s t').sl, ((σ.kill s).put s t').st, σ.pt⟩ : S) = σ.back s [] t' := by
        simp only [S.back, S.put, S.kill, setP_nil]
        congr 1
        · funext i; by_cases hi : i = s <;> simp [upd, hi]
        · funext i; by_cases hi : i = s <;> simp [upd, hi]
      rw [e] at g7
      exact ⟨_, _, g7, fun i x hx => by
        by_cases hi : i = s
        · subst hi; simp at hx; exact .inr hx
        · simp only [upd_ne _ _ _ _ hi] at hx; exact .inl hx⟩
  · obtain ⟨D, h1, h2, h3⟩ := h.set hC hg
    obtain ⟨r, _⟩ := h3 w .dead (.lit (val t (getK (κ s) p))) No .dead (by simp [val]) rfl (fun e => absurd e hp) (fun _ _ _ => rfl) (fun _ h => h.elim) h.fr
    refine ⟨_, _, D, by simpa [S.hold, hp] using r, h1, ⟨fun s' x hx hx' => ?_, fun x hx => h.own s x (h2 x hx)⟩, fun s' x hx => ?_, h2, ?_⟩
    · by_cases hs : s' = s
      · subst hs; simp only [upd_same] at hx
        exact hx.elim (fun hx => hx.2 hx') fun h => h
      · simp only [upd_ne _ _ _ _ hs] at hx; exact hs (h.dis s' s x hx (h2 x hx'))
    · by_cases hs : s' = s
      · subst hs; simp only [upd_same] at hx; exact hx.elim (fun hx => hx.1) (fun h => h.elim)
      · simpa only [upd_ne _ _ _ _ hs] using hx
    · intro w' Dsh' t' k' D' g1 g2 g3 g4 g5
      simp only [S.hold, hp, if_false] at g1
      have hg' : getP ((σ.setAtB s p .dead).sl s) p = some .dead := by
        simp only [S.setAtB, upd_same]; exact getP_setP hg
      obtain ⟨D0, q1, q2, q3⟩ := g1.set hC hg'
      have hD0 : ∀ x, ¬ D0 x := by
        intro x hx
        cases q1 with
        | dead => exact hx
      have hk : getK (upd κ s (setK (κ s) p (.lit (val t (getK (κ s) p)))) s) p = .lit (val t (getK (κ s) p)) := by
        rw [upd_same]; exact getK_setK (h.rep s) hg
      obtain ⟨q4, _⟩ := q3 w' t' k' D' g2 (by rw [hk, sameHead_val g4 g5]; rfl) (sameHead_solid g4).1 (fun e => absurd e hp) (fun _ _ _ => rfl)
        (fun x hx => .inr (.inr ⟨fun s hs => g3.dis s x hs hx, g3.own x hx⟩)) g1.fr
      have e : (σ.setAtB s p .dead).setAtB s p t' = σ.back s p t' := by
        simp only [S.back, S.setAtB, upd_same]
        congr 1
        · funext i; by_cases hi : i = s <;> simp [upd, hi, setP_setP hg]
        · funext i; by_cases hi : i = s <;> simp [upd, hi]
      rw [e] at q4
      exact ⟨_, _, q4, fun i x hx => by
        by_cases hi : i = s
        · subst hi; simp only [upd_same] at hx; exact hx.elim (fun h => .inl h.1) .inr
        · simp only [upd_ne _ _ _ _ hi] at hx; exact .inl hx⟩

/-- A call that lends one argument. -/
theorem VOp_lend (hC : C.Ok) {ops : Array Oper} {o : Oper} {K : S → Prop} {f : Nat} {xs : Array Operand} {tys : Array TypeId} (hw : σ.want ops o = some true) (ho : o.op = .call { callee := .value (.func f), args := xs, argTypes := tys })
    (hf : Fun C.P f) (bs : List Bool) (j : Nat) {us : List (Option T)} {σ1 : S} (h1 : takeAs bs xs.toList σ = some (us, σ1)) (hj0 : us[j]? = some none) {x : Operand} (hj : xs.toList[j]? = some x) {s : Nat} {p : List Nat} {t : T} (hl : lendP σ1 x = some (s, p, t))
    {ts : List T} (h2 : lookAs (σ1.hold s p) (us.set j (some t)) xs.toList = some ts) {R : List T → T → Prop} (hg : Gives C.P f ts R)
    (hd : dOk C.n o.dst = true) (hR : ∀ outs r, R outs r → noVw r = true ∧ ∃ t', outs[j]? = some t' ∧ noVw t' = true ∧ sameHead t t' = true ∧ K ((σ1.back s p t').putD o.dst r)) : VOp C ops o K σ := by
  rintro a w ⟨σ0, κ, Ds, rfl, h3, h4⟩ next Q hn
  rw [h3.want hw]
  obtain ⟨κ1, Ds1, f1, Dk, b1, b2, b3, b4, b5, b6, b7, b8⟩ := takeAs_ok hC h3 h1
  obtain ⟨l1, l2, l3, l4⟩ := lendP_ok b1 hl
  obtain ⟨κh, Dsh, D, m1, m2, m3, m4, m5, m6⟩ := b1.lend hC l1 l3
  have hjl : j < us.length := (List.getElem?_eq_some_iff.1 hj0).1
  have key : ∀ (i : Nat) (c : T), (us.set j (some t))[i]? = some (some c) → (i = j ∧ c = t) ∨ (i ≠ j ∧ us[i]? = some (some c)) := fun i c hi => by
    rw [List.getElem?_set] at hi
    by_cases hij : j = i
    · subst hij; simp [hjl] at hi; exact .inl ⟨rfl, hi.symm⟩
    · simp [hij] at hi; exact .inr ⟨fun e => hij e.symm, hi⟩
  have hnoj : ∀ x, ¬ Dk j x := fun x hx => by obtain ⟨c, hc⟩ := b4 j x hx; rw [hj0] at hc; cases hc
  obtain ⟨f2, c1, c2, c3, c4⟩ := lookAs_ok hC m1 (us := us.set j (some t)) (f := fun i => if i = j then getK (κ1 s) p else f1 i) (Dk := fun i => if i = j then D else Dk i) (fun i c hi => by
    rcases key i c hi with ⟨rfl, rfl⟩ | ⟨hij, hi⟩
    · simp only [if_true]; exact ⟨m2, l4, x, hj, l2⟩
    · simp only [hij, if_false]; exact b3 i c hi) (fun i y hy => by
    by_cases hij : i = j
    · subst hij; exact ⟨t, by rw [List.getElem?_set_self hjl]⟩
    · simp only [hij, if_false] at hy
      obtain ⟨c, hc⟩ := b4 i y hy
      exact ⟨c, by rw [List.getElem?_set_ne (fun e => hij e.symm)]; exact hc⟩) h2
  have hlen : ts.length = us.length := by rw [c3, List.length_set]
  have hout : ∀ i y, (if i = j then D else Dk i) y → i < ts.length := fun i y hy => by
    by_cases hij : i = j
    · subst hij; omega
    · simp only [hij, if_false] at hy
      obtain ⟨c, hc⟩ := b4 i y hy
      rw [hlen]; exact (List.getElem?_eq_some_iff.1 hc).1
  have hfree : ∀ i, Free C Dsh (if i = j then D else Dk i) := fun i => by
    by_cases hij : i = j
    · subst hij; simpa using m3
    · simp only [hij, if_false]; exact (b5 i).sub m4
  have hdis : ∀ i i' y, (if i = j then D else Dk i) y → (if i' = j then D else Dk i') y → i = i' := fun i i' y hi hi' => by
    by_cases e1 : i = j <;> by_cases e2 : i' = j
    · omega
    · subst e1; simp only [if_true, e2, if_false] at hi hi'; exact absurd hi' ((b5 i').dis s y (m5 y hi))
    · subst e2; simp only [if_true, e1, if_false] at hi hi'; exact absurd hi ((b5 i).dis s y (m5 y hi'))
    · simp only [e1, e2, if_false] at hi hi'; exact b6 i i' y hi hi'
  have hargs := call_args hC m1 c1 hout hfree hdis
  have hcall := hg w C.St (C.looks Dsh) f2 _ hargs
  have hrun : (execOp a.eval o).run C.P w = .ok (.enter f (vals ts f2 0).toArray) w := by
    have e : xs.map a.eval = (vals ts f2 0).toArray := by rw [c2]; apply Array.ext'; simp
    simp [execOp, ho, resolve, Deferred.ofValue, invoke, Act.eval, e, hf.run]
  simp only [if_true, Oper.wp, hrun, Oper.upon]
  refine hcall.mono fun e w' ⟨outs, r, k, Dr, ks', D', e1, e2, e3, e4⟩ => ?_
  subst e1
  obtain ⟨g1, t', g2, g3, g4, g5⟩ := hR _ _ e2
  obtain ⟨q1, q2, q3, q4, q5⟩ := call_back hC m1 hfree e4 g1
  have hhead := e4.head j t' g2 (sameHead_solid g4).2.2.2.2
  have hf2 : f2 j = getK (κ1 s) p := by
    have := (c4 j t (List.getElem?_set_self hjl)).2
    simpa using this
  rw [hf2] at hhead
  obtain ⟨κ2, Ds2, z1, z2⟩ := m6 w' _ t' _ _ q1 ((e4.reps j t' g2).noVw g3) (q5 j) g4 hhead
  have hfr : Free C Ds2 Dr := ⟨fun s x hx hx' => (z2 s x hx).elim (fun h => q3.dis s x h hx') (fun h => e4.apart j x h hx'), q3.own⟩
  obtain ⟨κ3, Ds3, q6⟩ := z1.putD hd q2 hfr (e4.rep.ref e4.closed)
  exact hn _ _ ⟨_, κ3, Ds3, g5, q6, by cases o.dst <;> exact h4⟩

/-- A call of a function value that lends nothing. -/
theorem VOp_fn (hC : C.Ok) {ops : Array Oper} {o : Oper} {K : S → Prop} {f d : Nat} {xs : Array Operand} {tys : Array TypeId} (hw : σ.want ops o = some true) (ho : o.op = .call { callee := .value (.tmp d), args := xs, argTypes := tys })
    (hf : Fun C.P f) {cs : List T} (bs : List Bool) {us : List (Option T)} {σ1 : S} (h1 : takeAs bs xs.toList σ = some (us, σ1)) (hkeep : σ1.sl d = .gp 2 f cs) {ts caps : List T} (h2 : lookAs σ1 us xs.toList = some ts) (h2' : look1s σ1 cs = some caps)
    {R : List T → T → Prop} (hg : Gives C.P f (ts ++ caps) R)
    (hd : dOk C.n o.dst = true) (hR : ∀ outs t, R outs t → noVw t = true ∧ K (σ1.putD o.dst t)) : VOp C ops o K σ := by
  rintro a w ⟨σ0, κ, Ds, rfl, h3, h4⟩ next Q hn
  rw [h3.want hw]
  obtain ⟨κ1, Ds1, f1, Dk, b1, b2, b3, b4, b5, b6, b7, b8⟩ := takeAs_ok hC h3 h1
  obtain ⟨f2, c1, c2, c3, c4⟩ := lookAs_ok hC b1 b3 b4 h2
  have hrep := b1.rep d
  have href := b1.ref d
  have hev := b1.vals d
  rw [hkeep] at hrep href hev
  obtain ⟨f3, p1, p2⟩ : ∃ f', (∀ (i : Nat) (c : T), caps[i]? = some c → Rep w C.St (C.looks Ds1) c (f' i) No ∧ c.closed = true) ∧ vals caps f' 0 = vals cs (κ1 d).kid 0 := by
    generalize κ1 d = kk at hrep href
    cases hrep with
    | gp Dk' hk' hout' hd' hDD' =>
      cases href with
      | solid h => simp [T.solid] at h
      | gp hrk => exact look1s_ok hC b1 (fun i c hi => ⟨hk' i c hi, hrk i c hi⟩) (fun i x hx => ⟨d, (hDD' x).2 ⟨i, hx⟩⟩) h2'
  have hout : ∀ i x, Dk i x → i < ts.length := fun i x hx => by
    obtain ⟨c, hc⟩ := b4 i x hx
    rw [c3]; exact (List.getElem?_eq_some_iff.1 hc).1
  let F : Nat → VL.K := fun i => if i < ts.length then f2 i else f3 (i - ts.length)
  have hF : vals (ts ++ caps) F 0 = vals ts f2 0 ++ vals caps f3 0 := by
    rw [vals_append]
    congr 1
    · exact vals_congr _ _ _ _ _ fun k hk => by simp [F, hk]
    · exact vals_congr _ _ _ _ _ fun k hk => by simp [F]; intro h; omega
  have hargs := call_args hC b1 (ts := ts ++ caps) (f := F) (Dk := Dk) (fun i c hi => by
    by_cases hlt : i < ts.length
    · rw [List.getElem?_append_left hlt] at hi; simpa [F, hlt] using c1 i c hi
    · rw [List.getElem?_append_right (by omega)] at hi
      have := p1 _ c hi
      simp only [F, hlt, if_false]
      exact ⟨this.1.congrD fun x => ⟨fun h => h.elim, fun h => absurd (hout i x h) hlt⟩, this.2⟩) (fun i x hx => by have := hout i x hx; simp; omega) b5 b6
  have hcall := hg w C.St (C.looks Ds1) F Dk hargs
  have hev' : a.eval (.tmp d) = .func (.func f) #[] (vals caps f3 0).toArray := by
    rw [p2]; exact hev
  have hrun : (execOp a.eval o).run C.P w = .ok (.enter f (vals (ts ++ caps) F 0).toArray) w := by
    have e : xs.map a.eval = (vals ts f2 0).toArray := by rw [c2]; apply Array.ext'; simp
    have e2 : (vals (ts ++ caps) F 0).toArray = xs.map a.eval ++ (vals caps f3 0).toArray := by rw [e, hF]; simp
    rw [e2]
    have hr := hf.run (xs.map a.eval ++ (vals caps f3 0).toArray) w
    simp only [execOp, ho, resolve, hev', Deferred.ofValue, invoke]
    simpa using hr
  simp only [if_true, Oper.wp, hrun, Oper.upon]
  refine hcall.mono fun e w' ⟨outs, t, k, D, ks', D', e1, e2, e3, e4⟩ => ?_
  subst e1
  obtain ⟨g1, g2⟩ := hR _ _ e2
  obtain ⟨q1, q2, q3, q4, q5⟩ := call_back hC b1 b5 e4 g1
  obtain ⟨κ3, Ds3, q6⟩ := q1.putD hd q2 q3 q4
  exact hn _ _ ⟨_, κ3, Ds3, g2, q6, by cases o.dst <;> exact h4⟩
end Go.Proofs.Ytnbahnpckfelpaa.VL
