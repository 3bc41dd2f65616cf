import Derived.Test.YtnbahnpckfelpaaVLa
/-! VL, part B: paths into trees; what is only looked at. -/
namespace Go.Proofs.Ytnbahnpckfelpaa.VL
open Go.RowKit
set_option linter.unusedVariables false

def getP : T → List Nat → Option T
  | t, [] => some t
  | .nd _ .own _ cs, c :: p => (cs[c]?).bind fun x => getP x p
  | _, _ :: _ => none
def setP : T → List Nat → T → T
  | _, [], x => x
  | .nd ptr .own sz cs, c :: p, x => .nd ptr .own sz (cs.set c (setP (cs[c]?.getD .dead) p x))
  | t, _ :: _, _ => t
def getK : K → List Nat → K
  | k, [] => k
  | k, c :: p => getK (k.kid c) p
def setK : K → List Nat → K → K
  | _, [], x => x
  | .mk A cap kid, c :: p, x => .mk A cap fun i => if i = c then setK (kid c) p x else kid i
  | k, _ :: _, _ => k

@[simp] theorem getP_nil (t : T) : getP t [] = some t := by unfold getP; rfl
@[simp] theorem setP_nil (t x : T) : setP t [] x = x := by unfold setP; rfl

theorem Rep.get {w St Vw} : ∀ {p : List Nat} {t : T} {k : K} {D : Nat → Prop} {t' : T}, Rep w St Vw t k D → getP t p = some t' →
    ∃ D', Rep w St Vw t' (getK k p) D' ∧ ∀ x, D' x → D x
  | [], t, k, D, t', h, hg => by
    simp at hg; subst hg
    exact ⟨D, h, fun _ h => h⟩
  | c :: p, t, k, D, t', h, hg => by
    cases h with
    | own n b off arr e fz Ds hsz hn hc hh hf hcap hs hv hk hout hb hd hD =>
      simp only [getP, Option.bind_eq_some_iff] at hg
      obtain ⟨y, hy, hg⟩ := hg
      obtain ⟨D', h1, h2⟩ := Rep.get (hk c y hy) hg
      exact ⟨D', h1, fun x hx => (hD x).2 (.inr ⟨c, h2 x hx⟩)⟩
    | own0 => simp [getP] at hg
    | look n b off hm => cases ‹Md› <;> simp [getP] at hg; exact absurd rfl hm
    | _ => simp [getP] at hg

theorem setK_A (k : K) (c : Nat) (p : List Nat) (x : K) : (setK k (c :: p) x).A = k.A ∧ (setK k (c :: p) x).cap = k.cap := by
  cases k <;> simp [setK, K.A, K.cap]
theorem getP_cons {t t' : T} {c : Nat} {p : List Nat} (h : getP t (c :: p) = some t') : ∃ ptr sz cs, t = .nd ptr .own sz cs := by
  cases t with
  | nd ptr m sz cs =>
    cases m with
    | own => exact ⟨ptr, sz, cs, rfl⟩
    | _ => simp [getP] at h
  | _ => simp [getP] at h
theorem val_setP_cons {t t' x : T} {k kx : K} {c : Nat} {p : List Nat} (h : getP t (c :: p) = some t') : val (setP t (c :: p) x) (setK k (c :: p) kx) = val t k := by
  obtain ⟨ptr, sz, cs, rfl⟩ := getP_cons h
  obtain ⟨h1, h2⟩ := setK_A k c p kx
  cases ptr <;> simp [setP, val, h1, h2]
theorem solid_setP_cons {t t' x : T} {c : Nat} {p : List Nat} (h : getP t (c :: p) = some t') : (setP t (c :: p) x).solid = true := by
  obtain ⟨ptr, sz, cs, rfl⟩ := getP_cons h
  simp [setP, T.solid]

/-- What stands at a path is replaced by what has the same value there. -/
theorem Rep.set {w St Vw} : ∀ {p : List Nat} {t : T} {k : K} {D : Nat → Prop} {t' : T}, Rep w St Vw t k D → getP t p = some t' →
    ∃ D', Rep w St Vw t' (getK k p) D' ∧ (∀ x, D' x → D x) ∧
      ∀ (w' : World) (t'' : T) (k'' : K) (D'' : Nat → Prop), Rep w' St Vw t'' k'' D'' → (p ≠ [] → val t'' k'' = val t' (getK k p) ∧ t''.solid = true) →
        (∀ x, ((D x ∧ ¬ D' x) ∨ St x ∨ Vw x) → w'.heap[x]? = w.heap[x]?) → (∀ x, D'' x → D x → D' x) →
        Rep w' St Vw (setP t p t'') (setK k p k'') (fun x => (D x ∧ ¬ D' x) ∨ D'' x)
  | [], t, k, D, t', h, hg => by
    simp at hg; subst hg
    refine ⟨D, h, fun _ h => h, fun w' t'' k'' D'' h1 _ _ _ => ?_⟩
    simp only [setP_nil, setK]
    exact h1.congrD fun x => ⟨.inr, fun hx => hx.elim (fun hx => absurd hx.1 hx.2) id⟩
  | c :: p, t, k, D, t', h, hg => by
    cases h with
    | @own ptr sz cs cap kid _ n b off arr e fz Ds hsz hn hc hh hf hcap hs hv hk hout hb hd hD =>
      simp only [getP, Option.bind_eq_some_iff] at hg
      obtain ⟨y, hy, hg⟩ := hg
      obtain ⟨D', h1, h2, h3⟩ := Rep.set (hk c y hy) hg
      refine ⟨D', h1, fun x hx => (hD x).2 (.inr ⟨c, h2 x hx⟩), fun w' t'' k'' D'' k1 k2 k3 k4 => ?_⟩
      obtain ⟨hval, hsol⟩ := k2 (by simp)
      have hDc : ∀ x, Ds c x → D x := fun x hx => (hD x).2 (.inr ⟨c, hx⟩)
      have hne : ∀ i x, i ≠ c → Ds i x → D x ∧ ¬ D' x := fun i x hi hx => ⟨(hD x).2 (.inr ⟨i, hx⟩), fun hx' => hi (hd i c x hx (h2 x hx'))⟩
      have hbb : D b ∧ ¬ D' b := ⟨(hD b).2 (.inl rfl), fun hx => hb c b (h2 b hx) rfl⟩
      have r := h3 w' t'' k'' D'' k1 (fun hp => ⟨by simpa [getK, K.kid] using hval, hsol⟩) (fun x hx => k3 x (hx.elim (fun hx => .inl ⟨hDc x hx.1, hx.2⟩) .inr)) (fun x hx hx' => k4 x hx (hDc x hx'))
      have hlt : c < cs.length := (List.getElem?_eq_some_iff.1 hy).1
      have hvv : val (setP y p t'') (setK (kid c) p k'') = val y (kid c) := by
        cases p with
        | nil => simp at hg; subst hg; simpa [setK, getK, K.kid] using hval
        | cons c' p' => exact val_setP_cons hg
      have hss : (setP y p t'').solid = true := by
        cases p with
        | nil => simpa using hsol
        | cons c' p' => exact solid_setP_cons hg
      simp only [setP, setK, hy, Option.getD_some]
      have key : ∀ i d, (cs.set c (setP y p t''))[i]? = some d → (i = c ∧ d = setP y p t'') ∨ (i ≠ c ∧ cs[i]? = some d) := by
        intro i d hi
        rw [List.getElem?_set] at hi
        by_cases hic : c = i
        · subst hic; simp [hlt] at hi; exact .inl ⟨rfl, hi.symm⟩
        · simp [hic] at hi; exact .inr ⟨fun e => hic e.symm, hi⟩
      refine .own n b off arr e fz (fun i x => if i = c then (Ds c x ∧ ¬ D' x) ∨ D'' x else Ds i x) hsz (by simpa using hn) hc ((k3 b (.inl hbb)).trans hh) hf hcap
        (fun i d hi => ?_) (fun i d hi => ?_) (fun i d hi => ?_) (fun i x hx => ?_) (fun i x hx => ?_) (fun i j x hi hj => ?_) (fun x => ?_)
      · rcases key i d hi with ⟨rfl, rfl⟩ | ⟨hic, hi⟩
        · exact hss
        · exact hs i d hi
      · rcases key i d hi with ⟨rfl, rfl⟩ | ⟨hic, hi⟩
        · simp only [if_true, hvv]; exact hv _ y hy
        · simp only [hic, if_false]; exact hv i d hi
      · rcases key i d hi with ⟨rfl, rfl⟩ | ⟨hic, hi⟩
        · simp only [if_true]; exact r
        · simp only [hic, if_false]
          exact (hk i d hi).keep fun x hx => k3 x (hx.elim (fun hx => .inl (hne i x hic hx)) .inr)
      · by_cases hic : i = c
        · subst hic; simpa using hlt
        · simp only [hic, if_false] at hx; simpa using hout i x hx
      · by_cases hic : i = c
        · subst hic
          simp only [if_true] at hx
          rcases hx with hx | hx
          · exact hb _ x hx.1
          · rintro rfl
            exact hbb.2 (k4 _ hx hbb.1)
        · simp only [hic, if_false] at hx; exact hb i x hx
      · by_cases hic : i = c <;> by_cases hjc : j = c
        · omega
        · subst hic
          simp only [if_true] at hi
          simp only [hjc, if_false] at hj
          have := hne j x hjc hj
          rcases hi with hi | hi
          · exact absurd (hd _ _ x hi.1 hj) (fun e => hjc e.symm)
          · exact absurd (k4 x hi this.1) this.2
        · subst hjc
          simp only [if_true] at hj
          simp only [hic, if_false] at hi
          have := hne i x hic hi
          rcases hj with hj | hj
          · exact absurd (hd _ _ x hj.1 hi) (fun e => hic e.symm)
          · exact absurd (k4 x hj this.1) this.2
        · simp only [hic, hjc, if_false] at hi hj
          exact hd i j x hi hj
      · constructor
        · rintro (⟨hx, hx'⟩ | hx)
          · rcases (hD x).1 hx with rfl | ⟨i, hi⟩
            · exact .inl rfl
            · by_cases hic : i = c
              · subst hic; exact .inr ⟨i, by simp [hi, hx']⟩
              · exact .inr ⟨i, by simp [hic, hi]⟩
          · exact .inr ⟨c, by simp [hx]⟩
        · rintro (rfl | ⟨i, hi⟩)
          · exact .inl hbb
          · by_cases hic : i = c
            · subst hic
              simp only [if_true] at hi
              exact hi.imp (fun hx => ⟨hDc x hx.1, hx.2⟩) id
            · simp only [hic, if_false] at hi
              exact .inl (hne i x hic hi)
    | own0 => simp [getP] at hg
    | look n b off hm => cases ‹Md› <;> simp [getP] at hg; exact absurd rfl hm
    | _ => simp [getP] at hg

/-! What is only looked at. -/
mutual
def noVw : T → Bool
  | .nd _ m _ cs => m != .vw && noVws cs
  | .gp _ _ cs => noVws cs
  | .ra m cs _ => m != .vw && noVws cs
  | _ => true
def noVws : List T → Bool
  | [] => true
  | c :: cs => noVw c && noVws cs
end
theorem noVws_get : ∀ {cs : List T}, noVws cs = true → ∀ (i : Nat) (c : T), cs[i]? = some c → noVw c = true
  | [], _, i, c, h => by simp at h
  | d :: cs, hn, i, c, h => by
    simp only [noVws, Bool.and_eq_true] at hn
    cases i with
    | zero => simp at h; subst h; exact hn.1
    | succ i => exact noVws_get hn.2 i c (by simpa using h)
theorem Rep.noVw {w St Vw Vw' t k D} (h : Rep w St Vw t k D) : noVw t = true → Rep w St Vw' t k D := by
  induction h with
  | sc h => exact fun _ => .sc h
  | dead => exact fun _ => .dead
  | rf => exact fun _ => .rf
  | ad => exact fun _ => .ad
  | own0 h => exact fun _ => .own0 h
  | look n b off hm hsz hn hc hA hp hs hv hk ih =>
    intro h
    simp only [VL.noVw, Bool.and_eq_true] at h
    exact .look n b off hm hsz hn hc (fun hne => ⟨(hA hne).1, (hA hne).2.1, fun e => by subst e; simp at h⟩) hp hs hv fun i c hi => ih i c hi (noVws_get h.2 i c hi)
  | own n b off arr e fz Ds hsz hn hc hh hf hcap hs hv hk hout hb hd hD ih =>
    intro h
    simp only [VL.noVw, Bool.and_eq_true] at h
    exact .own n b off arr e fz Ds hsz hn hc hh hf hcap hs hv (fun i c hi => ih i c hi (noVws_get h.2 i c hi)) hout hb hd hD
  | ra b off hm hA hS hs hv hk ih =>
    intro h
    simp only [VL.noVw, Bool.and_eq_true] at h
    exact .ra b off hm hA (fun hne => ⟨(hS hne).1, fun e => by subst e; simp at h⟩) hs hv fun i c hi => ih i c hi (noVws_get h.2 i c hi)
  | gp Ds hk hout hd hD ih =>
    intro h
    simp only [VL.noVw] at h
    exact .gp Ds (fun i c hi => ih i c hi (noVws_get h i c hi)) hout hd hD

mutual
def vwOf : T → T
  | .nd ptr _ sz cs => .nd ptr .vw sz (vwsOf cs)
  | .gp k f cs => .gp k f (vwsOf cs)
  | .ra _ cs o => .ra .vw (vwsOf cs) o
  | t => t
def vwsOf : List T → List T
  | [] => []
  | c :: cs => vwOf c :: vwsOf cs
end
theorem vwsOf_eq : ∀ cs : List T, vwsOf cs = cs.map vwOf
  | [] => rfl
  | c :: cs => by simp [vwsOf, vwsOf_eq cs]
@[simp] theorem vwOf_solid (t : T) : (vwOf t).solid = t.solid := by
  cases t <;> simp [vwOf, T.solid]
mutual
theorem val_vwOf : ∀ (t : T) (k : K), val (vwOf t) k = val t k
  | .sc v, k => rfl
  | .nd true m sz cs, k => by simp [vwOf, val]
  | .nd false m sz cs, k => by simp [vwOf, val, vwsOf_eq]
  | .gp 0 f cs, k => by simp [vwOf, val, vals_vwsOf]
  | .gp 1 f cs, k => by simp [vwOf, val, vals_vwsOf]
  | .gp (n + 2) f cs, k => by simp [vwOf, val, vals_vwsOf]
  | .rf .., k => rfl
  | .ad .., k => rfl
  | .ra .., k => by simp [vwOf, val]
  | .dead, k => rfl
theorem vals_vwsOf : ∀ (cs : List T) (f : Nat → K) (i : Nat), vals (vwsOf cs) f i = vals cs f i
  | [], f, i => rfl
  | c :: cs, f, i => by simp [vwsOf, vals, val_vwOf, vals_vwsOf]
end

/-- What is owned or read may be looked at, as long as nothing of it is written. -/
theorem Rep.view {w St Vw t k D} (h : Rep w St Vw t k D) : ∀ {Vw' : Nat → Prop}, (∀ x, (D x ∨ St x ∨ Vw x) → Vw' x) → Rep w St Vw' (vwOf t) k No := by
  have hm (cs : List T) (i : Nat) (c : T) (h : (vwsOf cs)[i]? = some c) : ∃ d, cs[i]? = some d ∧ c = vwOf d := by
    rw [vwsOf_eq, List.getElem?_map] at h
    cases hd : cs[i]? with
    | none => simp [hd] at h
    | some d => simp [hd] at h; exact ⟨d, rfl, h.symm⟩
  induction h with
  | sc h => exact fun _ => .sc h
  | dead => exact fun _ => .dead
  | rf => exact fun _ => .rf
  | ad => exact fun _ => .ad
  | @own0 sz A kid h =>
    intro Vw' _
    simp only [vwOf, vwsOf]
    exact .look 0 0 0 (by simp) h (by simp) (by simp) (by simp) (by simp) (by simp) (by simp) (by simp)
  | @look ptr m sz cs A cap kid n b off hm' hsz hn hc hA hp hs hv hk ih =>
    intro Vw' hx
    refine .look n b off (by simp) hsz (by simpa [vwsOf_eq] using hn) hc (fun hne => ?_) hp (fun i c hi => ?_) (fun i c hi => ?_) (fun i c hi => ?_)
    · have hne' : cs ≠ [] := by rintro rfl; simp [vwsOf] at hne
      obtain ⟨h0, h1, h2⟩ := hA hne'
      refine ⟨h0, by simp, fun _ => hx b ?_⟩
      cases m with
      | own => exact absurd rfl hm'
      | ro => exact .inr (.inl (h1 rfl))
      | vw => exact .inr (.inr (h2 rfl))
    · obtain ⟨d, hd, rfl⟩ := hm cs i c hi; simpa using hs i d hd
    · obtain ⟨d, hd, rfl⟩ := hm cs i c hi; rw [val_vwOf]; exact hv i d hd
    · obtain ⟨d, hd, rfl⟩ := hm cs i c hi; exact ih i d hd fun x hx' => hx x (hx'.elim (fun h => h.elim) .inr)
  | @own ptr sz cs cap kid D n b off arr e fz Ds hsz hn hc hh hf hcap hs hv hk hout hb hd hD ih =>
    intro Vw' hx
    refine .look n b off (by simp) hsz (by simpa [vwsOf_eq] using hn) hc (fun hne => ⟨rfl, by simp, fun _ => hx b (.inl ((hD b).2 (.inl rfl)))⟩) (fun _ => rfl) (fun i c hi => ?_) (fun i c hi => ?_) (fun i c hi => ?_)
    · obtain ⟨d, hd, rfl⟩ := hm cs i c hi; simpa using hs i d hd
    · obtain ⟨d, hd, rfl⟩ := hm cs i c hi
      rw [val_vwOf]
      simp only [World.cell?, hh]
      simpa using hv i d hd
    · obtain ⟨d, hd, rfl⟩ := hm cs i c hi; exact ih i d hd fun x hx' => hx x (hx'.elim (fun h => .inl ((hD x).2 (.inr ⟨i, h⟩))) .inr)
  | @ra m cs o A cap kid b off hm' hA hS hs hv hk ih =>
    intro Vw' hx
    refine .ra b off (by simp) hA (fun hne => ?_) (fun i c hi => ?_) (fun i c hi => ?_) (fun i c hi => ?_)
    · have hne' : cs ≠ [] := by rintro rfl; simp [vwsOf] at hne
      obtain ⟨h1, h2⟩ := hS hne'
      refine ⟨by simp, fun _ => hx b ?_⟩
      cases m with
      | own => exact absurd rfl hm'
      | ro => exact .inr (.inl (h1 rfl))
      | vw => exact .inr (.inr (h2 rfl))
    · obtain ⟨d, hd, rfl⟩ := hm cs i c hi; simpa using hs i d hd
    · obtain ⟨d, hd, rfl⟩ := hm cs i c hi; rw [val_vwOf]; exact hv i d hd
    · obtain ⟨d, hd, rfl⟩ := hm cs i c hi; exact ih i d hd fun x hx' => hx x (hx'.elim (fun h => h.elim) .inr)
  | @gp kind f cs k D Ds hk hout hd hD ih =>
    intro Vw' hx
    refine .gp (fun _ => No) (fun i c hi => ?_) (fun _ _ h => h.elim) (fun _ _ _ h => h.elim) (fun x => ⟨fun h => h.elim, fun ⟨_, h⟩ => h.elim⟩)
    obtain ⟨d, hd', rfl⟩ := hm cs i c hi
    exact ih i d hd' fun x hx' => hx x (hx'.elim (fun h => .inl ((hD x).2 ⟨i, h⟩)) .inr)
end Go.Proofs.Ytnbahnpckfelpaa.VL
