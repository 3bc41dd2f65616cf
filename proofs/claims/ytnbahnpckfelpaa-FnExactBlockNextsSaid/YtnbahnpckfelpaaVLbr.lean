import Derived.Test.YtnbahnpckfelpaaVLcb
import Derived.WalkKit
import Derived.ProofKit
import Derived.OpenShut
import Derived.Carry
import Derived.Below
import Derived.ChangeSame
import Derived.ChangeArms
import Derived.WideKeyArgs
/-! VL, part Br: what the form says of the arguments, as trees; the row's end. -/
namespace Go.Proofs.Ytnbahnpckfelpaa.VL
open Go.ChangeShapes Go.WideShapes Go.ChangeAt Go.RowKit
set_option linter.unusedVariables false
variable {H : Type} {enc : TypeId × Value → H} {w : World} {sp : Nat → Bool}

def Seen (w : World) : Nat → Prop := fun x => x < w.heap.size
/-- The trees ts are what lies in the cells cs. -/
structure Cells (w : World) (ts : List T) (kid : Nat → K) (cs : List Value) : Prop where
  rep : ∀ (i : Nat) (c : T), ts[i]? = some c → Rep w No (Seen w) c (kid i) No
  solid : ∀ (i : Nat) (c : T), ts[i]? = some c → c.solid = true
  vals : vals ts kid 0 = cs
theorem Cells.len {ts : List T} {kid : Nat → K} {cs : List Value} (h : Cells w ts kid cs) : ts.length = cs.length := by rw [← h.vals, vals_length]
theorem cells_one {v : Value} (hv : isSc v = true) : Cells w [.sc v] (fun _ => .leaf) [v] :=
  ⟨fun i c hi => (by cases i with | zero => simp at hi; subst hi; exact .sc hv | succ i => simp at hi), fun i c hi => (by cases i with | zero => simp at hi; subst hi; rfl | succ i => simp at hi), rfl⟩
theorem cells_app {ts us : List T} {f g : Nat → K} {cs ds : List Value} (h1 : Cells w ts f cs) (h2 : Cells w us g ds) : Cells w (ts ++ us) (fun i => if i < ts.length then f i else g (i - ts.length)) (cs ++ ds) := by
  have key : ∀ (i : Nat) (c : T), (ts ++ us)[i]? = some c → (i < ts.length ∧ ts[i]? = some c) ∨ (¬ i < ts.length ∧ us[i - ts.length]? = some c) := fun i c hi => by
    by_cases h : i < ts.length
    · rw [List.getElem?_append_left h] at hi; exact .inl ⟨h, hi⟩
    · rw [List.getElem?_append_right (by omega)] at hi; exact .inr ⟨h, hi⟩
  refine ⟨fun i c hi => ?_, fun i c hi => ?_, ?_⟩
  · rcases key i c hi with ⟨h, hi⟩ | ⟨h, hi⟩
    · simp only [h, if_true]; exact h1.rep i c hi
    · simp only [h, if_false]; exact h2.rep _ c hi
  · rcases key i c hi with ⟨h, hi⟩ | ⟨h, hi⟩
    · exact h1.solid i c hi
    · exact h2.solid _ c hi
  · rw [vals_append]
    congr 1
    · rw [← h1.vals]; exact vals_congr _ _ _ _ _ fun k hk => by simp [hk]
    · rw [← h2.vals]; exact vals_congr _ _ _ _ _ fun k hk => by simp; intro h; omega

theorem flat_get {α : Type} {sz : Nat} (hsz : 0 < sz) : ∀ (l : List (List α)), (∀ x ∈ l, x.length = sz) → ∀ (m : Nat), l.flatten[m]? = (l[m / sz]?).bind (·[m % sz]?)
  | [], _, m => by simp
  | x :: l, h, m => by
    have hx := h x (by simp)
    have ih := flat_get hsz l (fun y hy => h y (by simp [hy]))
    simp only [List.flatten_cons]
    by_cases hm : m < sz
    · rw [List.getElem?_append_left (by omega), Nat.div_eq_of_lt hm, Nat.mod_eq_of_lt hm]; rfl
    · rw [List.getElem?_append_right (by omega), hx, ih]
      have e1 : m / sz = (m - sz) / sz + 1 := by rw [show m = (m - sz) + sz by omega, Nat.add_div_right _ hsz]; simp
      have e2 : m % sz = (m - sz) % sz := by conv => lhs; rw [show m = (m - sz) + sz by omega, Nat.add_mod_right]
      rw [e1, e2, List.getElem?_cons_succ]
theorem flat_len {α : Type} {sz : Nat} : ∀ (l : List (List α)), (∀ x ∈ l, x.length = sz) → l.flatten.length = l.length * sz
  | [], _ => by simp
  | x :: l, h => by
    have hx := h x (by simp)
    have ih := flat_len l (fun y hy => h y (by simp [hy]))
    rw [List.flatten_cons, List.length_append, hx, ih, List.length_cons, Nat.succ_mul]; omega

/-- A slice, its elements read as Elt says. -/
theorem read_slice {P : Program} {t e : TypeId} {sz : Nat} (ht : P.underlying t = some (.slice e)) (hce : P.cellsOf e = sz) (hsz : 0 < sz) (Elt : List T → Prop)
    (helem : ∀ n cs y, DataW.trod enc P w 0 sp true n e cs = some y → ∃ ts kid, Elt ts ∧ Cells w ts kid cs) {fuel : Nat} {cs : List Value} {x : DataW H × List MemPlace} (h : DataW.trod enc P w 0 sp true fuel t cs = some x) :
    ∃ (els : List (List T)) (k : K), (∀ el ∈ els, Elt el ∧ el.length = sz) ∧ els.length ≤ maxLen ∧ Cells w [.nd false .vw sz els.flatten] (fun _ => k) cs := by
  rcases DataW.trod_slice ht h with ⟨rfl, _⟩ | ⟨a, len, cap, elems, rest, n, _, rfl, _, _, hlc, hcm, hel, hread, _⟩
  · refine ⟨[], .mk none 0 fun _ => .leaf, by simp, by simp, ⟨fun i c hi => ?_, fun i c hi => ?_, by simp [vals, val, K.A, K.cap]⟩⟩
    · cases i with
      | zero => simp at hi; subst hi; exact .look 0 0 0 (by simp) hsz (by simp) (by simp) (by simp) (by simp) (by simp) (by simp) (by simp)
      | succ i => simp at hi
    · cases i with
      | zero => simp at hi; subst hi; rfl
      | succ i => simp at hi
  · rw [hce] at hread
    have hex : ∀ i, ∃ (ts : List T) (kid : Nat → K) (ci : List Value), i < len → Elt ts ∧ Cells w ts kid ci ∧ w.cells? 0 (a.add (i * sz)) sz = some ci := fun i => by
      by_cases hi : i < len
      · have hr := hread i hi
        rw [List.getElem?_eq_getElem (by omega)] at hr
        obtain ⟨ci, h1, h2⟩ := Option.bind_eq_some_iff.1 hr
        obtain ⟨ts, kid, h3, h4⟩ := helem n ci _ h2
        exact ⟨ts, kid, ci, fun _ => ⟨h3, h4, h1⟩⟩
      · exact ⟨[], fun _ => .leaf, [], fun h => absurd h hi⟩
    let F : Nat → List T := fun i => Classical.choose (hex i)
    have hF : ∀ i, ∃ (kid : Nat → K) (ci : List Value), i < len → Elt (F i) ∧ Cells w (F i) kid ci ∧ w.cells? 0 (a.add (i * sz)) sz = some ci := fun i => Classical.choose_spec (hex i)
    let G : Nat → Nat → K := fun i => Classical.choose (hF i)
    have hG : ∀ i, ∃ (ci : List Value), i < len → Elt (F i) ∧ Cells w (F i) (G i) ci ∧ w.cells? 0 (a.add (i * sz)) sz = some ci := fun i => Classical.choose_spec (hF i)
    have hFl : ∀ i, i < len → (F i).length = sz := fun i hi => by
      obtain ⟨ci, hci⟩ := hG i
      obtain ⟨_, h2, h3⟩ := hci hi
      rw [h2.len, (World.cells?_some h3).2.1]
    let els := (List.range len).map F
    have hels : ∀ el ∈ els, Elt el ∧ el.length = sz := fun el hel => by
      simp only [els, List.mem_map, List.mem_range] at hel
      obtain ⟨i, hi, rfl⟩ := hel
      obtain ⟨ci, hci⟩ := hG i
      exact ⟨(hci hi).1, hFl i hi⟩
    have hlen : els.length = len := by simp [els]
    have hget : ∀ (m : Nat) (c : T), els.flatten[m]? = some c → m / sz < len ∧ (F (m / sz))[m % sz]? = some c := fun m c hm => by
      rw [flat_get hsz els (fun x hx => (hels x hx).2)] at hm
      obtain ⟨y, h1, h2⟩ := Option.bind_eq_some_iff.1 hm
      simp only [els, List.getElem?_map, Option.map_eq_some_iff] at h1
      obtain ⟨i, hi, rfl⟩ := h1
      obtain ⟨hlt, he⟩ := List.getElem?_eq_some_iff.1 hi
      simp at he hlt
      subst he
      exact ⟨hlt, h2⟩
    have hspot : 0 < len → a.spot = none := fun h0 => by
      obtain ⟨ci, hci⟩ := hG 0
      obtain ⟨_, h4, h5⟩ := hci h0
      obtain ⟨_, h5b, h6⟩ := World.cells?_some h5
      have h7 := h6 0 hsz
      rw [List.getElem?_eq_getElem (by omega)] at h7
      have := World.cell?_spot h7
      simpa [Addr.add] using this
    have hcell : ∀ (m : Nat) (c : T), els.flatten[m]? = some c → w.cell? (a.add m) = some (val c (G (m / sz) (m % sz))) ∧ Rep w No (Seen w) c (G (m / sz) (m % sz)) No ∧ c.solid = true := fun m c hm => by
      obtain ⟨h1, h2⟩ := hget m c hm
      obtain ⟨ci, hci⟩ := hG (m / sz)
      obtain ⟨_, h4, h5⟩ := hci h1
      obtain ⟨_, _, h6⟩ := World.cells?_some h5
      have h7 := h6 (m % sz) (Nat.mod_lt _ hsz)
      refine ⟨?_, h4.rep _ c h2, h4.solid _ c h2⟩
      have e : (a.add (m / sz * sz)).add (m % sz) = a.add m := by
        have hsp := hspot (Nat.lt_of_le_of_lt (Nat.zero_le _) h1)
        obtain ⟨b, o, s⟩ := a
        simp only at hsp; subst hsp
        rw [add_plain, add_plain, add_plain, Nat.add_assoc, show m / sz * sz + m % sz = m by rw [Nat.mul_comm]; exact Nat.div_add_mod m sz]
      rw [e] at h7
      rw [h7, ← h4.vals, vals_get, h2]; simp
    refine ⟨els, .mk (some a) cap fun m => G (m / sz) (m % sz), hels, by rw [hlen]; exact Nat.le_trans hlc hcm, ⟨fun i c hi => ?_, fun i c hi => ?_, ?_⟩⟩
    · cases i with
      | succ i => simp at hi
      | zero =>
        simp at hi; subst hi
        obtain ⟨b, o, s⟩ := a
        by_cases hne : els.flatten = []
        · rw [hne]
          have hl0 : len = 0 := by
            have h8 := flat_len els (fun x hx => (hels x hx).2)
            rw [hne, hlen, List.length_nil] at h8
            rcases Nat.mul_eq_zero.1 h8.symm with h | h
            · exact h
            · omega
          exact .look 0 b o (by simp) hsz (by simp) (by omega) (by simp) (by simp) (by simp) (by simp) (by simp)
        · obtain ⟨c0, hc0⟩ : ∃ c, els.flatten[0]? = some c := by
            cases hh : els.flatten with
            | nil => exact absurd hh hne
            | cons y ys => exact ⟨y, rfl⟩
          have h0 := (hcell 0 c0 hc0).1
          have hs : s = none := by
            have := World.cell?_spot h0
            simpa [Addr.add] using this
          subst hs
          have hb : b < w.heap.size := by
            rw [add_plain] at h0
            simp only [World.cell?] at h0
            refine Classical.byContradiction fun hlt => ?_
            rw [Array.getElem?_eq_none (by omega)] at h0
            cases h0
          refine .look len b o (by simp) hsz (by rw [flat_len els (fun x hx => (hels x hx).2), hlen]) hlc (fun _ => ⟨rfl, by simp, fun _ => hb⟩) (by simp) (fun i c hi => (hcell i c hi).2.2) (fun i c hi => ?_) (fun i c hi => (hcell i c hi).2.1)
          have := (hcell i c hi).1
          rw [add_plain] at this
          exact this
    · cases i with
      | succ i => simp at hi
      | zero => simp at hi; subst hi; rfl
    · simp only [vals, val, K.A, K.cap]
      rw [flat_len els (fun x hx => (hels x hx).2), hlen, Nat.mul_div_cancel _ hsz]
def okInt (n : Int) : Prop := -9223372036854775808 ≤ n ∧ n ≤ 9223372036854775807
theorem read_int {P : Program} {t : TypeId} (ht : P.underlying t = some (.int .i64)) {fuel : Nat} {cs : List Value} {x : DataW H × List MemPlace} (h : DataW.trod enc P w 0 sp true fuel t cs = some x) :
    ∃ n, okInt n ∧ cs = [.int .i64 n] := by
  obtain ⟨n, h1, _, h3⟩ := DataW.trod_int ht h
  refine ⟨n, ?_, h1⟩
  simpa [Lit.wf, IntKind.min, IntKind.max, IntKind.signed, IntKind.bits, okInt] using h3

/-- The row's end: the law returned true, and nothing that was there has turned. -/
theorem row_end {P : Program} {f : Func} {s : ChangeSpec} {W W' : World} {args : Array Value} {ds : List (DataW H)} {before : List MemPlace}
    (hvars : s.vars = []) (hW : DataW.Whole enc P f.params.toList s.vars false W args.toList ds [] before)
    (hres : ∀ (b : Nat) (sp : Nat → Bool) (hd : Bool), DataW.TrodAll enc P W' b sp hd f.resultTypes.toList ((Value.bool true).resultList f.resultTypes.size) (s.fn H (ds ++ [])).results [])
    (hargs : ∀ sp : Nat → Bool, (∀ p ∈ before, sp p.block = true) → DataW.TrodAll enc P W' 0 sp true f.params.toList args.toList (s.fn H (ds ++ [])).args before)
    (hlv : (s.fn H (ds ++ [])).vars = []) (hb : Below W.heap.size W W')
    (hok : ∀ (j : Nat) (t : TypeId) (r : Value), f.resultTypes[j]? = some t → ((Value.bool true).resultList f.resultTypes.size)[j]? = some r → Value.okWide P W' .any 0 t r) :
    s.post enc P f false true false false W args (.bool true) W' := by
  have hlt : ∀ p ∈ before, p.block < W.heap.size := fun p hp => hW.lt p hp
  refine ⟨ds, [], before, [], before, [], hW, hres _ _ _, hargs _ (fun p hp => by simpa using hlt p hp), ?_, World.keptBut_mono (fun p hp => ⟨hp, .inr (.inl hp)⟩) (hb.frame (· ∈ before)), fun h => by cases h⟩
  rw [hvars, hlv]
  rfl
end Go.Proofs.Ytnbahnpckfelpaa.VL
