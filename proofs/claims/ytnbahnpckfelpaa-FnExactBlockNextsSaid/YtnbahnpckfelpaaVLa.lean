import Derived.Test.YtnbahnpckfelpaaProg
import Derived.WalkKit
/-! VL, part A: value trees, what they say of memory. -/
namespace Go.Proofs.Ytnbahnpckfelpaa.VL
open Go.RowKit
set_option linter.unusedVariables false

inductive Md | own | ro | vw
  deriving DecidableEq

inductive T where
  | sc (v : Value)
  | nd (ptr : Bool) (m : Md) (sz : Nat) (cs : List T)
  | gp (kind f : Nat) (cs : List T)
  | rf (st s : Nat) (path : List Nat) (lo n sz : Nat)
  | ad (st s : Nat) (path : List Nat) (off : Nat)
  | ra (m : Md) (cs : List T) (off : Nat)
  | dead
instance : Inhabited T := ⟨.dead⟩

abbrev T.sl (m : Md) (sz : Nat) (cs : List T) : T := .nd false m sz cs
abbrev T.bx (m : Md) (cs : List T) : T := .nd true m 1 cs
abbrev T.ag (cs : List T) : T := .gp 0 0 cs
abbrev T.tu (cs : List T) : T := .gp 1 0 cs
abbrev T.fn (f : Nat) (cs : List T) : T := .gp 2 f cs
abbrev T.int (n : Int) : T := .sc (.int .i64 n)
abbrev T.bool (b : Bool) : T := .sc (.bool b)
abbrev T.str (s : ByteArray) : T := .sc (.string s)

inductive K where
  | leaf
  | lit (v : Value)
  | mk (A : Option Addr) (cap : Nat) (kid : Nat → K)
instance : Inhabited K := ⟨.leaf⟩
def K.kid : K → Nat → K
  | .mk _ _ k, i => k i
  | _, _ => .leaf
def K.A : K → Option Addr
  | .mk a _ _ => a
  | _ => none
def K.cap : K → Nat
  | .mk _ c _ => c
  | _ => 0

/-- Scalars: values that lie in one cell and name no memory. -/
def isSc : Value → Bool
  | .int .. | .bool _ | .string _ | .nilFunc | .nilIface | .float .. => true
  | .pointer none => true
  | _ => false

mutual
def val : T → K → Value
  | .sc v, _ => v
  | .nd true _ _ _, k => .pointer k.A
  | .nd false _ sz cs, k => .slice k.A (cs.length / sz) k.cap
  | .gp 0 _ cs, k => .agg (vals cs k.kid 0).toArray
  | .gp 1 _ cs, k => .tuple (vals cs k.kid 0).toArray
  | .gp _ f cs, k => .func (.func f) #[] (vals cs k.kid 0).toArray
  | .rf _ _ _ _ n _, k => .slice k.A n k.cap
  | .ad .., k => .pointer k.A
  | .ra .., k => .pointer k.A
  | .dead, k => match k with | .lit v => v | _ => undef
def vals : List T → (Nat → K) → Nat → List Value
  | [], _, _ => []
  | c :: cs, f, i => val c (f i) :: vals cs f (i + 1)
end

theorem vals_length (cs : List T) (f : Nat → K) : ∀ i, (vals cs f i).length = cs.length := by
  induction cs with
  | nil => intro i; simp [vals]
  | cons c cs ih => intro i; simp [vals, ih]
theorem vals_get (cs : List T) (f : Nat → K) : ∀ i j, (vals cs f i)[j]? = (cs[j]?).map fun c => val c (f (i + j)) := by
  induction cs with
  | nil => intro i j; simp [vals]
  | cons c cs ih =>
    intro i j
    cases j with
    | zero => simp [vals]
    | succ j => simp [vals, ih, Nat.add_assoc, Nat.add_comm 1 j]
theorem vals_append (cs ds : List T) (f : Nat → K) : ∀ i, vals (cs ++ ds) f i = vals cs f i ++ vals ds f (i + cs.length) := by
  induction cs with
  | nil => intro i; simp [vals]
  | cons c cs ih => intro i; simp [vals, ih, Nat.add_assoc, Nat.add_comm 1]
theorem vals_congr (cs : List T) (f g : Nat → K) : ∀ i j, (∀ k, k < cs.length → f (i + k) = g (j + k)) → vals cs f i = vals cs g j := by
  induction cs with
  | nil => intro i j _; simp [vals]
  | cons c cs ih =>
    intro i j h
    have h0 := h 0 (by simp)
    simp only [Nat.add_zero] at h0
    simp only [vals, h0]
    rw [ih (i + 1) (j + 1) fun k hk => by
      have := h (k + 1) (by simp; omega)
      rwa [show i + 1 + k = i + (k + 1) by omega, show j + 1 + k = j + (k + 1) by omega]]

/-- What may lie in a cell. -/
def T.solid : T → Bool
  | .sc _ | .nd .. | .dead => true
  | _ => false

/-- One cell holds it, and it is no struct. -/
theorem val_solid {t : T} {k : K} (h : t.solid = true) : (∃ cs, val t k = .agg cs) → ∃ v, (t = .sc v) ∨ t = .dead := by
  intro ⟨cs, he⟩
  unfold T.solid at h
  split at h
  · exact ⟨_, .inl rfl⟩
  · rename_i ptr m sz cs'
    cases ptr <;> simp [val] at he
  · exact ⟨default, .inr rfl⟩
  · cases h

def No (_ : Nat) : Prop := False

/-- What a tree says of the memory: w, where the read-only parts lie (St), where what is only looked at lies (Vw), and which blocks are owned. -/
inductive Rep (w : World) (St Vw : Nat → Prop) : T → K → (Nat → Prop) → Prop
  | sc {v k} : isSc v = true → Rep w St Vw (.sc v) k No
  | dead {k} : Rep w St Vw .dead k No
  | rf {st s p lo n sz k} : Rep w St Vw (.rf st s p lo n sz) k No
  | ad {st s p o k} : Rep w St Vw (.ad st s p o) k No
  | look {ptr m sz cs A cap kid} (n b off : Nat) (hm : m ≠ .own) (hsz : 0 < sz) (hn : n * sz = cs.length) (hc : n ≤ cap)
      (hA : cs ≠ [] → A = some ⟨b, off, none⟩ ∧ (m = .ro → St b) ∧ (m = .vw → Vw b)) (hp : ptr = true → A = some ⟨b, off, none⟩)
      (hs : ∀ (i : Nat) (c : T), cs[i]? = some c → c.solid = true)
      (hv : ∀ (i : Nat) (c : T), cs[i]? = some c → w.cell? ⟨b, off + i, none⟩ = some (val c (kid i)))
      (hk : ∀ (i : Nat) (c : T), cs[i]? = some c → Rep w St Vw c (kid i) No) : Rep w St Vw (.nd ptr m sz cs) (.mk A cap kid) No
  | own0 {sz A kid} (hsz : 0 < sz) : Rep w St Vw (.nd false .own sz []) (.mk A 0 kid) No
  | own {ptr sz cs cap kid D} (n b off : Nat) (arr : Array Value) (e : TypeId) (fz : Nat × Nat) (Ds : Nat → Nat → Prop) (hsz : 0 < sz) (hn : n * sz = cs.length) (hc : n ≤ cap)
      (hh : w.heap[b]? = some (.cells arr e fz)) (hf : fz.2 = 0 ∨ arr.size ≤ fz.1) (hcap : off + cap * sz ≤ arr.size)
      (hs : ∀ (i : Nat) (c : T), cs[i]? = some c → c.solid = true)
      (hv : ∀ (i : Nat) (c : T), cs[i]? = some c → arr[off + i]? = some (val c (kid i)))
      (hk : ∀ (i : Nat) (c : T), cs[i]? = some c → Rep w St Vw c (kid i) (Ds i))
      (hout : ∀ (i x : Nat), Ds i x → i < cs.length)
      (hb : ∀ (i x : Nat), Ds i x → x ≠ b) (hd : ∀ (i j x : Nat), Ds i x → Ds j x → i = j)
      (hD : ∀ x, D x ↔ x = b ∨ ∃ i, Ds i x) : Rep w St Vw (.nd ptr .own sz cs) (.mk (some ⟨b, off, none⟩) cap kid) D
  | ra {m cs o A cap kid} (b off : Nat) (hm : m ≠ .own) (hA : A = some ⟨b, off + o, none⟩) (hS : cs ≠ [] → (m = .ro → St b) ∧ (m = .vw → Vw b))
      (hs : ∀ (i : Nat) (c : T), cs[i]? = some c → c.solid = true)
      (hv : ∀ (i : Nat) (c : T), cs[i]? = some c → w.cell? ⟨b, off + i, none⟩ = some (val c (kid i)))
      (hk : ∀ (i : Nat) (c : T), cs[i]? = some c → Rep w St Vw c (kid i) No) : Rep w St Vw (.ra m cs o) (.mk A cap kid) No
  | gp {kind f cs k D} (Ds : Nat → Nat → Prop) (hk : ∀ (i : Nat) (c : T), cs[i]? = some c → Rep w St Vw c (k.kid i) (Ds i))
      (hout : ∀ (i x : Nat), Ds i x → i < cs.length) (hd : ∀ (i j x : Nat), Ds i x → Ds j x → i = j) (hD : ∀ x, D x ↔ ∃ i, Ds i x) : Rep w St Vw (.gp kind f cs) k D

theorem Rep.lt {w St Vw t k D} (h : Rep w St Vw t k D) : ∀ x, D x → x < w.heap.size := by
  induction h with
  | sc | dead | rf | ad | look | own0 | ra => intro x hx; exact hx.elim
  | own n b off arr e fz Ds hsz hn hc hh hf hcap hs hv hk hout hb hd hD ih =>
    intro x hx
    rcases (hD x).1 hx with rfl | ⟨i, hi⟩
    · exact (Array.getElem?_eq_some_iff.1 hh).1
    · exact ih i _ (List.getElem?_eq_getElem (hout i x hi)) x hi
  | gp Ds hk hout hd hD ih =>
    intro x hx
    obtain ⟨i, hi⟩ := (hD x).1 hx
    exact ih i _ (List.getElem?_eq_getElem (hout i x hi)) x hi

/-- The blocks that a tree hangs on stay: so does what it says. -/
theorem Rep.keep {w w' St Vw t k D} (h : Rep w St Vw t k D) : (∀ x, (D x ∨ St x ∨ Vw x) → w'.heap[x]? = w.heap[x]?) → Rep w' St Vw t k D := by
  induction h with
  | sc h => exact fun _ => .sc h
  | dead => exact fun _ => .dead
  | rf => exact fun _ => .rf
  | ad => exact fun _ => .ad
  | own0 h => exact fun _ => .own0 h
  | @look ptr m sz cs A cap kid n b off hm hsz hn hc hA hp hs hv hk ih =>
    intro hw
    refine .look n b off hm hsz hn hc hA hp hs (fun i c hi => ?_) (fun i c hi => ih i c hi fun x hx => hw x (hx.elim (fun h => h.elim) .inr))
    have hne : cs ≠ [] := by rintro rfl; simp at hi
    obtain ⟨_, h1, h2⟩ := hA hne
    have hb : St b ∨ Vw b := by
      cases m with
      | own => exact absurd rfl hm
      | ro => exact .inl (h1 rfl)
      | vw => exact .inr (h2 rfl)
    exact (World.cell?_of_block (w := w) (hw b (.inr hb))).trans (hv i c hi)
  | @own ptr sz cs cap kid D n b off arr e fz Ds hsz hn hc hh hf hcap hs hv hk hout hb hd hD ih =>
    intro hw
    exact .own n b off arr e fz Ds hsz hn hc ((hw b (.inl ((hD b).2 (.inl rfl)))).trans hh) hf hcap hs hv
      (fun i c hi => ih i c hi fun x hx => hw x (hx.elim (fun h => .inl ((hD x).2 (.inr ⟨i, h⟩))) .inr)) hout hb hd hD
  | @ra m cs o A cap kid b off hm hA hS hs hv hk ih =>
    intro hw
    refine .ra b off hm hA hS hs (fun i c hi => ?_) (fun i c hi => ih i c hi fun x hx => hw x (hx.elim (fun h => h.elim) .inr))
    have hne : cs ≠ [] := by rintro rfl; simp at hi
    obtain ⟨h1, h2⟩ := hS hne
    have hb : St b ∨ Vw b := by
      cases m with
      | own => exact absurd rfl hm
      | ro => exact .inl (h1 rfl)
      | vw => exact .inr (h2 rfl)
    exact (World.cell?_of_block (w := w) (hw b (.inr hb))).trans (hv i c hi)
  | @gp kind f cs k D Ds hk hout hd hD ih =>
    intro hw
    exact .gp Ds (fun i c hi => ih i c hi fun x hx => hw x (hx.elim (fun h => .inl ((hD x).2 ⟨i, h⟩)) .inr)) hout hd hD

theorem Rep.congrD {w St Vw t k D D'} (h : Rep w St Vw t k D) (hd : ∀ x, D x ↔ D' x) : Rep w St Vw t k D' := by
  have : D = D' := funext fun x => propext (hd x)
  exact this ▸ h

/-- More may be read. -/
theorem Rep.more {w St Vw St' Vw' t k D} (h : Rep w St Vw t k D) (h1 : ∀ x, St x → St' x) (h2 : ∀ x, Vw x → Vw' x) : Rep w St' Vw' t k D := by
  induction h with
  | sc h => exact .sc h
  | dead => exact .dead
  | rf => exact .rf
  | ad => exact .ad
  | own0 h => exact .own0 h
  | look n b off hm hsz hn hc hA hp hs hv hk ih => exact .look n b off hm hsz hn hc (fun hne => ⟨(hA hne).1, fun e => h1 _ ((hA hne).2.1 e), fun e => h2 _ ((hA hne).2.2 e)⟩) hp hs hv ih
  | own n b off arr e fz Ds hsz hn hc hh hf hcap hs hv hk hout hb hd hD ih => exact .own n b off arr e fz Ds hsz hn hc hh hf hcap hs hv ih hout hb hd hD
  | ra b off hm hA hS hs hv hk ih => exact .ra b off hm hA (fun hne => ⟨fun e => h1 _ ((hS hne).1 e), fun e => h2 _ ((hS hne).2 e)⟩) hs hv ih
  | gp Ds hk hout hd hD ih => exact .gp Ds ih hout hd hD

end Go.Proofs.Ytnbahnpckfelpaa.VL
