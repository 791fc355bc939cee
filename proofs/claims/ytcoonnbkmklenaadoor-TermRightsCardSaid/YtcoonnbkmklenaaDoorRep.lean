/- What abstract values and stores stand for in the model's memory. -/
import Derived.Test.YtcoonnbkmklenaaDoorAbs
import Derived.Laws.AppendOwn
import Derived.Laws.OwnMore
import Derived.Below
namespace Go.Proofs.YtcoonnbkmklenaaDoor.A
open Go

structure Lay where
  blk : Nat
  cap : Nat
  sz : Nat

/-- where each object of the store lies, and which blocks never change any more -/
structure Env where
  L : Nat → Lay
  F : Nat → Prop

inductive Rep (E : Env) (n : Nat) (w : World) : AV → Value → Prop
  | any (v : Value) : Rep E n w .any v
  | bool (b : Bool) : Rep E n w (.bool b) (.bool b)
  | int (k : IntKind) (x : Int) : Rep E n w (.int k x) (.int k x)
  | str (s : ByteArray) : Rep E n w (.str s) (.string s)
  | nilf : Rep E n w .nilf .nilFunc
  | nilp : Rep E n w .nilp (.pointer none)
  | ptr {r : Nat} (i off o : Nat) (h : r < n) (ho : o = i * (E.L r).sz + off) : Rep E n w (.ptr r i off) (.pointer (some ⟨(E.L r).blk, o, none⟩))
  | yld {r : Nat} (h : r < n) : Rep E n w (.yld r) (.func (.yield (E.L r).blk) #[] #[])
  | vptr {cs : List AV} (b o : Nat) (c : Nat → Value) (hF : E.F b) (hc : ∀ j, j < cs.length → w.cell? ⟨b, o + j, none⟩ = some (c j) ∧ (c j).oneCell' = true)
      (h : ∀ j x, cs[j]? = some x → Rep E n w x (c j)) : Rep E n w (.vptr cs) (.pointer (some ⟨b, o, none⟩))
  | own {r lo m cp : Nat} {full : Bool} {a : Option Addr} (h : r < n) (hm : m ≤ cp) (h1 : full = true → cp = m) (h2 : full = false → lo + cp = (E.L r).cap)
      (ha : cp = 0 ∨ a = some ⟨(E.L r).blk, lo * (E.L r).sz, none⟩) : Rep E n w (.own r lo m full) (.slice a m cp)
  | sl {sz : Nat} {es : List (List AV)} {a : Option Addr} {len cp : Nat} (b o : Nat) (c : Nat → Nat → Value) (hl : len = es.length) (hcp : len ≤ cp) (hs : ∀ e ∈ es, e.length = sz)
      (ha : es = [] ∨ (a = some ⟨b, o, none⟩ ∧ E.F b))
      (hc : ∀ i j, i < es.length → j < sz → w.cell? ⟨b, o + i * sz + j, none⟩ = some (c i j) ∧ (c i j).oneCell' = true)
      (h : ∀ i e j x, es[i]? = some e → e[j]? = some x → Rep E n w x (c i j)) : Rep E n w (.sl sz es) (.slice a len cp)
  | fsl {sz : Nat} {es : List (List AV)} {a : Option Addr} {len cp : Nat} (b o : Nat) (c : Nat → Nat → Value) (hl : len = es.length) (hcp : cp = len) (hs : ∀ e ∈ es, e.length = sz)
      (ha : es = [] ∨ (a = some ⟨b, o, none⟩ ∧ E.F b))
      (hc : ∀ i j, i < es.length → j < sz → w.cell? ⟨b, o + i * sz + j, none⟩ = some (c i j) ∧ (c i j).oneCell' = true)
      (h : ∀ i e j x, es[i]? = some e → e[j]? = some x → Rep E n w x (c i j)) : Rep E n w (.fsl sz es) (.slice a len cp)
  | agg {cs : List AV} {vs : Array Value} (hl : cs.length = vs.size) (h : ∀ (j : Nat) x v, cs[j]? = some x → vs[j]? = some v → Rep E n w x v) : Rep E n w (.agg cs) (.agg vs)
  | tup {cs : List AV} {vs : Array Value} (hl : cs.length = vs.size) (h : ∀ (j : Nat) x v, cs[j]? = some x → vs[j]? = some v → Rep E n w x v) : Rep E n w (.tup cs) (.tuple vs)
  | fn {f : Fn} {a b : List AV} {va vb : Array Value} (hla : a.length = va.size) (ha : ∀ (j : Nat) x v, a[j]? = some x → va[j]? = some v → Rep E n w x v)
      (hlb : b.length = vb.size) (hb : ∀ (j : Nat) x v, b[j]? = some x → vb[j]? = some v → Rep E n w x v) : Rep E n w (.fn f a b) (.func f va vb)

/-- pointwise -/
structure RepL (E : Env) (n : Nat) (w : World) (xs : List AV) (vs : List Value) : Prop where
  len : xs.length = vs.length
  at_ : ∀ (j : Nat) x v, xs[j]? = some x → vs[j]? = some v → Rep E n w x v

def pend : Option AE → Option Code → Prop
  | none, none => True
  | some (.exit i), some (.exit j) => i = j
  | some .ret, some .ret => True
  | _, _ => False

/-- the world's later states: what was laid stays laid, what is frozen stays as it is -/
structure Ext (E : Env) (n : Nat) (w : World) (E' : Env) (n' : Nat) (w' : World) : Prop where
  n_le : n ≤ n'
  L : ∀ r, r < n → E'.L r = E.L r
  F : ∀ b, E.F b → E'.F b
  mem : ∀ b, E.F b → w'.heap[b]? = w.heap[b]?
  os : w'.os = w.os
  tape : w'.tape = w.tape
  output : w'.output = w.output
  size : w.heap.size ≤ w'.heap.size

theorem Ext.refl (E : Env) (n : Nat) (w : World) : Ext E n w E n w := ⟨Nat.le_refl _, fun _ _ => rfl, fun _ h => h, fun _ _ => rfl, rfl, rfl, rfl, Nat.le_refl _⟩
theorem Ext.trans {E E' E'' : Env} {n n' n'' : Nat} {w w' w'' : World} (h : Ext E n w E' n' w') (k : Ext E' n' w' E'' n'' w'') : Ext E n w E'' n'' w'' :=
  ⟨Nat.le_trans h.n_le k.n_le, fun r hr => (k.L r (Nat.lt_of_lt_of_le hr h.n_le)).trans (h.L r hr), fun b hb => k.F b (h.F b hb), fun b hb => (k.mem b (h.F b hb)).trans (h.mem b hb),
   k.os.trans h.os, k.tape.trans h.tape, k.output.trans h.output, Nat.le_trans h.size k.size⟩

theorem cell_mem {w w' : World} {b o : Nat} (h : w'.heap[b]? = w.heap[b]?) : w'.cell? ⟨b, o, none⟩ = w.cell? ⟨b, o, none⟩ := by simp [World.cell?, h]

/-- what Rep needs of a later state -/
structure Mono (E : Env) (n : Nat) (w : World) (E' : Env) (n' : Nat) (w' : World) : Prop where
  L : ∀ r, r < n → r < n' ∧ E'.L r = E.L r
  F : ∀ b, E.F b → E'.F b
  mem : ∀ b, E.F b → w'.heap[b]? = w.heap[b]?

theorem Ext.toMono {E E' : Env} {n n' : Nat} {w w' : World} (h : Ext E n w E' n' w') : Mono E n w E' n' w' :=
  ⟨fun r hr => ⟨Nat.lt_of_lt_of_le hr h.n_le, h.L r hr⟩, h.F, h.mem⟩

theorem Rep.mono {E E' : Env} {n n' : Nat} {w w' : World} (m : Mono E n w E' n' w') {x : AV} {v : Value} (h : Rep E n w x v) : Rep E' n' w' x v := by
  induction h with
  | any v => exact .any v
  | bool b => exact .bool b
  | int k x => exact .int k x
  | str s => exact .str s
  | nilf => exact .nilf
  | nilp => exact .nilp
  | ptr i off o h ho => have := m.L _ h; rw [← this.2]; exact .ptr i off o this.1 (by rw [this.2]; exact ho)
  | yld h => have := m.L _ h; rw [← this.2]; exact .yld this.1
  | vptr b o c hF hc h ih => exact .vptr b o c (m.F b hF) (fun j hj => by rw [cell_mem (m.mem b hF)]; exact hc j hj) ih
  | own h hm h1 h2 ha => have := m.L _ h; exact .own this.1 hm h1 (by rw [this.2]; exact h2) (by rw [this.2]; exact ha)
  | sl b o c hl hcp hs ha hc h ih =>
    refine .sl b o c hl hcp hs (ha.imp id fun x => ⟨x.1, m.F b x.2⟩) (fun i j hi hj => ?_) ih
    rcases ha with ha | ha
    · subst ha; simp at hi
    · rw [cell_mem (m.mem b ha.2)]; exact hc i j hi hj
  | fsl b o c hl hcp hs ha hc h ih =>
    refine .fsl b o c hl hcp hs (ha.imp id fun x => ⟨x.1, m.F b x.2⟩) (fun i j hi hj => ?_) ih
    rcases ha with ha | ha
    · subst ha; simp at hi
    · rw [cell_mem (m.mem b ha.2)]; exact hc i j hi hj
  | agg hl h ih => exact .agg hl ih
  | tup hl h ih => exact .tup hl ih
  | fn hla ha hlb hb iha ihb => exact .fn hla iha hlb ihb

/-- what package-level variables hold, in memory that never changes -/
def GlobOk (E : Env) (w : World) : Prop := ∀ g cs, globs g = some cs → Rep E 0 w (.vptr cs) (.pointer (some ⟨g, 0, none⟩))

theorem GlobOk.mono {E E' : Env} {w w' : World} (h : GlobOk E w) (hF : ∀ b, E.F b → E'.F b) (hm : ∀ b, E.F b → w'.heap[b]? = w.heap[b]?) : GlobOk E' w' :=
  fun g cs hg => (h g cs hg).mono ⟨fun _ hr => absurd hr (Nat.not_lt_zero _), hF, hm⟩
theorem GlobOk.at_ {E : Env} {w : World} (h : GlobOk E w) {g : Nat} {cs : List AV} (hg : globs g = some cs) (n : Nat) : Rep E n w (.vptr cs) (.pointer (some ⟨g, 0, none⟩)) :=
  (h g cs hg).mono ⟨fun _ hr => absurd hr (Nat.not_lt_zero _), fun _ h => h, fun _ _ => rfl⟩

theorem RepL.mono {E E' : Env} {n n' : Nat} {w w' : World} (m : Mono E n w E' n' w') {xs : List AV} {vs : List Value} (h : RepL E n w xs vs) : RepL E' n' w' xs vs :=
  ⟨h.len, fun j x v hx hv => (h.at_ j x v hx hv).mono m⟩

mutual
/-- all references lie below -/
def AV.lt (n : Nat) : AV → Prop
  | .ptr r _ _ => r < n
  | .own r _ _ _ => r < n
  | .yld r => r < n
  | .vptr cs | .agg cs | .tup cs => AV.ltL n cs
  | .sl _ es | .fsl _ es => AV.ltLL n es
  | .fn _ a b => AV.ltL n a ∧ AV.ltL n b
  | _ => True
def AV.ltL (n : Nat) : List AV → Prop
  | [] => True
  | v :: l => v.lt n ∧ AV.ltL n l
def AV.ltLL (n : Nat) : List (List AV) → Prop
  | [] => True
  | v :: l => AV.ltL n v ∧ AV.ltLL n l
end

theorem ltL_iff {n : Nat} {l : List AV} : AV.ltL n l ↔ ∀ (j : Nat) x, l[j]? = some x → x.lt n := by
  induction l with
  | nil => simp [AV.ltL]
  | cons v l ih =>
    simp only [AV.ltL, ih]
    constructor
    · rintro ⟨h1, h2⟩ j x hx
      cases j with
      | zero => simp at hx; subst hx; exact h1
      | succ j => exact h2 j x (by simpa using hx)
    · intro h
      exact ⟨h 0 v (by simp), fun j x hx => h (j + 1) x (by simpa using hx)⟩

theorem ltLL_iff {n : Nat} {l : List (List AV)} : AV.ltLL n l ↔ ∀ (i : Nat) e (j : Nat) x, l[i]? = some e → e[j]? = some x → x.lt n := by
  induction l with
  | nil => simp [AV.ltLL]
  | cons v l ih =>
    simp only [AV.ltLL, ih, ltL_iff]
    constructor
    · rintro ⟨h1, h2⟩ i e j x he hx
      cases i with
      | zero => simp at he; subst he; exact h1 j x hx
      | succ i => exact h2 i e j x (by simpa using he) hx
    · intro h
      exact ⟨fun j x hx => h 0 v j x (by simp) hx, fun i e j x he hx => h (i + 1) e j x (by simpa using he) hx⟩

theorem flatL_iff {l : List AV} : AV.flatL l = true ↔ ∀ (j : Nat) x, l[j]? = some x → x.flat = true := by
  induction l with
  | nil => simp [AV.flatL]
  | cons v l ih =>
    simp only [AV.flatL, Bool.and_eq_true, ih]
    constructor
    · rintro ⟨h1, h2⟩ j x hx
      cases j with
      | zero => simp at hx; subst hx; exact h1
      | succ j => exact h2 j x (by simpa using hx)
    · intro h
      exact ⟨h 0 v (by simp), fun j x hx => h (j + 1) x (by simpa using hx)⟩

theorem flatLL_iff {l : List (List AV)} : AV.flatLL l = true ↔ ∀ (i : Nat) e (j : Nat) x, l[i]? = some e → e[j]? = some x → x.flat = true := by
  induction l with
  | nil => simp [AV.flatLL]
  | cons v l ih =>
    simp only [AV.flatLL, Bool.and_eq_true, ih, flatL_iff]
    constructor
    · rintro ⟨h1, h2⟩ i e j x he hx
      cases i with
      | zero => simp at he; subst he; exact h1 j x hx
      | succ i => exact h2 i e j x (by simpa using he) hx
    · intro h
      exact ⟨fun j x hx => h 0 v j x (by simp) hx, fun i e j x he hx => h (i + 1) e j x (by simpa using he) hx⟩

theorem get_of_len {vs : Array Value} {j n : Nat} (hl : n = vs.size) (h : j < n) : ∃ v, vs[j]? = some v := ⟨vs[j]'(by omega), by simp [show j < vs.size by omega]⟩
theorem lt_of_get {α : Type} {l : List α} {j : Nat} {x : α} (h : l[j]? = some x) : j < l.length := by
  rcases Nat.lt_or_ge j l.length with h' | h'
  · exact h'
  · simp [List.getElem?_eq_none h'] at h

theorem Rep.ltn {E : Env} {n : Nat} {w : World} {x : AV} {v : Value} (h : Rep E n w x v) : x.lt n := by
  induction h with
  | ptr i off o h ho => exact h
  | yld h => exact h
  | own h hm h1 h2 ha => exact h
  | vptr b o c hF hc h ih => exact ltL_iff.2 ih
  | sl b o c hl hcp hs ha hc h ih => exact ltLL_iff.2 ih
  | fsl b o c hl hcp hs ha hc h ih => exact ltLL_iff.2 ih
  | agg hl h ih => exact ltL_iff.2 fun j x hx => by obtain ⟨v, hv⟩ := get_of_len hl (lt_of_get hx); exact ih j x v hx hv
  | tup hl h ih => exact ltL_iff.2 fun j x hx => by obtain ⟨v, hv⟩ := get_of_len hl (lt_of_get hx); exact ih j x v hx hv
  | fn hla ha hlb hb iha ihb =>
    exact ⟨ltL_iff.2 fun j x hx => by obtain ⟨v, hv⟩ := get_of_len hla (lt_of_get hx); exact iha j x v hx hv,
      ltL_iff.2 fun j x hx => by obtain ⟨v, hv⟩ := get_of_len hlb (lt_of_get hx); exact ihb j x v hx hv⟩
  | _ => trivial

/-- only references below m are asked about -/
theorem Rep.shrink {E E' : Env} {n m : Nat} {w w' : World} (hL : ∀ r, r < m → E'.L r = E.L r) (hF : ∀ b, E.F b → E'.F b) (hm : ∀ b, E.F b → w'.heap[b]? = w.heap[b]?)
    {x : AV} {v : Value} (h : Rep E n w x v) (hx : x.lt m) : Rep E' m w' x v := by
  induction h with
  | any v => exact .any v
  | bool b => exact .bool b
  | int k x => exact .int k x
  | str s => exact .str s
  | nilf => exact .nilf
  | nilp => exact .nilp
  | ptr i off o h ho => have e := hL _ hx; rw [← e]; exact .ptr i off o hx (by rw [e]; exact ho)
  | yld h => have e := hL _ hx; rw [← e]; exact .yld hx
  | vptr b o c hF' hc h ih => exact .vptr b o c (hF b hF') (fun j hj => by rw [cell_mem (hm b hF')]; exact hc j hj) fun j x hj => ih j x hj (ltL_iff.1 hx j x hj)
  | own h hm h1 h2 ha => have e := hL _ hx; exact .own hx hm h1 (by rw [e]; exact h2) (by rw [e]; exact ha)
  | sl b o c hl hcp hs ha hc h ih =>
    refine .sl b o c hl hcp hs (ha.imp id fun x => ⟨x.1, hF b x.2⟩) (fun i j hi hj => ?_) fun i e j x he hj => ih i e j x he hj (ltLL_iff.1 hx i e j x he hj)
    rcases ha with ha | ha
    · subst ha; simp at hi
    · rw [cell_mem (hm b ha.2)]; exact hc i j hi hj
  | fsl b o c hl hcp hs ha hc h ih =>
    refine .fsl b o c hl hcp hs (ha.imp id fun x => ⟨x.1, hF b x.2⟩) (fun i j hi hj => ?_) fun i e j x he hj => ih i e j x he hj (ltLL_iff.1 hx i e j x he hj)
    rcases ha with ha | ha
    · subst ha; simp at hi
    · rw [cell_mem (hm b ha.2)]; exact hc i j hi hj
  | agg hl h ih => exact .agg hl fun j x v hj hv => ih j x v hj hv (ltL_iff.1 hx j x hj)
  | tup hl h ih => exact .tup hl fun j x v hj hv => ih j x v hj hv (ltL_iff.1 hx j x hj)
  | fn hla ha hlb hb iha ihb => exact .fn hla (fun j x v hj hv => iha j x v hj hv (ltL_iff.1 hx.1 j x hj)) hlb fun j x v hj hv => ihb j x v hj hv (ltL_iff.1 hx.2 j x hj)

theorem AV.flat_lt (n : Nat) {x : AV} (h : x.flat = true) : x.lt n := by
  have key : ∀ k (x : AV), SizeOf.sizeOf x < k → x.flat = true → x.lt n := by
    intro k
    induction k with
    | zero => intro x hx; omega
    | succ k ih =>
      intro x hx h
      have hL : ∀ l : List AV, SizeOf.sizeOf l < k → AV.flatL l = true → AV.ltL n l := by
        intro l
        induction l with
        | nil => intros; trivial
        | cons v l ihl =>
          intro hs hf
          simp only [AV.flatL, Bool.and_eq_true] at hf
          simp at hs
          exact ⟨ih v (by omega) hf.1, ihl (by omega) hf.2⟩
      have hLL : ∀ l : List (List AV), SizeOf.sizeOf l < k → AV.flatLL l = true → AV.ltLL n l := by
        intro l
        induction l with
        | nil => intros; trivial
        | cons v l ihl =>
          intro hs hf
          simp only [AV.flatLL, Bool.and_eq_true] at hf
          simp at hs
          exact ⟨hL v (by omega) hf.1, ihl (by omega) hf.2⟩
      cases x with
      | ptr => simp [AV.flat] at h
      | own => simp [AV.flat] at h
      | yld => simp [AV.flat] at h
      | fsl => simp [AV.flat] at h
      | vptr cs => simp at hx; exact hL cs (by omega) h
      | agg cs => simp at hx; exact hL cs (by omega) h
      | tup cs => simp at hx; exact hL cs (by omega) h
      | sl sz es => simp at hx; exact hLL es (by omega) h
      | fn f a b => simp at hx; simp only [AV.flat, Bool.and_eq_true] at h; exact ⟨hL a (by omega) h.1, hL b (by omega) h.2⟩
      | _ => trivial
  exact key _ x (Nat.lt_succ_self _) h

end Go.Proofs.YtcoonnbkmklenaaDoor.A
