/- What abstract values and stores stand for in the model's memory. -/
import Derived.Test.YtgabnhmjlhhojaaAbs
import Derived.Laws.AppendOwn
import Derived.Laws.OwnMore
import Derived.Below
import Derived.Laws.Sem
namespace Go.Proofs.Ytgabnhmjlhhojaa.A
open Go

structure Lay where
  blk : Nat
  cap : Nat
  sz : Nat

/-- where each object of the store lies, and which blocks never change any more -/
structure Env where
  L : Nat → Lay
  F : Nat → Prop
  /-- blocks that are kept for later: nobody touches them, no value speaks of them -/
  G : Nat → Prop

/-- blocks that stay as they are -/
def Env.H (E : Env) (b : Nat) : Prop := E.F b ∨ E.G b

inductive Rep (E : Env) (n : Nat) (w : World) : AV → Value → Prop
  | any (v : Value) : Rep E n w .any v
  | bool (b : Bool) : Rep E n w (.bool b) (.bool b)
  | int (k : IntKind) (x : Int) : Rep E n w (.int k x) (.int k x)
  | str (s : ByteArray) : Rep E n w (.str s) (.string s)
  | nilf : Rep E n w .nilf .nilFunc
  | nilp : Rep E n w .nilp (.pointer none)
  | nils (cp : Nat) : Rep E n w .nils (.slice none 0 cp)
  | emps (a : Addr) (cp : Nat) : Rep E n w .emps (.slice (some a) 0 cp)
  | ptr {r : Nat} (i off o : Nat) (h : r < n) (ho : o = i * (E.L r).sz + off) : Rep E n w (.ptr r i off) (.pointer (some ⟨(E.L r).blk, o, none⟩))
  | yld {r : Nat} (h : r < n) : Rep E n w (.yld r) (.func (.yield (E.L r).blk) #[] #[])
  | mref {r : Nat} (h : r < n) : Rep E n w (.mref r) (.map (some (E.L r).blk))
  | vptr {cs : List AV} (b o : Nat) (c : Nat → Value) (hF : E.F b) (hc : ∀ j, j < cs.length → w.cell? ⟨b, o + j, none⟩ = some (c j) ∧ (c j).oneCell' = true)
      (h : ∀ j x, cs[j]? = some x → Rep E n w x (c j)) : Rep E n w (.vptr cs) (.pointer (some ⟨b, o, none⟩))
  | own {r lo m cp : Nat} {full : Bool} {a : Option Addr} (h : r < n) (hm : m ≤ cp) (h1 : full = true → cp = m) (h2 : full = false → lo + cp = (E.L r).cap)
      (ha : cp = 0 ∨ a = some ⟨(E.L r).blk, lo * (E.L r).sz, none⟩) : Rep E n w (.own r lo m full) (.slice a m cp)
  | sl {sz : Nat} {es : List (List AV)} {a : Option Addr} {len cp : Nat} (b o : Nat) (c : Nat → Nat → Value) (hl : len = es.length) (hcp : len ≤ cp) (hs : ∀ e ∈ es, e.length = sz)
      (ha : es = [] ∨ (a = some ⟨b, o, none⟩ ∧ E.F b))
      (hc : ∀ i j, i < es.length → j < sz → w.cell? ⟨b, o + i * sz + j, none⟩ = some (c i j) ∧ (c i j).oneCell' = true)
      (h : ∀ i e j x, es[i]? = some e → e[j]? = some x → Rep E n w x (c i j)) : Rep E n w (.sl sz es) (.slice a len cp)
  | fsl {sz : Nat} {es : List (List AV)} {a : Option Addr} {len cp : Nat} (b o : Nat) (c : Nat → Nat → Value) (hl : len = es.length) (hcp : cp = len) (hs : ∀ e ∈ es, e.length = sz)
      (ha : es = [] ∨ (a = some ⟨b, o, none⟩ ∧ E.F b))
      (hc : ∀ i j, i < es.length → j < sz → w.cell? ⟨b, o + i * sz + j, none⟩ = some (c i j) ∧ (c i j).oneCell' = true)
      (h : ∀ i e j x, es[i]? = some e → e[j]? = some x → Rep E n w x (c i j)) : Rep E n w (.fsl sz es) (.slice a len cp)
  | agg {cs : List AV} {vs : Array Value} (hl : cs.length = vs.size) (h : ∀ (j : Nat) x v, cs[j]? = some x → vs[j]? = some v → Rep E n w x v) : Rep E n w (.agg cs) (.agg vs)
  | tup {cs : List AV} {vs : Array Value} (hl : cs.length = vs.size) (h : ∀ (j : Nat) x v, cs[j]? = some x → vs[j]? = some v → Rep E n w x v) : Rep E n w (.tup cs) (.tuple vs)
  | fn {f : Fn} {a b : List AV} {va vb : Array Value} (hla : a.length = va.size) (ha : ∀ (j : Nat) x v, a[j]? = some x → va[j]? = some v → Rep E n w x v)
      (hlb : b.length = vb.size) (hb : ∀ (j : Nat) x v, b[j]? = some x → vb[j]? = some v → Rep E n w x v) : Rep E n w (.fn f a b) (.func (rlF f) va vb)

/-- pointwise -/
structure RepL (E : Env) (n : Nat) (w : World) (xs : List AV) (vs : List Value) : Prop where
  len : xs.length = vs.length
  at_ : ∀ (j : Nat) x v, xs[j]? = some x → vs[j]? = some v → Rep E n w x v

def pend : Option AE → Option Code → Prop
  | none, none => True
  | some (.exit i), some (.exit j) => i = j
  | some .ret, some .ret => True
  | _, _ => False

/-- the world's later states: what was laid stays laid, what is frozen stays as it is -/
structure Ext (E : Env) (n : Nat) (w : World) (E' : Env) (n' : Nat) (w' : World) : Prop where
  n_le : n ≤ n'
  L : ∀ r, r < n → E'.L r = E.L r
  F : ∀ b, E.F b → E'.F b
  G : ∀ b, E.G b → E'.G b
  mem : ∀ b, E.H b → w'.heap[b]? = w.heap[b]?
  os : w'.os = w.os
  tape : w'.tape = w.tape
  output : w'.output = w.output
  size : w.heap.size ≤ w'.heap.size

theorem Ext.refl (E : Env) (n : Nat) (w : World) : Ext E n w E n w := ⟨Nat.le_refl _, fun _ _ => rfl, fun _ h => h, fun _ h => h, fun _ _ => rfl, rfl, rfl, rfl, Nat.le_refl _⟩
theorem Ext.trans {E E' E'' : Env} {n n' n'' : Nat} {w w' w'' : World} (h : Ext E n w E' n' w') (k : Ext E' n' w' E'' n'' w'') : Ext E n w E'' n'' w'' :=
  ⟨Nat.le_trans h.n_le k.n_le, fun r hr => (k.L r (Nat.lt_of_lt_of_le hr h.n_le)).trans (h.L r hr), fun b hb => k.F b (h.F b hb), fun b hb => k.G b (h.G b hb), fun b hb => (k.mem b (hb.imp (h.F b) (h.G b))).trans (h.mem b hb),
   k.os.trans h.os, k.tape.trans h.tape, k.output.trans h.output, Nat.le_trans h.size k.size⟩

theorem cell_mem {w w' : World} {b o : Nat} (h : w'.heap[b]? = w.heap[b]?) : w'.cell? ⟨b, o, none⟩ = w.cell? ⟨b, o, none⟩ := by simp [World.cell?, h]

/-- what Rep needs of a later state -/
structure Mono (E : Env) (n : Nat) (w : World) (E' : Env) (n' : Nat) (w' : World) : Prop where
  L : ∀ r, r < n → r < n' ∧ E'.L r = E.L r
  F : ∀ b, E.F b → E'.F b
  mem : ∀ b, E.F b → w'.heap[b]? = w.heap[b]?

theorem Ext.toMono {E E' : Env} {n n' : Nat} {w w' : World} (h : Ext E n w E' n' w') : Mono E n w E' n' w' :=
  ⟨fun r hr => ⟨Nat.lt_of_lt_of_le hr h.n_le, h.L r hr⟩, h.F, fun b hb => h.mem b (.inl hb)⟩

theorem Rep.mono {E E' : Env} {n n' : Nat} {w w' : World} (m : Mono E n w E' n' w') {x : AV} {v : Value} (h : Rep E n w x v) : Rep E' n' w' x v := by
  induction h with
  | any v => exact .any v
  | bool b => exact .bool b
  | int k x => exact .int k x
  | str s => exact .str s
  | nilf => exact .nilf
  | nilp => exact .nilp
  | nils cp => exact .nils cp
  | emps a cp => exact .emps a cp
  | ptr i off o h ho => have := m.L _ h; rw [← this.2]; exact .ptr i off o this.1 (by rw [this.2]; exact ho)
  | yld h => have := m.L _ h; rw [← this.2]; exact .yld this.1
  | mref h => have := m.L _ h; rw [← this.2]; exact .mref this.1
  | vptr b o c hF hc h ih => exact .vptr b o c (m.F b hF) (fun j hj => by rw [cell_mem (m.mem b hF)]; exact hc j hj) ih
  | own h hm h1 h2 ha => have := m.L _ h; exact .own this.1 hm h1 (by rw [this.2]; exact h2) (by rw [this.2]; exact ha)
  | sl b o c hl hcp hs ha hc h ih =>
    refine .sl b o c hl hcp hs (ha.imp id fun x => ⟨x.1, m.F b x.2⟩) (fun i j hi hj => ?_) ih
    rcases ha with ha | ha
    · subst ha; simp at hi
    · rw [cell_mem (m.mem b ha.2)]; exact hc i j hi hj
  | fsl b o c hl hcp hs ha hc h ih =>
    refine .fsl b o c hl hcp hs (ha.imp id fun x => ⟨x.1, m.F b x.2⟩) (fun i j hi hj => ?_) ih
    rcases ha with ha | ha
    · subst ha; simp at hi
    · rw [cell_mem (m.mem b ha.2)]; exact hc i j hi hj
  | agg hl h ih => exact .agg hl ih
  | tup hl h ih => exact .tup hl ih
  | fn hla ha hlb hb iha ihb => exact .fn hla iha hlb ihb

/-- what package-level variables hold, in memory that never changes -/
def GlobOk (E : Env) (w : World) : Prop := ∀ g cs, globs g = some cs → Rep E 0 w (.vptr cs) (.pointer (some ⟨g, 0, none⟩))

theorem GlobOk.mono {E E' : Env} {w w' : World} (h : GlobOk E w) (hF : ∀ b, E.F b → E'.F b) (hm : ∀ b, E.F b → w'.heap[b]? = w.heap[b]?) : GlobOk E' w' :=
  fun g cs hg => (h g cs hg).mono ⟨fun _ hr => absurd hr (Nat.not_lt_zero _), hF, hm⟩
theorem GlobOk.at_ {E : Env} {w : World} (h : GlobOk E w) {g : Nat} {cs : List AV} (hg : globs g = some cs) (n : Nat) : Rep E n w (.vptr cs) (.pointer (some ⟨g, 0, none⟩)) :=
  (h g cs hg).mono ⟨fun _ hr => absurd hr (Nat.not_lt_zero _), fun _ h => h, fun _ _ => rfl⟩

theorem RepL.mono {E E' : Env} {n n' : Nat} {w w' : World} (m : Mono E n w E' n' w') {xs : List AV} {vs : List Value} (h : RepL E n w xs vs) : RepL E' n' w' xs vs :=
  ⟨h.len, fun j x v hx hv => (h.at_ j x v hx hv).mono m⟩

mutual
/-- all references lie below -/
def AV.lt (n : Nat) : AV → Prop
  | .ptr r _ _ => r < n
  | .own r _ _ _ => r < n
  | .yld r => r < n
  | .mref r => r < n
  | .vptr cs | .agg cs | .tup cs => AV.ltL n cs
  | .sl _ es | .fsl _ es => AV.ltLL n es
  | .fn _ a b => AV.ltL n a ∧ AV.ltL n b
  | _ => True
def AV.ltL (n : Nat) : List AV → Prop
  | [] => True
  | v :: l => v.lt n ∧ AV.ltL n l
def AV.ltLL (n : Nat) : List (List AV) → Prop
  | [] => True
  | v :: l => AV.ltL n v ∧ AV.ltLL n l
end

theorem ltL_iff {n : Nat} {l : List AV} : AV.ltL n l ↔ ∀ (j : Nat) x, l[j]? = some x → x.lt n := by
  induction l with
  | nil => simp [AV.ltL]
  | cons v l ih =>
    simp only [AV.ltL, ih]
    constructor
    · rintro ⟨h1, h2⟩ j x hx
      cases j with
      | zero => simp at hx; subst hx; exact h1
      | succ j => exact h2 j x (by simpa using hx)
    · intro h
      exact ⟨h 0 v (by simp), fun j x hx => h (j + 1) x (by simpa using hx)⟩

theorem ltLL_iff {n : Nat} {l : List (List AV)} : AV.ltLL n l ↔ ∀ (i : Nat) e (j : Nat) x, l[i]? = some e → e[j]? = some x → x.lt n := by
  induction l with
  | nil => simp [AV.ltLL]
  | cons v l ih =>
    simp only [AV.ltLL, ih, ltL_iff]
    constructor
    · rintro ⟨h1, h2⟩ i e j x he hx
      cases i with
      | zero => simp at he; subst he; exact h1 j x hx
      | succ i => exact h2 i e j x (by simpa using he) hx
    · intro h
      exact ⟨fun j x hx => h 0 v j x (by simp) hx, fun i e j x he hx => h (i + 1) e j x (by simpa using he) hx⟩

theorem flatL_iff {l : List AV} : AV.flatL l = true ↔ ∀ (j : Nat) x, l[j]? = some x → x.flat = true := by
  induction l with
  | nil => simp [AV.flatL]
  | cons v l ih =>
    simp only [AV.flatL, Bool.and_eq_true, ih]
    constructor
    · rintro ⟨h1, h2⟩ j x hx
      cases j with
      | zero => simp at hx; subst hx; exact h1
      | succ j => exact h2 j x (by simpa using hx)
    · intro h
      exact ⟨h 0 v (by simp), fun j x hx => h (j + 1) x (by simpa using hx)⟩

theorem flatLL_iff {l : List (List AV)} : AV.flatLL l = true ↔ ∀ (i : Nat) e (j : Nat) x, l[i]? = some e → e[j]? = some x → x.flat = true := by
  induction l with
  | nil => simp [AV.flatLL]
  | cons v l ih =>
    simp only [AV.flatLL, Bool.and_eq_true, ih, flatL_iff]
    constructor
    · rintro ⟨h1, h2⟩ i e j x he hx
      cases i with
      | zero => simp at he; subst he; exact h1 j x hx
      | succ i => exact h2 i e j x (by simpa using he) hx
    · intro h
      exact ⟨fun j x hx => h 0 v j x (by simp) hx, fun i e j x he hx => h (i + 1) e j x (by simpa using he) hx⟩

theorem get_of_len {vs : Array Value} {j n : Nat} (hl : n = vs.size) (h : j < n) : ∃ v, vs[j]? = some v := ⟨vs[j]'(by omega), by simp [show j < vs.size by omega]⟩
theorem lt_of_get {α : Type} {l : List α} {j : Nat} {x : α} (h : l[j]? = some x) : j < l.length := by
  rcases Nat.lt_or_ge j l.length with h' | h'
  · exact h'
  · simp [List.getElem?_eq_none h'] at h

theorem Rep.ltn {E : Env} {n : Nat} {w : World} {x : AV} {v : Value} (h : Rep E n w x v) : x.lt n := by
  induction h with
  | ptr i off o h ho => exact h
  | yld h => exact h
  | own h hm h1 h2 ha => exact h
  | vptr b o c hF hc h ih => exact ltL_iff.2 ih
  | sl b o c hl hcp hs ha hc h ih => exact ltLL_iff.2 ih
  | fsl b o c hl hcp hs ha hc h ih => exact ltLL_iff.2 ih
  | agg hl h ih => exact ltL_iff.2 fun j x hx => by obtain ⟨v, hv⟩ := get_of_len hl (lt_of_get hx); exact ih j x v hx hv
  | tup hl h ih => exact ltL_iff.2 fun j x hx => by obtain ⟨v, hv⟩ := get_of_len hl (lt_of_get hx); exact ih j x v hx hv
  | fn hla ha hlb hb iha ihb =>
    exact ⟨ltL_iff.2 fun j x hx => by obtain ⟨v, hv⟩ := get_of_len hla (lt_of_get hx); exact iha j x v hx hv,
      ltL_iff.2 fun j x hx => by obtain ⟨v, hv⟩ := get_of_len hlb (lt_of_get hx); exact ihb j x v hx hv⟩
  | _ => trivial

/-- only references below m are asked about -/
theorem Rep.shrink {E E' : Env} {n m : Nat} {w w' : World} (hL : ∀ r, r < m → E'.L r = E.L r) (hF : ∀ b, E.F b → E'.F b) (hm : ∀ b, E.F b → w'.heap[b]? = w.heap[b]?)
    {x : AV} {v : Value} (h : Rep E n w x v) (hx : x.lt m) : Rep E' m w' x v := by
  induction h with
  | any v => exact .any v
  | bool b => exact .bool b
  | int k x => exact .int k x
  | str s => exact .str s
  | nilf => exact .nilf
  | nilp => exact .nilp
  | nils cp => exact .nils cp
  | emps a cp => exact .emps a cp
  | ptr i off o h ho => have e := hL _ hx; rw [← e]; exact .ptr i off o hx (by rw [e]; exact ho)
  | yld h => have e := hL _ hx; rw [← e]; exact .yld hx
  | mref h => have e := hL _ hx; rw [← e]; exact .mref hx
  | vptr b o c hF' hc h ih => exact .vptr b o c (hF b hF') (fun j hj => by rw [cell_mem (hm b hF')]; exact hc j hj) fun j x hj => ih j x hj (ltL_iff.1 hx j x hj)
  | own h hm h1 h2 ha => have e := hL _ hx; exact .own hx hm h1 (by rw [e]; exact h2) (by rw [e]; exact ha)
  | sl b o c hl hcp hs ha hc h ih =>
    refine .sl b o c hl hcp hs (ha.imp id fun x => ⟨x.1, hF b x.2⟩) (fun i j hi hj => ?_) fun i e j x he hj => ih i e j x he hj (ltLL_iff.1 hx i e j x he hj)
    rcases ha with ha | ha
    · subst ha; simp at hi
    · rw [cell_mem (hm b ha.2)]; exact hc i j hi hj
  | fsl b o c hl hcp hs ha hc h ih =>
    refine .fsl b o c hl hcp hs (ha.imp id fun x => ⟨x.1, hF b x.2⟩) (fun i j hi hj => ?_) fun i e j x he hj => ih i e j x he hj (ltLL_iff.1 hx i e j x he hj)
    rcases ha with ha | ha
    · subst ha; simp at hi
    · rw [cell_mem (hm b ha.2)]; exact hc i j hi hj
  | agg hl h ih => exact .agg hl fun j x v hj hv => ih j x v hj hv (ltL_iff.1 hx j x hj)
  | tup hl h ih => exact .tup hl fun j x v hj hv => ih j x v hj hv (ltL_iff.1 hx j x hj)
  | fn hla ha hlb hb iha ihb => exact .fn hla (fun j x v hj hv => iha j x v hj hv (ltL_iff.1 hx.1 j x hj)) hlb fun j x v hj hv => ihb j x v hj hv (ltL_iff.1 hx.2 j x hj)

theorem AV.flat_lt (n : Nat) {x : AV} (h : x.flat = true) : x.lt n := by
  have key : ∀ k (x : AV), SizeOf.sizeOf x < k → x.flat = true → x.lt n := by
    intro k
    induction k with
    | zero => intro x hx; omega
    | succ k ih =>
      intro x hx h
      have hL : ∀ l : List AV, SizeOf.sizeOf l < k → AV.flatL l = true → AV.ltL n l := by
        intro l
        induction l with
        | nil => intros; trivial
        | cons v l ihl =>
          intro hs hf
          simp only [AV.flatL, Bool.and_eq_true] at hf
          simp at hs
          exact ⟨ih v (by omega) hf.1, ihl (by omega) hf.2⟩
      have hLL : ∀ l : List (List AV), SizeOf.sizeOf l < k → AV.flatLL l = true → AV.ltLL n l := by
        intro l
        induction l with
        | nil => intros; trivial
        | cons v l ihl =>
          intro hs hf
          simp only [AV.flatLL, Bool.and_eq_true] at hf
          simp at hs
          exact ⟨hL v (by omega) hf.1, ihl (by omega) hf.2⟩
      cases x with
      | ptr => simp [AV.flat] at h
      | own => simp [AV.flat] at h
      | yld => simp [AV.flat] at h
      | fsl => simp [AV.flat] at h
      | vptr cs => simp at hx; exact hL cs (by omega) h
      | agg cs => simp at hx; exact hL cs (by omega) h
      | tup cs => simp at hx; exact hL cs (by omega) h
      | sl sz es => simp at hx; exact hLL es (by omega) h
      | fn f a b => simp at hx; simp only [AV.flat, Bool.and_eq_true] at h; exact ⟨hL a (by omega) h.1, hL b (by omega) h.2⟩
      | _ => trivial
  exact key _ x (Nat.lt_succ_self _) h

end Go.Proofs.Ytgabnhmjlhhojaa.A

/- When code of the loaded program and code of the interpreter are the same: a check that the kernel runs. -/
namespace Go.Proofs.Ytgabnhmjlhhojaa.A
open Go

def atomB : AV → Value → Bool
  | .bool a, .bool b => a == b
  | .int k n, .int k' n' => decide (k = k') && decide (n = n')
  | .str s, .string s' => decide (s = s')
  | .nilf, .nilFunc => true
  | .nilp, .pointer none => true
  | .fsl _ [], .slice none 0 0 => true
  | .any, _ => true
  | _, _ => false

def atomsB : List AV → List Value → Bool
  | [], [] => true
  | x :: l, v :: m => atomB x v && v.oneCell' && atomsB l m
  | _, _ => false

def constB : AV → Value → Bool
  | .agg cs, .agg vs => atomsB cs vs.toList
  | x, v => atomB x v

def opdB : Opd → Operand → Bool
  | .t a, .tmp b => a == b
  | .c x, .const v => constB x v
  | .f a, .func b => rl a == b
  | .g a, .global b => a == b && (globs a).isSome
  | _, _ => false

def opdsB : List Opd → List Operand → Bool
  | [], [] => true
  | x :: l, y :: m => opdB x y && opdsB l m
  | _, _ => false

def opdO : Option Opd → Option Operand → Bool
  | none, none => true
  | some x, some y => opdB x y
  | _, _ => false

def sizeB (P : Program) (t sz : Nat) : Bool := (P.info? t).map (·.size) == some sz
def bytesB (P : Program) (t b : Nat) : Bool := (P.info? t).map (·.bytes) == some b

/-- the zero value of a type -/
def zeroB (P : Program) (t : Nat) (z : List AV) : Bool :=
  match P.info? t with
  | some i => match i.zero with
    | some v => atomsB z v.cells.toList && i.size == z.length
    | none => false
  | none => false

def isAggB (P : Program) (t : Nat) (agg : Bool) : Bool :=
  match P.underlying t with
  | some (.struct _) | some (.array _ _) => agg
  | some _ => !agg
  | none => false

def partsB (P : Program) (fs : Array Field) : List (Nat × Operand) → List (Nat × Nat × Opd) → Bool
  | [], [] => true
  | (i, x) :: l, (o, n, y) :: m =>
    (match fs[i]? with | some f => f.offset == o && sizeB P f.type n | none => false) && opdB y x && partsB P fs l m
  | _, _ => false

def partsSlB : List (Nat × Operand) → List (Nat × Opd) → Bool
  | [], [] => true
  | (i, x) :: l, (j, y) :: m => i == j && opdB y x && partsSlB l m
  | _, _ => false

def fieldsKnown (P : Program) (fs : Array Field) : Bool := fs.toList.all fun f => (P.info? f.type).isSome

def chkBuiltin (P : Program) (b : Builtin) (args : List Operand) (ts : List TypeId) : AO → Bool
  | .len b' => (match b, args, ts with
    | .len, [a], [t] => opdB b' a && (match P.underlying t with | some (.slice _) => true | _ => false)
    | _, _, _ => false)
  | .lenS b' => (match b, args, ts with
    | .len, [a], [t] => opdB b' a && (match P.underlying t with | some .string => true | _ => false)
    | _, _, _ => false)
  | .append ty sz bytes s' x' => (match b, args, ts with
    | .append, [s, x], [t, t'] => opdB s' s && opdB x' x && t == t' && (match P.underlying t with
      | some (.slice e) => e == ty && (match P.info? e with | some i => i.size == sz && i.bytes == bytes && decide (0 < sz) && (match i.zero with | some z => z.cells.size == sz | none => false) | none => false)
      | _ => false)
    | _, _, _ => false)
  | .max2 a' b' => (match b, args with | .max, [x, y] => opdB a' x && opdB b' y | _, _ => false)
  | .min2 a' b' => (match b, args with | .min, [x, y] => opdB a' x && opdB b' y | _, _ => false)
  | _ => false

def chkCall (P : Program) (c : Call) (x : AO) : Bool :=
  match c.callee with
  | .builtin b => chkBuiltin P b c.args.toList c.argTypes.toList x
  | .value f => (match x with
    | .call f' args' => (match f with | .func g => g == rl f' && opdsB args' c.args.toList | _ => false)
    | .callv f' args' => opdB f' f && opdsB args' c.args.toList
    | .add64 x y d => (match f, c.args.toList with
      | .func g, [p, q, r] => opdB x p && opdB y q && opdB d r && (match P.funcs[g]? with | some fn => fn.name == "math/bits.Add64" && fn.origin == "" && fn.body.isNone | none => false)
      | _, _ => false)
    | _ => false)
  | .invoke _ _ => false

/-- the nil of a type -/
def nilB (P : Program) (t k : Nat) (b : Operand) : Bool :=
  match P.underlying t, b with
  | some (.slice _), .const (.slice none 0 0) => k == 0
  | some (.pointer _), .const (.pointer none) => k == 1
  | some (.func _ _ _), .const .nilFunc => k == 2
  | _, _ => false

/-- a struct's fields, all of one plain cell, from some cell on -/
def plainFs (P : Program) : Nat → List Nat → List Field → Bool
  | _, [], [] => true
  | o, k :: ks, f :: l => f.offset == o && f.name != "_" && sizeB P f.type 1 && (match P.underlying f.type with | some .bool => k == 0 | some (.int _) => k == 2 | some .string => k == 1 | _ => false) && plainFs P (o + 1) ks l
  | _, _, _ => false

def plainB (P : Program) (t : Nat) (ks : List Nat) : Bool := match P.underlying t with | some (.struct fs) => !P.stoodInHeld t && !P.eqGuardType P.depth t && plainFs P 0 ks fs.toList | _ => false

/-- the zero value of a type, as it is loaded -/
def zeroV (P : Program) (t : Nat) (agg : Bool) (z : List AV) : Bool :=
  match P.info? t with
  | some i => match i.zero with
    | some (.agg cs) => agg && atomsB z cs.toList
    | some v => !agg && atomsB z [v]
    | none => false
  | none => false

/-- a map's keys: strings, or numbers -/
def keyB (P : Program) (t : Nat) (s : Bool) : Bool := match P.underlying t with | some .string => s | some (.int _) => !s | _ => false

def chkOp (P : Program) : Op → AO → Bool
  | .move a, .move b | .assign a, .move b => opdB b a
  | .pick c a b, .pick c' a' b' => opdB c' c && opdB a' a && opdB b' b
  | .alloc e, .alloc ty z => ty == e && zeroB P e z && decide (0 < z.length)
  | .box e v, .box ty v' => ty == e && opdB v' v
  | .build t ps, .build z ps' => zeroB P t z && (match P.underlying t with | some (.struct fs) => fieldsKnown P fs && partsB P fs ps.toList ps' | _ => false)
  | .buildSlice t len ps, .buildSl sz z n ps' =>
    match P.underlying t with
    | some (.slice e) => zeroB P e z && z.length == sz && decide (0 < sz) && sizeB P e sz && n == len && decide (len * sz ≤ 2 ^ 24) && partsSlB ps.toList ps'
    | _ => false
  | .makeSlice t l c, .mksl sz z x => opdB x l && opdB x c && (match P.underlying t with
    | some (.slice e) => zeroB P e z && z.length == sz && decide (0 < sz) && sizeB P e sz && (match P.info? e with | some i => decide (i.bytes ≤ 1000000) && i.size == sz | none => false)
    | _ => false)
  | .load t a, .load agg sz b => opdB b a && sizeB P t sz && isAggB P t agg && decide (0 < sz) && (agg || sz == 1)
  | .store t a v, .store sz a' v' => opdB a' a && opdB v' v && sizeB P t sz && decide (0 < sz)
  | .nilCheck a, .nilck b => opdB b a
  | .binOp op _ a b _, .bin op' a' b' => decide (op = op') && opdB a' a && opdB b' b
  | .binOp op t a b _, .beq neg a' b' => (match op with | .eql => !neg | .neq => neg | _ => false) && opdB a' a && opdB b' b && (match P.underlying t with | some .bool => true | _ => false)
  | .binOp op t a b _, .isnil k neg a' => (match op with | .eql => !neg | .neq => neg | _ => false) && opdB a' a && nilB P t k b
  | .binOp op _ a b _, .sh l a' b' => (match op with | .shl => l | .shr => !l | _ => false) && opdB a' a && opdB b' b
  | .binOp op t a b _, .aeq ks neg a' b' => (match op with | .eql => !neg | .neq => neg | _ => false) && opdB a' a && opdB b' b && plainB P t ks
  | .unOp .not _ a, .not b => opdB b a
  | .unOp .neg _ a, .neg b => opdB b a
  | .unOp .xor _ a, .com b => opdB b a
  | .convert s d a, .conv k b => opdB b a && (P.underlying s).isSome && (match P.underlying d with | some (.int k') => decide (k = k') | _ => false)
  | .convert s d a, .same b => opdB b a && (P.underlying s).isSome && (match P.underlying d with | some .string => true | _ => false)
  | .makeFunc f a c, .mkfn f' a' c' => decide (f = rlF f') && opdsB a' a.toList && opdsB c' c.toList
  | .fieldAddr s a f, .fieldA off b => opdB b a && (match P.underlying s with | some (.struct fs) => (match fs[f]? with | some fd => fd.offset == off && (match P.info? fd.type with | some i => i.size != 0 | none => false) | none => false) | _ => false)
  | .field t a f, .field agg off sz b => opdB b a && (match P.underlying t with | some (.struct fs) => (match fs[f]? with | some fd => fd.offset == off && sizeB P fd.type sz && isAggB P fd.type agg && (agg || sz == 1) | none => false) | _ => false)
  | .indexAddr t a i, .idxA sz a' i' => opdB a' a && opdB i' i && (match P.underlying t with | some (.slice e) => sizeB P e sz && decide (0 < sz) | _ => false)
  | .indexAddr t a i, .idxV sz a' i' => opdB a' a && opdB i' i && (match P.underlying t with | some (.slice e) => sizeB P e sz && decide (0 < sz) | _ => false)
  | .indexAddr t a i, .idxArrA n sz a' i' => opdB a' a && opdB i' i && (match P.underlying t with | some (.array m e) => m == n && sizeB P e sz && decide (0 < sz) | _ => false)
  | .index t a i, .idxS a' i' => opdB a' a && opdB i' i && (match P.underlying t with | some .string => true | _ => false)
  | .slice t a lo hi mx, .slice sz a' lo' hi' mx' => opdB a' a && opdO lo' lo && opdO hi' hi && opdO mx' mx && (mx.isNone || hi.isSome) && (match P.underlying t with | some (.slice e) => sizeB P e sz && decide (0 < sz) | _ => false)
  | .slice t a lo hi none, .sliceS a' lo' hi' => opdB a' a && opdO lo' lo && opdO hi' hi && (match P.underlying t with | some .string => true | _ => false)
  | .extract a i, .extract b j => opdB b a && i == j
  | .call c, .len b => chkCall P c (.len b)
  | .call c, .lenS b => chkCall P c (.lenS b)
  | .call c, .append ty sz bytes s' x' => chkCall P c (.append ty sz bytes s' x')
  | .call c, .max2 a' b' => chkCall P c (.max2 a' b')
  | .call c, .min2 a' b' => chkCall P c (.min2 a' b')
  | .call c, .call f' args' => chkCall P c (.call f' args')
  | .call c, .callv f' args' => chkCall P c (.callv f' args')
  | .call c, .add64 x y d => chkCall P c (.add64 x y d)
  | .makeMap _ none, .mkmap => true
  | .mapUpdate t m k v, .mapset s m' k' v' | .insert t m k v, .mapset s m' k' v' => opdB m' m && opdB k' k && opdB v' v && (match P.underlying t with | some (.map kt _) => keyB P kt s | _ => false)
  | .lookup t m k c, .mapget s ok agg z m' k' => c == ok && opdB m' m && opdB k' k && (match P.underlying t with | some (.map kt e) => keyB P kt s && zeroV P e agg z | _ => false)
  | _, _ => false

def chkOper (P : Program) (ops : Array Oper) (o : Oper) (x : AOp) : Bool :=
  o.dst == x.dst && chkOp P o.op x.op &&
  (match o.guard, x.guard with
    | none, none => true
    | some (j, w), some (s, w') => w == w' && (ops[j]?).bind (·.dst) == some s
    | _, _ => false)

def chkOpers (P : Program) (ops : Array Oper) : List Oper → List AOp → Bool
  | [], [] => true
  | o :: l, x :: m => chkOper P ops o x && chkOpers P ops l m
  | _, _ => false

/-! The statements whose order is open. -/

inductive Cls where
  | pur   -- slots alone
  | shp   -- asks how long an array is
  | rd    -- looks into the store
  | new   -- makes an object
  | wr    -- writes one place
  | run   -- a call that leaves the store alone
  | oth
  deriving DecidableEq

def cls (T : Tab) : AO → Cls
  | .load .. => .rd
  | .alloc .. | .box .. => .new
  | .store .. => .wr
  | .append .. => .oth
  | .idxA .. => .shp
  | .slice .. => .shp
  | .call f _ => (match T f with | some F => if F.pure then .run else .oth | none => .oth)
  | .callv .. => .oth
  | .mkmap | .mapset .. | .mapget .. => .oth
  | _ => .pur

def clsOk : Cls → Cls → Bool
  | .pur, _ | _, .pur => true
  | .rd, .rd | .rd, .shp | .shp, .rd | .shp, .shp | .run, .run | .run, .rd | .rd, .run | .run, .shp | .shp, .run => true
  | .wr, .wr | .shp, .wr | .wr, .shp => true
  | _, _ => false

def opSlots : Opd → List Nat
  | .t n => [n]
  | _ => []
def opsSlots (l : List Opd) : List Nat := l.flatMap opSlots
def opoSlots : Option Opd → List Nat
  | some x => opSlots x
  | none => []

def reads : AO → List Nat
  | .mksl _ _ x | .isnil _ _ x | .move x | .box _ x | .nilck x | .not x | .neg x | .com x | .conv _ x | .same x | .fieldA _ x | .field _ _ _ x | .extract x _ | .len x | .lenS x | .load _ _ x => opSlots x
  | .pick a b c => opSlots a ++ opSlots b ++ opSlots c
  | .alloc .. => []
  | .build _ ps => ps.flatMap fun p => opSlots p.2.2
  | .buildSl _ _ _ ps => ps.flatMap fun p => opSlots p.2
  | .store _ a v => opSlots a ++ opSlots v
  | .sh _ a b | .aeq _ _ a b | .bin _ a b | .beq _ a b | .idxA _ a b | .idxV _ a b | .idxArrA _ _ a b | .idxS a b | .append _ _ _ a b | .max2 a b | .min2 a b => opSlots a ++ opSlots b
  | .mkfn _ a b => opsSlots a ++ opsSlots b
  | .slice _ x a b c => opSlots x ++ opoSlots a ++ opoSlots b ++ opoSlots c
  | .sliceS x a b => opSlots x ++ opoSlots a ++ opoSlots b
  | .call _ l => opsSlots l
  | .callv f l => opSlots f ++ opsSlots l
  | .mkmap => []
  | .mapset _ m k v => opSlots m ++ opSlots k ++ opSlots v
  | .mapget _ _ _ _ m k => opSlots m ++ opSlots k
  | .add64 x y c => opSlots x ++ opSlots y ++ opSlots c

def AOp.slots (o : AOp) : List Nat := reads o.op ++ (match o.guard with | some (j, _) => [j] | none => [])

def slotsApart (x y : AOp) : Bool :=
  (match x.dst with | some d => !y.slots.contains d && y.dst != some d | none => true) &&
  (match y.dst with | some d => !x.slots.contains d | none => true)

def free2 (T : Tab) (x y : AOp) : Bool := slotsApart x y && clsOk (cls T x.op) (cls T y.op)

/-- each two operations either wait for one another or may change places -/
def drawFrom (T : Tab) (l : List AOp) (b : Array Nat) : Nat → List AOp → Bool
  | _, [] => true
  | j, y :: m => (List.range j).all (fun i => (b.getD j 0).testBit i || (match l[i]? with | some x => free2 T x y | none => false)) && drawFrom T l b (j + 1) m

def edgesB (ops : Array Oper) : Bool := (List.range ops.size).all fun j => match ops[j]? with | some o => o.after.toList.all fun e => !Region.binds .any e || decide (e.on < j) | none => false

def drawB (T : Tab) (ops : Array Oper) (l : List AOp) : Bool := edgesB ops && drawFrom T l (Region.before ops) 0 l

/-- the same where calls may write: what leaves the store alone changes places with its like, and what reads goes ahead of what writes -/
def quiet : Cls → Bool
  | .pur | .rd | .shp | .run => true
  | _ => false

def clsW (x y : Cls) : Bool := (quiet x && quiet y) || x == .pur || y == .pur || (x == .rd && (y == .oth || y == .new))

def freeW (T : Tab) (x y : AOp) : Bool := slotsApart x y && clsW (cls T x.op) (cls T y.op)

def drawFromW (T : Tab) (l : List AOp) (b : Array Nat) : Nat → List AOp → Bool
  | _, [] => true
  | j, y :: m => (List.range j).all (fun i => (b.getD j 0).testBit i || (match l[i]? with | some x => freeW T x y | none => false)) && drawFromW T l b (j + 1) m

def drawW (T : Tab) (ops : Array Oper) (l : List AOp) : Bool := edgesB ops && drawFromW T l (Region.before ops) 0 l

/-- a new object of no guard -/
def isAl (x : AOp) : Bool :=
  match x.op, x.guard, x.dst with
  | .alloc _ _, none, some _ => true
  | _, _, _ => false

/-- what goes ahead of the new objects of a statement; these; what follows -/
def cut1 (l : List AOp) : List AOp := l.takeWhile fun x => !isAl x
def cut2 (l : List AOp) : List AOp := (l.dropWhile fun x => !isAl x).takeWhile isAl
def cut3 (l : List AOp) : List AOp := (l.dropWhile fun x => !isAl x).dropWhile isAl

def apartAll : List AOp → Bool
  | [] => true
  | x :: l => l.all (slotsApart x) && apartAll l

/-- new objects that may come at any time ahead of what follows them, which waits for all -/
def drawP (T : Tab) (ops : Array Oper) (l : List AOp) : Bool :=
  edgesB ops && drawFromW T (cut1 l) (Region.before ops) 0 (cut1 l) && (cut1 l).all (fun x => (cut2 l).all fun y => slotsApart x y) && apartAll (cut2 l) &&
  (List.range (cut3 l).length).all fun j => (List.range ((cut1 l).length + (cut2 l).length + j)).all fun i => ((Region.before ops).getD ((cut1 l).length + (cut2 l).length + j) 0).testBit i

/-! the same, where stores may come ahead of readings that do not meet them -/
def clsE (T : Tab) : AO → Cls
  | .call f l => if ((T f).isNone && extP f) = true then .pur else cls T (.call f l)
  | o => cls T o

/-- makes an object, and touches what is read by nobody -/
def newish : AO → Bool
  | .alloc .. | .box .. | .append .. => true
  | _ => false

def clsV (T : Tab) (x y : AO) : Bool := clsW (clsE T x) (clsE T y) || (clsE T x == .rd && clsE T y == .wr) || (newish x && clsE T y == .rd)

def freeV (T : Tab) (x y : AOp) : Bool := slotsApart x y && clsV T x.op y.op

def pairsV (T : Tab) (l : List AOp) (b : Array Nat) (ex : Nat → Nat → Bool) : Nat → List AOp → Bool
  | _, [] => true
  | j, y :: m => (List.range j).all (fun i => (b.getD j 0).testBit i || ex i j || (match l[i]? with | some x => freeV T x y | none => false)) && pairsV T l b ex (j + 1) m

/-- all that follows the new objects waits for it -/
def earlyB (b : Array Nat) (e N i : Nat) : Bool := (List.range (N - e)).all fun k => (b.getD (e + k) 0).testBit i

def exemptB (b : Array Nat) (c e N i j : Nat) : Bool := (decide (c ≤ i) && decide (j < e)) || (decide (i < c) && decide (c ≤ j) && decide (j < e) && earlyB b e N i)

def drawV (T : Tab) (ops : Array Oper) (l : List AOp) : Bool :=
  edgesB ops && (cut1 l).all (fun x => (cut2 l).all fun y => slotsApart x y) && apartAll (cut2 l) && (List.range (cut2 l).length).all (fun i => earlyB (Region.before ops) ((cut1 l).length + (cut2 l).length) l.length ((cut1 l).length + i)) &&
  pairsV T l (Region.before ops) (exemptB (Region.before ops) (cut1 l).length ((cut1 l).length + (cut2 l).length) l.length) 0 l

def chkC (P : Program) (T : Tab) : Code → AC → Bool
  | .skip, .skip => true
  | .region _ ops draw, .ops l d => d == draw && chkOpers P ops ops.toList l && (!draw || drawB T ops l)
  | .region _ ops draw, .opsW l => draw && chkOpers P ops ops.toList l && (drawW T ops l || drawP T ops l)
  | .region _ ops draw, .opsV l => draw && chkOpers P ops ops.toList l && drawV T ops l
  | .seq a b, .seq a' b' => chkC P T a a' && chkC P T b b'
  | .cond c a b, .cond c' a' b' => opdB c' c && chkC P T a a' && chkC P T b b'
  | .block id c, .block id' c' => id == id' && chkC P T c c'
  | .loop c, .loop c' => chkC P T c c'
  | .rangeFunc f ps a b, .range f' ps' a' b' => opdB f' f && ps.toList == ps' && chkC P T a a' && chkC P T b b'
  | .exit id, .exit id' => id == id'
  | .ret, .ret => true
  | _, _ => false

def chkRes (P : Program) : List ResultVar → List ARes → Bool
  | [], [] => true
  | .tmp t :: l, .tmp t' :: m => t == t' && chkRes P l m
  | .cell a t :: l, .cell a' agg sz :: m => a == a' && sizeB P t sz && isAggB P t agg && decide (0 < sz) && (agg || sz == 1) && chkRes P l m
  | _, _ => false

def chkF (P : Program) (T : Tab) (fn : Func) (F : AF) : Bool :=
  fn.ntmps == F.ntmps && chkRes P fn.results.toList F.results && fn.name != "runtime.NumGoroutine" &&
  (match fn.body with | some c => chkC P T c F.body | none => false)

/-- the function numbered f is the table's -/
def chkAt (P : Program) (T : Tab) (f : Nat) : Bool :=
  match P.funcs[rl f]?, T f with
  | some fn, some F => chkF P T fn F
  | _, none => true
  | none, some _ => false

end Go.Proofs.Ytgabnhmjlhhojaa.A

/- A store stands for memory; how both go on together. -/
namespace Go.Proofs.Ytgabnhmjlhhojaa.A
open Go

section
variable (P : Program) (T : Tab)

def ObjRep (E : Env) (n : Nat) (w : World) : Obj → Lay → Prop
  | .dead, _ => True
  | .dfr, l => w.heap[l.blk]? = some (.deferred (some []))
  | .arr ty sz es, l => l.sz = sz ∧ es.length ≤ l.cap ∧ l.cap ≤ maxLen ∧ 0 < sz ∧ (∀ e ∈ es, e.length = sz) ∧
      (l.cap = 0 ∨ ∃ cur, w.heap[l.blk]? = some (.cells cur ty (0, 0)) ∧ cur.size = l.cap * sz ∧
        ∀ i e j x, es[i]? = some e → e[j]? = some x → ∃ v, cur[i * sz + j]? = some v ∧ v.oneCell' = true ∧ Rep E n w x v)
  | .loop s p fr ps asg body, l => ∃ lp : Loop, w.heap[l.blk]? = some (.loop lp) ∧ lp.state = s ∧ pend p lp.pending ∧ lp.params.toList = ps ∧ chkC P T lp.assign asg = true ∧
      chkC P T lp.body body = true ∧ RepL E n w fr lp.tmps.toList
  | .mp es, l => ∃ ents clock, w.heap[l.blk]? = some (.map ents clock) ∧ ents.size = es.length ∧ ∀ (i : Nat) e x, es[i]? = some e → ents[i]? = some x → Rep E n w e.1 x.key ∧ Rep E n w e.2 x.val

def live : Obj → Lay → Prop
  | .arr .., l => l.cap ≠ 0
  | .loop .., _ => True
  | .dfr, _ => True
  | .mp .., _ => True
  | .dead, _ => False

structure Sim (E : Env) (st : St) (w : World) : Prop where
  obj : ∀ (r : Nat) o, st.objs[r]? = some o → ObjRep P T E st.objs.length w o (E.L r)
  away : ∀ (r : Nat) o, st.objs[r]? = some o → live o (E.L r) → ¬ E.H (E.L r).blk
  inj : ∀ (r r' : Nat) o o', st.objs[r]? = some o → st.objs[r']? = some o' → live o (E.L r) → live o' (E.L r') → r ≠ r' → (E.L r).blk ≠ (E.L r').blk
  fro : ∀ b, E.H b → b < w.heap.size
  glob : GlobOk E w
  dis : ∀ b, E.F b → ¬ E.G b

variable {P T} {E E' : Env} {st : St} {w w' : World} {n n' : Nat}

theorem ObjRep.mono {o : Obj} {l : Lay} (h : ObjRep P T E n w o l) (m : Mono E n w E' n' w') (hb : live o l → w'.heap[l.blk]? = w.heap[l.blk]?) : ObjRep P T E' n' w' o l := by
  cases o with
  | dead => trivial
  | dfr => exact (hb trivial).trans h
  | arr ty sz es =>
    obtain ⟨h1, h2, h3, h4, h5, h6⟩ := h
    refine ⟨h1, h2, h3, h4, h5, ?_⟩
    by_cases hc : l.cap = 0
    · exact .inl hc
    · obtain ⟨cur, hcur, hs, hx⟩ := h6.resolve_left hc
      refine .inr ⟨cur, (hb hc).trans hcur, hs, fun i e j x he hj => ?_⟩
      obtain ⟨v, hv, h1, hr⟩ := hx i e j x he hj
      exact ⟨v, hv, h1, hr.mono m⟩
  | loop s p fr ps asg body =>
    obtain ⟨lp, h1, h2, h3, h4, h5, h6, h7⟩ := h
    exact ⟨lp, (hb trivial).trans h1, h2, h3, h4, h5, h6, h7.mono m⟩
  | mp es =>
    obtain ⟨ents, clock, h1, h2, h3⟩ := h
    exact ⟨ents, clock, (hb trivial).trans h1, h2, fun i e x he hx => ⟨(h3 i e x he hx).1.mono m, (h3 i e x he hx).2.mono m⟩⟩

theorem ObjRep.lt {o : Obj} {l : Lay} (h : ObjRep P T E n w o l) (hl : live o l) : l.blk < w.heap.size := by
  have key : ∀ x, w.heap[l.blk]? = some x → l.blk < w.heap.size := fun x hx => by
    rcases Nat.lt_or_ge l.blk w.heap.size with h' | h'
    · exact h'
    · simp [Array.getElem?_eq_none h'] at hx
  cases o with
  | dead => exact hl.elim
  | dfr => exact key _ h
  | arr ty sz es =>
    obtain ⟨cur, hcur, _⟩ := h.2.2.2.2.2.resolve_left hl
    exact key _ hcur
  | loop s p fr ps asg body =>
    obtain ⟨lp, h1, _⟩ := h
    exact key _ h1
  | mp es =>
    obtain ⟨ents, clock, h1, _⟩ := h
    exact key _ h1

/-- new blocks, draws -/
theorem Sim.grow (h : Sim P T E st w) (hs : w.heap.size ≤ w'.heap.size) (hb : ∀ b, b < w.heap.size → w'.heap[b]? = w.heap[b]?) : Sim P T E st w' :=
  ⟨fun r o ho => (h.obj r o ho).mono ⟨fun _ hr => ⟨hr, rfl⟩, fun _ hF => hF, fun b hF => hb b (h.fro b (.inl hF))⟩ fun hl => hb _ ((h.obj r o ho).lt hl),
   h.away, h.inj, fun b hF => Nat.lt_of_lt_of_le (h.fro b hF) hs, h.glob.mono (fun _ h => h) (fun b hF => hb b (h.fro b (.inl hF))), h.dis⟩

theorem get_push {o : Obj} {r : Nat} {x : Obj} (h : (st.push o).objs[r]? = some x) : (r < st.objs.length ∧ st.objs[r]? = some x) ∨ (r = st.objs.length ∧ x = o) := by
  simp only [St.push] at h
  rcases Nat.lt_trichotomy r st.objs.length with h' | h' | h'
  · rw [List.getElem?_append_left h'] at h; exact .inl ⟨h', h⟩
  · subst h'; simp at h; exact .inr ⟨rfl, h.symm⟩
  · have := lt_of_get h; simp at this; omega

def updL (E : Env) (n : Nat) (l : Lay) : Env := { E with L := fun r => if r = n then l else E.L r }
theorem updL_lt {l : Lay} {r : Nat} (h : r < n) : (updL E n l).L r = E.L r := by simp [updL, Nat.ne_of_lt h]
theorem updL_eq {l : Lay} : (updL E n l).L n = l := by simp [updL]

/-- a new object, in a new block (or in none) -/
theorem Sim.push (h : Sim P T E st w) (o : Obj) (l : Lay) (hs : w.heap.size ≤ w'.heap.size) (hb : ∀ b, b < w.heap.size → w'.heap[b]? = w.heap[b]?)
    (hl : live o l → w.heap.size ≤ l.blk) (ho : ObjRep P T (updL E st.objs.length l) (st.objs.length + 1) w' o l) : Sim P T (updL E st.objs.length l) (st.push o) w' := by
  have hlen : (st.push o).objs.length = st.objs.length + 1 := by simp [St.push]
  have m : Mono E st.objs.length w (updL E st.objs.length l) (st.objs.length + 1) w' := ⟨fun r hr => ⟨by omega, updL_lt hr⟩, fun _ hF => hF, fun b hF => hb b (h.fro b (.inl hF))⟩
  refine ⟨fun r x hx => ?_, fun r x hx hlv => ?_, fun r r' x x' hx hx' hlv hlv' hne => ?_, fun b hF => Nat.lt_of_lt_of_le (h.fro b hF) hs, h.glob.mono m.F m.mem, h.dis⟩
  · rw [hlen]
    rcases get_push hx with ⟨hr, hx⟩ | ⟨rfl, rfl⟩
    · rw [updL_lt hr]
      exact (h.obj r x hx).mono m fun hl => hb _ ((h.obj r x hx).lt hl)
    · rw [updL_eq]; exact ho
  · rcases get_push hx with ⟨hr, hx⟩ | ⟨rfl, rfl⟩
    · rw [updL_lt hr] at hlv ⊢; exact h.away r x hx hlv
    · rw [updL_eq] at hlv ⊢
      intro hF
      have := h.fro _ hF
      have := hl hlv
      omega
  · rcases get_push hx with ⟨hr, gx⟩ | ⟨rfl, rfl⟩
    · rcases get_push hx' with ⟨hr', gx'⟩ | ⟨rfl, rfl⟩
      · rw [updL_lt hr] at hlv ⊢
        rw [updL_lt hr'] at hlv' ⊢
        exact h.inj r r' x x' gx gx' hlv hlv' hne
      · rw [updL_lt hr] at hlv ⊢
        rw [updL_eq] at hlv' ⊢
        have := (h.obj r x gx).lt hlv
        have := hl hlv'
        omega
    · rcases get_push hx' with ⟨hr', gx'⟩ | ⟨rfl, rfl⟩
      · rw [updL_eq] at hlv ⊢
        rw [updL_lt hr'] at hlv' ⊢
        have := (h.obj r' x' gx').lt hlv'
        have := hl hlv
        omega
      · exact absurd rfl hne

theorem Ext.push (l : Lay) (h : Sim P T E st w) (hs : w.heap.size ≤ w'.heap.size) (hb : ∀ b, b < w.heap.size → w'.heap[b]? = w.heap[b]?)
    (h1 : w'.os = w.os) (h2 : w'.tape = w.tape) (h3 : w'.output = w.output) : Ext E st.objs.length w (updL E st.objs.length l) (st.objs.length + 1) w' :=
  ⟨by omega, fun r hr => updL_lt hr, fun _ hF => hF, fun _ hG => hG, fun b hF => hb b (h.fro b hF), h1, h2, h3, hs⟩

theorem get_set {o : Obj} {r r' : Nat} {x : Obj} (h : (st.set r o).objs[r']? = some x) : (r' ≠ r ∧ st.objs[r']? = some x) ∨ (r' = r ∧ x = o ∧ r < st.objs.length) := by
  simp only [St.set, List.getElem?_set] at h
  by_cases e : r = r'
  · subst e
    rw [if_pos rfl] at h
    split at h
    · exact .inr ⟨rfl, (Option.some.inj h).symm, by assumption⟩
    · cases h
  · rw [if_neg e] at h
    exact .inl ⟨fun x => e x.symm, h⟩

/-- an object that is written, in its own block -/
theorem Sim.set (h : Sim P T E st w) (r : Nat) (o o' : Obj) (ho : st.objs[r]? = some o) (hlv : live o (E.L r)) (hs : w'.heap.size = w.heap.size)
    (hb : ∀ b, b ≠ (E.L r).blk → w'.heap[b]? = w.heap[b]?) (hl : live o' (E.L r) ∨ o' = .dead) (ho' : ObjRep P T E st.objs.length w' o' (E.L r)) : Sim P T E (st.set r o') w' := by
  have hlen : (st.set r o').objs.length = st.objs.length := by simp [St.set]
  have m : Mono E st.objs.length w E st.objs.length w' := ⟨fun r hr => ⟨hr, rfl⟩, fun _ hF => hF, fun b hF => hb b fun e => h.away r o ho hlv (.inl (e ▸ hF))⟩
  refine ⟨fun r' x hx => ?_, fun r' x hx hlv' => ?_, fun r1 r2 x x' hx hx' hlv1 hlv2 hne => ?_, fun b hF => by rw [hs]; exact h.fro b hF, h.glob.mono m.F m.mem, h.dis⟩
  · rw [hlen]
    rcases get_set hx with ⟨hne, hx⟩ | ⟨rfl, rfl, _⟩
    · exact (h.obj r' x hx).mono m fun hl => hb _ (h.inj r' r x o hx ho hl hlv hne)
    · exact ho'
  · rcases get_set hx with ⟨hne, hx⟩ | ⟨rfl, rfl, _⟩
    · exact h.away r' x hx hlv'
    · exact h.away r' o ho hlv
  · rcases get_set hx with ⟨hne1, gx⟩ | ⟨rfl, rfl, _⟩
    · rcases get_set hx' with ⟨hne2, gx'⟩ | ⟨rfl, rfl, _⟩
      · exact h.inj r1 r2 x x' gx gx' hlv1 hlv2 hne
      · exact h.inj r1 r2 x o gx ho hlv1 hlv hne
    · rcases get_set hx' with ⟨hne2, gx'⟩ | ⟨rfl, rfl, _⟩
      · exact h.inj r1 r2 o x' ho gx' hlv hlv2 hne
      · exact absurd rfl hne

theorem Ext.set (h : Sim P T E st w) {r : Nat} {o : Obj} (ho : st.objs[r]? = some o) (hlv : live o (E.L r)) (hs : w'.heap.size = w.heap.size)
    (hb : ∀ b, b ≠ (E.L r).blk → w'.heap[b]? = w.heap[b]?) (h1 : w'.os = w.os) (h2 : w'.tape = w.tape) (h3 : w'.output = w.output) : Ext E n w E n w' :=
  ⟨Nat.le_refl _, fun _ _ => rfl, fun _ hF => hF, fun _ hG => hG, fun b hF => hb b fun e => h.away r o ho hlv (e ▸ hF), h1, h2, h3, by omega⟩

/-- an object that is given up -/
theorem Sim.kill (h : Sim P T E st w) (r : Nat) : Sim P T E (st.set r .dead) w := by
  have hlen : (st.set r .dead).objs.length = st.objs.length := by simp [St.set]
  refine ⟨fun r' x hx => ?_, fun r' x hx hlv' => ?_, fun r1 r2 x x' hx hx' hlv1 hlv2 hne => ?_, h.fro, h.glob, h.dis⟩
  · rw [hlen]
    rcases get_set hx with ⟨_, hx⟩ | ⟨rfl, rfl, _⟩
    · exact h.obj r' x hx
    · trivial
  · rcases get_set hx with ⟨_, hx⟩ | ⟨rfl, rfl, _⟩
    · exact h.away r' x hx hlv'
    · exact hlv'.elim
  · rcases get_set hx with ⟨_, hx⟩ | ⟨rfl, rfl, _⟩
    · rcases get_set hx' with ⟨_, hx'⟩ | ⟨rfl, rfl, _⟩
      · exact h.inj r1 r2 x x' hx hx' hlv1 hlv2 hne
      · exact hlv2.elim
    · exact hlv1.elim

/-- an array that lives on, in its block, as a new object -/
theorem Sim.move (h : Sim P T E st w) (r : Nat) (o o' : Obj) (l : Lay) (ho : st.objs[r]? = some o) (hlv : live o (E.L r)) (hblk : l.blk = (E.L r).blk) (hs : w'.heap.size = w.heap.size)
    (hb : ∀ b, b ≠ (E.L r).blk → w'.heap[b]? = w.heap[b]?) (ho' : ObjRep P T (updL E st.objs.length l) (st.objs.length + 1) w' o' l) :
    Sim P T (updL E st.objs.length l) ((st.set r .dead).push o') w' := by
  have hlen : ((st.set r .dead).push o').objs.length = st.objs.length + 1 := by simp [St.push, St.set]
  have hl0 : (st.set r .dead).objs.length = st.objs.length := by simp [St.set]
  have m : Mono E st.objs.length w (updL E st.objs.length l) (st.objs.length + 1) w' :=
    ⟨fun r hr => ⟨by omega, updL_lt hr⟩, fun _ hF => hF, fun b hF => hb b fun e => h.away r o ho hlv (.inl (e ▸ hF))⟩
  have key : ∀ (r' : Nat) x, ((st.set r .dead).push o').objs[r']? = some x → (r' < st.objs.length ∧ r' ≠ r ∧ st.objs[r']? = some x) ∨ x = .dead ∨ (r' = st.objs.length ∧ x = o') := by
    intro r' x hx
    rcases get_push hx with ⟨hr, hx⟩ | ⟨e, rfl⟩
    · rw [hl0] at hr
      rcases get_set hx with ⟨hne, hx⟩ | ⟨_, rfl, _⟩
      · exact .inl ⟨hr, hne, hx⟩
      · exact .inr (.inl rfl)
    · rw [hl0] at e; exact .inr (.inr ⟨e, rfl⟩)
  refine ⟨fun r' x hx => ?_, fun r' x hx hlv' => ?_, fun r1 r2 x x' hx hx' hlv1 hlv2 hne => ?_, fun b hF => by rw [hs]; exact h.fro b hF, h.glob.mono m.F m.mem, h.dis⟩
  · rw [hlen]
    rcases key r' x hx with ⟨hr, hne, hx⟩ | rfl | ⟨rfl, rfl⟩
    · rw [updL_lt hr]
      exact (h.obj r' x hx).mono m fun hl => hb _ (h.inj r' r x o hx ho hl hlv hne)
    · trivial
    · rw [updL_eq]; exact ho'
  · rcases key r' x hx with ⟨hr, hne, hx⟩ | rfl | ⟨rfl, rfl⟩
    · rw [updL_lt hr] at hlv' ⊢; exact h.away r' x hx hlv'
    · exact hlv'.elim
    · rw [updL_eq, hblk]; exact h.away r o ho hlv
  · rcases key r1 x hx with ⟨hr1, hne1, gx⟩ | rfl | ⟨rfl, rfl⟩
    · rw [updL_lt hr1] at hlv1 ⊢
      rcases key r2 x' hx' with ⟨hr2, hne2, gx'⟩ | rfl | ⟨rfl, rfl⟩
      · rw [updL_lt hr2] at hlv2 ⊢; exact h.inj r1 r2 x x' gx gx' hlv1 hlv2 hne
      · exact hlv2.elim
      · rw [updL_eq, hblk]; exact h.inj r1 r x o gx ho hlv1 hlv hne1
    · exact hlv1.elim
    · rcases key r2 x' hx' with ⟨hr2, hne2, gx'⟩ | rfl | ⟨rfl, rfl⟩
      · rw [updL_lt hr2] at hlv2 ⊢
        rw [updL_eq, hblk]; exact (h.inj r2 r x' o gx' ho hlv2 hlv hne2).symm
      · exact hlv2.elim
      · exact absurd rfl hne

theorem Ext.move (h : Sim P T E st w) {r : Nat} {o : Obj} (l : Lay) (ho : st.objs[r]? = some o) (hlv : live o (E.L r)) (hs : w'.heap.size = w.heap.size)
    (hb : ∀ b, b ≠ (E.L r).blk → w'.heap[b]? = w.heap[b]?) (h1 : w'.os = w.os) (h2 : w'.tape = w.tape) (h3 : w'.output = w.output) :
    Ext E st.objs.length w (updL E st.objs.length l) (st.objs.length + 1) w' :=
  ⟨by omega, fun r hr => updL_lt hr, fun _ hF => hF, fun _ hG => hG, fun b hF => hb b fun e => h.away r o ho hlv (e ▸ hF), h1, h2, h3, by omega⟩

/-- more blocks are frozen: those that no live object has -/
def addF (E : Env) (p : Nat → Prop) : Env := { E with F := fun b => E.F b ∨ p b }

theorem Sim.freeze (h : Sim P T E st w) (p : Nat → Prop) (hp : ∀ b, p b → b < w.heap.size) (ha : ∀ (r : Nat) o, st.objs[r]? = some o → live o (E.L r) → ¬ p (E.L r).blk)
    (hq : ∀ b, p b → ¬ E.G b) : Sim P T (addF E p) st w :=
  ⟨fun r o ho => (h.obj r o ho).mono ⟨fun _ hr => ⟨hr, rfl⟩, fun _ hF => .inl hF, fun _ _ => rfl⟩ fun _ => rfl,
   fun r o ho hl hF => hF.elim (fun hF => hF.elim (fun hF => h.away r o ho hl (.inl hF)) (ha r o ho hl)) fun hG => h.away r o ho hl (.inr hG), h.inj, fun b hF => hF.elim (fun hF => hF.elim (fun hF => h.fro b (.inl hF)) (hp b)) fun hG => h.fro b (.inr hG), h.glob.mono (fun _ hF => .inl hF) (fun _ _ => rfl), fun b hF hG => hF.elim (fun hF => h.dis b hF hG) (fun hp' => hq b hp' hG)⟩

theorem Ext.freeze (p : Nat → Prop) : Ext E n w (addF E p) n w := ⟨Nat.le_refl _, fun _ _ => rfl, fun _ hF => .inl hF, fun _ hG => hG, fun _ _ => rfl, rfl, rfl, rfl, Nat.le_refl _⟩

theorem Ext.grow (h : Sim P T E st w) (hs : w.heap.size ≤ w'.heap.size) (hb : ∀ b, b < w.heap.size → w'.heap[b]? = w.heap[b]?)
    (h1 : w'.os = w.os) (h2 : w'.tape = w.tape) (h3 : w'.output = w.output) : Ext E n w E n w' :=
  ⟨Nat.le_refl _, fun _ _ => rfl, fun _ hF => hF, fun _ hG => hG, fun b hF => hb b (h.fro b hF), h1, h2, h3, hs⟩

end
end Go.Proofs.Ytgabnhmjlhhojaa.A
