/- Arguments as plain data, piece by piece: for any types of numbers, texts, slices and structures. -/
import Derived.Test.YtcoonnbkmklenaaDoorRead
namespace Go.Proofs.YtcoonnbkmklenaaDoor.A
open Go Go.ChangeShapes Go.WideShapes Go.RowKit

theorem RepL.cat {E : Env} {n : Nat} {w : World} {a b : List AV} {x y : List Value} (h : RepL E n w a x) (k : RepL E n w b y) : RepL E n w (a ++ b) (x ++ y) := by
  refine ⟨by simp [h.len, k.len], fun j u v hu hv => ?_⟩
  rcases Nat.lt_or_ge j a.length with hj | hj
  · rw [List.getElem?_append_left hj] at hu
    rw [List.getElem?_append_left (by rw [← h.len]; exact hj)] at hv
    exact h.at_ j u v hu hv
  · rw [List.getElem?_append_right hj] at hu
    rw [List.getElem?_append_right (by rw [← h.len]; exact hj), ← h.len] at hv
    exact k.at_ _ u v hu hv

/-- what a reading at some depth gives -/
def RdAt (P : Program) (k : Nat) (t : TypeId) (sz : Nat) (R : List AV → Prop) : Prop :=
  ∀ (H : Type) (enc : TypeId × Value → H) (W : World) (cs : List Value) (x : DataW H × List MemPlace), DataW.trod enc P W 0 (fun _ => true) true k t cs = some x →
    ∃ avs, R avs ∧ RepL (env0 W) 0 W avs cs ∧ avs.length = sz ∧ ∀ v ∈ cs, v.oneCell' = true

def RInt (a : List AV) : Prop := ∃ n, a = [.int .i64 n] ∧ -9223372036854775808 ≤ n ∧ n ≤ 9223372036854775807
def RStr (a : List AV) : Prop := ∃ s, a = [.str s] ∧ s.size ≤ maxLen
def RBool (a : List AV) : Prop := ∃ b, a = [.bool b]
def RSl (sz : Nat) (R : List AV → Prop) (a : List AV) : Prop := ∃ es, a = [.sl sz es] ∧ (∀ e ∈ es, R e ∧ e.length = sz) ∧ es.length ≤ maxLen
def RCat : List (List AV → Prop) → List AV → Prop
  | [], a => a = []
  | R :: l, a => ∃ b c, a = b ++ c ∧ R b ∧ RCat l c

section
variable {P : Program} {t tL e : TypeId} {k sz : Nat} {R R' : List AV → Prop}

theorem RdAt.imp (h : RdAt P k t sz R) (hi : ∀ a, R a → R' a) : RdAt P k t sz R' := fun H enc W cs x hx => by
  obtain ⟨a, h1, h2⟩ := h H enc W cs x hx
  exact ⟨a, hi a h1, h2⟩

theorem rd_int (ht : P.underlying t = some (.int .i64)) : RdAt P k t 1 RInt := fun H enc W cs x hx => by
  obtain ⟨n, rfl, h1, h2⟩ := read_int ht hx
  exact ⟨_, ⟨n, rfl, h1, h2⟩, ⟨rfl, fun j y v hy hv => by cases j with | zero => simp at hy hv; subst hy hv; exact .int _ _ | succ j => simp at hy⟩, rfl, by simp [Value.oneCell']⟩

theorem rd_str (ht : P.underlying t = some .string) : RdAt P k t 1 RStr := fun H enc W cs x hx => by
  obtain ⟨s, rfl, h1⟩ := read_string ht hx
  exact ⟨_, ⟨s, rfl, h1⟩, ⟨rfl, fun j y v hy hv => by cases j with | zero => simp at hy hv; subst hy hv; exact .str _ | succ j => simp at hy⟩, rfl, by simp [Value.oneCell']⟩

theorem rd_bool (ht : P.underlying t = some .bool) : RdAt P k t 1 RBool := fun H enc W cs x hx => by
  obtain ⟨b, rfl, _⟩ := DataW.trod_bool ht hx
  exact ⟨_, ⟨b, rfl⟩, ⟨rfl, fun j y v hy hv => by cases j with | zero => simp at hy hv; subst hy hv; exact .bool _ | succ j => simp at hy⟩, rfl, by simp [Value.oneCell']⟩

theorem rd_slice (hL : P.underlying tL = some (.slice e)) (hsz : P.cellsOf e = sz) (h0 : 0 < sz) (h : ∀ n, n + 1 = k → RdAt P n e sz R) : RdAt P k tL 1 (RSl sz R) := fun H enc W cs x hx => by
  obtain ⟨c, l, rfl, r1, r2, r3, r4⟩ := read_slice (α := List AV) (f := id) (ok := fun a => R a ∧ a.length = sz) hL hsz h0 hx fun n hn cs' y hy => by
    obtain ⟨a, a1, a2, a3, a4⟩ := h n hn H enc W cs' y hy
    exact ⟨a, a2, ⟨a1, a3⟩, a3, a4⟩
  rw [List.map_id] at r1
  exact ⟨_, ⟨l, rfl, r2, r3⟩, ⟨rfl, fun j y v hy hv => by cases j with | zero => simp at hy hv; subst hy hv; exact r1 | succ j => simp at hy⟩, rfl, by simpa using r4⟩

/-- where fields of these sizes lie -/
def offs : Nat → List (TypeId × Nat × (List AV → Prop)) → List (TypeId × Nat)
  | _, [] => []
  | o, f :: l => (f.1, o) :: offs (o + f.2.1) l
def total : List (TypeId × Nat × (List AV → Prop)) → Nat
  | [] => 0
  | f :: l => f.2.1 + total l

theorem rd_struct (fs : List (TypeId × Nat × (List AV → Prop))) {flds : Array Field} (hs : P.underlying t = some (.struct flds)) (hf : flds.toList.map (fun f => (f.type, f.offset)) = offs 0 fs) (hc : ∀ f ∈ fs, P.cellsOf f.1 = f.2.1) (hsz : P.cellsOf t = total fs)
    (h : ∀ n, n + 1 = k → ∀ f ∈ fs, RdAt P n f.1 f.2.1 f.2.2) : RdAt P k t (total fs) (RCat (fs.map (·.2.2))) := fun H enc W cs x hx => by
  obtain ⟨xs, n, hn, _, hl, hxs, hg⟩ := DataW.trod_struct hs hx
  rw [hsz] at hl
  have key : ∀ (l : List (TypeId × Nat × (List AV → Prop))) (o j : Nat), (flds.toList.drop j).map (fun f => (f.type, f.offset)) = offs o l → (∀ f ∈ l, P.cellsOf f.1 = f.2.1 ∧ RdAt P n f.1 f.2.1 f.2.2) → o + total l = cs.length →
      ∃ avs, RCat (l.map (·.2.2)) avs ∧ RepL (env0 W) 0 W avs (cs.drop o) ∧ avs.length = total l ∧ ∀ v ∈ cs.drop o, v.oneCell' = true := by
    intro l
    induction l with
    | nil =>
      intro o j _ _ ho
      have : cs.drop o = [] := List.drop_eq_nil_of_le (by simp [total] at ho; omega)
      rw [this]
      exact ⟨[], rfl, ⟨rfl, by simp⟩, rfl, by simp⟩
    | cons f l ih =>
      intro o j hoff hall ho
      simp only [offs, total] at hoff ho
      obtain ⟨fd, rest, e1, e2, e3⟩ := List.map_eq_cons_iff.1 hoff
      have hj : flds[j]? = some fd := by
        have : (flds.toList.drop j)[0]? = some fd := by rw [e1]; rfl
        simpa using this
      have hdrop : flds.toList.drop (j + 1) = rest := by
        have : (flds.toList.drop j).drop 1 = rest := by rw [e1]; rfl
        rwa [List.drop_drop] at this
      simp only [Prod.mk.injEq] at e2
      obtain ⟨h1, h2⟩ := hall f (List.mem_cons_self ..)
      have hx' := hg j fd hj
      rw [e2.1, e2.2, h1] at hx'
      have hjs : j < xs.length := by
        have := (Array.getElem?_eq_some_iff.1 hj).1
        omega
      rw [List.getElem?_eq_getElem hjs] at hx'
      obtain ⟨b, b1, b2, b3, b4⟩ := h2 H enc W _ _ hx'
      obtain ⟨c, c1, c2, c3, c4⟩ := ih (o + f.2.1) (j + 1) (by rw [hdrop]; exact e3) (fun g hg => hall g (List.mem_cons_of_mem _ hg)) (by omega)
      have split : cs.drop o = (cs.drop o).take f.2.1 ++ cs.drop (o + f.2.1) := by rw [← List.drop_drop, List.take_append_drop]
      refine ⟨b ++ c, ⟨b, c, rfl, b1, c1⟩, by rw [split]; exact b2.cat c2, by simp [total, b3, c3], fun v hv => ?_⟩
      rw [split] at hv
      rcases List.mem_append.1 hv with hv | hv
      · exact b4 v hv
      · exact c4 v hv
  obtain ⟨a, a1, a2, a3, a4⟩ := key fs 0 0 (by simpa using hf) (fun f hf => ⟨hc f hf, h n hn.symm f hf⟩) (by omega)
  exact ⟨a, a1, by simpa using a2, a3, by simpa using a4⟩

/-! arguments -/

def ArgRd (P : Program) (t : TypeId) (A : AV → Prop) : Prop :=
  ∀ (H : Type) (enc : TypeId × Value → H) (W : World) (base : Nat) (v : Value) (d : DataW H) (ps : List MemPlace), Value.okWide P W .any base t v → DataW.Trod enc P W 0 (fun _ => true) true t v d ps → ∃ a, A a ∧ Rep (env0 W) 0 W a v

theorem arg_struct {flds : Array Field} (hs : P.underlying t = some (.struct flds)) (h : ∀ k, RdAt P k t sz R) : ArgRd P t (fun a => ∃ avs, a = .agg avs ∧ R avs) := fun H enc W base v d ps hv ht => by
  unfold Value.okWide at hv
  rw [hs] at hv
  obtain ⟨cs, rfl, _⟩ := hv
  obtain ⟨n, hn⟩ := ht
  obtain ⟨avs, h1, h2, _, _⟩ := h n H enc W _ _ hn
  refine ⟨_, ⟨avs, rfl, h1⟩, .agg (by have := h2.len; simpa [Value.cells] using this) fun j x u hx hu => h2.at_ j x u hx (by simpa [Value.cells] using hu)⟩

def plainT : TypeDesc → Bool
  | .bool | .string | .int _ | .slice _ => true
  | _ => false

theorem arg_one {u : TypeDesc} (hu : P.underlying t = some u) (hp : plainT u = true) (h : ∀ k, RdAt P k t 1 R) : ArgRd P t (fun a => R [a]) := fun H enc W base v d ps hv ht => by
  obtain ⟨n, hn⟩ := ht
  obtain ⟨avs, h1, h2, h3, _⟩ := h n H enc W _ _ hn
  obtain ⟨a, rfl⟩ : ∃ a, avs = [a] := List.length_eq_one_iff.1 h3
  have hc : v.cells = #[v] := by
    unfold Value.okWide at hv
    rw [hu] at hv
    cases u <;> simp only [plainT, Bool.false_eq_true] at hp <;> simp only [Cell.okWide, Cell.ok, hu] at hv <;> cases v <;> first | rfl | exact hv.elim
  rw [hc] at h2
  exact ⟨a, h1, h2.at_ 0 a v rfl rfl⟩

end

section
variable {P : Program}

/-- arguments as said, one by one -/
def Fits : List (TypeId × (AV → Prop)) → List AV → Prop
  | [], [] => True
  | q :: ps, a :: l => q.2 a ∧ Fits ps l
  | _, _ => False

/-- arguments, one by one -/
theorem open_args {H : Type} {enc : TypeId × Value → H} {W : World} {base : Nat} : ∀ (ps : List (TypeId × (AV → Prop))) {vs : List Value} {ds : List (DataW H)} {p : List MemPlace}, (∀ q ∈ ps, ArgRd P q.1 q.2) →
    (∀ (j : Nat) t v, (ps.map (·.1))[j]? = some t → vs[j]? = some v → Value.okWide P W .any base t v) → DataW.TrodAll enc P W 0 (fun _ => true) true (ps.map (·.1)) vs ds p →
    ∃ avs : List AV, Fits ps avs ∧ ds.length = ps.length ∧ RepL (env0 W) 0 W avs vs
  | [], vs, ds, p, _, _, hA => by
    obtain ⟨rfl, rfl, rfl⟩ := trodAll_nil hA
    exact ⟨[], trivial, rfl, rfl, by simp⟩
  | q :: ps, vs, ds, p, hr, hval, hA => by
    rw [List.map_cons] at hA
    obtain ⟨v0, vs0, d0, ds0, p0, q0, rfl, rfl, rfl, h0, r0⟩ := trodAll_cons hA
    obtain ⟨a, oa, ra⟩ := hr q (List.mem_cons_self ..) H enc W base v0 d0 p0 (hval 0 q.1 v0 rfl rfl) h0
    obtain ⟨avs, l1, l2, l3⟩ := open_args ps (fun q hq => hr q (List.mem_cons_of_mem _ hq)) (fun j t v ht hv => hval (j + 1) t v (by simpa using ht) (by simpa using hv)) r0
    refine ⟨a :: avs, ⟨oa, l1⟩, by simp [l2], by simp [l3.len], fun j x u hx hu => ?_⟩
    cases j with
    | zero => simp at hx hu; subst hx hu; exact ra
    | succ j => exact l3.at_ j x u (by simpa using hx) (by simpa using hu)

/-- a law over such arguments, its function answering true at each of them -/
theorem contract_args {T : Tab} {f : FuncId} {fn : Func} {s : ChangeSpec} {tb : TypeId} (hT : TabOk P T) (hm : P.follows .mixedOrders = true) (hl : laidOutB P = true) (ps : List (TypeId × (AV → Prop))) (hps : ∀ q ∈ ps, ArgRd P q.1 q.2) (hrd : ∀ q ∈ ps, P.readableRec q.1 = true ∧ q.1 < P.types.size)
    (hp : fn.params = (ps.map (·.1)).toArray) (hr : fn.resultTypes = #[tb]) (htb : P.underlying tb = some .bool) (hv : s.vars = [])
    (hs : ∀ (H : Type) (ds : List (DataW H)), ds.length = ps.length → s.fn H ds = { results := [.lit (.bool true)], args := ds })
    (law : ∀ avs : List AV, Fits ps avs → ∃ st', (D T).call f avs st0 = some (.bool true, st'))
    (H : Type) (enc : TypeId × Value → H) (W : World) (base : Nat) (args : Array Value) (ds gs : List (DataW H)) (before : List MemPlace)
    (hval : ∀ (j : Nat) t v, fn.params[j]? = some t → args[j]? = some v → Value.okWide P W .any base t v)
    (hW : DataW.Whole enc P fn.params.toList s.vars false W args.toList ds gs before) (hG : GlobOk (env0 W) W) :
    Calls P f args W fun e W' => ∃ v, e = .returned v ∧ s.post enc P fn false true false false W args v W' := by
  have hW' := hW
  obtain ⟨p, q, hA, hV, rfl, _, _⟩ := hW
  rw [hp] at hA
  obtain ⟨avs, l1, l3, R⟩ := open_args ps hps (fun j t v ht hv => hval j t v (by rw [hp]; simpa using ht) (by simpa using hv)) hA
  rw [hv] at hV
  obtain ⟨rfl, rfl⟩ := trodVars_none hV
  obtain ⟨st', hl'⟩ := law avs l1
  refine (calls_true hT hm hG hl' R).mono fun e W' ⟨he, hb⟩ => ?_
  subst he
  exact ⟨_, rfl, post_below hl hv hr htb (by
    intro t ht
    rw [hp] at ht
    have ht' : t ∈ ps.map (·.1) := by simpa [-List.mem_map] using ht
    obtain ⟨q, hq, rfl⟩ := List.mem_map.1 ht'
    exact hrd q hq) (by rw [List.append_nil]; exact hs H ds l3) hW' hb⟩

end
end Go.Proofs.YtcoonnbkmklenaaDoor.A
