/- From a call of the interpreter's limit that answers true to a statement of a seat. -/
import Derived.Test.YtgabnhmjlhhojaaYieldS
import Derived.Test.YtgabnhmjlhhojaaRows
import Derived.WalkKit
import Derived.ProofKit
import Derived.OpenShut
import Derived.JoinedCond
import Derived.Carry
import Derived.Deep.Slices
namespace Go.Proofs.Ytgabnhmjlhhojaa.A
open Go Go.ChangeShapes Go.WideShapes Go.RowKit
set_option linter.unusedSimpArgs false
set_option linter.unusedVariables false

section
variable {P : Program} {T : Tab}

/-- at the call's begin: no object yet; all blocks are frozen -/
def env0 (W : World) : Env := { L := fun _ => ⟨0, 0, 0⟩, F := fun b => b < W.heap.size, G := fun _ => False }
def st0 : St := { objs := [], ro := 0, df := [] }

theorem sim0 (W : World) (hG : GlobOk (env0 W) W) : Sim P T (env0 W) st0 W := by
  refine ⟨fun r o h => ?_, fun r o h => ?_, fun r r' o o' h => ?_, fun b h => h.elim id False.elim, hG, fun _ _ h => h⟩ <;> simp [st0] at h

/-- a call that gives true, and leaves memory as it is -/
theorem calls_true (hT : TabOk P T) (hm : P.follows .mixedOrders = true) {f : FuncId} {args : List AV} {st' : St} {W : World} {cargs : Array Value} (hG : GlobOk (env0 W) W)
    (h : (D T).call f args st0 = some (.bool true, st')) (A : RepL (env0 W) 0 W args cargs.toList) (hrl : rl f = f := by rfl) : Calls P f cargs W fun e W' => e = .returned (.bool true) ∧ Below W.heap.size W W' := by
  intro cs
  obtain ⟨E', w', cv, h1, h2, h3, h4⟩ := call_sound hT hm h (Nat.le_refl _) (sim0 W hG) A cs
  rw [hrl] at h4
  obtain rfl := rep_bool h2
  obtain ⟨fr, s1, s2, s3⟩ := h4
  exact ⟨_, w', fr, ⟨rfl, h3.os, h3.tape, h3.output, h3.size, fun k hk => h3.mem k (.inl hk)⟩, s1, s2, s3⟩

section
variable {H : Type} {enc : TypeId × Value → H}

theorem trodAll_below (hl : laidOutB P = true) {W W' : World} (hb : Below W.heap.size W W') : ∀ {ts : List TypeId} {vs : List Value} {ds : List (DataW H)} {ps : List MemPlace}, (∀ t ∈ ts, P.readableRec t = true ∧ t < P.types.size) →
    DataW.TrodAll enc P W 0 (fun _ => true) true ts vs ds ps → (∀ x ∈ ps, x.block < W.heap.size) → DataW.TrodAll enc P W' 0 (fun b => decide (b < W.heap.size)) true ts vs ds ps
  | [], [], [], _, _, h, _ => h
  | t :: _, _ :: _, _ :: _, _, ht, ⟨p, q, h1, h2, e⟩, hlt => by
    subst e
    have ht0 := ht t (List.mem_cons_self ..)
    exact ⟨p, q, Below.trod hl ht0.1 ht0.2 h1 hb (fun x hx => hlt x (List.mem_append_left _ hx)), trodAll_below hl hb (fun t' ht' => ht t' (List.mem_cons_of_mem _ ht')) h2 (fun x hx => hlt x (List.mem_append_right _ hx)), rfl⟩

/-- true, each argument reads as it did -/
theorem post_below (hl : laidOutB P = true) {fn : Func} {s : ChangeSpec} {tb : TypeId} (hvars : s.vars = []) (hres : fn.resultTypes = #[tb]) (htb : P.underlying tb = some .bool)
    (ht : ∀ t ∈ fn.params.toList, P.readableRec t = true ∧ t < P.types.size) {W W' : World} {args : Array Value} {ds gs : List (DataW H)} {before : List MemPlace}
    (hs : s.fn H (ds ++ gs) = { results := [.lit (.bool true)], args := ds }) (hW : DataW.Whole enc P fn.params.toList s.vars false W args.toList ds gs before) (hb : Below W.heap.size W W') :
    s.post enc P fn false true false false W args (.bool true) W' := by
  have hW' := hW
  obtain ⟨p, q, hA, hV, rfl, _, _⟩ := hW
  rw [hvars] at hV
  obtain ⟨rfl, rfl⟩ := trodVars_none hV
  have hlt : ∀ x ∈ p ++ [], x.block < W.heap.size := fun x hx => by simpa using hW'.lt x hx
  refine ⟨ds, [], p ++ [], [], p, [], hW', ?_, ?_, ?_, hb.frame _, fun h => by cases h⟩
  · rw [hs, hres]
    exact trodAll_cons_mk (shut_bool htb _) trodAll_mk0
  · rw [hs]
    exact trodAll_below hl hb ht hA (fun x hx => hlt x (List.mem_append_left _ hx))
  · rw [hs, hvars]
    rfl

end
end
end Go.Proofs.Ytgabnhmjlhhojaa.A

/- Arguments as plain data. -/
namespace Go.Proofs.Ytgabnhmjlhhojaa.A
open Go Go.ChangeShapes Go.WideShapes Go.RowKit

section
variable {P : Program} {H : Type} {enc : TypeId × Value → H}

theorem cell_fro {W : World} {a : Addr} {v : Value} (h : W.cell? a = some v) : a.block < W.heap.size := by
  unfold World.cell? at h
  split at h
  · rename_i hq
    rcases Nat.lt_or_ge a.block W.heap.size with h' | h'
    · exact h'
    · simp [Array.getElem?_eq_none h'] at hq
  · cases h

/-- a slice whose elements are read -/
theorem read_slice {α : Type} [Inhabited α] {f : α → List AV} {ok : α → Prop} {tL e : TypeId} {sz : Nat} (hL : P.underlying tL = some (.slice e)) (hsz : P.cellsOf e = sz) (h0 : 0 < sz) {W : World} {fuel : Nat} {cs : List Value} {x : DataW H × List MemPlace}
    (h : DataW.trod enc P W 0 (fun _ => true) true fuel tL cs = some x)
    (ih : ∀ n, n + 1 = fuel → ∀ cs' y, DataW.trod enc P W 0 (fun _ => true) true n e cs' = some y → ∃ t, RepL (env0 W) 0 W (f t) cs' ∧ ok t ∧ (f t).length = sz ∧ ∀ v ∈ cs', v.oneCell' = true) :
    ∃ (c : Value) (l : List α), cs = [c] ∧ Rep (env0 W) 0 W (.sl sz (l.map f)) c ∧ (∀ t ∈ l, ok t) ∧ l.length ≤ maxLen ∧ c.oneCell' = true := by
  rcases DataW.trod_slice hL h with ⟨rfl, _⟩ | ⟨a, len, cap, elems, rest, n, hn, rfl, _, _, hl, hm, hlen, hel, _, _⟩
  · exact ⟨_, [], rfl, .sl 0 0 (fun _ _ => undef) rfl (Nat.le_refl _) (by simp) (.inl rfl) (by simp) (by simp), by simp, by simp, rfl⟩
  · have one : ∀ i, i < len → ∃ t : α, ok t ∧ (f t).length = sz ∧ ∃ cs', RepL (env0 W) 0 W (f t) cs' ∧ cs'.length = sz ∧ (∀ v ∈ cs', v.oneCell' = true) ∧ ∀ j, j < sz → W.cell? (a.add (i * sz + j)) = cs'[j]? := by
      intro i hi
      have := hel i hi
      rw [List.getElem?_eq_getElem (by omega)] at this
      obtain ⟨cs', h1, h2⟩ := Option.bind_eq_some_iff.1 this
      obtain ⟨t, t1, t2, t3, t4⟩ := ih n hn.symm cs' _ h2
      rw [hsz] at h1
      obtain ⟨_, q1, q2⟩ := World.cells?_some h1
      exact ⟨t, t2, t3, cs', t1, q1, t4, fun j hj => by rw [← Deep.add_add]; exact q2 j hj⟩
    obtain ⟨g, hg⟩ := Deep.choose_lt (n := len) (p := fun i t => ok t ∧ (f t).length = sz ∧ ∃ cs', RepL (env0 W) 0 W (f t) cs' ∧ cs'.length = sz ∧ (∀ v ∈ cs', v.oneCell' = true) ∧ ∀ j, j < sz → W.cell? (a.add (i * sz + j)) = cs'[j]?) one
    have hget : ∀ (i : Nat) e, (((List.range len).map g).map f)[i]? = some e → i < len ∧ e = f (g i) := by
      intro i e he
      have hi := lt_of_get he
      simp at hi
      simp [hi] at he
      exact ⟨hi, he.symm⟩
    refine ⟨_, (List.range len).map g, rfl, ?_, ?_, by simp; omega, rfl⟩
    · by_cases hz : len = 0
      · subst hz
        exact .sl 0 0 (fun _ _ => undef) (by simp) hl (by simp) (.inl (by simp)) (by simp) (by simp)
      · obtain ⟨_, _, cs0, _, l0, _, c0⟩ := hg 0 (by omega)
        have hc0 := c0 0 h0
        rw [List.getElem?_eq_getElem (by omega)] at hc0
        have hsp : a.spot = none := by
          have := World.cell?_spot hc0
          simpa [Addr.add] using this
        have hfr := cell_fro hc0
        obtain ⟨b, o, sp⟩ := a
        simp only at hsp
        subst hsp
        have hadd : ∀ k, (⟨b, o, none⟩ : Addr).add k = ⟨b, o + k, none⟩ := fun k => Addr.add_lit ..
        rw [hadd] at hfr
        refine .sl b o (fun i j => (W.cell? ⟨b, o + i * sz + j, none⟩).getD undef) (by simp) hl (fun e he => ?_) (.inr ⟨rfl, hfr⟩) (fun i j hi hj => ?_) fun i e j y he hj => ?_
        · obtain ⟨i, hi, rfl⟩ := List.mem_iff_getElem.1 he
          obtain ⟨h1, h2⟩ := hget i _ (List.getElem?_eq_getElem hi)
          rw [h2]
          exact (hg i h1).2.1
        · have hi' : i < len := by simpa using hi
          obtain ⟨_, _, cs', _, l1, o1, c1⟩ := hg i hi'
          have := c1 j hj
          rw [List.getElem?_eq_getElem (by omega), hadd, ← Nat.add_assoc] at this
          simp only [this]
          exact ⟨rfl, o1 _ (List.getElem_mem _)⟩
        · obtain ⟨h1, rfl⟩ := hget i e he
          obtain ⟨_, t3, cs', r1, l1, o1, c1⟩ := hg i h1
          have hj' : j < sz := by rw [← t3]; exact lt_of_get hj
          have := c1 j hj'
          rw [List.getElem?_eq_getElem (by omega), hadd, ← Nat.add_assoc] at this
          simp only [this]
          exact r1.at_ j y _ hj (by rw [List.getElem?_eq_getElem (by omega)]; rfl)
    · intro t ht
      obtain ⟨i, hi, rfl⟩ := List.mem_map.1 ht
      exact (hg i (by simpa using hi)).1

theorem read_int {k : IntKind} {t : TypeId} (ht : P.underlying t = some (.int k)) {W : World} {fuel : Nat} {cs : List Value} {x : DataW H × List MemPlace} (h : DataW.trod enc P W 0 (fun _ => true) true fuel t cs = some x) :
    ∃ n, cs = [.int k n] ∧ k.min ≤ n ∧ n ≤ k.max := by
  obtain ⟨n, rfl, _, hw⟩ := DataW.trod_int ht h
  simp only [Lit.wf, Bool.and_eq_true, decide_eq_true_eq] at hw
  exact ⟨n, rfl, hw.1, hw.2⟩

theorem read_string {t : TypeId} (ht : P.underlying t = some .string) {W : World} {fuel : Nat} {cs : List Value} {x : DataW H × List MemPlace} (h : DataW.trod enc P W 0 (fun _ => true) true fuel t cs = some x) :
    ∃ s : ByteArray, cs = [.string s] ∧ s.size ≤ maxLen := by
  obtain ⟨s, rfl, _, hw⟩ := DataW.trod_string ht h
  exact ⟨s, rfl, hw⟩

end

/-! terms -/

inductive Tm where
  | mk (op : Int) (name : ByteArray) (num : Int) (args : List Tm)

instance : Inhabited Tm := ⟨.mk 0 .empty 0 []⟩

def Tm.op : Tm → Int | .mk a _ _ _ => a
def Tm.name : Tm → ByteArray | .mk _ a _ _ => a
def Tm.num : Tm → Int | .mk _ _ a _ => a
def Tm.args : Tm → List Tm | .mk _ _ _ a => a

mutual
def Tm.cells : Tm → List AV
  | .mk op nm num ts => [.int .i64 op, .str nm, .int .i64 num, .sl 4 (cellsL ts)]
def cellsL : List Tm → List (List AV)
  | [] => []
  | t :: l => t.cells :: cellsL l
end
def Tm.av (t : Tm) : AV := .agg t.cells

theorem cellsL_map : ∀ l : List Tm, cellsL l = l.map Tm.cells
  | [] => rfl
  | t :: l => by simp [cellsL, cellsL_map l]

mutual
def Tm.ok : Tm → Prop
  | .mk op nm num ts => (-9223372036854775808 ≤ op ∧ op ≤ 9223372036854775807) ∧ nm.size ≤ maxLen ∧ (-9223372036854775808 ≤ num ∧ num ≤ 9223372036854775807) ∧ ts.length ≤ maxLen ∧ okL ts
def okL : List Tm → Prop
  | [] => True
  | t :: l => t.ok ∧ okL l
end

theorem okL_iff : ∀ {l : List Tm}, okL l ↔ ∀ t ∈ l, t.ok
  | [] => by simp [okL]
  | t :: l => by simp [okL, okL_iff (l := l)]

theorem cells_length (t : Tm) : t.cells.length = 4 := by cases t; rfl

section
variable {P : Program} {H : Type} {enc : TypeId × Value → H}

/-- how a program lays a term -/
structure TermT (P : Program) (tT tL tI tJ tS : TypeId) : Prop where
  st : ∃ f0 f1 f2 f3, P.underlying tT = some (.struct #[f0, f1, f2, f3]) ∧ f0.type = tI ∧ f1.type = tS ∧ f2.type = tJ ∧ f3.type = tL ∧ f0.offset = 0 ∧ f1.offset = 1 ∧ f2.offset = 2 ∧ f3.offset = 3
  sl : P.underlying tL = some (.slice tT)
  int : P.underlying tI = some (.int .i64)
  int2 : P.underlying tJ = some (.int .i64)
  str : P.underlying tS = some .string
  cT : P.cellsOf tT = 4
  cI : P.cellsOf tI = 1
  cJ : P.cellsOf tJ = 1
  cS : P.cellsOf tS = 1
  cL : P.cellsOf tL = 1

theorem read_term {tT tL tI tJ tS : TypeId} (K : TermT P tT tL tI tJ tS) {W : World} : ∀ (fuel : Nat) (cs : List Value) (x : DataW H × List MemPlace), DataW.trod enc P W 0 (fun _ => true) true fuel tT cs = some x →
    ∃ t : Tm, RepL (env0 W) 0 W t.cells cs ∧ t.ok ∧ t.cells.length = 4 ∧ ∀ v ∈ cs, v.oneCell' = true
  | fuel, cs, x, h => by
    obtain ⟨f0, f1, f2, f3, hs, e0, e1, e2, e3, o0, o1, o2, o3⟩ := K.st
    obtain ⟨xs, n, hn, _, hl, hxs, hf⟩ := DataW.trod_struct hs h
    rw [K.cT] at hl
    match cs, hl with
    | [c0, c1, c2, c3], _ =>
      match xs, hxs with
      | [x0, x1, x2, x3], _ =>
        have g0 := hf 0 f0 rfl
        have g1 := hf 1 f1 rfl
        have g2 := hf 2 f2 rfl
        have g3 := hf 3 f3 rfl
        simp only [e0, o0, K.cI, List.drop_zero, List.take_succ_cons, List.take_zero] at g0
        simp only [e1, o1, K.cS, List.drop_succ_cons, List.drop_zero, List.take_succ_cons, List.take_zero] at g1
        simp only [e2, o2, K.cJ, List.drop_succ_cons, List.drop_zero, List.take_succ_cons, List.take_zero] at g2
        simp only [e3, o3, K.cL, List.drop_succ_cons, List.drop_zero, List.take_succ_cons, List.take_zero] at g3
        obtain ⟨a, ha, a1, a2⟩ := read_int K.int g0
        obtain ⟨s, hs1, s1⟩ := read_string K.str g1
        obtain ⟨b, hb, b1, b2⟩ := read_int K.int2 g2
        obtain ⟨c, l, hc, r1, r2, r3, r4⟩ := read_slice (f := Tm.cells) (ok := Tm.ok) K.sl K.cT (by omega) g3 (fun n' hn' cs' y hy => read_term K n' cs' y hy)
        simp only [List.cons.injEq, and_true] at ha hs1 hb hc
        subst ha hs1 hb hc
        refine ⟨.mk a s b l, ⟨rfl, fun j y v hy hv => ?_⟩, ?_, rfl, fun v hv => ?_⟩
        · simp only [Tm.cells, cellsL_map] at hy
          match j, hy, hv with
          | 0, hy, hv => simp at hy hv; subst hy hv; exact .int _ _
          | 1, hy, hv => simp at hy hv; subst hy hv; exact .str _
          | 2, hy, hv => simp at hy hv; subst hy hv; exact .int _ _
          | 3, hy, hv => simp at hy hv; subst hy hv; exact r1
        · simp only [Tm.ok]
          exact ⟨⟨a1, a2⟩, s1, ⟨b1, b2⟩, r3, okL_iff.2 r2⟩
        · simp only [List.mem_cons, List.not_mem_nil, or_false] at hv
          rcases hv with rfl | rfl | rfl | rfl
          · rfl
          · rfl
          · rfl
          · exact r4
  termination_by fuel => fuel
  decreasing_by omega

/-- an argument that is a term -/
theorem open_term {tT tL tI tJ tS : TypeId} (K : TermT P tT tL tI tJ tS) {W : World} {v : Value} {d : DataW H} {ps : List MemPlace} (hval : ∃ cs, v = .agg cs)
    (h : DataW.Trod enc P W 0 (fun _ => true) true tT v d ps) : ∃ t : Tm, t.ok ∧ Rep (env0 W) 0 W t.av v := by
  obtain ⟨cs, rfl⟩ := hval
  obtain ⟨n, hn⟩ := h
  obtain ⟨t, r1, r2, _, _⟩ := read_term K n _ _ hn
  refine ⟨t, r2, .agg (by have := r1.len; simpa [Value.cells] using this) fun j x u hx hu => r1.at_ j x u hx (by simpa [Value.cells] using hu)⟩

end
end Go.Proofs.Ytgabnhmjlhhojaa.A

/- Arguments as plain data, piece by piece: for any types of numbers, texts, slices and structures. -/
namespace Go.Proofs.Ytgabnhmjlhhojaa.A
open Go Go.ChangeShapes Go.WideShapes Go.RowKit

theorem RepL.cat {E : Env} {n : Nat} {w : World} {a b : List AV} {x y : List Value} (h : RepL E n w a x) (k : RepL E n w b y) : RepL E n w (a ++ b) (x ++ y) := by
  refine ⟨by simp [h.len, k.len], fun j u v hu hv => ?_⟩
  rcases Nat.lt_or_ge j a.length with hj | hj
  · rw [List.getElem?_append_left hj] at hu
    rw [List.getElem?_append_left (by rw [← h.len]; exact hj)] at hv
    exact h.at_ j u v hu hv
  · rw [List.getElem?_append_right hj] at hu
    rw [List.getElem?_append_right (by rw [← h.len]; exact hj), ← h.len] at hv
    exact k.at_ _ u v hu hv

/-- what a reading at some depth gives -/
def RdAt (P : Program) (k : Nat) (t : TypeId) (sz : Nat) (R : List AV → Prop) : Prop :=
  ∀ (H : Type) (enc : TypeId × Value → H) (W : World) (cs : List Value) (x : DataW H × List MemPlace), DataW.trod enc P W 0 (fun _ => true) true k t cs = some x →
    ∃ avs, R avs ∧ RepL (env0 W) 0 W avs cs ∧ avs.length = sz ∧ ∀ v ∈ cs, v.oneCell' = true

def RInt (a : List AV) : Prop := ∃ n, a = [.int .i64 n] ∧ -9223372036854775808 ≤ n ∧ n ≤ 9223372036854775807
def RStr (a : List AV) : Prop := ∃ s, a = [.str s] ∧ s.size ≤ maxLen
def RBool (a : List AV) : Prop := ∃ b, a = [.bool b]
def RSl (sz : Nat) (R : List AV → Prop) (a : List AV) : Prop := ∃ es, a = [.sl sz es] ∧ (∀ e ∈ es, R e ∧ e.length = sz) ∧ es.length ≤ maxLen
def RCat : List (List AV → Prop) → List AV → Prop
  | [], a => a = []
  | R :: l, a => ∃ b c, a = b ++ c ∧ R b ∧ RCat l c

section
variable {P : Program} {t tL e : TypeId} {k sz : Nat} {R R' : List AV → Prop}

theorem RdAt.imp (h : RdAt P k t sz R) (hi : ∀ a, R a → R' a) : RdAt P k t sz R' := fun H enc W cs x hx => by
  obtain ⟨a, h1, h2⟩ := h H enc W cs x hx
  exact ⟨a, hi a h1, h2⟩

theorem rd_int (ht : P.underlying t = some (.int .i64)) : RdAt P k t 1 RInt := fun H enc W cs x hx => by
  obtain ⟨n, rfl, h1, h2⟩ := read_int ht hx
  exact ⟨_, ⟨n, rfl, h1, h2⟩, ⟨rfl, fun j y v hy hv => by cases j with | zero => simp at hy hv; subst hy hv; exact .int _ _ | succ j => simp at hy⟩, rfl, by simp [Value.oneCell']⟩

theorem rd_str (ht : P.underlying t = some .string) : RdAt P k t 1 RStr := fun H enc W cs x hx => by
  obtain ⟨s, rfl, h1⟩ := read_string ht hx
  exact ⟨_, ⟨s, rfl, h1⟩, ⟨rfl, fun j y v hy hv => by cases j with | zero => simp at hy hv; subst hy hv; exact .str _ | succ j => simp at hy⟩, rfl, by simp [Value.oneCell']⟩

theorem rd_bool (ht : P.underlying t = some .bool) : RdAt P k t 1 RBool := fun H enc W cs x hx => by
  obtain ⟨b, rfl, _⟩ := DataW.trod_bool ht hx
  exact ⟨_, ⟨b, rfl⟩, ⟨rfl, fun j y v hy hv => by cases j with | zero => simp at hy hv; subst hy hv; exact .bool _ | succ j => simp at hy⟩, rfl, by simp [Value.oneCell']⟩

theorem rd_slice (hL : P.underlying tL = some (.slice e)) (hsz : P.cellsOf e = sz) (h0 : 0 < sz) (h : ∀ n, n + 1 = k → RdAt P n e sz R) : RdAt P k tL 1 (RSl sz R) := fun H enc W cs x hx => by
  obtain ⟨c, l, rfl, r1, r2, r3, r4⟩ := read_slice (α := List AV) (f := id) (ok := fun a => R a ∧ a.length = sz) hL hsz h0 hx fun n hn cs' y hy => by
    obtain ⟨a, a1, a2, a3, a4⟩ := h n hn H enc W cs' y hy
    exact ⟨a, a2, ⟨a1, a3⟩, a3, a4⟩
  rw [List.map_id] at r1
  exact ⟨_, ⟨l, rfl, r2, r3⟩, ⟨rfl, fun j y v hy hv => by cases j with | zero => simp at hy hv; subst hy hv; exact r1 | succ j => simp at hy⟩, rfl, by simpa using r4⟩

/-- where fields of these sizes lie -/
def offs : Nat → List (TypeId × Nat × (List AV → Prop)) → List (TypeId × Nat)
  | _, [] => []
  | o, f :: l => (f.1, o) :: offs (o + f.2.1) l
def total : List (TypeId × Nat × (List AV → Prop)) → Nat
  | [] => 0
  | f :: l => f.2.1 + total l

theorem rd_struct (fs : List (TypeId × Nat × (List AV → Prop))) {flds : Array Field} (hs : P.underlying t = some (.struct flds)) (hf : flds.toList.map (fun f => (f.type, f.offset)) = offs 0 fs) (hc : ∀ f ∈ fs, P.cellsOf f.1 = f.2.1) (hsz : P.cellsOf t = total fs)
    (h : ∀ n, n + 1 = k → ∀ f ∈ fs, RdAt P n f.1 f.2.1 f.2.2) : RdAt P k t (total fs) (RCat (fs.map (·.2.2))) := fun H enc W cs x hx => by
  obtain ⟨xs, n, hn, _, hl, hxs, hg⟩ := DataW.trod_struct hs hx
  rw [hsz] at hl
  have key : ∀ (l : List (TypeId × Nat × (List AV → Prop))) (o j : Nat), (flds.toList.drop j).map (fun f => (f.type, f.offset)) = offs o l → (∀ f ∈ l, P.cellsOf f.1 = f.2.1 ∧ RdAt P n f.1 f.2.1 f.2.2) → o + total l = cs.length →
      ∃ avs, RCat (l.map (·.2.2)) avs ∧ RepL (env0 W) 0 W avs (cs.drop o) ∧ avs.length = total l ∧ ∀ v ∈ cs.drop o, v.oneCell' = true := by
    intro l
    induction l with
    | nil =>
      intro o j _ _ ho
      have : cs.drop o = [] := List.drop_eq_nil_of_le (by simp [total] at ho; omega)
      rw [this]
      exact ⟨[], rfl, ⟨rfl, by simp⟩, rfl, by simp⟩
    | cons f l ih =>
      intro o j hoff hall ho
      simp only [offs, total] at hoff ho
      obtain ⟨fd, rest, e1, e2, e3⟩ := List.map_eq_cons_iff.1 hoff
      have hj : flds[j]? = some fd := by
        have : (flds.toList.drop j)[0]? = some fd := by rw [e1]; rfl
        simpa using this
      have hdrop : flds.toList.drop (j + 1) = rest := by
        have : (flds.toList.drop j).drop 1 = rest := by rw [e1]; rfl
        rwa [List.drop_drop] at this
      simp only [Prod.mk.injEq] at e2
      obtain ⟨h1, h2⟩ := hall f (List.mem_cons_self ..)
      have hx' := hg j fd hj
      rw [e2.1, e2.2, h1] at hx'
      have hjs : j < xs.length := by
        have := (Array.getElem?_eq_some_iff.1 hj).1
        omega
      rw [List.getElem?_eq_getElem hjs] at hx'
      obtain ⟨b, b1, b2, b3, b4⟩ := h2 H enc W _ _ hx'
      obtain ⟨c, c1, c2, c3, c4⟩ := ih (o + f.2.1) (j + 1) (by rw [hdrop]; exact e3) (fun g hg => hall g (List.mem_cons_of_mem _ hg)) (by omega)
      have split : cs.drop o = (cs.drop o).take f.2.1 ++ cs.drop (o + f.2.1) := by rw [← List.drop_drop, List.take_append_drop]
      refine ⟨b ++ c, ⟨b, c, rfl, b1, c1⟩, by rw [split]; exact b2.cat c2, by simp [total, b3, c3], fun v hv => ?_⟩
      rw [split] at hv
      rcases List.mem_append.1 hv with hv | hv
      · exact b4 v hv
      · exact c4 v hv
  obtain ⟨a, a1, a2, a3, a4⟩ := key fs 0 0 (by simpa using hf) (fun f hf => ⟨hc f hf, h n hn.symm f hf⟩) (by omega)
  exact ⟨a, a1, by simpa using a2, a3, by simpa using a4⟩

/-! arguments -/

def ArgRd (P : Program) (t : TypeId) (A : AV → Prop) : Prop :=
  ∀ (H : Type) (enc : TypeId × Value → H) (W : World) (base : Nat) (v : Value) (d : DataW H) (ps : List MemPlace), Value.okWide P W .any base t v → DataW.Trod enc P W 0 (fun _ => true) true t v d ps → ∃ a, A a ∧ Rep (env0 W) 0 W a v

theorem arg_struct {flds : Array Field} (hs : P.underlying t = some (.struct flds)) (h : ∀ k, RdAt P k t sz R) : ArgRd P t (fun a => ∃ avs, a = .agg avs ∧ R avs) := fun H enc W base v d ps hv ht => by
  unfold Value.okWide at hv
  rw [hs] at hv
  obtain ⟨cs, rfl, _⟩ := hv
  obtain ⟨n, hn⟩ := ht
  obtain ⟨avs, h1, h2, _, _⟩ := h n H enc W _ _ hn
  refine ⟨_, ⟨avs, rfl, h1⟩, .agg (by have := h2.len; simpa [Value.cells] using this) fun j x u hx hu => h2.at_ j x u hx (by simpa [Value.cells] using hu)⟩

def plainT : TypeDesc → Bool
  | .bool | .string | .int _ | .slice _ => true
  | _ => false

theorem arg_one {u : TypeDesc} (hu : P.underlying t = some u) (hp : plainT u = true) (h : ∀ k, RdAt P k t 1 R) : ArgRd P t (fun a => R [a]) := fun H enc W base v d ps hv ht => by
  obtain ⟨n, hn⟩ := ht
  obtain ⟨avs, h1, h2, h3, _⟩ := h n H enc W _ _ hn
  obtain ⟨a, rfl⟩ : ∃ a, avs = [a] := List.length_eq_one_iff.1 h3
  have hc : v.cells = #[v] := by
    unfold Value.okWide at hv
    rw [hu] at hv
    cases u <;> simp only [plainT, Bool.false_eq_true] at hp <;> simp only [Cell.okWide, Cell.ok, hu] at hv <;> cases v <;> first | rfl | exact hv.elim
  rw [hc] at h2
  exact ⟨a, h1, h2.at_ 0 a v rfl rfl⟩

end

section
variable {P : Program}

/-- arguments as said, one by one -/
def Fits : List (TypeId × (AV → Prop)) → List AV → Prop
  | [], [] => True
  | q :: ps, a :: l => q.2 a ∧ Fits ps l
  | _, _ => False

/-- arguments, one by one -/
theorem open_args {H : Type} {enc : TypeId × Value → H} {W : World} {base : Nat} : ∀ (ps : List (TypeId × (AV → Prop))) {vs : List Value} {ds : List (DataW H)} {p : List MemPlace}, (∀ q ∈ ps, ArgRd P q.1 q.2) →
    (∀ (j : Nat) t v, (ps.map (·.1))[j]? = some t → vs[j]? = some v → Value.okWide P W .any base t v) → DataW.TrodAll enc P W 0 (fun _ => true) true (ps.map (·.1)) vs ds p →
    ∃ avs : List AV, Fits ps avs ∧ ds.length = ps.length ∧ RepL (env0 W) 0 W avs vs
  | [], vs, ds, p, _, _, hA => by
    obtain ⟨rfl, rfl, rfl⟩ := trodAll_nil hA
    exact ⟨[], trivial, rfl, rfl, by simp⟩
  | q :: ps, vs, ds, p, hr, hval, hA => by
    rw [List.map_cons] at hA
    obtain ⟨v0, vs0, d0, ds0, p0, q0, rfl, rfl, rfl, h0, r0⟩ := trodAll_cons hA
    obtain ⟨a, oa, ra⟩ := hr q (List.mem_cons_self ..) H enc W base v0 d0 p0 (hval 0 q.1 v0 rfl rfl) h0
    obtain ⟨avs, l1, l2, l3⟩ := open_args ps (fun q hq => hr q (List.mem_cons_of_mem _ hq)) (fun j t v ht hv => hval (j + 1) t v (by simpa using ht) (by simpa using hv)) r0
    refine ⟨a :: avs, ⟨oa, l1⟩, by simp [l2], by simp [l3.len], fun j x u hx hu => ?_⟩
    cases j with
    | zero => simp at hx hu; subst hx hu; exact ra
    | succ j => exact l3.at_ j x u (by simpa using hx) (by simpa using hu)

/-- a law over such arguments, its function answering true at each of them -/
theorem contract_args {T : Tab} {f : FuncId} {fn : Func} {s : ChangeSpec} {tb : TypeId} (hT : TabOk P T) (hm : P.follows .mixedOrders = true) (hl : laidOutB P = true) (ps : List (TypeId × (AV → Prop))) (hps : ∀ q ∈ ps, ArgRd P q.1 q.2) (hrd : ∀ q ∈ ps, P.readableRec q.1 = true ∧ q.1 < P.types.size)
    (hp : fn.params = (ps.map (·.1)).toArray) (hr : fn.resultTypes = #[tb]) (htb : P.underlying tb = some .bool) (hv : s.vars = [])
    (hs : ∀ (H : Type) (ds : List (DataW H)), ds.length = ps.length → s.fn H ds = { results := [.lit (.bool true)], args := ds })
    (law : ∀ avs : List AV, Fits ps avs → ∃ st', (D T).call f avs st0 = some (.bool true, st'))
    (H : Type) (enc : TypeId × Value → H) (W : World) (base : Nat) (args : Array Value) (ds gs : List (DataW H)) (before : List MemPlace)
    (hval : ∀ (j : Nat) t v, fn.params[j]? = some t → args[j]? = some v → Value.okWide P W .any base t v)
    (hW : DataW.Whole enc P fn.params.toList s.vars false W args.toList ds gs before) (hG : GlobOk (env0 W) W) (hrl : rl f = f := by rfl) :
    Calls P f args W fun e W' => ∃ v, e = .returned v ∧ s.post enc P fn false true false false W args v W' := by
  have hW' := hW
  obtain ⟨p, q, hA, hV, rfl, _, _⟩ := hW
  rw [hp] at hA
  obtain ⟨avs, l1, l3, R⟩ := open_args ps hps (fun j t v ht hv => hval j t v (by rw [hp]; simpa using ht) (by simpa using hv)) hA
  rw [hv] at hV
  obtain ⟨rfl, rfl⟩ := trodVars_none hV
  obtain ⟨st', hl'⟩ := law avs l1
  refine (calls_true hT hm hG hl' R hrl).mono fun e W' ⟨he, hb⟩ => ?_
  subst he
  exact ⟨_, rfl, post_below hl hv hr htb (by
    intro t ht
    rw [hp] at ht
    have ht' : t ∈ ps.map (·.1) := by simpa [-List.mem_map] using ht
    obtain ⟨q, hq, rfl⟩ := List.mem_map.1 ht'
    exact hrd q hq) (by rw [List.append_nil]; exact hs H ds l3) hW' hb⟩

end
end Go.Proofs.Ytgabnhmjlhhojaa.A

/- Claims as plain data. -/
namespace Go.Proofs.Ytgabnhmjlhhojaa.A
open Go Go.ChangeShapes Go.WideShapes Go.RowKit

inductive Cl where
  | mk (op : Int) (name sort : ByteArray) (terms : List Tm) (subs : List Cl)

instance : Inhabited Cl := ⟨.mk 0 .empty .empty [] []⟩

mutual
def Cl.cells : Cl → List AV
  | .mk op nm so ts cs => [.int .i64 op, .str nm, .str so, .sl 4 (ts.map Tm.cells), .sl 5 (cellsC cs)]
def cellsC : List Cl → List (List AV)
  | [] => []
  | c :: l => c.cells :: cellsC l
end
def Cl.av (c : Cl) : AV := .agg c.cells

theorem cellsC_map : ∀ l : List Cl, cellsC l = l.map Cl.cells
  | [] => rfl
  | t :: l => by simp [cellsC, cellsC_map l]
theorem Cl.cells_mk (op : Int) (nm so : ByteArray) (ts : List Tm) (cs : List Cl) : (Cl.mk op nm so ts cs).cells = [.int .i64 op, .str nm, .str so, .sl 4 (ts.map Tm.cells), .sl 5 (cs.map Cl.cells)] := by
  simp [Cl.cells, cellsC_map]

mutual
def Cl.ok : Cl → Prop
  | .mk op nm so ts cs => (-9223372036854775808 ≤ op ∧ op ≤ 9223372036854775807) ∧ nm.size ≤ maxLen ∧ so.size ≤ maxLen ∧ ts.length ≤ maxLen ∧ okL ts ∧ cs.length ≤ maxLen ∧ okC cs
def okC : List Cl → Prop
  | [] => True
  | c :: l => c.ok ∧ okC l
end
theorem okC_iff : ∀ {l : List Cl}, okC l ↔ ∀ t ∈ l, t.ok
  | [] => by simp [okC]
  | t :: l => by simp [okC, okC_iff (l := l)]

theorem ccells_length (t : Cl) : t.cells.length = 5 := by cases t; rfl
theorem ctake_cells (t : Cl) : List.take 5 t.cells = t.cells := by cases t; simp [Cl.cells_mk]
theorem ccanL_cells (t : Cl) : canL t.cells = t.cells := by cases t; simp [Cl.cells_mk, canL, can1]
theorem call_one (t : Cl) : t.cells.all AV.one = true := by cases t; simp [Cl.cells_mk, AV.one]
theorem cset_cells (t : Cl) (a b c d e : AV) : setMany [a, b, c, d, e] 0 t.cells = t.cells := by cases t; simp [Cl.cells_mk, setMany]

theorem list_choose {α : Type} {f : α → List AV} {ok : α → Prop} : ∀ (es : List (List AV)), (∀ e ∈ es, ∃ t : α, ok t ∧ e = f t) → ∃ ts : List α, (∀ t ∈ ts, ok t) ∧ es = ts.map f
  | [], _ => ⟨[], by simp, rfl⟩
  | e :: es, h => by
    obtain ⟨t, h1, rfl⟩ := h e (List.mem_cons_self ..)
    obtain ⟨ts, h2, rfl⟩ := list_choose es fun e he => h e (List.mem_cons_of_mem _ he)
    exact ⟨t :: ts, fun u hu => by rcases List.mem_cons.1 hu with rfl | hu; exact h1; exact h2 u hu, rfl⟩

def RTm (a : List AV) : Prop := ∃ t : Tm, t.ok ∧ a = t.cells
def RCl (a : List AV) : Prop := ∃ c : Cl, c.ok ∧ a = c.cells

section
variable {P : Program}

theorem rd_term {tT tL tI tJ tS : TypeId} (K : TermT P tT tL tI tJ tS) (k : Nat) : RdAt P k tT 4 RTm := fun H enc W cs x hx => by
  obtain ⟨t, h1, h2, h3, h4⟩ := read_term K k cs x hx
  exact ⟨t.cells, ⟨t, h2, rfl⟩, h1, h3, h4⟩

theorem rd_terms {tT tL tI tJ tS : TypeId} (K : TermT P tT tL tI tJ tS) (k : Nat) : RdAt P k tL 1 (RSl 4 RTm) := rd_slice K.sl K.cT (by omega) fun n _ => rd_term K n

/-- how a program lays a claim -/
structure ClaimT (P : Program) (tC tCL tT tL tI tJ tS : TypeId) : Prop where
  term : TermT P tT tL tI tJ tS
  st : ∃ flds, P.underlying tC = some (.struct flds) ∧ flds.toList.map (fun f => (f.type, f.offset)) = [(tI, 0), (tS, 1), (tS, 2), (tL, 3), (tCL, 4)]
  sl : P.underlying tCL = some (.slice tC)
  cC : P.cellsOf tC = 5
  cL : P.cellsOf tCL = 1

theorem rd_claim {tC tCL tT tL tI tJ tS : TypeId} (K : ClaimT P tC tCL tT tL tI tJ tS) : ∀ k : Nat, RdAt P k tC 5 RCl
  | k => by
    obtain ⟨flds, h1, h2⟩ := K.st
    have h := rd_struct (P := P) (t := tC) (k := k) [(tI, 1, RInt), (tS, 1, RStr), (tS, 1, RStr), (tL, 1, RSl 4 RTm), (tCL, 1, RSl 5 RCl)] h1 (by rw [h2]; rfl)
      (by simp [K.cC, K.cL, K.term.cI, K.term.cS, K.term.cL]) (by rw [K.cC]; rfl) (fun n hn f hf => by
        simp only [List.mem_cons, List.not_mem_nil, or_false] at hf
        rcases hf with rfl | rfl | rfl | rfl | rfl
        · exact rd_int K.term.int
        · exact rd_str K.term.str
        · exact rd_str K.term.str
        · exact rd_terms K.term n
        · exact rd_slice K.sl K.cC (by omega) fun m hm => rd_claim K m)
    refine h.imp fun a ha => ?_
    obtain ⟨_, _, rfl, ⟨n, rfl, n1, n2⟩, _, _, rfl, ⟨s, rfl, s1⟩, _, _, rfl, ⟨u, rfl, u1⟩, _, _, rfl, ⟨es, rfl, e1, e2⟩, _, _, rfl, ⟨es', rfl, e3, e4⟩, rfl⟩ := ha
    obtain ⟨ts, t1, rfl⟩ := list_choose es fun e he => (e1 e he).1
    obtain ⟨cs, c1, rfl⟩ := list_choose es' fun e he => (e3 e he).1
    refine ⟨.mk n s u ts cs, ?_, by simp [Cl.cells_mk]⟩
    simp only [Cl.ok]
    exact ⟨⟨n1, n2⟩, s1, u1, by simpa using e2, okL_iff.2 t1, by simpa using e4, okC_iff.2 c1⟩
  termination_by k => k
  decreasing_by omega

theorem rd_claims {tC tCL tT tL tI tJ tS : TypeId} (K : ClaimT P tC tCL tT tL tI tJ tS) (k : Nat) : RdAt P k tCL 1 (RSl 5 RCl) := rd_slice K.sl K.cC (by omega) fun n _ => rd_claim K n

def ATm (a : AV) : Prop := ∃ t : Tm, t.ok ∧ a = t.av
def ACl (a : AV) : Prop := ∃ c : Cl, c.ok ∧ a = c.av
def AInt (a : AV) : Prop := ∃ n, a = .int .i64 n ∧ -9223372036854775808 ≤ n ∧ n ≤ 9223372036854775807
def AStr (a : AV) : Prop := ∃ s, a = .str s ∧ s.size ≤ maxLen
def ATms (a : AV) : Prop := ∃ l : List Tm, (∀ t ∈ l, t.ok) ∧ l.length ≤ maxLen ∧ a = .sl 4 (l.map Tm.cells)
def ACls (a : AV) : Prop := ∃ l : List Cl, (∀ t ∈ l, t.ok) ∧ l.length ≤ maxLen ∧ a = .sl 5 (l.map Cl.cells)

theorem ArgRd.imp {t : TypeId} {A B : AV → Prop} (h : ArgRd P t A) (hi : ∀ a, A a → B a) : ArgRd P t B := fun H enc W base v d ps h1 h2 => by
  obtain ⟨a, ha, hr⟩ := h H enc W base v d ps h1 h2
  exact ⟨a, hi a ha, hr⟩

theorem arg_term {tT tL tI tJ tS : TypeId} (K : TermT P tT tL tI tJ tS) : ArgRd P tT ATm := by
  obtain ⟨_, _, _, _, h, _⟩ := K.st
  exact (arg_struct h (rd_term K)).imp fun a ⟨_, h1, t, h2, h3⟩ => ⟨t, h2, by rw [h1, h3]; rfl⟩
theorem arg_claim {tC tCL tT tL tI tJ tS : TypeId} (K : ClaimT P tC tCL tT tL tI tJ tS) : ArgRd P tC ACl := by
  obtain ⟨_, h, _⟩ := K.st
  exact (arg_struct h (rd_claim K)).imp fun a ⟨_, h1, t, h2, h3⟩ => ⟨t, h2, by rw [h1, h3]; rfl⟩
theorem arg_int {t : TypeId} (ht : P.underlying t = some (.int .i64)) : ArgRd P t AInt :=
  (arg_one ht rfl fun _ => rd_int ht).imp fun a ⟨n, h1, h2⟩ => ⟨n, by simpa using h1, h2⟩
theorem arg_str {t : TypeId} (ht : P.underlying t = some .string) : ArgRd P t AStr :=
  (arg_one ht rfl fun _ => rd_str ht).imp fun a ⟨n, h1, h2⟩ => ⟨n, by simpa using h1, h2⟩
theorem arg_terms {tT tL tI tJ tS : TypeId} (K : TermT P tT tL tI tJ tS) : ArgRd P tL ATms :=
  (arg_one K.sl rfl (rd_terms K)).imp fun a ⟨es, h1, h2, h3⟩ => by
    obtain ⟨ts, t1, rfl⟩ := list_choose es fun e he => (h2 e he).1
    exact ⟨ts, t1, by simpa using h3, by simpa using h1⟩
theorem arg_claims {tC tCL tT tL tI tJ tS : TypeId} (K : ClaimT P tC tCL tT tL tI tJ tS) : ArgRd P tCL ACls :=
  (arg_one K.sl rfl (rd_claims K)).imp fun a ⟨es, h1, h2, h3⟩ => by
    obtain ⟨ts, t1, rfl⟩ := list_choose es fun e he => (h2 e he).1
    exact ⟨ts, t1, by simpa using h3, by simpa using h1⟩
end

mutual
theorem cflat_cells : ∀ t : Cl, AV.flatL t.cells = true
  | .mk a s b ts l => by
    have := cflat_list l
    have h2 : ∀ l : List Tm, AV.flatLL (l.map Tm.cells) = true := fun l => by
      refine flatLL_iff.2 fun i e j x he hx => ?_
      rw [List.getElem?_map] at he
      obtain ⟨t, _, rfl⟩ := Option.map_eq_some_iff.1 he
      exact flatL_iff.1 (tflat t) j x hx
    simp [Cl.cells_mk, AV.flatL, AV.flat, this, h2]
where
  tflat : ∀ t : Tm, AV.flatL t.cells = true
    | .mk a s b l => by
      have : AV.flatLL (cellsL l) = true := tflats l
      simp [Tm.cells, AV.flatL, AV.flat, this]
  tflats : ∀ l : List Tm, AV.flatLL (cellsL l) = true
    | [] => rfl
    | t :: l => by simp [cellsL, AV.flatLL, tflat t, tflats l]
theorem cflat_list : ∀ l : List Cl, AV.flatLL (l.map Cl.cells) = true
  | [] => rfl
  | t :: l => by simp [AV.flatLL, cflat_cells t, cflat_list l]
end

end Go.Proofs.Ytgabnhmjlhhojaa.A
