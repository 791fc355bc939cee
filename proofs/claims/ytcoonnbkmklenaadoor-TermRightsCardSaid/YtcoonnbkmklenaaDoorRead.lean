/- Arguments as plain data. -/
import Derived.Test.YtcoonnbkmklenaaDoorTop
namespace Go.Proofs.YtcoonnbkmklenaaDoor.A
open Go Go.ChangeShapes Go.WideShapes Go.RowKit

section
variable {P : Program} {H : Type} {enc : TypeId × Value → H}

theorem cell_fro {W : World} {a : Addr} {v : Value} (h : W.cell? a = some v) : a.block < W.heap.size := by
  unfold World.cell? at h
  split at h
  · rename_i hq
    rcases Nat.lt_or_ge a.block W.heap.size with h' | h'
    · exact h'
    · simp [Array.getElem?_eq_none h'] at hq
  · cases h

/-- a slice whose elements are read -/
theorem read_slice {α : Type} [Inhabited α] {f : α → List AV} {ok : α → Prop} {tL e : TypeId} {sz : Nat} (hL : P.underlying tL = some (.slice e)) (hsz : P.cellsOf e = sz) (h0 : 0 < sz) {W : World} {fuel : Nat} {cs : List Value} {x : DataW H × List MemPlace}
    (h : DataW.trod enc P W 0 (fun _ => true) true fuel tL cs = some x)
    (ih : ∀ n, n + 1 = fuel → ∀ cs' y, DataW.trod enc P W 0 (fun _ => true) true n e cs' = some y → ∃ t, RepL (env0 W) 0 W (f t) cs' ∧ ok t ∧ (f t).length = sz ∧ ∀ v ∈ cs', v.oneCell' = true) :
    ∃ (c : Value) (l : List α), cs = [c] ∧ Rep (env0 W) 0 W (.sl sz (l.map f)) c ∧ (∀ t ∈ l, ok t) ∧ l.length ≤ maxLen ∧ c.oneCell' = true := by
  rcases DataW.trod_slice hL h with ⟨rfl, _⟩ | ⟨a, len, cap, elems, rest, n, hn, rfl, _, _, hl, hm, hlen, hel, _, _⟩
  · exact ⟨_, [], rfl, .sl 0 0 (fun _ _ => undef) rfl (Nat.le_refl _) (by simp) (.inl rfl) (by simp) (by simp), by simp, by simp, rfl⟩
  · have one : ∀ i, i < len → ∃ t : α, ok t ∧ (f t).length = sz ∧ ∃ cs', RepL (env0 W) 0 W (f t) cs' ∧ cs'.length = sz ∧ (∀ v ∈ cs', v.oneCell' = true) ∧ ∀ j, j < sz → W.cell? (a.add (i * sz + j)) = cs'[j]? := by
      intro i hi
      have := hel i hi
      rw [List.getElem?_eq_getElem (by omega)] at this
      obtain ⟨cs', h1, h2⟩ := Option.bind_eq_some_iff.1 this
      obtain ⟨t, t1, t2, t3, t4⟩ := ih n hn.symm cs' _ h2
      rw [hsz] at h1
      obtain ⟨_, q1, q2⟩ := World.cells?_some h1
      exact ⟨t, t2, t3, cs', t1, q1, t4, fun j hj => by rw [← Deep.add_add]; exact q2 j hj⟩
    obtain ⟨g, hg⟩ := Deep.choose_lt (n := len) (p := fun i t => ok t ∧ (f t).length = sz ∧ ∃ cs', RepL (env0 W) 0 W (f t) cs' ∧ cs'.length = sz ∧ (∀ v ∈ cs', v.oneCell' = true) ∧ ∀ j, j < sz → W.cell? (a.add (i * sz + j)) = cs'[j]?) one
    have hget : ∀ (i : Nat) e, (((List.range len).map g).map f)[i]? = some e → i < len ∧ e = f (g i) := by
      intro i e he
      have hi := lt_of_get he
      simp at hi
      simp [hi] at he
      exact ⟨hi, he.symm⟩
    refine ⟨_, (List.range len).map g, rfl, ?_, ?_, by simp; omega, rfl⟩
    · by_cases hz : len = 0
      · subst hz
        exact .sl 0 0 (fun _ _ => undef) (by simp) hl (by simp) (.inl (by simp)) (by simp) (by simp)
      · obtain ⟨_, _, cs0, _, l0, _, c0⟩ := hg 0 (by omega)
        have hc0 := c0 0 h0
        rw [List.getElem?_eq_getElem (by omega)] at hc0
        have hsp : a.spot = none := by
          have := World.cell?_spot hc0
          simpa [Addr.add] using this
        have hfr := cell_fro hc0
        obtain ⟨b, o, sp⟩ := a
        simp only at hsp
        subst hsp
        have hadd : ∀ k, (⟨b, o, none⟩ : Addr).add k = ⟨b, o + k, none⟩ := fun k => Addr.add_lit ..
        rw [hadd] at hfr
        refine .sl b o (fun i j => (W.cell? ⟨b, o + i * sz + j, none⟩).getD undef) (by simp) hl (fun e he => ?_) (.inr ⟨rfl, hfr⟩) (fun i j hi hj => ?_) fun i e j y he hj => ?_
        · obtain ⟨i, hi, rfl⟩ := List.mem_iff_getElem.1 he
          obtain ⟨h1, h2⟩ := hget i _ (List.getElem?_eq_getElem hi)
          rw [h2]
          exact (hg i h1).2.1
        · have hi' : i < len := by simpa using hi
          obtain ⟨_, _, cs', _, l1, o1, c1⟩ := hg i hi'
          have := c1 j hj
          rw [List.getElem?_eq_getElem (by omega), hadd, ← Nat.add_assoc] at this
          simp only [this]
          exact ⟨rfl, o1 _ (List.getElem_mem _)⟩
        · obtain ⟨h1, rfl⟩ := hget i e he
          obtain ⟨_, t3, cs', r1, l1, o1, c1⟩ := hg i h1
          have hj' : j < sz := by rw [← t3]; exact lt_of_get hj
          have := c1 j hj'
          rw [List.getElem?_eq_getElem (by omega), hadd, ← Nat.add_assoc] at this
          simp only [this]
          exact r1.at_ j y _ hj (by rw [List.getElem?_eq_getElem (by omega)]; rfl)
    · intro t ht
      obtain ⟨i, hi, rfl⟩ := List.mem_map.1 ht
      exact (hg i (by simpa using hi)).1

theorem read_int {k : IntKind} {t : TypeId} (ht : P.underlying t = some (.int k)) {W : World} {fuel : Nat} {cs : List Value} {x : DataW H × List MemPlace} (h : DataW.trod enc P W 0 (fun _ => true) true fuel t cs = some x) :
    ∃ n, cs = [.int k n] ∧ k.min ≤ n ∧ n ≤ k.max := by
  obtain ⟨n, rfl, _, hw⟩ := DataW.trod_int ht h
  simp only [Lit.wf, Bool.and_eq_true, decide_eq_true_eq] at hw
  exact ⟨n, rfl, hw.1, hw.2⟩

theorem read_string {t : TypeId} (ht : P.underlying t = some .string) {W : World} {fuel : Nat} {cs : List Value} {x : DataW H × List MemPlace} (h : DataW.trod enc P W 0 (fun _ => true) true fuel t cs = some x) :
    ∃ s : ByteArray, cs = [.string s] ∧ s.size ≤ maxLen := by
  obtain ⟨s, rfl, _, hw⟩ := DataW.trod_string ht h
  exact ⟨s, rfl, hw⟩

end

/-! terms -/

inductive Tm where
  | mk (op : Int) (name : ByteArray) (num : Int) (args : List Tm)

instance : Inhabited Tm := ⟨.mk 0 .empty 0 []⟩

def Tm.op : Tm → Int | .mk a _ _ _ => a
def Tm.name : Tm → ByteArray | .mk _ a _ _ => a
def Tm.num : Tm → Int | .mk _ _ a _ => a
def Tm.args : Tm → List Tm | .mk _ _ _ a => a

mutual
def Tm.cells : Tm → List AV
  | .mk op nm num ts => [.int .i64 op, .str nm, .int .i64 num, .sl 4 (cellsL ts)]
def cellsL : List Tm → List (List AV)
  | [] => []
  | t :: l => t.cells :: cellsL l
end
def Tm.av (t : Tm) : AV := .agg t.cells

theorem cellsL_map : ∀ l : List Tm, cellsL l = l.map Tm.cells
  | [] => rfl
  | t :: l => by simp [cellsL, cellsL_map l]

mutual
def Tm.ok : Tm → Prop
  | .mk op nm num ts => (-9223372036854775808 ≤ op ∧ op ≤ 9223372036854775807) ∧ nm.size ≤ maxLen ∧ (-9223372036854775808 ≤ num ∧ num ≤ 9223372036854775807) ∧ ts.length ≤ maxLen ∧ okL ts
def okL : List Tm → Prop
  | [] => True
  | t :: l => t.ok ∧ okL l
end

theorem okL_iff : ∀ {l : List Tm}, okL l ↔ ∀ t ∈ l, t.ok
  | [] => by simp [okL]
  | t :: l => by simp [okL, okL_iff (l := l)]

theorem cells_length (t : Tm) : t.cells.length = 4 := by cases t; rfl

section
variable {P : Program} {H : Type} {enc : TypeId × Value → H}

/-- how a program lays a term -/
structure TermT (P : Program) (tT tL tI tJ tS : TypeId) : Prop where
  st : ∃ f0 f1 f2 f3, P.underlying tT = some (.struct #[f0, f1, f2, f3]) ∧ f0.type = tI ∧ f1.type = tS ∧ f2.type = tJ ∧ f3.type = tL ∧ f0.offset = 0 ∧ f1.offset = 1 ∧ f2.offset = 2 ∧ f3.offset = 3
  sl : P.underlying tL = some (.slice tT)
  int : P.underlying tI = some (.int .i64)
  int2 : P.underlying tJ = some (.int .i64)
  str : P.underlying tS = some .string
  cT : P.cellsOf tT = 4
  cI : P.cellsOf tI = 1
  cJ : P.cellsOf tJ = 1
  cS : P.cellsOf tS = 1
  cL : P.cellsOf tL = 1

theorem read_term {tT tL tI tJ tS : TypeId} (K : TermT P tT tL tI tJ tS) {W : World} : ∀ (fuel : Nat) (cs : List Value) (x : DataW H × List MemPlace), DataW.trod enc P W 0 (fun _ => true) true fuel tT cs = some x →
    ∃ t : Tm, RepL (env0 W) 0 W t.cells cs ∧ t.ok ∧ t.cells.length = 4 ∧ ∀ v ∈ cs, v.oneCell' = true
  | fuel, cs, x, h => by
    obtain ⟨f0, f1, f2, f3, hs, e0, e1, e2, e3, o0, o1, o2, o3⟩ := K.st
    obtain ⟨xs, n, hn, _, hl, hxs, hf⟩ := DataW.trod_struct hs h
    rw [K.cT] at hl
    match cs, hl with
    | [c0, c1, c2, c3], _ =>
      match xs, hxs with
      | [x0, x1, x2, x3], _ =>
        have g0 := hf 0 f0 rfl
        have g1 := hf 1 f1 rfl
        have g2 := hf 2 f2 rfl
        have g3 := hf 3 f3 rfl
        simp only [e0, o0, K.cI, List.drop_zero, List.take_succ_cons, List.take_zero] at g0
        simp only [e1, o1, K.cS, List.drop_succ_cons, List.drop_zero, List.take_succ_cons, List.take_zero] at g1
        simp only [e2, o2, K.cJ, List.drop_succ_cons, List.drop_zero, List.take_succ_cons, List.take_zero] at g2
        simp only [e3, o3, K.cL, List.drop_succ_cons, List.drop_zero, List.take_succ_cons, List.take_zero] at g3
        obtain ⟨a, ha, a1, a2⟩ := read_int K.int g0
        obtain ⟨s, hs1, s1⟩ := read_string K.str g1
        obtain ⟨b, hb, b1, b2⟩ := read_int K.int2 g2
        obtain ⟨c, l, hc, r1, r2, r3, r4⟩ := read_slice (f := Tm.cells) (ok := Tm.ok) K.sl K.cT (by omega) g3 (fun n' hn' cs' y hy => read_term K n' cs' y hy)
        simp only [List.cons.injEq, and_true] at ha hs1 hb hc
        subst ha hs1 hb hc
        refine ⟨.mk a s b l, ⟨rfl, fun j y v hy hv => ?_⟩, ?_, rfl, fun v hv => ?_⟩
        · simp only [Tm.cells, cellsL_map] at hy
          match j, hy, hv with
          | 0, hy, hv => simp at hy hv; subst hy hv; exact .int _ _
          | 1, hy, hv => simp at hy hv; subst hy hv; exact .str _
          | 2, hy, hv => simp at hy hv; subst hy hv; exact .int _ _
          | 3, hy, hv => simp at hy hv; subst hy hv; exact r1
        · simp only [Tm.ok]
          exact ⟨⟨a1, a2⟩, s1, ⟨b1, b2⟩, r3, okL_iff.2 r2⟩
        · simp only [List.mem_cons, List.not_mem_nil, or_false] at hv
          rcases hv with rfl | rfl | rfl | rfl
          · rfl
          · rfl
          · rfl
          · exact r4
  termination_by fuel => fuel
  decreasing_by omega

/-- an argument that is a term -/
theorem open_term {tT tL tI tJ tS : TypeId} (K : TermT P tT tL tI tJ tS) {W : World} {v : Value} {d : DataW H} {ps : List MemPlace} (hval : ∃ cs, v = .agg cs)
    (h : DataW.Trod enc P W 0 (fun _ => true) true tT v d ps) : ∃ t : Tm, t.ok ∧ Rep (env0 W) 0 W t.av v := by
  obtain ⟨cs, rfl⟩ := hval
  obtain ⟨n, hn⟩ := h
  obtain ⟨t, r1, r2, _, _⟩ := read_term K n _ _ hn
  refine ⟨t, r2, .agg (by have := r1.len; simpa [Value.cells] using this) fun j x u hx hu => r1.at_ j x u hx (by simpa [Value.cells] using hu)⟩

end
end Go.Proofs.YtcoonnbkmklenaaDoor.A
