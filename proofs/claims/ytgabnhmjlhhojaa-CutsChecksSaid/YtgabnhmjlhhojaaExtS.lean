/- The library's slices.Sort and slices.Compact, by their contracts, are what the interpreter takes them for. -/
import Derived.Test.YtgabnhmjlhhojaaYieldS
import Derived.Sort.Grow
import Derived.Sort.EncStr
import Derived.Lib.Strings
import Derived.Shelf.Abstract
import Derived.Lib.SlicesCompact
namespace Go.Proofs.Ytgabnhmjlhhojaa.A
open Go Go.Sort
set_option linter.unusedSimpArgs false
set_option linter.unusedVariables false

section
variable {α β : Type} [Inhabited β]

/-- how the elements stand in cells -/
structure Elt (get : List (List AV) → Option (List α)) (mk : α → AV) (enc : β → Value) (tb : α → β) : Prop where
  got : ∀ es l, get es = some l → es = l.map fun x => [mk x]
  rep : ∀ E n w x, Rep E n w (mk x) (enc (tb x))
  inv : ∀ E n w x v, Rep E n w (mk x) v → v = enc (tb x)
  one : ∀ x, (enc (tb x)).oneCell' = true

variable {P : Program} {T : Tab} {E : Env} {st : St} {w : World} {get : List (List AV) → Option (List α)} {mk : α → AV} {enc : β → Value} {tb : α → β}

theorem arr_holds (K : Elt get mk enc tb) (S : Sim P T E st w) {r ty : Nat} {es : List (List AV)} {l : List α} (ho : st.objs[r]? = some (.arr ty 1 es)) (hc : (E.L r).cap ≠ 0) (hl : get es = some l) :
    Holds enc w (E.L r).blk 0 (l.map tb).toArray := by
  obtain ⟨h1, h2, h3, h4, h5, h6⟩ := S.obj r _ ho
  obtain ⟨cur, hb, hs, hx⟩ := h6.resolve_left hc
  obtain rfl := K.got _ _ hl
  intro j hj
  have hj' : j < l.length := by simpa using hj
  have e1 : (l.map fun x => [mk x])[j]? = some [mk l[j]] := by simp [hj']
  obtain ⟨v, hv, _, hr⟩ := hx j [mk l[j]] 0 (mk l[j]) e1 rfl
  have hv' : cur[j]? = some v := by simpa using hv
  obtain rfl := K.inv _ _ _ _ _ hr
  have e2 : (l.map tb).toArray[j]! = tb l[j] := by
    rw [getElem!_pos _ j hj]; simp
  refine ⟨?_, ?_⟩
  · rw [e2]
    simp [World.cell?, hb, hv']
  · simp [World.frozen?, hb]

theorem putRow_blk {w : World} {blk : Nat} {cur : Array Value} {ty : Nat} (hb : w.heap[blk]? = some (.cells cur ty (0, 0))) (n : Nat) (d : Array β) :
    (putRow enc (Sort.ahead w n) blk 0 d).heap[blk]? = some (.cells (putCells enc 0 d cur) ty (0, 0)) := by
  simp [putRow, mapBlock, Array.getElem?_modify, hb, onCells, Sort.ahead]

theorem putRow_other {w : World} {blk q : Nat} (h : q ≠ blk) (n : Nat) (d : Array β) : (putRow enc (Sort.ahead w n) blk 0 d).heap[q]? = w.heap[q]? := by
  simp [putRow, mapBlock, Array.getElem?_modify, Ne.symm h, Sort.ahead]

theorem row_put (K : Elt get mk enc tb) (S : Sim P T E st w) {r ty : Nat} {es : List (List AV)} (l' : List α) (hlen : l'.length = es.length) (ho : st.objs[r]? = some (.arr ty 1 es)) (hc : (E.L r).cap ≠ 0) (n : Nat) (os : Array Go.Obj) :
    Sim P T E (st.set r (.arr ty 1 (l'.map fun x => [mk x]))) (grow (putRow enc (Sort.ahead w n) (E.L r).blk 0 (l'.map tb).toArray) os) ∧
      Ext E st.objs.length w E st.objs.length (grow (putRow enc (Sort.ahead w n) (E.L r).blk 0 (l'.map tb).toArray) os) := by
  obtain ⟨h1, h2, h3, h4, h5, h6⟩ := S.obj r _ ho
  obtain ⟨cur, hb, hs, hx⟩ := h6.resolve_left hc
  have hbo : ∀ q, q ≠ (E.L r).blk → (putRow enc (Sort.ahead w n) (E.L r).blk 0 (l'.map tb).toArray).heap[q]? = w.heap[q]? := fun q hq => putRow_other hq n _
  have hob : ObjRep P T E st.objs.length (putRow enc (Sort.ahead w n) (E.L r).blk 0 (l'.map tb).toArray) (.arr ty 1 (l'.map fun x => [mk x])) (E.L r) := by
    refine ⟨h1, by simpa [hlen] using h2, h3, h4, by simp, .inr ⟨_, putRow_blk hb n _, by simp [putCells, hs], fun i e j x he hj => ?_⟩⟩
    have hi : i < l'.length := by simpa using lt_of_get he
    simp only [List.getElem?_map, List.getElem?_eq_getElem hi, Option.map_some, Option.some.injEq] at he
    subst he
    cases j with
    | succ j => simp at hj
    | zero =>
      simp at hj
      subst hj
      have hic : i < cur.size := by rw [hs]; simp only [Nat.mul_one]; omega
      refine ⟨enc (tb l'[i]), ?_, K.one _, K.rep _ _ _ _⟩
      simp only [putCells, Array.getElem?_mapIdx, Nat.mul_one, Nat.add_zero, Array.getElem?_eq_getElem hic, Option.map_some, Option.some.injEq]
      rw [if_pos ⟨Nat.zero_le _, by simpa using hi⟩, getElem!_pos _ _ (by simpa using hi)]
      simp
  have S1 := S.set (w' := putRow enc (Sort.ahead w n) (E.L r).blk 0 (l'.map tb).toArray) r _ (.arr ty 1 (l'.map fun x => [mk x])) ho hc (by simp) hbo (.inl hc) hob
  have X1 : Ext E st.objs.length w E st.objs.length (putRow enc (Sort.ahead w n) (E.L r).blk 0 (l'.map tb).toArray) := Ext.set S ho hc (by simp) hbo rfl rfl rfl
  have hg : ∀ b, b < (putRow enc (Sort.ahead w n) (E.L r).blk 0 (l'.map tb).toArray).heap.size → (grow (putRow enc (Sort.ahead w n) (E.L r).blk 0 (l'.map tb).toArray) os).heap[b]? = (putRow enc (Sort.ahead w n) (E.L r).blk 0 (l'.map tb).toArray).heap[b]? := by
    intro b hlt
    simp only [grow]
    rw [Array.getElem?_append_left hlt]
  have hs2 : (putRow enc (Sort.ahead w n) (E.L r).blk 0 (l'.map tb).toArray).heap.size ≤ (grow (putRow enc (Sort.ahead w n) (E.L r).blk 0 (l'.map tb).toArray) os).heap.size := by
    rw [size_grow]; omega
  exact ⟨S1.grow hs2 hg, X1.trans (Ext.grow S1 hs2 hg rfl rfl rfl)⟩

theorem set_self {r ty sz : Nat} {es : List (List AV)} (ho : st.objs[r]? = some (.arr ty sz es)) : st.set r (.arr ty sz es) = st := by
  have : st.objs.set r (.arr ty sz es) = st.objs := by
    apply List.ext_getElem?
    intro i
    rw [List.getElem?_set]
    split
    · rename_i e; subst e
      split
      · exact ho.symm
      · rename_i h; rw [List.getElem?_eq_none (by omega)]
    · rfl
  unfold St.set
  rw [this]

theorem ins_perm (lt : α → α → Bool) (x : α) : ∀ l : List α, (ins lt x l).Perm (x :: l)
  | [] => .refl _
  | y :: l => by
    simp only [ins]
    cases lt y x with
    | false => exact .refl _
    | true => exact ((ins_perm lt x l).cons y).trans (.swap x y l)

theorem isort_perm (lt : α → α → Bool) : ∀ l : List α, (isort lt l).Perm l
  | [] => .refl _
  | x :: l => (ins_perm lt x _).trans ((isort_perm lt l).cons x)

theorem isort_length (lt : α → α → Bool) (l : List α) : (isort lt l).length = l.length := (isort_perm lt l).length_eq

theorem dedup_head (eq : α → α → Bool) (heq : ∀ a b, eq a b = true → a = b) : ∀ (x : α) (l : List α), ∃ r, dedup eq (x :: l) = x :: r := by
  intro x l
  simp only [dedup]
  cases dedup eq l with
  | nil => exact ⟨_, rfl⟩
  | cons y r =>
    simp only []
    cases h : eq x y with
    | true => exact ⟨r, by rw [heq _ _ h]; rfl⟩
    | false => exact ⟨y :: r, rfl⟩

theorem dedup_length (eq : α → α → Bool) : ∀ l : List α, (dedup eq l).length ≤ l.length
  | [] => Nat.le_refl _
  | x :: l => by
    have := dedup_length eq l
    simp only [dedup]
    cases h : dedup eq l with
    | nil => simp
    | cons y r => rw [h] at this; simp only []; cases eq x y <;> simp at this ⊢ <;> omega

theorem ins_sorted {lt : α → α → Bool} (has : ∀ a b, lt a b = true → lt b a = false) (htr : ∀ a b c, lt b a = false → lt c b = false → lt c a = false) (x : α) :
    ∀ l : List α, l.Pairwise (fun a b => lt b a = false) → (ins lt x l).Pairwise (fun a b => lt b a = false)
  | [], _ => by simp [ins]
  | y :: l, h => by
    have h' := List.pairwise_cons.1 h
    simp only [ins]
    cases hyx : lt y x with
    | false =>
      refine List.pairwise_cons.2 ⟨fun z hz => ?_, h⟩
      rcases List.mem_cons.1 hz with rfl | hz
      · exact hyx
      · exact htr x y z hyx (h'.1 z hz)
    | true =>
      refine List.pairwise_cons.2 ⟨fun z hz => ?_, ins_sorted has htr x l h'.2⟩
      rcases List.mem_cons.1 ((ins_perm lt x l).mem_iff.1 hz) with rfl | hz
      · exact has _ _ hyx
      · exact h'.1 z hz

theorem isort_sorted {lt : α → α → Bool} (has : ∀ a b, lt a b = true → lt b a = false) (htr : ∀ a b c, lt b a = false → lt c b = false → lt c a = false) :
    ∀ l : List α, (isort lt l).Pairwise (fun a b => lt b a = false)
  | [] => .nil
  | x :: l => ins_sorted has htr x _ (isort_sorted has htr l)

end

theorem get_cons {β : Type} [Inhabited β] (x : β) (l : List β) (j : Nat) : (x :: l).toArray[j + 1]! = l.toArray[j]! := by
  simp [getElem!_def]

def gg {β : Type} [Inhabited β] [DecidableEq β] (x : β) (l : List β) : List β := (((List.range l.length).map Nat.succ).filter (Lib.keeps (x :: l).toArray)).map ((x :: l).toArray[·]!)

theorem gg_nil {β : Type} [Inhabited β] [DecidableEq β] (x : β) : gg x [] = [] := rfl
theorem gg_cons {β : Type} [Inhabited β] [DecidableEq β] (x y : β) (l : List β) : gg x (y :: l) = (if y = x then [] else [y]) ++ gg y l := by
  have e : ((fun x_1 => (x :: y :: l).toArray[x_1]!) ∘ Nat.succ ∘ Nat.succ) = ((fun x_1 => (y :: l).toArray[x_1]!) ∘ Nat.succ) := by
    funext j
    exact get_cons x (y :: l) (j + 1)
  have e2 : (Lib.keeps (x :: y :: l).toArray ∘ Nat.succ ∘ Nat.succ) = (Lib.keeps (y :: l).toArray ∘ Nat.succ) := by
    funext j
    have h1 := get_cons x (y :: l) (j + 1)
    have h2 := get_cons x (y :: l) j
    apply decide_eq_decide.2
    show (j + 1 + 1 = 0 ∨ (x :: y :: l).toArray[j + 1 + 1]! ≠ (x :: y :: l).toArray[j + 1]!) ↔ (j + 1 = 0 ∨ (y :: l).toArray[j + 1]! ≠ (y :: l).toArray[j]!)
    rw [h1, h2]
    simp
  have k1 : Lib.keeps (x :: y :: l).toArray 1 = decide (y ≠ x) := by simp [Lib.keeps]
  unfold gg
  rw [List.length_cons, List.range_succ_eq_map, List.map_cons, List.map_map, List.filter_cons]
  rw [show Nat.succ 0 = 1 from rfl, k1]
  rw [List.filter_map, e2]
  by_cases h : y = x
  · rw [if_neg (by simp [h]), if_pos h, List.map_map, e, List.nil_append, List.filter_map, List.map_map]
  · rw [if_pos (by simp [h]), if_neg h, List.map_cons, List.map_map, e, List.filter_map, List.map_map]
    simp

theorem compact_cons {β : Type} [Inhabited β] [DecidableEq β] (x : β) (l : List β) : Lib.compact (x :: l) = x :: gg x l := by
  unfold Lib.compact Lib.compactUpTo gg
  rw [List.length_cons, List.range_succ_eq_map, List.filter_cons]
  rw [if_pos (by simp [Lib.keeps]), List.map_cons]
  simp
theorem compact_nil {β : Type} [Inhabited β] [DecidableEq β] : Lib.compact ([] : List β) = [] := rfl

theorem dedup_map {α β : Type} [Inhabited β] [DecidableEq β] {eq : α → α → Bool} {tb : α → β} (heq : ∀ a b, eq a b = decide (tb a = tb b)) :
    ∀ (l : List α) (x : α), ∃ y r, dedup eq (x :: l) = y :: r ∧ tb y = tb x ∧ r.map tb = gg (tb x) (l.map tb)
  | [], x => ⟨x, [], rfl, rfl, rfl⟩
  | z :: l, x => by
    obtain ⟨y, r, h1, h2, h3⟩ := dedup_map heq l z
    rw [dedup, h1]
    simp only [List.map_cons, gg_cons]
    rw [heq]
    by_cases h : tb x = tb y
    · rw [decide_eq_true h]
      exact ⟨y, r, rfl, h.symm, by rw [if_pos (by rw [← h2, h]), h3]; simp⟩
    · rw [decide_eq_false h]
      refine ⟨x, y :: r, rfl, rfl, ?_⟩
      rw [if_neg (by rw [← h2]; exact fun e => h e.symm), List.map_cons, h2, h3]
      rfl

theorem dedup_compact {α β : Type} [Inhabited β] [DecidableEq β] {eq : α → α → Bool} {tb : α → β} (heq : ∀ a b, eq a b = decide (tb a = tb b)) (l : List α) : (dedup eq l).map tb = Lib.compact (l.map tb) := by
  cases l with
  | nil => rfl
  | cons x l =>
    obtain ⟨y, r, h1, h2, h3⟩ := dedup_map heq l x
    rw [h1, List.map_cons, List.map_cons, compact_cons, h2, h3]
theorem ob_trans : ∀ x y z : List UInt8, Op.bytesLess x y = true → Op.bytesLess y z = true → Op.bytesLess x z = true
  | _, _, [], _, h => by simp [Op.bytesLess] at h
  | x, [], _ :: _, h, _ => by simp [Op.bytesLess] at h
  | [], _ :: _, _ :: _, _, _ => by simp [Op.bytesLess]
  | a :: x, b :: y, c :: z, h1, h2 => by
    simp only [Op.bytesLess, Bool.or_eq_true, Bool.and_eq_true, decide_eq_true_eq, beq_iff_eq] at h1 h2 ⊢
    rcases h1 with h1 | ⟨rfl, h1⟩
    · rcases h2 with h2 | ⟨rfl, h2⟩
      · exact .inl (UInt8.lt_trans h1 h2)
      · exact .inl h1
    · rcases h2 with h2 | ⟨rfl, h2⟩
      · exact .inl h2
      · exact .inr ⟨rfl, ob_trans x y z h1 h2⟩

theorem ob_total : ∀ x y : List UInt8, Op.bytesLess x y = false → x ≠ y → Op.bytesLess y x = true
  | [], [], _, h => absurd rfl h
  | [], _ :: _, h, _ => by simp [Op.bytesLess] at h
  | _ :: _, [], _, _ => by simp [Op.bytesLess]
  | a :: x, b :: y, h1, h2 => by
    simp only [Op.bytesLess, Bool.or_eq_false_iff, Bool.and_eq_false_iff, decide_eq_false_iff_not, beq_eq_false_iff_ne, Bool.or_eq_true, Bool.and_eq_true, decide_eq_true_eq, beq_iff_eq] at h1 ⊢
    by_cases hab : a = b
    · subst hab
      right
      refine ⟨rfl, ob_total x y ?_ ?_⟩
      · rcases h1.2 with h | h
        · exact absurd rfl h
        · exact h
      · rintro rfl
        exact h2 rfl
    · left
      rcases UInt8.lt_or_lt_of_ne hab with h | h
      · exact absurd h h1.1
      · exact h

theorem ob_self : ∀ l : List UInt8, Op.bytesLess l l = false
  | [] => rfl
  | a :: l => by simp [Op.bytesLess, ob_self l]

theorem ob_le : ∀ x y : List UInt8, decide (x ≤ y) = !Op.bytesLess y x := by
  have key : ∀ x y : List UInt8, Op.bytesLess x y = decide (x < y) := by
    intro x
    induction x with
    | nil => intro y; cases y <;> simp [Op.bytesLess]
    | cons a x ih =>
      intro y
      cases y with
      | nil => simp [Op.bytesLess]
      | cons b y =>
        rw [Op.bytesLess, ih y]
        simp only [List.cons_lt_cons_iff]
        by_cases h1 : a < b <;> by_cases h2 : a = b <;> by_cases h3 : x < y <;> simp [h1, h2, h3]
  intro x y
  rw [key]
  by_cases h : y < x
  · have : ¬ x ≤ y := fun h' => h' h
    simp [h, this]
  · have : x ≤ y := h
    simp [h, this]

/-- the order that the library sorts by -/
structure Ordr (α β : Type) (lt : α → α → Bool) (le : β → β → Bool) (tb : α → β) : Prop where
  tr : ∀ a b c, le a b = true → le b c = true → le a c = true
  tot : ∀ a b, (le a b || le b a) = true
  anti : ∀ a b, le a b = true → le b a = true → a = b
  lt : ∀ a b, lt a b = !le (tb b) (tb a)

theorem msort_eq {α β : Type} {lt : α → α → Bool} {le : β → β → Bool} {tb : α → β} (O : Ordr α β lt le tb) (l : List α) : (l.map tb).mergeSort le = (isort lt l).map tb := by
  refine List.Perm.eq_of_pairwise (le := fun a b => le a b = true) (fun a b _ _ h1 h2 => O.anti a b h1 h2) (List.pairwise_mergeSort O.tr O.tot _) ?_ ((List.mergeSort_perm _ _).trans ((isort_perm lt l).map tb).symm)
  rw [List.pairwise_map]
  refine (isort_sorted (lt := lt) (fun a b h => ?_) (fun a b c h1 h2 => ?_) l).imp fun {a b} h => ?_
  · rw [O.lt] at h ⊢
    have := O.tot (tb b) (tb a)
    cases h1 : le (tb b) (tb a) <;> cases h2 : le (tb a) (tb b) <;> simp [h1, h2] at this h ⊢
  · rw [O.lt] at h1 h2 ⊢
    have := O.tr (tb a) (tb b) (tb c) (by simpa using h1) (by simpa using h2)
    simp [this]
  · rw [O.lt] at h
    simpa using h

section
variable {α β : Type} [Inhabited β] {P : Program} {T : Tab} {E : Env} {st st' : St} {w : World} {get : List (List AV) → Option (List α)} {mk : α → AV} {enc : β → Value} {tb : α → β}

theorem own_arg {r n : Nat} {full : Bool} {v : Value} (h : Rep E st.objs.length w (.own r 0 n full) v) (hz : (E.L r).sz = 1 ∨ True) : ∃ a cp, v = .slice a n cp ∧ n ≤ cp ∧ (full = true → cp = n) ∧ (full = false → cp = (E.L r).cap) ∧ (cp = 0 ∨ a = some ⟨(E.L r).blk, 0, none⟩) := by
  cases h with
  | own hr hm h1 h2 ha => exact ⟨_, _, rfl, hm, h1, fun h => by have := h2 h; omega, by simpa using ha⟩

/-- what a contract gives, caller by caller -/
theorem calls_give {f : FuncId} {cargs : Array Value} {R : Ending → World → Prop} (C : Calls P f cargs w R) {V : AV} (hR : ∀ e w', R e w' → ∃ cv, e = .returned cv ∧ ∃ E' v, Sim P T E' st' w' ∧ Rep E' st'.objs.length w' v cv ∧ Ext E st.objs.length w E' st'.objs.length w' ∧ v = V) (he : (callFunc f cargs).run P w = .ok (.enter f cargs) w) (cs : List Frame) :
    ∃ E' w' cv, Sim P T E' st' w' ∧ Rep E' st'.objs.length w' V cv ∧ Ext E st.objs.length w E' st'.objs.length w' ∧ (callFunc f cargs).run P w = .ok (.enter f cargs) w ∧
      ∃ fr, Steps P (lone (Frame.enter P f cargs .normal) cs w) (lone fr cs w') ∧ fr.fn = f ∧ fr.leaving P w' (.returned cv) := by
  obtain ⟨e, w', fr, r, s, h1, h2⟩ := C cs
  obtain ⟨cv, rfl, E', v, a1, a2, a3, rfl⟩ := hR e w' r
  exact ⟨E', w', cv, a1, a2, a3, he, fr, s, h1, h2⟩

theorem sort_ok (K : Elt get mk enc tb) {lt : α → α → Bool} {le : β → β → Bool} (O : Ordr α β lt le tb) {f : FuncId} (he : ∀ cargs w, (callFunc f cargs).run P w = .ok (.enter f cargs) w)
    (C : ∀ (blk off cap : Nat) (zs : List β) (w : World), Holds enc w blk off zs.toArray → blk < w.heap.size → zs.length < 4611686018427387904 →
      Calls P f #[.slice (some ⟨blk, off, none⟩) zs.length cap] w fun e w' => e = .returned (.tuple #[]) ∧ ∃ n os, w' = grow (putRow enc (Sort.ahead w n) blk off (zs.mergeSort le).toArray) os)
    (C0 : ∀ (p : Option Addr) (cap : Nat) (w : World), Calls P f #[.slice p 0 cap] w fun e w' => e = .returned (.tuple #[]) ∧ w' = w)
    {args : List AV} {v : AV} (h : exSort get mk lt args st = some (v, st')) (cargs : Array Value) (S : Sim P T E st w) (A : RepL E st.objs.length w args cargs.toList) (cs : List Frame) :
    ∃ E' w' cv, Sim P T E' st' w' ∧ Rep E' st'.objs.length w' v cv ∧ Ext E st.objs.length w E' st'.objs.length w' ∧ (callFunc f cargs).run P w = .ok (.enter f cargs) w ∧
      ∃ fr, Steps P (lone (Frame.enter P f cargs .normal) cs w) (lone fr cs w') ∧ fr.fn = f ∧ fr.leaving P w' (.returned cv) := by
  have arg : ∀ x, args = [x] → ∃ cv, cargs = #[cv] ∧ Rep E st.objs.length w x cv := by
    rintro x rfl
    have hl := A.len
    obtain ⟨cl⟩ := cargs
    match cl, hl with
    | [cv], _ => exact ⟨cv, rfl, A.at_ 0 _ _ rfl rfl⟩
  have none_ : ∀ p cap, cargs = #[.slice p 0 cap] → ∀ cs, ∃ E' w' cv, Sim P T E' st w' ∧ Rep E' st.objs.length w' (.tup []) cv ∧ Ext E st.objs.length w E' st.objs.length w' ∧ (callFunc f cargs).run P w = .ok (.enter f cargs) w ∧
      ∃ fr, Steps P (lone (Frame.enter P f cargs .normal) cs w) (lone fr cs w') ∧ fr.fn = f ∧ fr.leaving P w' (.returned cv) := by
    rintro p cap rfl cs
    exact calls_give (C0 p cap w) (fun e w' h => ⟨_, h.1, E, _, h.2 ▸ S, .tup rfl (by simp), h.2 ▸ Ext.refl _ _ _, rfl⟩) (he _ _) cs
  unfold exSort at h
  split at h
  · cases h
    obtain ⟨cv, rfl, hr⟩ := arg _ rfl
    cases hr with
    | sl b o c hl hcp hs ha hc h =>
      obtain rfl : _ = 0 := hl
      exact none_ _ _ rfl cs
  · cases h
    obtain ⟨cv, rfl, hr⟩ := arg _ rfl
    cases hr with
    | fsl b o c hl hcp hs ha hc h =>
      obtain rfl : _ = 0 := hl
      exact none_ _ _ rfl cs
  · rename_i r lo n full
    split at h
    · rename_i ty sz es ha
      split at h
      · rename_i hc
        obtain ⟨rfl, rfl, rfl, hro, hbig⟩ := hc
        split at h
        · rename_i l hl
          cases h
          obtain ⟨cv, rfl, hr⟩ := arg _ rfl
          obtain ⟨a, cp, rfl, hm, h1, h2, h3⟩ := own_arg hr (.inr trivial)
          have ho := arr?_get ha
          simp only [] at ho
          have hesl := K.got _ _ hl
          have hlen : l.length = es.length := by rw [hesl]; simp
          have hcapl : es.length ≤ (E.L r).cap := (S.obj r _ ho).2.1
          by_cases hz : es.length = 0
          · have e0 : l = [] := List.eq_nil_of_length_eq_zero (by omega)
            subst e0
            have e1 : es = [] := List.eq_nil_of_length_eq_zero hz
            subst e1
            simp only [isort, List.map_nil]
            rw [set_self ho]
            exact none_ _ _ rfl cs
          · have hcap : (E.L r).cap ≠ 0 := by omega
            obtain rfl := h3.resolve_left (by omega)
            have hH := arr_holds K S ho hcap hl
            have hblk : (E.L r).blk < w.heap.size := (S.obj r _ ho).lt hcap
            have C1 := C (E.L r).blk 0 cp (l.map tb) w hH hblk (by simpa [hlen] using hbig)
            rw [List.length_map, hlen] at C1
            refine calls_give C1 (fun e w' h => ?_) (he _ _) cs
            obtain ⟨rfl, n, os, rfl⟩ := h
            rw [msort_eq O]
            obtain ⟨S1, X1⟩ := row_put K S (isort lt l) (by rw [isort_length, hlen]) ho hcap n os
            have hl2 : (st.set r (.arr ty 1 ((isort lt l).map fun x => [mk x]))).objs.length = st.objs.length := by simp [St.set]
            exact ⟨_, rfl, E, .tup [], S1, .tup rfl (by simp), by rw [hl2]; exact X1, rfl⟩
        · cases h
      · cases h
    · cases h
  · cases h

theorem comp_ok [DecidableEq β] (K : Elt get mk enc tb) {eq : α → α → Bool} (heq : ∀ a b, eq a b = decide (tb a = tb b)) {z : α} {zb : β} (hzb : tb z = zb) {f : FuncId} (he : ∀ cargs w, (callFunc f cargs).run P w = .ok (.enter f cargs) w)
    (C : ∀ (blk off cap : Nat) (zs : List β) (w : World), Holds enc w blk off zs.toArray → zs.length ≤ 9223372036854775807 → zs.length ≤ cap →
      Calls P f #[.slice (some ⟨blk, off, none⟩) zs.length cap] w fun e w' => e = .returned (.slice (some ⟨blk, off, none⟩) (Lib.compact zs).length cap) ∧ ∃ q, w' = putRow enc (Sort.ahead w q) blk off (Lib.compact zs ++ List.replicate (zs.length - (Lib.compact zs).length) zb).toArray)
    (C0 : ∀ (a : Option Addr) (cap : Nat) (w : World), Calls P f #[.slice a 0 cap] w fun e w' => e = .returned (.slice a 0 cap) ∧ w' = w)
    {args : List AV} {v : AV} (h : exComp get mk z eq args st = some (v, st')) (cargs : Array Value) (S : Sim P T E st w) (A : RepL E st.objs.length w args cargs.toList) (cs : List Frame) :
    ∃ E' w' cv, Sim P T E' st' w' ∧ Rep E' st'.objs.length w' v cv ∧ Ext E st.objs.length w E' st'.objs.length w' ∧ (callFunc f cargs).run P w = .ok (.enter f cargs) w ∧
      ∃ fr, Steps P (lone (Frame.enter P f cargs .normal) cs w) (lone fr cs w') ∧ fr.fn = f ∧ fr.leaving P w' (.returned cv) := by
  have arg : ∀ x, args = [x] → ∃ cv, cargs = #[cv] ∧ Rep E st.objs.length w x cv := by
    rintro x rfl
    have hl := A.len
    obtain ⟨cl⟩ := cargs
    match cl, hl with
    | [cv], _ => exact ⟨cv, rfl, A.at_ 0 _ _ rfl rfl⟩
  unfold exComp at h
  split at h
  · cases h
    obtain ⟨cv, rfl, hr⟩ := arg _ rfl
    have hr' := hr
    cases hr with
    | sl b o c hl hcp hs ha hc h =>
      obtain rfl : _ = 0 := hl
      exact calls_give (C0 _ _ w) (fun e w' h => ⟨_, h.1, E, _, h.2 ▸ S, h.2 ▸ hr', h.2 ▸ Ext.refl _ _ _, rfl⟩) (he _ _) cs
  · cases h
    obtain ⟨cv, rfl, hr⟩ := arg _ rfl
    have hr' := hr
    cases hr with
    | fsl b o c hl hcp hs ha hc h =>
      obtain rfl : _ = 0 := hl
      exact calls_give (C0 _ _ w) (fun e w' h => ⟨_, h.1, E, _, h.2 ▸ S, h.2 ▸ hr', h.2 ▸ Ext.refl _ _ _, rfl⟩) (he _ _) cs
  · rename_i r lo n
    split at h
    · rename_i ty sz es ha
      split at h
      · rename_i hc
        obtain ⟨rfl, rfl, rfl, hro, hbig⟩ := hc
        split at h
        · rename_i l hl
          cases h
          obtain ⟨cv, rfl, hr⟩ := arg _ rfl
          have hr' := hr
          obtain ⟨a, cp, rfl, hm, h1, h2, h3⟩ := own_arg hr (.inr trivial)
          have ho := arr?_get ha
          simp only [] at ho
          have hesl := K.got _ _ hl
          have hlen : l.length = es.length := by rw [hesl]; simp
          have hcapl : es.length ≤ (E.L r).cap := (S.obj r _ ho).2.1
          have hsz : (E.L r).sz = 1 := (S.obj r _ ho).1
          have hrl := lt_of_get ho
          have hcpe := h2 rfl
          by_cases hz : es.length = 0
          · have e0 : l = [] := List.eq_nil_of_length_eq_zero (by omega)
            subst e0
            have e1 : es = [] := List.eq_nil_of_length_eq_zero hz
            subst e1
            simp only [dedup, List.length_nil, List.nil_append, Nat.sub_self, List.replicate_zero, List.map_nil]
            rw [set_self ho]
            exact calls_give (C0 _ _ w) (fun e w' h => ⟨_, h.1, E, _, h.2 ▸ S, h.2 ▸ hr', h.2 ▸ Ext.refl _ _ _, rfl⟩) (he _ _) cs
          · have hcap : (E.L r).cap ≠ 0 := by omega
            obtain rfl := h3.resolve_left (by omega)
            have hH := arr_holds K S ho hcap hl
            have C1 := C (E.L r).blk 0 cp (l.map tb) w hH (by simp only [List.length_map]; omega) (by simp only [List.length_map]; omega)
            rw [List.length_map, hlen, ← dedup_compact heq, List.length_map] at C1
            refine calls_give C1 (fun e w' h => ?_) (he _ _) cs
            obtain ⟨rfl, n, rfl⟩ := h
            have hdl := dedup_length eq l
            obtain ⟨S1, X1⟩ := row_put K S (dedup eq l ++ List.replicate (l.length - (dedup eq l).length) z) (by simp; omega) ho hcap n #[]
            have em : (dedup eq l ++ List.replicate (l.length - (dedup eq l).length) z).map tb = (dedup eq l).map tb ++ List.replicate (es.length - (dedup eq l).length) zb := by
              rw [List.map_append, List.map_replicate, hzb, hlen]
            rw [em, grow_empty] at S1 X1
            have hl2 : (st.set r (.arr ty 1 ((dedup eq l ++ List.replicate (l.length - (dedup eq l).length) z).map fun x => [mk x]))).objs.length = st.objs.length := by simp [St.set]
            exact ⟨_, rfl, E, _, S1, .own (by rw [hl2]; exact hrl) (by omega) (by intro h; cases h) (by intro; omega) (.inr (by simp)), by rw [hl2]; exact X1, rfl⟩
        · cases h
      · cases h
    · cases h
  · cases h

end

theorem strs_got : ∀ (es : List (List AV)) (l : List ByteArray), strsOf es = some l → es = l.map fun x => [.str x]
  | [], l, h => by simp [strsOf] at h; subst h; rfl
  | [.str s] :: es, l, h => by
    simp only [strsOf] at h
    split at h
    · rename_i r hr
      cases h
      rw [strs_got es r hr]
      rfl
    · cases h
  | [] :: es, l, h => by simp [strsOf] at h
  | (x :: y :: e) :: es, l, h => by simp [strsOf] at h
  | [x] :: es, l, h => by
    cases x <;> simp [strsOf] at h
    rename_i s
    split at h
    · rename_i r hr
      cases h
      rw [strs_got es r hr]
      rfl
    · cases h

theorem ints_got : ∀ (es : List (List AV)) (l : List Int), intsOf es = some l → es = l.map fun x => [.int .i64 x]
  | [], l, h => by simp [intsOf] at h; subst h; rfl
  | [] :: es, l, h => by simp [intsOf] at h
  | (x :: y :: e) :: es, l, h => by simp [intsOf] at h
  | [x] :: es, l, h => by
    cases x
    case int k s =>
      cases k
      case i64 =>
        simp only [intsOf] at h
        split at h
        · rename_i r hr
          cases h
          rw [ints_got es r hr]
          rfl
        · cases h
      all_goals simp [intsOf] at h
    all_goals simp [intsOf] at h

theorem str_elt : Elt strsOf .str encStr (fun s => s.data.toList) where
  got := strs_got
  rep := fun E n w x => .str _
  inv := fun E n w x v h => by cases h; rfl
  one := fun x => rfl

theorem int_elt : Elt intsOf (.int .i64) (Value.int .i64) id where
  got := ints_got
  rep := fun E n w x => .int _ _
  inv := fun E n w x v h => by cases h; rfl
  one := fun x => rfl

theorem str_ordr : Ordr ByteArray (List UInt8) bytesLt (fun x y => decide (x ≤ y)) (fun s => s.data.toList) where
  tr := fun a b c h1 h2 => by
    rw [ob_le] at *
    cases hca : Op.bytesLess c a with
    | false => rfl
    | true =>
      exfalso
      by_cases e : a = b
      · subst e; simp [hca] at h2
      · have := ob_total b a (by simpa using h1) (Ne.symm e)
        have := ob_trans c a b hca this
        simp [this] at h2
  tot := fun a b => by
    rw [ob_le, ob_le]
    by_cases e : a = b
    · subst e; simp [ob_self]
    · cases h : Op.bytesLess b a with
      | false => rfl
      | true =>
        cases h2 : Op.bytesLess a b with
        | false => rfl
        | true => have := ob_trans _ _ _ h h2; rw [ob_self] at this; cases this
  anti := fun a b h1 h2 => by
    rw [ob_le] at h1 h2
    by_cases e : a = b
    · exact e
    · have := ob_total b a (by simpa using h1) (Ne.symm e)
      simp [this] at h2
  lt := fun a b => by
    rw [ob_le, bytesLt, Lib.toList_data, Lib.toList_data, Bool.not_not]

theorem int_ordr : Ordr Int Int (fun x y => decide (x < y)) (fun x y => decide (x ≤ y)) id where
  tr := fun a b c h1 h2 => by simp at *; omega
  tot := fun a b => by simp; omega
  anti := fun a b h1 h2 => by simp at *; omega
  lt := fun a b => by
    by_cases h : a < b
    · have : ¬ b ≤ a := by omega
      simp [h, this]
    · have : b ≤ a := by omega
      simp [h, this]

theorem str_eq (a b : ByteArray) : bytesEq a b = decide (a.data.toList = b.data.toList) := by
  rw [bytesEq, Lib.toList_data, Lib.toList_data]
  rw [Bool.eq_iff_iff]
  simp

theorem int_eq (a b : Int) : (a == b) = decide (id a = id b) := by
  by_cases h : a = b <;> simp [h]
end Go.Proofs.Ytgabnhmjlhhojaa.A
