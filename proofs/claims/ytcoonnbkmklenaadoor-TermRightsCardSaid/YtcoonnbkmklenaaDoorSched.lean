/- Every order that a statement may be run in keeps what must be kept. -/
import Derived.Test.YtcoonnbkmklenaaDoorDraw
namespace Go.Proofs.YtcoonnbkmklenaaDoor.A
open Go

section

def befF (acc : Array Nat) (o : Oper) : Nat := o.after.foldl (fun s e => if Region.binds .any e then s ||| 2 ^ e.on ||| acc.getD e.on 0 else s) 0

def bef (ops : Array Oper) (a i : Nat) : Bool := ((Region.before ops).getD a 0).testBit i

theorem befF_list {acc : Array Nat} {i : Nat} : ∀ (l : List Edge) (s : Nat), (l.foldl (fun s e => if Region.binds .any e then s ||| 2 ^ e.on ||| acc.getD e.on 0 else s) s).testBit i = true →
    s.testBit i = true ∨ ∃ e ∈ l, Region.binds .any e = true ∧ (e.on = i ∨ (acc.getD e.on 0).testBit i = true)
  | [], s, h => .inl h
  | e :: l, s, h => by
    rw [List.foldl_cons] at h
    rcases befF_list l _ h with h1 | ⟨e', h2, h3⟩
    · split at h1
      · simp only [Nat.testBit_or, Bool.or_eq_true, Nat.testBit_two_pow, decide_eq_true_eq] at h1
        rcases h1 with (h1 | h1) | h1
        · exact .inl h1
        · exact .inr ⟨e, List.mem_cons_self .., ‹_›, .inl h1⟩
        · exact .inr ⟨e, List.mem_cons_self .., ‹_›, .inr h1⟩
      · exact .inl h1
    · exact .inr ⟨e', List.mem_cons_of_mem _ h2, h3⟩

theorem befF_spec {acc : Array Nat} {o : Oper} {i : Nat} (h : (befF acc o).testBit i = true) : ∃ e ∈ o.after, Region.binds .any e = true ∧ (e.on = i ∨ (acc.getD e.on 0).testBit i = true) := by
  unfold befF at h
  rw [← Array.foldl_toList] at h
  rcases befF_list _ _ h with h1 | ⟨e, h1, h2⟩
  · simp at h1
  · exact ⟨e, by simpa using h1, h2⟩

theorem bef_fold : ∀ (l : List Oper) (acc : Array Nat), (∀ j, j < acc.size → (l.foldl (fun acc o => acc.push (befF acc o)) acc).getD j 0 = acc.getD j 0) ∧
    (∀ (k : Nat) o, l[k]? = some o → ∃ pre : Array Nat, pre.size = acc.size + k ∧ (l.foldl (fun acc o => acc.push (befF acc o)) acc).getD (acc.size + k) 0 = befF pre o ∧ ∀ j, j < pre.size → (l.foldl (fun acc o => acc.push (befF acc o)) acc).getD j 0 = pre.getD j 0) ∧
    (l.foldl (fun acc o => acc.push (befF acc o)) acc).size = acc.size + l.length
  | [], acc => ⟨fun _ _ => rfl, by simp, rfl⟩
  | o :: l, acc => by
    obtain ⟨h1, h2, h3⟩ := bef_fold l (acc.push (befF acc o))
    simp only [Array.size_push] at h1 h2 h3
    rw [List.foldl_cons]
    refine ⟨fun j hj => ?_, fun k x hk => ?_, by rw [h3]; simp; omega⟩
    · rw [h1 j (by omega)]
      simp [Array.getD_eq_getD_getElem?, Array.getElem?_push, Nat.ne_of_lt hj]
    · cases k with
      | zero =>
        simp at hk
        subst hk
        refine ⟨acc, rfl, ?_, fun j hj => ?_⟩
        · rw [Nat.add_zero, h1 _ (by omega)]
          simp [Array.getD_eq_getD_getElem?, Array.getElem?_push]
        · rw [h1 j (by omega)]
          simp [Array.getD_eq_getD_getElem?, Array.getElem?_push, Nat.ne_of_lt hj]
      | succ k =>
        obtain ⟨pre, p1, p2, p3⟩ := h2 k x (by simpa using hk)
        exact ⟨pre, by omega, by rw [← p2]; congr 1; omega, p3⟩

theorem bef_spec {ops : Array Oper} {a i : Nat} (h : bef ops a i = true) : ∃ o, ops[a]? = some o ∧ ∃ e ∈ o.after, Region.binds .any e = true ∧ (e.on = i ∨ bef ops e.on i = true) := by
  obtain ⟨h1, h2, h3⟩ := bef_fold ops.toList #[]
  have e : Region.before ops = ops.toList.foldl (fun acc o => acc.push (befF acc o)) #[] := by
    unfold Region.before
    rw [← Array.foldl_toList]
    rfl
  rw [← e] at h2 h3
  unfold bef at h
  simp only [Array.size_empty, Nat.zero_add] at h2 h3
  cases ho : ops[a]? with
  | none =>
    have : ops.size ≤ a := by simpa using ho
    rw [Array.getD_eq_getD_getElem?, Array.getElem?_eq_none (by rw [h3]; simpa using this)] at h
    simp at h
  | some o =>
    obtain ⟨pre, p1, p2, p3⟩ := h2 a o (by simpa using ho)
    rw [p2] at h
    obtain ⟨e', m, b, q⟩ := befF_spec h
    refine ⟨o, rfl, e', m, b, q.imp id fun q => ?_⟩
    unfold bef
    by_cases hlt : e'.on < pre.size
    · rw [p3 _ hlt]; exact q
    · rw [Array.getD_eq_getD_getElem?, Array.getElem?_eq_none (by omega)] at q
      simp at q

def left (n : Nat) (listed : Array Bool) : List Nat := (List.range n).filter fun i => !listed.getD i true

def readyL (ops : Array Oper) (listed : Array Bool) : List Nat :=
  (List.range ops.size).filter fun i => !listed.getD i true && ((ops[i]?).map (·.after.all fun e => !Region.binds .any e || listed.getD e.on false)).getD false

structure Listed (ops : Array Oper) (listed : Array Bool) : Prop where
  size : listed.size = ops.size
  closed : ∀ a, listed.getD a false = true → ∀ i, bef ops a i = true → listed.getD i false = true

theorem getD_both {l : Array Bool} {i : Nat} (h : i < l.size) : l.getD i true = l.getD i false := by
  simp [Array.getD_eq_getD_getElem?, h]

theorem go_acc (ops : Array Oper) : ∀ (fuel t : Nat) (listed : Array Bool) (acc : List Nat), Region.linearise.go .any ops fuel t listed acc = acc.reverse ++ Region.linearise.go .any ops fuel t listed []
  | 0, _, _, _ => by simp [Region.linearise.go]
  | fuel + 1, t, listed, acc => by
    simp only [Region.linearise.go]
    split
    · rename_i i _
      rw [go_acc ops fuel _ _ (i :: acc), go_acc ops fuel _ _ [i]]
      simp
    · simp

theorem mem_left {n i : Nat} {l : Array Bool} : i ∈ left n l ↔ i < n ∧ l.getD i true = false := by
  simp [left]

theorem left_set {n i : Nat} {l : Array Bool} (h : i ∈ left n l) : (left n l).Perm (i :: left n (l.setIfInBounds i true)) := by
  have hn : (left n l).Nodup := List.nodup_range.filter _
  have hi := mem_left.1 h
  rw [List.perm_ext_iff_of_nodup hn]
  · intro j
    rw [List.mem_cons, mem_left, mem_left]
    simp only [Array.getD_eq_getD_getElem?, Array.getElem?_setIfInBounds]
    by_cases e : i = j
    · subst e
      rw [Array.getD_eq_getD_getElem?] at hi
      simp [hi]
    · rw [if_neg e]
      constructor
      · exact fun q => .inr q
      · rintro (q | q)
        · exact absurd q.symm e
        · exact q
  · refine List.nodup_cons.2 ⟨?_, List.nodup_range.filter _⟩
    rw [mem_left]
    intro ⟨h1, h2⟩
    have : i < l.size := by
      have := hi.2
      rw [Array.getD_eq_getD_getElem?] at this
      by_cases q : i < l.size
      · exact q
      · rw [Array.getElem?_eq_none (by omega)] at this; simp at this
    simp [Array.getD_eq_getD_getElem?, Array.getElem?_setIfInBounds, this] at h2

theorem ready_ne {ops : Array Oper} {l : Array Bool} (he : edgesB ops = true) (hL : Listed ops l) (hne : left ops.size l ≠ []) : readyL ops l ≠ [] := by
  -- the least that is left
  obtain ⟨j, rest, e⟩ : ∃ j rest, left ops.size l = j :: rest := by
    cases h : left ops.size l with
    | nil => exact absurd h hne
    | cons j r => exact ⟨j, r, rfl⟩
  have hj : j ∈ left ops.size l := by rw [e]; exact List.mem_cons_self ..
  have hmin : ∀ k, k < j → l.getD k true = true := by
    intro k hk
    by_cases hb : l.getD k true = true
    · exact hb
    · have hk2 : k ∈ left ops.size l := mem_left.2 ⟨Nat.lt_trans hk (mem_left.1 hj).1, by simpa using hb⟩
      have hs : (left ops.size l).Pairwise (· < ·) := List.pairwise_lt_range.filter _
      rw [e] at hk2 hs
      rcases List.mem_cons.1 hk2 with q | q
      · omega
      · have := (List.pairwise_cons.1 hs).1 k q
        omega
  have hjm := mem_left.1 hj
  have hin : j ∈ readyL ops l := by
    simp only [readyL, List.mem_filter, List.mem_range, Bool.and_eq_true, Bool.not_eq_true']
    refine ⟨hjm.1, hjm.2, ?_⟩
    have : ops[j]? = some ops[j] := by simp [hjm.1]
    rw [this]
    simp only [Option.map_some, Option.getD_some]
    rw [Array.all_eq_true']
    intro e' he'
    have hx := List.all_eq_true.1 he j (by simpa using hjm.1)
    rw [this] at hx
    simp only [] at hx
    have hy := List.all_eq_true.1 hx e' (by simpa using he')
    simp only [Bool.or_eq_true, Bool.not_eq_true', decide_eq_true_eq] at hy ⊢
    rcases hy with q | q
    · exact .inl q
    · right
      have := hmin _ q
      rw [getD_both (by rw [hL.size]; omega)] at this
      exact this
  intro h0
  rw [h0] at hin
  cases hin

theorem listed_set {ops : Array Oper} {l : Array Bool} {i : Nat} (hL : Listed ops l) (hi : i ∈ readyL ops l) : i ∈ left ops.size l ∧ Listed ops (l.setIfInBounds i true) ∧ ∀ j, bef ops i j = true → l.getD j false = true := by
  simp only [readyL, List.mem_filter, List.mem_range, Bool.and_eq_true, Bool.not_eq_true'] at hi
  obtain ⟨h1, h2, h3⟩ := hi
  have hb : ∀ j, bef ops i j = true → l.getD j false = true := by
    intro j hj
    obtain ⟨o, ho, e, he, hbd, hor⟩ := bef_spec hj
    rw [ho] at h3
    simp only [Option.map_some, Option.getD_some] at h3
    rw [Array.all_eq_true'] at h3
    have := h3 e he
    rw [hbd] at this
    simp only [Bool.not_true, Bool.false_or] at this
    rcases hor with rfl | hor
    · exact this
    · exact hL.closed _ this _ hor
  refine ⟨mem_left.2 ⟨h1, h2⟩, ⟨by simp [hL.size], fun a ha j hj => ?_⟩, hb⟩
  have up : ∀ k, l.getD k false = true → (l.setIfInBounds i true).getD k false = true := by
    intro k hk
    simp only [Array.getD_eq_getD_getElem?, Array.getElem?_setIfInBounds] at hk ⊢
    split
    · split <;> simp_all
    · exact hk
  by_cases e : i = a
  · subst e
    exact up _ (hb j hj)
  · refine up _ (hL.closed a ?_ j hj)
    simp only [Array.getD_eq_getD_getElem?, Array.getElem?_setIfInBounds, if_neg e] at ha ⊢
    exact ha

theorem go_ok {ops : Array Oper} (he : edgesB ops = true) : ∀ (fuel t : Nat) (l : Array Bool), Listed ops l → (left ops.size l).length = fuel →
    (Region.linearise.go .any ops fuel t l []).Perm (left ops.size l) ∧ (Region.linearise.go .any ops fuel t l []).Pairwise (fun a b => bef ops a b = false)
  | 0, t, l, hL, hf => by
    rw [List.eq_nil_of_length_eq_zero hf]
    exact ⟨.refl _, .nil⟩
  | fuel + 1, t, l, hL, hf => by
    have hne : readyL ops l ≠ [] := ready_ne he hL (by intro h; rw [h] at hf; cases hf)
    have hlt : t % (readyL ops l).length < (readyL ops l).length := Nat.mod_lt _ (by cases h : readyL ops l with | nil => exact absurd h hne | cons => simp)
    simp only [Region.linearise.go]
    change List.Perm (match (readyL ops l)[t % (readyL ops l).length]? with
      | some i => Region.linearise.go .any ops fuel (t / (readyL ops l).length) (l.setIfInBounds i true) [i]
      | none => [].reverse) _ ∧ List.Pairwise _ (match (readyL ops l)[t % (readyL ops l).length]? with
      | some i => Region.linearise.go .any ops fuel (t / (readyL ops l).length) (l.setIfInBounds i true) [i]
      | none => [].reverse)
    rw [List.getElem?_eq_getElem hlt]
    generalize hi : (readyL ops l)[t % (readyL ops l).length] = i
    have him : i ∈ readyL ops l := by rw [← hi]; exact List.getElem_mem _
    simp only []
    rw [go_acc]
    obtain ⟨h1, h2, h3⟩ := listed_set hL him
    have hp := left_set h1
    obtain ⟨r1, r2⟩ := go_ok he fuel (t / (readyL ops l).length) (l.setIfInBounds i true) h2 (by have := hp.length_eq; simp at this; omega)
    refine ⟨?_, ?_⟩
    · exact (r1.cons i).trans hp.symm
    · refine List.pairwise_cons.2 ⟨fun b hb => ?_, r2⟩
      have hbl := mem_left.1 (r1.subset hb)
      by_cases q : bef ops i b = true
      · have := h3 b q
        have hb2 : (l.setIfInBounds i true).getD b true = true := by
          have hsz : b < l.size := by
            rw [Array.getD_eq_getD_getElem?] at this
            by_cases z : b < l.size
            · exact z
            · rw [Array.getElem?_eq_none (by omega)] at this; simp at this
          rw [← getD_both hsz] at this
          simp only [Array.getD_eq_getD_getElem?, Array.getElem?_setIfInBounds] at this ⊢
          split
          · split <;> simp_all
          · exact this
        rw [hb2] at hbl
        cases hbl.2
      · simpa using q

theorem left_new (n : Nat) : left n (Array.replicate n false) = List.range n := by
  unfold left
  rw [List.filter_eq_self]
  intro a ha
  have : a < n := by simpa using ha
  simp [Array.getD_eq_getD_getElem?, this]

theorem schedule_ok {ops : Array Oper} (he : edgesB ops = true) (t : Nat) : (Region.schedule true ops t).Perm (List.range ops.size) ∧ (Region.schedule true ops t).Pairwise (fun a b => bef ops a b = false) := by
  have := go_ok he ops.size t (Array.replicate ops.size false) ⟨by simp, fun a ha i hi => by
    simp [Array.getD_eq_getD_getElem?, Array.getElem?_replicate] at ha
    split at ha <;> simp at ha⟩ (by rw [left_new]; simp)
  rw [left_new] at this
  exact this

theorem drawFrom_spec {T : Tab} {l : List AOp} {b : Array Nat} : ∀ (m : List AOp) (j : Nat), drawFrom T l b j m = true → ∀ (k : Nat) y, m[k]? = some y → ∀ i, i < j + k → ∀ x, l[i]? = some x → (b.getD (j + k) 0).testBit i = true ∨ free2 T x y = true
  | [], _, _, k, y, h => by simp at h
  | z :: m, j, h, k, y, hk => by
    simp only [drawFrom, Bool.and_eq_true, List.all_eq_true, List.mem_range] at h
    cases k with
    | zero =>
      simp at hk
      subst hk
      intro i hi x hx
      have := h.1 i (by simpa using hi)
      rw [hx] at this
      simpa using this
    | succ k =>
      intro i hi x hx
      have := drawFrom_spec m (j + 1) h.2 k y (by simpa using hk) i (by omega) x hx
      rw [show j + (k + 1) = j + 1 + k by omega]
      exact this

/-- a statement whose order is open -/
theorem draw_ok {T : Tab} {O : Orc} (H : OPure T O) {ops : Array Oper} {xs : List AOp} (hlen : ops.size = xs.length) (hd : drawB T ops xs = true) (t : Nat) {fr fr' : List AV} {st st' : St}
    (h : exDraw O xs [] fr st = some (fr', st')) : ∃ l, (Region.schedule true ops t).map (fun (j : Nat) => xs[j]?) = l.map some ∧ exOps O l fr st = some (fr', st') := by
  simp only [drawB, Bool.and_eq_true] at hd
  obtain ⟨p, hp⟩ := schedule_ok hd.1 t
  obtain ⟨ts, h1, h2⟩ := exDraw_exL xs h
  rw [List.append_nil] at h2
  obtain ⟨l, ts', h3, h4⟩ := exL_any H xs (bef ops) (fun i j x y hij hx hy => by
    have := drawFrom_spec xs 0 hd.2 j y hy i (by omega) x hx
    rw [Nat.zero_add] at this
    exact this) _ (List.range ops.size) xs p List.pairwise_lt_range hp (by
    rw [hlen]
    apply List.ext_getElem?
    intro i
    by_cases hi : i < xs.length
    · simp [hi]
    · simp [hi]) h1 (h2.perm (List.reverse_perm ts))
  exact ⟨l, h3, exL_exOps _ h4⟩

end
end Go.Proofs.YtcoonnbkmklenaaDoor.A
