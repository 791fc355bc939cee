/- Each operation of the interpreter (calls aside) is the model's. -/
import Derived.Test.YtcoonnbkmklenaaDoorSim
import Derived.Laws.Tables
namespace Go.Proofs.YtcoonnbkmklenaaDoor.A
open Go

section
variable {P : Program} {T : Tab} {E E' : Env} {st st' : St} {w w' : World} {n : Nat}

theorem atomB_rep {x : AV} {v : Value} (h : atomB x v = true) : Rep E n w x v := by
  unfold atomB at h
  split at h
  · rename_i a b; obtain rfl : a = b := by simpa using h
    exact .bool _
  · simp only [Bool.and_eq_true, decide_eq_true_eq] at h
    obtain ⟨rfl, rfl⟩ := h
    exact .int _ _
  · obtain rfl := of_decide_eq_true h
    exact .str _
  · exact .nilf
  · exact .nilp
  · exact .fsl 0 0 (fun _ _ => .nilFunc) rfl rfl (by simp) (.inl rfl) (by simp) (by simp)
  · exact .any _
  · cases h

theorem atomsB_rep : ∀ {l : List AV} {m : List Value}, atomsB l m = true → RepL E n w l m ∧ ∀ v ∈ m, v.oneCell' = true
  | [], [], _ => ⟨⟨rfl, by simp⟩, by simp⟩
  | [], _ :: _, h => by simp [atomsB] at h
  | _ :: _, [], h => by simp [atomsB] at h
  | x :: l, v :: m, h => by
    simp only [atomsB, Bool.and_eq_true] at h
    obtain ⟨hr, ho⟩ := atomsB_rep h.2
    refine ⟨⟨by simp [hr.len], fun j y u hy hu => ?_⟩, ?_⟩
    · cases j with
      | zero => simp at hy hu; subst hy hu; exact atomB_rep h.1.1
      | succ j => exact hr.at_ j y u (by simpa using hy) (by simpa using hu)
    · intro u hu
      rcases List.mem_cons.1 hu with rfl | hu
      · exact h.1.2
      · exact ho u hu

theorem constB_rep {x : AV} {v : Value} (h : constB x v = true) : Rep E n w x v := by
  unfold constB at h
  split at h
  · obtain ⟨hr, _⟩ := atomsB_rep (E := E) (n := n) (w := w) h
    exact .agg (by simpa using hr.len) fun j x v hx hv => hr.at_ j x v hx (by simpa using hv)
  · exact atomB_rep h

theorem slot_rep {fr : List AV} {a : Act} (F : RepL E n w fr a.tmps.toList) (k : Nat) : Rep E n w (slot fr k) (a.tmps.getD k undef) := by
  unfold slot
  rcases Nat.lt_or_ge k fr.length with h | h
  · have h' : k < a.tmps.size := by have := F.len; simp at this; omega
    refine F.at_ k _ _ (by simp [List.getD, h]) ?_
    simp [Array.getD, h']
  · rw [show fr.getD k AV.any = .any by simp [List.getD, h]]
    exact .any _

theorem ev_rep {fr : List AV} {a : Act} (G : GlobOk E w) (F : RepL E n w fr a.tmps.toList) {x : Opd} {y : Operand} (h : opdB x y = true) : Rep E n w (ev fr x) (a.eval y) := by
  unfold opdB at h
  split at h
  · rename_i i j
    obtain rfl : i = j := by simpa using h
    exact slot_rep F _
  · exact constB_rep h
  · rename_i i j
    obtain rfl : i = j := by simpa using h
    exact .fn rfl (by simp) rfl (by simp)
  · rename_i i j
    simp only [Bool.and_eq_true, beq_iff_eq] at h
    obtain ⟨rfl, h2⟩ := h
    obtain ⟨cs, hcs⟩ := Option.isSome_iff_exists.1 h2
    simp only [ev, hcs]
    exact G.at_ hcs n
  · cases h

theorem evs_rep {fr : List AV} {a : Act} (G : GlobOk E w) (F : RepL E n w fr a.tmps.toList) : ∀ {l : List Opd} {m : List Operand}, opdsB l m = true → RepL E n w (evs fr l) (m.map a.eval)
  | [], [], _ => ⟨rfl, by simp [evs]⟩
  | [], _ :: _, h => by simp [opdsB] at h
  | _ :: _, [], h => by simp [opdsB] at h
  | x :: l, y :: m, h => by
    simp only [opdsB, Bool.and_eq_true] at h
    have hr := evs_rep G F h.2
    refine ⟨by simp [evs, hr.len], fun j z u hz hu => ?_⟩
    cases j with
    | zero => simp [evs] at hz hu; subst hz hu; exact ev_rep G F h.1
    | succ j => exact hr.at_ j z u (by simpa [evs] using hz) (by simpa using hu)

theorem can1_rep {x : AV} {v : Value} (h : Rep E n w x v) : Rep E n w (can1 x) v := by
  unfold can1
  split
  · cases h with
    | fsl b o c hl hcp hs ha hc h => exact .sl b o c hl (by omega) hs ha hc h
  · exact h

theorem canL_length (l : List AV) : (canL l).length = l.length := by
  induction l with
  | nil => rfl
  | cons x l ih => simp [canL, ih]
theorem canL_get {l : List AV} {j : Nat} {x : AV} (h : (canL l)[j]? = some x) : ∃ y, l[j]? = some y ∧ x = can1 y := by
  induction l generalizing j with
  | nil => simp [canL] at h
  | cons z l ih =>
    cases j with
    | zero => simp [canL] at h; exact ⟨z, rfl, h.symm⟩
    | succ j => simpa using ih (by simpa [canL] using h)
theorem canL_rep {l : List AV} {m : List Value} (h : RepL E n w l m) : RepL E n w (canL l) m :=
  ⟨(canL_length l).trans h.len, fun j x v hx hv => by obtain ⟨y, hy, rfl⟩ := canL_get hx; exact can1_rep (h.at_ j y v hy hv)⟩
theorem canA_rep {x : AV} {v : Value} (h : Rep E n w x v) : Rep E n w (canA x) v := by
  unfold canA
  split
  · cases h with
    | agg hl h => exact .agg ((canL_length _).trans hl) fun j x v hx hv => by obtain ⟨y, hy, rfl⟩ := canL_get hx; exact can1_rep (h j y v hy hv)
  · exact h
theorem canAL_rep {l : List AV} {m : List Value} (h : RepL E n w l m) : RepL E n w (canAL l) m := by
  have key : ∀ (l : List AV), (canAL l).length = l.length ∧ ∀ (j : Nat) x, (canAL l)[j]? = some x → ∃ y, l[j]? = some y ∧ x = canA y := by
    intro l
    induction l with
    | nil => exact ⟨rfl, fun j x h => by simp [canAL] at h⟩
    | cons z l ih =>
      refine ⟨by simp [canAL, ih.1], fun j x h => ?_⟩
      cases j with
      | zero => simp [canAL] at h; exact ⟨z, rfl, h.symm⟩
      | succ j => simpa using ih.2 j x (by simpa [canAL] using h)
  exact ⟨(key l).1.trans h.len, fun j x v hx hv => by obtain ⟨y, hy, rfl⟩ := (key l).2 j x hx; exact canA_rep (h.at_ j y v hy hv)⟩

/-! the cells of a value -/

theorem cells_rep {x : AV} {v : Value} (h : Rep E n w x v) (hx : x.cells.all AV.one = true) : RepL E n w x.cells v.cells.toList ∧ (∀ u ∈ v.cells.toList, u.oneCell' = true) := by
  have one : ∀ (x : AV) (v : Value), Rep E n w x v → x.one = true → v.oneCell' = true := by
    intro x v h ho
    cases h <;> first | rfl | simp [AV.one] at ho
  have single : ∀ (x : AV) (v : Value), Rep E n w x v → x.one = true → x.cells = [x] ∧ v.cells = #[v] := by
    intro x v h ho
    cases h <;> first | exact ⟨rfl, rfl⟩ | simp [AV.one] at ho
  cases h with
  | agg hl h =>
    rename_i cs vs
    simp only [AV.cells, Value.cells] at *
    refine ⟨⟨by simpa using hl, fun j x v hx hv => h j x v hx (by simpa using hv)⟩, fun u hu => ?_⟩
    obtain ⟨j, hj, rfl⟩ := List.mem_iff_getElem.1 hu
    have hj' : j < cs.length := by simp at hj; omega
    refine one cs[j] _ (h j _ _ (by simp [hj']) (by simp [show j < vs.size by simpa using hj])) ?_
    exact List.all_eq_true.1 hx _ (List.getElem_mem hj')
  | any v => simp [AV.cells, AV.one] at hx
  | tup hl h => simp [AV.cells, AV.one] at hx
  | _ =>
    refine ⟨⟨rfl, fun j x v hx hv => ?_⟩, ?_⟩
    · cases j with
      | zero => simp [AV.cells, Value.cells] at hx hv; subst hx hv; first | exact .bool _ | exact .int _ _ | exact .str _ | exact .nilf | exact .nilp | (constructor <;> assumption)
      | succ j => simp [AV.cells] at hx
    · simp [Value.cells, Value.oneCell']

theorem cells_len {x : AV} {v : Value} (h : Rep E n w x v) (hx : x ≠ .any) : v.cells.size = x.cells.length := by
  cases h <;> first | rfl | exact absurd rfl hx | (simp only [AV.cells, Value.cells]; omega)

/-! sizes and shapes -/

theorem sizeB_get {t sz : Nat} (h : sizeB P t sz = true) : ∃ i, P.info? t = some i ∧ i.size = sz := by
  unfold sizeB at h
  cases hi : P.info? t with
  | none => simp [hi] at h
  | some i => exact ⟨i, rfl, by simpa [hi] using h⟩

theorem run_sizeOf {t sz : Nat} (h : sizeB P t sz = true) : (Go.sizeOf t).run P w = .ok sz w := by
  obtain ⟨i, hi, hs⟩ := sizeB_get h
  simp [Go.sizeOf, typeInfo, hi, hs]

theorem run_isAgg {t : Nat} {agg : Bool} (h : isAggB P t agg = true) : (isAgg t).run P w = .ok agg w := by
  unfold isAggB at h
  unfold isAgg
  split at h
  · rename_i hu; simp only [Sem.run_bind, run_underlying hu, Result.andThen_ok, Sem.run_pure]; rw [h]
  · rename_i hu; simp only [Sem.run_bind, run_underlying hu, Result.andThen_ok, Sem.run_pure]; rw [h]
  · rename_i d hns hna hu
    have : agg = false := by simpa using h
    subst this
    simp only [Sem.run_bind, run_underlying hu, Result.andThen_ok]
    cases d <;> first | rfl | exact absurd rfl (hns _) | exact absurd rfl (hna _ _)
  · cases h

theorem run_loadAt {t sz : Nat} {agg : Bool} (hs : sizeB P t sz = true) (ha : isAggB P t agg = true) (h1 : agg = true ∨ sz = 1) (b o : Nat) (f : Nat → Value)
    (h : ∀ j, j < sz → w.cell? ⟨b, o + j, none⟩ = some (f j)) :
    (Instr.loadAt t (.pointer (some ⟨b, o, none⟩))).run P w = .ok (if agg = true then .agg ((List.range sz).map f).toArray else f 0) w := by
  have hc := run_loadCells (P := P) w ⟨b, o, none⟩ sz f (fun j hj => by rw [Addr.add_lit]; exact h j hj)
  simp only [Instr.loadAt, Instr.sureAddr, loadVar, Sem.run_bind, Sem.run_pure, Result.andThen_ok, run_isAgg ha]
  cases agg with
  | true => simp [run_sizeOf hs, hc]
  | false =>
    have h0 : sz = 1 := by simpa using h1
    subst h0
    have := h 0 (by omega)
    simp only [Nat.add_zero] at this
    simp [this]

/-- cells as a value -/
theorem val_rep {agg : Bool} {sz : Nat} {cs : List AV} {x : AV} (hv : val agg cs = some x) (hl : cs.length = sz) (f : Nat → Value)
    (h : ∀ (j : Nat) y, cs[j]? = some y → Rep E n w y (f j)) : Rep E n w x (if agg = true then .agg ((List.range sz).map f).toArray else f 0) := by
  unfold val at hv
  cases agg with
  | true =>
    obtain rfl := Option.some.inj hv
    refine .agg (by simp [hl]) fun j y v hy hv => ?_
    have hj := lt_of_get hy
    have : v = f j := by
      simp [show j < sz by omega] at hv
      exact hv.symm
    rw [this]; exact h j y hy
  | false =>
    simp only [Bool.false_eq_true, if_false] at hv ⊢
    split at hv
    · obtain rfl := Option.some.inj hv
      exact h 0 _ rfl
    · cases hv

theorem arr_get {r : Nat} {ty sz : Nat} {es : List (List AV)} (h : st.arr? r = some (ty, sz, es)) : st.objs[r]? = some (.arr ty sz es) := by
  unfold St.arr? at h
  split at h
  · rename_i e
    obtain ⟨rfl, rfl, rfl⟩ : _ ∧ _ ∧ _ := by simpa using h
    exact e
  · cases h

/-- where the elements of an array lie -/
theorem arr_cells (S : Sim P T E st w) {r ty sz : Nat} {es : List (List AV)} (h : st.objs[r]? = some (.arr ty sz es)) {i : Nat} {e : List AV} (he : es[i]? = some e) :
    (E.L r).sz = sz ∧ 0 < sz ∧ e.length = sz ∧ (E.L r).cap ≠ 0 ∧ ∃ cur, w.heap[(E.L r).blk]? = some (.cells cur ty (0, 0)) ∧ cur.size = (E.L r).cap * sz ∧ i < (E.L r).cap ∧
      ∀ (j : Nat) x, e[j]? = some x → ∃ v, cur[i * sz + j]? = some v ∧ v.oneCell' = true ∧ Rep E st.objs.length w x v := by
  obtain ⟨h1, h2, h3, h4, h5, h6⟩ := S.obj r _ h
  have hi := lt_of_get he
  have hc : (E.L r).cap ≠ 0 := by omega
  obtain ⟨cur, hcur, hs, hx⟩ := h6.resolve_left hc
  exact ⟨h1, h4, h5 e (List.mem_of_getElem? he), hc, cur, hcur, hs, by omega, fun j x hj => hx i e j x he hj⟩

theorem run_load {agg : Bool} {t sz : Nat} {p x : AV} {pv : Value} (S : Sim P T E st w) (hl : ld st agg sz p = some x) (hp : Rep E st.objs.length w p pv)
    (hs : sizeB P t sz = true) (ha : isAggB P t agg = true) (h1 : agg = true ∨ sz = 1) : ∃ v, (Instr.loadAt t pv).run P w = .ok v w ∧ Rep E st.objs.length w x v := by
  unfold ld at hl
  split at hl
  · rename_i r i off
    split at hl
    · rename_i ty sz' es hr
      split at hl
      · rename_i e he
        split at hl
        · rename_i hoff
          obtain ⟨g1, g2, g3, g4, cur, g5, g6, g7, g8⟩ := arr_cells S (arr_get hr) he
          cases hp with
          | ptr _ _ o hr' ho =>
            have hcell : ∀ j, j < sz → ∃ v, w.cell? ⟨(E.L r).blk, o + j, none⟩ = some v ∧ (∀ x, e[off + j]? = some x → Rep E st.objs.length w x v) := by
              intro j hj
              obtain ⟨v, hv, _, hrp⟩ := g8 (off + j) e[off + j] (by simp [show off + j < e.length by omega])
              refine ⟨v, ?_, fun x hx => ?_⟩
              · have : o + j = i * sz' + (off + j) := by rw [ho, g1]; omega
                simp [World.cell?, g5, this, hv]
              · have : e[off + j]'(by omega) = x := by simpa [show off + j < e.length by omega] using hx
                rw [← this]; exact hrp
            let f : Nat → Value := fun j => if h : j < sz then Classical.choose (hcell j h) else .nilFunc
            have hf : ∀ j (h : j < sz), w.cell? ⟨(E.L r).blk, o + j, none⟩ = some (f j) ∧ (∀ x, e[off + j]? = some x → Rep E st.objs.length w x (f j)) := by
              intro j h
              have := Classical.choose_spec (hcell j h)
              simpa only [f, dif_pos h] using this
            refine ⟨_, run_loadAt hs ha h1 _ _ f fun j hj => (hf j hj).1, ?_⟩
            refine val_rep hl (by simp; omega) f fun j y hy => ?_
            have hj : j < sz := by have := lt_of_get hy; simp at this; omega
            refine (hf j hj).2 y ?_
            simpa [List.getElem?_take, hj] using hy
        · cases hl
      · cases hl
    · cases hl
  · rename_i cs
    split at hl
    · rename_i hlen
      cases hp with
      | vptr b o c hF hc h =>
        refine ⟨_, run_loadAt hs ha h1 b o c fun j hj => (hc j (by omega)).1, ?_⟩
        refine val_rep hl (by simp; omega) c fun j y hy => h j y ?_
        have hj : j < sz := by have := lt_of_get hy; simp at this; omega
        simpa [List.getElem?_take, hj] using hy
    · cases hl
  · cases hl

theorem setMany_length : ∀ (xs : List AV) (cs : List AV) (o : Nat), (setMany cs o xs).length = cs.length
  | [], _, _ => rfl
  | x :: xs, cs, o => by simp [setMany, setMany_length xs]
theorem setMany_get : ∀ (xs : List AV) (cs : List AV) (o j : Nat) (x : AV), (setMany cs o xs)[j]? = some x →
    (o ≤ j ∧ j < o + xs.length ∧ xs[j - o]? = some x) ∨ (¬ (o ≤ j ∧ j < o + xs.length) ∧ cs[j]? = some x)
  | [], cs, o, j, x, h => .inr ⟨by simp, h⟩
  | y :: xs, cs, o, j, x, h => by
    simp only [setMany] at h
    rcases setMany_get xs _ _ _ _ h with ⟨h1, h2, h3⟩ | ⟨h1, h2⟩
    · exact .inl ⟨by omega, by simp; omega, by rw [show j - o = (j - (o + 1)) + 1 by omega]; simpa using h3⟩
    · rw [List.getElem?_set] at h2
      by_cases e : o = j
      · subst e
        simp only [if_true] at h2
        split at h2
        · obtain rfl := Option.some.inj h2
          exact .inl ⟨Nat.le_refl _, by simp, by simp⟩
        · cases h2
      · rw [if_neg e] at h2
        refine .inr ⟨?_, h2⟩
        simp only [List.length_cons]
        omega

theorem run_storeAt {t sz : Nat} (hs : sizeB P t sz = true) {g o ty : Nat} {cur : Array Value} {v : Value} (hg : w.heap[g]? = some (.cells cur ty (0, 0))) (hv : v.cells.size = sz)
    (hfit : o + sz ≤ cur.size) (h1 : ∀ u ∈ v.cells.toList, u.oneCell' = true) :
    (Instr.storeAt t (.pointer (some ⟨g, o, none⟩)) v).run P w = .ok () (w.setRow g (cur.toList.take o ++ v.cells.toList ++ cur.toList.drop (o + sz)).toArray) := by
  have := run_storeCells_at P g o ty v.cells.toList 0 cur w hg (by simp; omega) h1
  simp only [Nat.add_zero, Array.length_toList, hv] at this
  simp [Instr.storeAt, Instr.sureAddr, storeVar, run_sizeOf hs, hv, this]

theorem run_store {t sz : Nat} {p x : AV} {pv xv : Value} (S : Sim P T E st w) (hl : sto st sz p x = some st') (hp : Rep E st.objs.length w p pv) (hx : Rep E st.objs.length w x xv)
    (hs : sizeB P t sz = true) : ∃ w', (Instr.storeAt t pv xv).run P w = .ok () w' ∧ Sim P T E st' w' ∧ Ext E st.objs.length w E st'.objs.length w' := by
  unfold sto at hl
  split at hl
  · rename_i r i off
    split at hl
    · rename_i ty s es hr
      split at hl
      · rename_i e he
        split at hl
        · rename_i hc
          obtain ⟨c1, c2, c3, c4⟩ := hc
          obtain rfl := Option.some.inj hl
          have hobj := arr_get hr
          obtain ⟨g1, g2, g3, g4, cur, g5, g6, g7, g8⟩ := arr_cells S hobj he
          obtain ⟨q1, q2, q3, q4, q5, q6⟩ := S.obj r _ hobj
          obtain ⟨cur', k1, k2, k3⟩ := q6.resolve_left g4
          obtain rfl : cur' = cur := by rw [g5] at k1; cases k1; rfl
          obtain ⟨hcr, hone⟩ := cells_rep hx c3
          have hcl : xv.cells.size = sz := by have := hcr.len; simp at this; omega
          cases hp with
          | ptr _ _ o hr' ho =>
            have hmul : i * s + s ≤ (E.L r).cap * s := by
              have : (i + 1) * s ≤ (E.L r).cap * s := Nat.mul_le_mul_right _ (by omega)
              rwa [Nat.add_mul, Nat.one_mul] at this
            have hfit : o + sz ≤ cur'.size := by rw [ho, g1, g6]; omega
            have hrun := run_storeAt (P := P) (w := w) hs g5 hcl hfit hone
            have hget : ∀ k, (cur'.toList.take o ++ xv.cells.toList ++ cur'.toList.drop (o + sz)).toArray[k]? =
                if o ≤ k ∧ k < o + sz then xv.cells[k - o]? else cur'[k]? := by
              intro k
              simp only [List.getElem?_toArray, List.getElem?_append, List.length_append, List.length_take, Array.length_toList, List.getElem?_take, List.getElem?_drop, Array.getElem?_toList]
              have : min o cur'.size = o := by omega
              simp only [this, hcl]
              by_cases h1 : k < o
              · simp [h1, show k < o + sz by omega, show ¬ o ≤ k by omega]
              · by_cases h2 : k < o + sz
                · simp [h1, h2, show o ≤ k by omega]
                · rw [if_neg h2, if_neg (by omega)]
                  have e : o + sz + (k - (o + sz)) = k := by omega
                  rw [e]
            have hlen : (st.set r (.arr ty s (es.set i (setMany e off x.cells)))).objs.length = st.objs.length := by simp [St.set]
            refine ⟨_, hrun, S.set r (.arr ty s es) _ hobj g4 (by simp) (fun b hb => setRow_other _ _ _ _ hb) (.inl g4) ⟨q1, by simpa using q2, q3, q4, ?_, .inr ⟨_, setRow_heap _ _ _ _ _ _ g5, ?_, ?_⟩⟩, ?_⟩
            · intro e' he'
              rcases List.mem_or_eq_of_mem_set he' with h' | rfl
              · exact q5 e' h'
              · rw [setMany_length]; exact g3
            · have : (cur'.toList.take o ++ xv.cells.toList ++ cur'.toList.drop (o + sz)).toArray.size = cur'.size := by
                simp only [List.size_toArray, List.length_append, List.length_take, List.length_drop, Array.length_toList, hcl]
                omega
              rw [this, g6]
            · intro i' e' j y he' hy
              have m : Mono E st.objs.length w E st.objs.length (w.setRow (E.L r).blk (cur'.toList.take o ++ xv.cells.toList ++ cur'.toList.drop (o + sz)).toArray) :=
                (Ext.set S hobj g4 (by simp) (fun b hb => setRow_other _ _ _ _ hb) rfl rfl rfl).toMono
              rw [List.getElem?_set] at he'
              by_cases hi : i = i'
              · subst hi
                simp only [if_true] at he'
                have he'' : setMany e off x.cells = e' := by
                  split at he'
                  · exact Option.some.inj he'
                  · cases he'
                subst he''
                have hjl : j < s := by have := lt_of_get hy; rw [setMany_length] at this; omega
                rcases setMany_get _ _ _ _ _ hy with ⟨a1, a2, a3⟩ | ⟨a1, a2⟩
                · have hj : i * s + j - o = j - off := by rw [ho, g1]; omega
                  have hjs : j - off < xv.cells.size := by omega
                  refine ⟨xv.cells[j - off], ?_, hone _ (by simp), (hcr.at_ (j - off) y _ a3 (by simp [hjs])).mono m⟩
                  rw [hget, if_pos (by rw [ho, g1]; omega), hj]
                  simp [hjs]
                · obtain ⟨v, hv, ho1, hrp⟩ := g8 j y a2
                  refine ⟨v, ?_, ho1, hrp.mono m⟩
                  rw [hget, if_neg (by rw [ho, g1]; omega)]
                  exact hv
              · rw [if_neg hi] at he'
                obtain ⟨v, hv, ho1, hrp⟩ := k3 i' e' j y he' hy
                have hjl : j < s := by have := lt_of_get hy; rw [q5 e' (List.mem_of_getElem? he')] at this; exact this
                refine ⟨v, ?_, ho1, hrp.mono m⟩
                rw [hget, if_neg ?_]
                · exact hv
                · rw [ho, g1]
                  rcases Nat.lt_or_gt_of_ne hi with h' | h'
                  · have : (i + 1) * s ≤ i' * s := Nat.mul_le_mul_right _ (by omega)
                    rw [Nat.add_mul, Nat.one_mul] at this
                    omega
                  · have : (i' + 1) * s ≤ i * s := Nat.mul_le_mul_right _ (by omega)
                    rw [Nat.add_mul, Nat.one_mul] at this
                    omega
            · rw [hlen]
              exact Ext.set S hobj g4 (by simp) (fun b hb => setRow_other _ _ _ _ hb) rfl rfl rfl
        · cases hl
      · cases hl
    · cases hl
  · cases hl

end
end Go.Proofs.YtcoonnbkmklenaaDoor.A
