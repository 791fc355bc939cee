/- Each operation of the interpreter (calls aside) is the model's. -/
import Derived.Test.YtgabnhmjlhhojaaSim
import Derived.Laws.Tables
namespace Go.Proofs.Ytgabnhmjlhhojaa.A
open Go

section
variable {P : Program} {T : Tab} {E E' : Env} {st st' : St} {w w' : World} {n : Nat}

theorem atomB_rep {x : AV} {v : Value} (h : atomB x v = true) : Rep E n w x v := by
  unfold atomB at h
  split at h
  · rename_i a b; obtain rfl : a = b := by simpa using h
    exact .bool _
  · simp only [Bool.and_eq_true, decide_eq_true_eq] at h
    obtain ⟨rfl, rfl⟩ := h
    exact .int _ _
  · obtain rfl := of_decide_eq_true h
    exact .str _
  · exact .nilf
  · exact .nilp
  · exact .fsl 0 0 (fun _ _ => .nilFunc) rfl rfl (by simp) (.inl rfl) (by simp) (by simp)
  · exact .any _
  · cases h

theorem atomsB_rep : ∀ {l : List AV} {m : List Value}, atomsB l m = true → RepL E n w l m ∧ ∀ v ∈ m, v.oneCell' = true
  | [], [], _ => ⟨⟨rfl, by simp⟩, by simp⟩
  | [], _ :: _, h => by simp [atomsB] at h
  | _ :: _, [], h => by simp [atomsB] at h
  | x :: l, v :: m, h => by
    simp only [atomsB, Bool.and_eq_true] at h
    obtain ⟨hr, ho⟩ := atomsB_rep h.2
    refine ⟨⟨by simp [hr.len], fun j y u hy hu => ?_⟩, ?_⟩
    · cases j with
      | zero => simp at hy hu; subst hy hu; exact atomB_rep h.1.1
      | succ j => exact hr.at_ j y u (by simpa using hy) (by simpa using hu)
    · intro u hu
      rcases List.mem_cons.1 hu with rfl | hu
      · exact h.1.2
      · exact ho u hu

theorem constB_rep {x : AV} {v : Value} (h : constB x v = true) : Rep E n w x v := by
  unfold constB at h
  split at h
  · obtain ⟨hr, _⟩ := atomsB_rep (E := E) (n := n) (w := w) h
    exact .agg (by simpa using hr.len) fun j x v hx hv => hr.at_ j x v hx (by simpa using hv)
  · exact atomB_rep h

theorem slot_rep {fr : List AV} {a : Act} (F : RepL E n w fr a.tmps.toList) (k : Nat) : Rep E n w (slot fr k) (a.tmps.getD k undef) := by
  unfold slot
  rcases Nat.lt_or_ge k fr.length with h | h
  · have h' : k < a.tmps.size := by have := F.len; simp at this; omega
    refine F.at_ k _ _ (by simp [List.getD, h]) ?_
    simp [Array.getD, h']
  · rw [show fr.getD k AV.any = .any by simp [List.getD, h]]
    exact .any _

theorem ev_rep {fr : List AV} {a : Act} (G : GlobOk E w) (F : RepL E n w fr a.tmps.toList) {x : Opd} {y : Operand} (h : opdB x y = true) : Rep E n w (ev fr x) (a.eval y) := by
  unfold opdB at h
  split at h
  · rename_i i j
    obtain rfl : i = j := by simpa using h
    exact slot_rep F _
  · exact constB_rep h
  · rename_i i j
    obtain rfl : rl i = j := by simpa using h
    exact .fn (f := .func i) (va := #[]) (vb := #[]) rfl (by simp) rfl (by simp)
  · rename_i i j
    simp only [Bool.and_eq_true, beq_iff_eq] at h
    obtain ⟨rfl, h2⟩ := h
    obtain ⟨cs, hcs⟩ := Option.isSome_iff_exists.1 h2
    simp only [ev, hcs]
    exact G.at_ hcs n
  · cases h

theorem evs_rep {fr : List AV} {a : Act} (G : GlobOk E w) (F : RepL E n w fr a.tmps.toList) : ∀ {l : List Opd} {m : List Operand}, opdsB l m = true → RepL E n w (evs fr l) (m.map a.eval)
  | [], [], _ => ⟨rfl, by simp [evs]⟩
  | [], _ :: _, h => by simp [opdsB] at h
  | _ :: _, [], h => by simp [opdsB] at h
  | x :: l, y :: m, h => by
    simp only [opdsB, Bool.and_eq_true] at h
    have hr := evs_rep G F h.2
    refine ⟨by simp [evs, hr.len], fun j z u hz hu => ?_⟩
    cases j with
    | zero => simp [evs] at hz hu; subst hz hu; exact ev_rep G F h.1
    | succ j => exact hr.at_ j z u (by simpa [evs] using hz) (by simpa using hu)

theorem can1_rep {x : AV} {v : Value} (h : Rep E n w x v) : Rep E n w (can1 x) v := by
  unfold can1
  split
  · cases h with
    | fsl b o c hl hcp hs ha hc h => exact .sl b o c hl (by omega) hs ha hc h
  · exact h

theorem canL_length (l : List AV) : (canL l).length = l.length := by
  induction l with
  | nil => rfl
  | cons x l ih => simp [canL, ih]
theorem canL_get {l : List AV} {j : Nat} {x : AV} (h : (canL l)[j]? = some x) : ∃ y, l[j]? = some y ∧ x = can1 y := by
  induction l generalizing j with
  | nil => simp [canL] at h
  | cons z l ih =>
    cases j with
    | zero => simp [canL] at h; exact ⟨z, rfl, h.symm⟩
    | succ j => simpa using ih (by simpa [canL] using h)
theorem canL_rep {l : List AV} {m : List Value} (h : RepL E n w l m) : RepL E n w (canL l) m :=
  ⟨(canL_length l).trans h.len, fun j x v hx hv => by obtain ⟨y, hy, rfl⟩ := canL_get hx; exact can1_rep (h.at_ j y v hy hv)⟩
theorem canA_rep {x : AV} {v : Value} (h : Rep E n w x v) : Rep E n w (canA x) v := by
  unfold canA
  split
  · cases h with
    | agg hl h => exact .agg ((canL_length _).trans hl) fun j x v hx hv => by obtain ⟨y, hy, rfl⟩ := canL_get hx; exact can1_rep (h j y v hy hv)
  · exact h
theorem canAL_rep {l : List AV} {m : List Value} (h : RepL E n w l m) : RepL E n w (canAL l) m := by
  have key : ∀ (l : List AV), (canAL l).length = l.length ∧ ∀ (j : Nat) x, (canAL l)[j]? = some x → ∃ y, l[j]? = some y ∧ x = canA y := by
    intro l
    induction l with
    | nil => exact ⟨rfl, fun j x h => by simp [canAL] at h⟩
    | cons z l ih =>
      refine ⟨by simp [canAL, ih.1], fun j x h => ?_⟩
      cases j with
      | zero => simp [canAL] at h; exact ⟨z, rfl, h.symm⟩
      | succ j => simpa using ih.2 j x (by simpa [canAL] using h)
  exact ⟨(key l).1.trans h.len, fun j x v hx hv => by obtain ⟨y, hy, rfl⟩ := (key l).2 j x hx; exact canA_rep (h.at_ j y v hy hv)⟩

/-! the cells of a value -/

theorem cells_rep {x : AV} {v : Value} (h : Rep E n w x v) (hx : x.cells.all AV.one = true) : RepL E n w x.cells v.cells.toList ∧ (∀ u ∈ v.cells.toList, u.oneCell' = true) := by
  have one : ∀ (x : AV) (v : Value), Rep E n w x v → x.one = true → v.oneCell' = true := by
    intro x v h ho
    cases h <;> first | rfl | simp [AV.one] at ho
  have single : ∀ (x : AV) (v : Value), Rep E n w x v → x.one = true → x.cells = [x] ∧ v.cells = #[v] := by
    intro x v h ho
    cases h <;> first | exact ⟨rfl, rfl⟩ | simp [AV.one] at ho
  cases h with
  | agg hl h =>
    rename_i cs vs
    simp only [AV.cells, Value.cells] at *
    refine ⟨⟨by simpa using hl, fun j x v hx hv => h j x v hx (by simpa using hv)⟩, fun u hu => ?_⟩
    obtain ⟨j, hj, rfl⟩ := List.mem_iff_getElem.1 hu
    have hj' : j < cs.length := by simp at hj; omega
    refine one cs[j] _ (h j _ _ (by simp [hj']) (by simp [show j < vs.size by simpa using hj])) ?_
    exact List.all_eq_true.1 hx _ (List.getElem_mem hj')
  | any v => simp [AV.cells, AV.one] at hx
  | tup hl h => simp [AV.cells, AV.one] at hx
  | _ =>
    refine ⟨⟨rfl, fun j x v hx hv => ?_⟩, ?_⟩
    · cases j with
      | zero => simp [AV.cells, Value.cells] at hx hv; subst hx hv; first | exact .bool _ | exact .int _ _ | exact .str _ | exact .nilf | exact .nilp | (constructor <;> assumption)
      | succ j => simp [AV.cells] at hx
    · simp [Value.cells, Value.oneCell']

theorem cells_len {x : AV} {v : Value} (h : Rep E n w x v) (hx : x ≠ .any) : v.cells.size = x.cells.length := by
  cases h <;> first | rfl | exact absurd rfl hx | (simp only [AV.cells, Value.cells]; omega)

/-! sizes and shapes -/

theorem sizeB_get {t sz : Nat} (h : sizeB P t sz = true) : ∃ i, P.info? t = some i ∧ i.size = sz := by
  unfold sizeB at h
  cases hi : P.info? t with
  | none => simp [hi] at h
  | some i => exact ⟨i, rfl, by simpa [hi] using h⟩

theorem run_sizeOf {t sz : Nat} (h : sizeB P t sz = true) : (Go.sizeOf t).run P w = .ok sz w := by
  obtain ⟨i, hi, hs⟩ := sizeB_get h
  simp [Go.sizeOf, typeInfo, hi, hs]

theorem run_isAgg {t : Nat} {agg : Bool} (h : isAggB P t agg = true) : (isAgg t).run P w = .ok agg w := by
  unfold isAggB at h
  unfold isAgg
  split at h
  · rename_i hu; simp only [Sem.run_bind, run_underlying hu, Result.andThen_ok, Sem.run_pure]; rw [h]
  · rename_i hu; simp only [Sem.run_bind, run_underlying hu, Result.andThen_ok, Sem.run_pure]; rw [h]
  · rename_i d hns hna hu
    have : agg = false := by simpa using h
    subst this
    simp only [Sem.run_bind, run_underlying hu, Result.andThen_ok]
    cases d <;> first | rfl | exact absurd rfl (hns _) | exact absurd rfl (hna _ _)
  · cases h

theorem run_loadAt {t sz : Nat} {agg : Bool} (hs : sizeB P t sz = true) (ha : isAggB P t agg = true) (h1 : agg = true ∨ sz = 1) (b o : Nat) (f : Nat → Value)
    (h : ∀ j, j < sz → w.cell? ⟨b, o + j, none⟩ = some (f j)) :
    (Instr.loadAt t (.pointer (some ⟨b, o, none⟩))).run P w = .ok (if agg = true then .agg ((List.range sz).map f).toArray else f 0) w := by
  have hc := run_loadCells (P := P) w ⟨b, o, none⟩ sz f (fun j hj => by rw [Addr.add_lit]; exact h j hj)
  simp only [Instr.loadAt, Instr.sureAddr, loadVar, Sem.run_bind, Sem.run_pure, Result.andThen_ok, run_isAgg ha]
  cases agg with
  | true => simp [run_sizeOf hs, hc]
  | false =>
    have h0 : sz = 1 := by simpa using h1
    subst h0
    have := h 0 (by omega)
    simp only [Nat.add_zero] at this
    simp [this]

/-- cells as a value -/
theorem val_rep {agg : Bool} {sz : Nat} {cs : List AV} {x : AV} (hv : val agg cs = some x) (hl : cs.length = sz) (f : Nat → Value)
    (h : ∀ (j : Nat) y, cs[j]? = some y → Rep E n w y (f j)) : Rep E n w x (if agg = true then .agg ((List.range sz).map f).toArray else f 0) := by
  unfold val at hv
  cases agg with
  | true =>
    obtain rfl := Option.some.inj hv
    refine .agg (by simp [hl]) fun j y v hy hv => ?_
    have hj := lt_of_get hy
    have : v = f j := by
      simp [show j < sz by omega] at hv
      exact hv.symm
    rw [this]; exact h j y hy
  | false =>
    simp only [Bool.false_eq_true, if_false] at hv ⊢
    split at hv
    · obtain rfl := Option.some.inj hv
      exact h 0 _ rfl
    · cases hv

theorem arr_get {r : Nat} {ty sz : Nat} {es : List (List AV)} (h : st.arr? r = some (ty, sz, es)) : st.objs[r]? = some (.arr ty sz es) := by
  unfold St.arr? at h
  split at h
  · rename_i e
    obtain ⟨rfl, rfl, rfl⟩ : _ ∧ _ ∧ _ := by simpa using h
    exact e
  · cases h

/-- where the elements of an array lie -/
theorem arr_cells (S : Sim P T E st w) {r ty sz : Nat} {es : List (List AV)} (h : st.objs[r]? = some (.arr ty sz es)) {i : Nat} {e : List AV} (he : es[i]? = some e) :
    (E.L r).sz = sz ∧ 0 < sz ∧ e.length = sz ∧ (E.L r).cap ≠ 0 ∧ ∃ cur, w.heap[(E.L r).blk]? = some (.cells cur ty (0, 0)) ∧ cur.size = (E.L r).cap * sz ∧ i < (E.L r).cap ∧
      ∀ (j : Nat) x, e[j]? = some x → ∃ v, cur[i * sz + j]? = some v ∧ v.oneCell' = true ∧ Rep E st.objs.length w x v := by
  obtain ⟨h1, h2, h3, h4, h5, h6⟩ := S.obj r _ h
  have hi := lt_of_get he
  have hc : (E.L r).cap ≠ 0 := by omega
  obtain ⟨cur, hcur, hs, hx⟩ := h6.resolve_left hc
  exact ⟨h1, h4, h5 e (List.mem_of_getElem? he), hc, cur, hcur, hs, by omega, fun j x hj => hx i e j x he hj⟩

theorem run_load {agg : Bool} {t sz : Nat} {p x : AV} {pv : Value} (S : Sim P T E st w) (hl : ld st agg sz p = some x) (hp : Rep E st.objs.length w p pv)
    (hs : sizeB P t sz = true) (ha : isAggB P t agg = true) (h1 : agg = true ∨ sz = 1) : ∃ v, (Instr.loadAt t pv).run P w = .ok v w ∧ Rep E st.objs.length w x v := by
  unfold ld at hl
  split at hl
  · rename_i r i off
    split at hl
    · rename_i ty sz' es hr
      split at hl
      · rename_i e he
        split at hl
        · rename_i hoff
          obtain ⟨g1, g2, g3, g4, cur, g5, g6, g7, g8⟩ := arr_cells S (arr_get hr) he
          cases hp with
          | ptr _ _ o hr' ho =>
            have hcell : ∀ j, j < sz → ∃ v, w.cell? ⟨(E.L r).blk, o + j, none⟩ = some v ∧ (∀ x, e[off + j]? = some x → Rep E st.objs.length w x v) := by
              intro j hj
              obtain ⟨v, hv, _, hrp⟩ := g8 (off + j) e[off + j] (by simp [show off + j < e.length by omega])
              refine ⟨v, ?_, fun x hx => ?_⟩
              · have : o + j = i * sz' + (off + j) := by rw [ho, g1]; omega
                simp [World.cell?, g5, this, hv]
              · have : e[off + j]'(by omega) = x := by simpa [show off + j < e.length by omega] using hx
                rw [← this]; exact hrp
            let f : Nat → Value := fun j => if h : j < sz then Classical.choose (hcell j h) else .nilFunc
            have hf : ∀ j (h : j < sz), w.cell? ⟨(E.L r).blk, o + j, none⟩ = some (f j) ∧ (∀ x, e[off + j]? = some x → Rep E st.objs.length w x (f j)) := by
              intro j h
              have := Classical.choose_spec (hcell j h)
              simpa only [f, dif_pos h] using this
            refine ⟨_, run_loadAt hs ha h1 _ _ f fun j hj => (hf j hj).1, ?_⟩
            refine val_rep hl (by simp; omega) f fun j y hy => ?_
            have hj : j < sz := by have := lt_of_get hy; simp at this; omega
            refine (hf j hj).2 y ?_
            simpa [List.getElem?_take, hj] using hy
        · cases hl
      · cases hl
    · cases hl
  · rename_i cs
    split at hl
    · rename_i hlen
      cases hp with
      | vptr b o c hF hc h =>
        refine ⟨_, run_loadAt hs ha h1 b o c fun j hj => (hc j (by omega)).1, ?_⟩
        refine val_rep hl (by simp; omega) c fun j y hy => h j y ?_
        have hj : j < sz := by have := lt_of_get hy; simp at this; omega
        simpa [List.getElem?_take, hj] using hy
    · cases hl
  · cases hl

theorem setMany_length : ∀ (xs : List AV) (cs : List AV) (o : Nat), (setMany cs o xs).length = cs.length
  | [], _, _ => rfl
  | x :: xs, cs, o => by simp [setMany, setMany_length xs]
theorem setMany_get : ∀ (xs : List AV) (cs : List AV) (o j : Nat) (x : AV), (setMany cs o xs)[j]? = some x →
    (o ≤ j ∧ j < o + xs.length ∧ xs[j - o]? = some x) ∨ (¬ (o ≤ j ∧ j < o + xs.length) ∧ cs[j]? = some x)
  | [], cs, o, j, x, h => .inr ⟨by simp, h⟩
  | y :: xs, cs, o, j, x, h => by
    simp only [setMany] at h
    rcases setMany_get xs _ _ _ _ h with ⟨h1, h2, h3⟩ | ⟨h1, h2⟩
    · exact .inl ⟨by omega, by simp; omega, by rw [show j - o = (j - (o + 1)) + 1 by omega]; simpa using h3⟩
    · rw [List.getElem?_set] at h2
      by_cases e : o = j
      · subst e
        simp only [if_true] at h2
        split at h2
        · obtain rfl := Option.some.inj h2
          exact .inl ⟨Nat.le_refl _, by simp, by simp⟩
        · cases h2
      · rw [if_neg e] at h2
        refine .inr ⟨?_, h2⟩
        simp only [List.length_cons]
        omega

theorem run_storeAt {t sz : Nat} (hs : sizeB P t sz = true) {g o ty : Nat} {cur : Array Value} {v : Value} (hg : w.heap[g]? = some (.cells cur ty (0, 0))) (hv : v.cells.size = sz)
    (hfit : o + sz ≤ cur.size) (h1 : ∀ u ∈ v.cells.toList, u.oneCell' = true) :
    (Instr.storeAt t (.pointer (some ⟨g, o, none⟩)) v).run P w = .ok () (w.setRow g (cur.toList.take o ++ v.cells.toList ++ cur.toList.drop (o + sz)).toArray) := by
  have := run_storeCells_at P g o ty v.cells.toList 0 cur w hg (by simp; omega) h1
  simp only [Nat.add_zero, Array.length_toList, hv] at this
  simp [Instr.storeAt, Instr.sureAddr, storeVar, run_sizeOf hs, hv, this]

theorem run_store {t sz : Nat} {p x : AV} {pv xv : Value} (S : Sim P T E st w) (hl : sto st sz p x = some st') (hp : Rep E st.objs.length w p pv) (hx : Rep E st.objs.length w x xv)
    (hs : sizeB P t sz = true) : ∃ w', (Instr.storeAt t pv xv).run P w = .ok () w' ∧ Sim P T E st' w' ∧ Ext E st.objs.length w E st'.objs.length w' := by
  unfold sto at hl
  split at hl
  · rename_i r i off
    split at hl
    · rename_i ty s es hr
      split at hl
      · rename_i e he
        split at hl
        · rename_i hc
          obtain ⟨c1, c2, c3, c4⟩ := hc
          obtain rfl := Option.some.inj hl
          have hobj := arr_get hr
          obtain ⟨g1, g2, g3, g4, cur, g5, g6, g7, g8⟩ := arr_cells S hobj he
          obtain ⟨q1, q2, q3, q4, q5, q6⟩ := S.obj r _ hobj
          obtain ⟨cur', k1, k2, k3⟩ := q6.resolve_left g4
          obtain rfl : cur' = cur := by rw [g5] at k1; cases k1; rfl
          obtain ⟨hcr, hone⟩ := cells_rep hx c3
          have hcl : xv.cells.size = sz := by have := hcr.len; simp at this; omega
          cases hp with
          | ptr _ _ o hr' ho =>
            have hmul : i * s + s ≤ (E.L r).cap * s := by
              have : (i + 1) * s ≤ (E.L r).cap * s := Nat.mul_le_mul_right _ (by omega)
              rwa [Nat.add_mul, Nat.one_mul] at this
            have hfit : o + sz ≤ cur'.size := by rw [ho, g1, g6]; omega
            have hrun := run_storeAt (P := P) (w := w) hs g5 hcl hfit hone
            have hget : ∀ k, (cur'.toList.take o ++ xv.cells.toList ++ cur'.toList.drop (o + sz)).toArray[k]? =
                if o ≤ k ∧ k < o + sz then xv.cells[k - o]? else cur'[k]? := by
              intro k
              simp only [List.getElem?_toArray, List.getElem?_append, List.length_append, List.length_take, Array.length_toList, List.getElem?_take, List.getElem?_drop, Array.getElem?_toList]
              have : min o cur'.size = o := by omega
              simp only [this, hcl]
              by_cases h1 : k < o
              · simp [h1, show k < o + sz by omega, show ¬ o ≤ k by omega]
              · by_cases h2 : k < o + sz
                · simp [h1, h2, show o ≤ k by omega]
                · rw [if_neg h2, if_neg (by omega)]
                  have e : o + sz + (k - (o + sz)) = k := by omega
                  rw [e]
            have hlen : (st.set r (.arr ty s (es.set i (setMany e off x.cells)))).objs.length = st.objs.length := by simp [St.set]
            refine ⟨_, hrun, S.set r (.arr ty s es) _ hobj g4 (by simp) (fun b hb => setRow_other _ _ _ _ hb) (.inl g4) ⟨q1, by simpa using q2, q3, q4, ?_, .inr ⟨_, setRow_heap _ _ _ _ _ _ g5, ?_, ?_⟩⟩, ?_⟩
            · intro e' he'
              rcases List.mem_or_eq_of_mem_set he' with h' | rfl
              · exact q5 e' h'
              · rw [setMany_length]; exact g3
            · have : (cur'.toList.take o ++ xv.cells.toList ++ cur'.toList.drop (o + sz)).toArray.size = cur'.size := by
                simp only [List.size_toArray, List.length_append, List.length_take, List.length_drop, Array.length_toList, hcl]
                omega
              rw [this, g6]
            · intro i' e' j y he' hy
              have m : Mono E st.objs.length w E st.objs.length (w.setRow (E.L r).blk (cur'.toList.take o ++ xv.cells.toList ++ cur'.toList.drop (o + sz)).toArray) :=
                (Ext.set S hobj g4 (by simp) (fun b hb => setRow_other _ _ _ _ hb) rfl rfl rfl).toMono
              rw [List.getElem?_set] at he'
              by_cases hi : i = i'
              · subst hi
                simp only [if_true] at he'
                have he'' : setMany e off x.cells = e' := by
                  split at he'
                  · exact Option.some.inj he'
                  · cases he'
                subst he''
                have hjl : j < s := by have := lt_of_get hy; rw [setMany_length] at this; omega
                rcases setMany_get _ _ _ _ _ hy with ⟨a1, a2, a3⟩ | ⟨a1, a2⟩
                · have hj : i * s + j - o = j - off := by rw [ho, g1]; omega
                  have hjs : j - off < xv.cells.size := by omega
                  refine ⟨xv.cells[j - off], ?_, hone _ (by simp), (hcr.at_ (j - off) y _ a3 (by simp [hjs])).mono m⟩
                  rw [hget, if_pos (by rw [ho, g1]; omega), hj]
                  simp [hjs]
                · obtain ⟨v, hv, ho1, hrp⟩ := g8 j y a2
                  refine ⟨v, ?_, ho1, hrp.mono m⟩
                  rw [hget, if_neg (by rw [ho, g1]; omega)]
                  exact hv
              · rw [if_neg hi] at he'
                obtain ⟨v, hv, ho1, hrp⟩ := k3 i' e' j y he' hy
                have hjl : j < s := by have := lt_of_get hy; rw [q5 e' (List.mem_of_getElem? he')] at this; exact this
                refine ⟨v, ?_, ho1, hrp.mono m⟩
                rw [hget, if_neg ?_]
                · exact hv
                · rw [ho, g1]
                  rcases Nat.lt_or_gt_of_ne hi with h' | h'
                  · have : (i + 1) * s ≤ i' * s := Nat.mul_le_mul_right _ (by omega)
                    rw [Nat.add_mul, Nat.one_mul] at this
                    omega
                  · have : (i' + 1) * s ≤ i * s := Nat.mul_le_mul_right _ (by omega)
                    rw [Nat.add_mul, Nat.one_mul] at this
                    omega
            · rw [hlen]
              exact Ext.set S hobj g4 (by simp) (fun b hb => setRow_other _ _ _ _ hb) rfl rfl rfl
        · cases hl
      · cases hl
    · cases hl
  · cases hl

end
end Go.Proofs.Ytgabnhmjlhhojaa.A

/- Append. -/
namespace Go.Proofs.Ytgabnhmjlhhojaa.A
open Go

section
variable {P : Program} {T : Tab} {E E' : Env} {st st' : St} {w w' : World} {n : Nat}

theorem mul_split {k m sz : Nat} (hs : 0 < sz) (h : k < m * sz) : k / sz < m ∧ k % sz < sz ∧ k = (k / sz) * sz + k % sz := by
  refine ⟨Nat.div_lt_of_lt_mul (by rwa [Nat.mul_comm]), Nat.mod_lt _ hs, ?_⟩
  rw [Nat.mul_comm]; exact (Nat.div_add_mod k sz).symm

theorem idx_lt {i j m sz : Nat} (hi : i < m) (hj : j < sz) : i * sz + j < m * sz := by
  have : (i + 1) * sz ≤ m * sz := Nat.mul_le_mul_right _ hi
  rw [Nat.add_mul, Nat.one_mul] at this
  omega

/-- elements that lie somewhere -/
structure Lie (E : Env) (n : Nat) (w : World) (sz : Nat) (xs : List (List AV)) (b o : Nat) (news : List Value) : Prop where
  len : news.length = xs.length * sz
  each : ∀ e ∈ xs, e.length = sz
  cell : ∀ (j : Nat) u, news[j]? = some u → w.cell? ⟨b, o + j, none⟩ = some u
  one : ∀ u ∈ news, u.oneCell' = true
  rep : ∀ (i : Nat) e (j : Nat) x, xs[i]? = some e → e[j]? = some x → ∃ u, news[i * sz + j]? = some u ∧ Rep E n w x u

theorem Lie.of {sz : Nat} {xs : List (List AV)} {b o : Nat} (hs : 0 < sz) (he : ∀ e ∈ xs, e.length = sz)
    (h : ∀ (i : Nat) e (j : Nat) x, xs[i]? = some e → e[j]? = some x → ∃ u, w.cell? ⟨b, o + i * sz + j, none⟩ = some u ∧ u.oneCell' = true ∧ Rep E n w x u) : ∃ news, Lie E n w sz xs b o news := by
  have key : ∀ k, k < xs.length * sz → ∃ u, w.cell? ⟨b, o + k, none⟩ = some u ∧ u.oneCell' = true ∧ ∀ x, (∃ e, xs[k / sz]? = some e ∧ e[k % sz]? = some x) → Rep E n w x u := by
    intro k hk
    obtain ⟨h1, h2, h3⟩ := mul_split hs hk
    have hel : xs[k / sz].length = sz := he _ (List.getElem_mem h1)
    obtain ⟨u, a1, a2, a3⟩ := h (k / sz) xs[k / sz] (k % sz) (xs[k / sz]'h1)[k % sz] (by simp [h1]) (by simp [show k % sz < xs[k / sz].length by omega])
    refine ⟨u, ?_, a2, ?_⟩
    · have : o + k / sz * sz + k % sz = o + k := by omega
      rw [← this]; exact a1
    · rintro x ⟨e, e1, e2⟩
      have : xs[k / sz] = e := by simpa [h1] using e1
      subst this
      have : xs[k / sz][k % sz]'(by omega) = x := by simpa [show k % sz < xs[k / sz].length by omega] using e2
      rw [← this]; exact a3
  let f : Nat → Value := fun k => if h : k < xs.length * sz then Classical.choose (key k h) else .nilFunc
  have hf : ∀ k (h : k < xs.length * sz), w.cell? ⟨b, o + k, none⟩ = some (f k) ∧ (f k).oneCell' = true ∧ ∀ x, (∃ e, xs[k / sz]? = some e ∧ e[k % sz]? = some x) → Rep E n w x (f k) := by
    intro k h
    have := Classical.choose_spec (key k h)
    simpa only [f, dif_pos h] using this
  refine ⟨(List.range (xs.length * sz)).map f, ⟨by simp, he, fun j u hu => ?_, fun u hu => ?_, fun i e j x h1 h2 => ?_⟩⟩
  · have hj := lt_of_get hu
    simp at hj
    have : u = f j := by simp [hj] at hu; exact hu.symm
    rw [this]; exact (hf j hj).1
  · obtain ⟨k, hk, rfl⟩ := List.mem_map.1 hu
    exact (hf k (by simpa using hk)).2.1
  · have hi := lt_of_get h1
    have hj : j < sz := by have := lt_of_get h2; rw [he e (List.mem_of_getElem? h1)] at this; exact this
    have hk := idx_lt hi hj
    refine ⟨f (i * sz + j), by simp [hk], (hf _ hk).2.2 x ⟨e, ?_, ?_⟩⟩
    · rw [Nat.mul_comm, Nat.mul_add_div hs, Nat.div_eq_of_lt hj]; simpa using h1
    · rw [Nat.mul_comm, Nat.mul_add_mod, Nat.mod_eq_of_lt hj]; exact h2

theorem Lie.nil (sz b o : Nat) : Lie E n w sz [] b o [] := ⟨by simp, by simp, by simp, by simp, by simp⟩

/-- where a slice's elements lie -/
theorem elems_lie (S : Sim P T E st w) {x : AV} {xv : Value} (hx : Rep E st.objs.length w x xv) {sx : Nat} {xs : List (List AV)} (he : elems st x = some (sx, xs)) {sz : Nat} (hsz : 0 < sz)
    (hs : sx = sz ∨ xs = []) : ∃ ax cx b o news, xv = .slice ax xs.length cx ∧ xs.length ≤ cx ∧ (xs = [] ∨ ax = some ⟨b, o, none⟩) ∧ Lie E st.objs.length w sz xs b o news := by
  have gen : ∀ (b o : Nat) (c : Nat → Nat → Value) (ax : Option Addr) (cx : Nat), xv = .slice ax xs.length cx → xs.length ≤ cx → (∀ e ∈ xs, e.length = sx) → (xs = [] ∨ (ax = some ⟨b, o, none⟩ ∧ E.F b)) →
      (∀ i j, i < xs.length → j < sx → w.cell? ⟨b, o + i * sx + j, none⟩ = some (c i j) ∧ (c i j).oneCell' = true) →
      (∀ i e j x, xs[i]? = some e → e[j]? = some x → Rep E st.objs.length w x (c i j)) →
      ∃ ax cx b o news, xv = .slice ax xs.length cx ∧ xs.length ≤ cx ∧ (xs = [] ∨ ax = some ⟨b, o, none⟩) ∧ Lie E st.objs.length w sz xs b o news := by
    intro b o c ax cx hv hcx hes ha hc hr
    by_cases hn : xs = []
    · subst hn
      exact ⟨ax, cx, b, o, [], hv, hcx, .inl rfl, Lie.nil _ _ _⟩
    · obtain rfl := hs.resolve_right hn
      obtain ⟨news, hl⟩ := Lie.of (E := E) (n := st.objs.length) (w := w) (b := b) (o := o) hsz hes fun i e j x h1 h2 =>
        have hi := lt_of_get h1
        have hj : j < sx := by have := lt_of_get h2; rw [hes e (List.mem_of_getElem? h1)] at this; exact this
        ⟨c i j, (hc i j hi hj).1, (hc i j hi hj).2, hr i e j x h1 h2⟩
      exact ⟨ax, cx, b, o, news, hv, hcx, ha.imp id (·.1), hl⟩
  unfold elems at he
  split at he
  · obtain ⟨rfl, rfl⟩ : _ ∧ _ := by simpa using he
    cases hx with
    | sl b o c hl hcp hs' ha hc h => subst hl; exact gen b o c _ _ rfl hcp hs' ha hc h
  · obtain ⟨rfl, rfl⟩ : _ ∧ _ := by simpa using he
    cases hx with
    | fsl b o c hl hcp hs' ha hc h => subst hl; exact gen b o c _ _ rfl (by omega) hs' ha hc h
  · obtain ⟨rfl, rfl⟩ : _ ∧ _ := by simpa using he
    cases hx with
    | nils cp => exact ⟨none, cp, 0, 0, [], rfl, by simp, .inl rfl, Lie.nil _ _ _⟩
  · obtain ⟨rfl, rfl⟩ : _ ∧ _ := by simpa using he
    cases hx with
    | emps a cp => exact ⟨some a, cp, 0, 0, [], rfl, by simp, .inl rfl, Lie.nil _ _ _⟩
  · rename_i r lo m full
    split at he
    · rename_i ty s es hr
      split at he
      · rename_i hle
        obtain ⟨rfl, rfl⟩ : _ ∧ _ := by simpa using he
        cases hx with
        | own hr' hm h1 h2 ha =>
          rename_i cp a
          have hlen : ((es.drop lo).take m).length = m := by simp; omega
          obtain ⟨q1, q2, q3, q4, q5, q6⟩ := S.obj r _ (arr_get hr)
          by_cases hm0 : m = 0
          · subst hm0
            exact ⟨a, cp, 0, 0, [], by simp, by simp, .inl (by simp), by simpa using Lie.nil (E := E) (n := st.objs.length) (w := w) sz 0 0⟩
          · have hne : (es.drop lo).take m ≠ [] := by intro h0; rw [h0] at hlen; simp at hlen; omega
            obtain rfl := hs.resolve_right hne
            have hcap : (E.L r).cap ≠ 0 := by omega
            obtain ⟨cur, k1, k2, k3⟩ := q6.resolve_left hcap
            have hcp : cp ≠ 0 := by omega
            obtain ⟨news, hl⟩ := Lie.of (E := E) (n := st.objs.length) (w := w) (b := (E.L r).blk) (o := lo * s) (xs := (es.drop lo).take m) hsz
              (fun e he' => q5 e (List.mem_of_mem_drop (List.mem_of_mem_take he'))) fun i e j x h1 h2 => by
                have hi := lt_of_get h1
                have he' : es[lo + i]? = some e := by
                  rw [List.getElem?_take] at h1
                  split at h1
                  · simpa using h1
                  · cases h1
                obtain ⟨v, hv, ho1, hrp⟩ := k3 (lo + i) e j x he' h2
                refine ⟨v, ?_, ho1, hrp⟩
                have : lo * s + i * s + j = (lo + i) * s + j := by rw [Nat.add_mul]
                simp [World.cell?, k1, this, hv]
            refine ⟨a, cp, (E.L r).blk, lo * s, news, by rw [hlen], by rw [hlen]; exact hm, .inr ?_, hl⟩
            rw [q1] at ha
            exact ha.resolve_left hcp
      · cases he
    · cases he
  · cases he

/-- the type facts of an append -/
structure AppT (P : Program) (t e sz bytes : Nat) : Prop where
  und : P.underlying t = some (.slice e)
  pos : 0 < sz
  info : ∃ i z, P.info? e = some i ∧ i.size = sz ∧ i.bytes = bytes ∧ i.zero = some z ∧ z.cells.size = sz

theorem room_le {n bytes : Nat} (h : room n bytes = true) : n * bytes ≤ 140737488355328 ∧ n ≤ 4611686018427387904 := by
  simpa [room, Bool.and_eq_true, decide_eq_true_eq] using h

theorem new_arr {E : Env} {st : St} {w : World} (S : Sim P T E st w) {ty sz cap : Nat} {zs : List (List AV)} (hsz : 0 < sz) (cur : Array Value) (hc : cur.size = cap * sz) (hle : zs.length ≤ cap) (hmax : cap ≤ maxLen)
    (he : ∀ e ∈ zs, e.length = sz) (hr : ∀ (i : Nat) e (j : Nat) x, zs[i]? = some e → e[j]? = some x → ∃ v, cur[i * sz + j]? = some v ∧ v.oneCell' = true ∧ Rep E st.objs.length w x v) :
    Sim P T (updL E st.objs.length ⟨w.heap.size, cap, sz⟩) (st.push (.arr ty sz zs)) (w.drew.alloc (.cells cur ty)) ∧
      Ext E st.objs.length w (updL E st.objs.length ⟨w.heap.size, cap, sz⟩) (st.objs.length + 1) (w.drew.alloc (.cells cur ty)) := by
  have hb : ∀ b, b < w.heap.size → (w.drew.alloc (.cells cur ty)).heap[b]? = w.heap[b]? := fun b hb => heap_alloc_old w.drew _ b hb
  have hx := Ext.push (w' := w.drew.alloc (.cells cur ty)) ⟨w.heap.size, cap, sz⟩ S (by simp) hb rfl rfl rfl
  refine ⟨S.push _ _ (by simp) hb (fun _ => Nat.le_refl _) ⟨rfl, hle, hmax, hsz, he, .inr ⟨cur, heap_alloc_new w.drew _, hc, fun i e j x h1 h2 => ?_⟩⟩, hx⟩
  obtain ⟨v, a1, a2, a3⟩ := hr i e j x h1 h2
  exact ⟨v, a1, a2, a3.mono hx.toMono⟩

theorem lie_app {sz : Nat} {es xs : List (List AV)} {b o b' o' : Nat} {olds news : List Value} (h1 : Lie E n w sz es b o olds) (h2 : Lie E n w sz xs b' o' news) {rest : List Value} :
    ∀ (i : Nat) e (j : Nat) x, (es ++ xs)[i]? = some e → e[j]? = some x → ∃ v, (olds ++ news ++ rest)[i * sz + j]? = some v ∧ v.oneCell' = true ∧ Rep E n w x v := by
  intro i e j x he hx
  rw [List.append_assoc]
  rcases Nat.lt_or_ge i es.length with hi | hi
  · rw [List.getElem?_append_left hi] at he
    obtain ⟨u, hu, hr⟩ := h1.rep i e j x he hx
    exact ⟨u, by rw [List.getElem?_append_left (lt_of_get hu)]; exact hu, h1.one u (List.mem_of_getElem? hu), hr⟩
  · rw [List.getElem?_append_right hi] at he
    obtain ⟨u, hu, hr⟩ := h2.rep _ e j x he hx
    refine ⟨u, ?_, h2.one u (List.mem_of_getElem? hu), hr⟩
    have hk : i * sz = olds.length + (i - es.length) * sz := by rw [h1.len, ← Nat.add_mul]; congr 1; omega
    rw [hk, Nat.add_assoc, List.getElem?_append_right (by omega)]
    have : olds.length + ((i - es.length) * sz + j) - olds.length = (i - es.length) * sz + j := by omega
    rw [this, List.getElem?_append_left (lt_of_get hu)]
    exact hu

/-- append where a new array is made -/
theorem append_grow {E : Env} {st0 st : St} {w : World} (S : Sim P T E st w) (hst : st0.objs.length = st.objs.length) {t t0 e sz bytes : Nat} (A : AppT P t e sz bytes) {es xs : List (List AV)} {b o b' o' cap cx : Nat} {olds news : List Value} {base ax : Option Addr}
    (h1 : Lie E st.objs.length w sz es b o olds) (h2 : Lie E st.objs.length w sz xs b' o' news) (hb : es = [] ∨ base = some ⟨b, o, none⟩) (hnil : base = none → cap = 0) (ha : ax = some ⟨b', o', none⟩)
    (hg : cap < es.length + xs.length) (hroom : room (es.length + xs.length) bytes = true) (hle : es.length ≤ cap) :
    ∃ v w' E', (Builtin.append_ #[t, t] t0 #[.slice base es.length cap, .slice ax xs.length cx]).run P w = .ok v w' ∧
      Rep E' (st.objs.length + 1) w' (.own st0.objs.length 0 (es.length + xs.length) false) v ∧ Sim P T E' (st.push (.arr e sz (es ++ xs))) w' ∧ Ext E st.objs.length w E' (st.objs.length + 1) w' := by
  obtain ⟨r1, r2⟩ := room_le hroom
  obtain ⟨i, z, hi, rfl, rfl, hz, hzs⟩ := A.info
  have h63 : es.length + xs.length ≤ maxLen := by simp only [maxLen]; omega
  have hge := grownCap_ge w (es.length + xs.length) cap e
  have hcm := grownCap_le_maxLen w (es.length + xs.length) cap e h63
  have hlz : (Builtin.zeroCells z.cells (grownCap w (es.length + xs.length) cap e - (es.length + xs.length))).toList.length = (grownCap w (es.length + xs.length) cap e - (es.length + xs.length)) * i.size := by
    rw [Array.length_toList, size_zeroCells, hzs]
  have fin : ∀ (c : Nat) (hc : c = grownCap w (es.length + xs.length) cap e) (cur : Array Value), cur.toList = olds ++ news ++ (Builtin.zeroCells z.cells (c - (es.length + xs.length))).toList →
      Rep (updL E st.objs.length ⟨w.heap.size, c, i.size⟩) (st.objs.length + 1) (w.drew.alloc (.cells cur e)) (.own st0.objs.length 0 (es.length + xs.length) false) (.slice (some ⟨w.heap.size, 0, none⟩) (es.length + xs.length) c) ∧
      Sim P T (updL E st.objs.length ⟨w.heap.size, c, i.size⟩) (st.push (.arr e i.size (es ++ xs))) (w.drew.alloc (.cells cur e)) ∧ Ext E st.objs.length w (updL E st.objs.length ⟨w.heap.size, c, i.size⟩) (st.objs.length + 1) (w.drew.alloc (.cells cur e)) := by
    rintro c rfl cur hcur
    have hsize : cur.size = grownCap w (es.length + xs.length) cap e * i.size := by
      rw [← Array.length_toList, hcur, List.length_append, List.length_append, h1.len, h2.len, hlz, ← Nat.add_mul, ← Nat.add_mul]
      congr 1; omega
    obtain ⟨g1, g2⟩ := new_arr (ty := e) (zs := es ++ xs) S A.pos cur hsize (by simp; omega) hcm
      (fun e' he' => (List.mem_append.1 he').elim (h1.each e') (h2.each e')) (fun i' e' j x q1 q2 => by
        obtain ⟨v, v1, v2, v3⟩ := lie_app (rest := (Builtin.zeroCells z.cells (grownCap w (es.length + xs.length) cap e - (es.length + xs.length))).toList) h1 h2 i' e' j x q1 q2
        exact ⟨v, by rw [← Array.getElem?_toList, hcur]; exact v1, v2, v3⟩)
    refine ⟨?_, g1, g2⟩
    rw [hst]
    refine .own (by omega) hge (by simp) (by simp [updL_eq]) (.inr ?_)
    simp [updL_eq]
  subst ha
  rcases base with _ | ba
  · have hc0 := hnil rfl
    have he0 : es = [] := List.eq_nil_of_length_eq_zero (by omega)
    subst hc0 he0
    have ho : olds = [] := List.eq_nil_of_length_eq_zero (by simpa using h1.len)
    subst ho
    have hr := run_append_nil (P := P) w t t0 e i z A.und hi hz ⟨b', o', none⟩ xs.length cx news h2.len (fun j v hv => by rw [Addr.add_lit]; exact h2.cell j v hv) (by simpa using hg) (by simp at r2; omega) (by simp at r1; omega)
    obtain ⟨f1, f2, f3⟩ := fin (grownCap w xs.length 0 e) (by simp) (news.toArray ++ Builtin.zeroCells z.cells (grownCap w xs.length 0 e - xs.length)) (by simp)
    refine ⟨_, _, _, by simpa using hr, by simpa using f1, f2, f3⟩
  · have hr := run_append_grow (P := P) w t t0 e i z A.und hi hz ba es.length cap olds h1.len (fun j v hv => by
        rcases hb with rfl | hb
        · have : olds = [] := List.eq_nil_of_length_eq_zero (by simpa using h1.len)
          subst this; simp at hv
        · cases hb; rw [Addr.add_lit]; exact h1.cell j v hv) ⟨b', o', none⟩ xs.length cx news h2.len (fun j v hv => by rw [Addr.add_lit]; exact h2.cell j v hv) hg (by omega)
        (growslice_fits hg r1)
    obtain ⟨f1, f2, f3⟩ := fin _ rfl (olds.toArray ++ news.toArray ++ Builtin.zeroCells z.cells (grownCap w (es.length + xs.length) cap e - (es.length + xs.length))) (by simp)
    exact ⟨_, _, _, hr, f1, f2, f3⟩

theorem run_append_none {t t0 e sz bytes : Nat} (A : AppT P t e sz bytes) {base ax : Option Addr} {n cap cx : Nat} (hle : n ≤ cap) :
    (Builtin.append_ #[t, t] t0 #[.slice base n cap, .slice ax 0 cx]).run P w = .ok (.slice base n cap) w := by
  obtain ⟨i, z, hi, rfl, rfl, hz, hzs⟩ := A.info
  have hf : (Builtin.firstCells i.size 0 (.slice ax 0 cx)).run P w = .ok #[] w := by
    cases ax <;> simp [Builtin.firstCells, loadCells, loadCellsFrom]
  cases base <;> simp [Builtin.append_, run_underlying A.und, Go.sizeOf, typeInfo, hi, Builtin.lenOf, hle, hf, storeCells]

end
end Go.Proofs.Ytgabnhmjlhhojaa.A

/- Append, all cases; then every operation but calls. -/
namespace Go.Proofs.Ytgabnhmjlhhojaa.A
open Go

section
variable {P : Program} {T : Tab} {E E' : Env} {st st' : St} {w w' : World} {n : Nat}

/-- an array without a place in memory -/
theorem new_none (S : Sim P T E st w) {ty sz : Nat} (hsz : 0 < sz) : Sim P T (updL E st.objs.length ⟨0, 0, sz⟩) (st.push (.arr ty sz [])) w ∧ Ext E st.objs.length w (updL E st.objs.length ⟨0, 0, sz⟩) (st.objs.length + 1) w :=
  ⟨S.push _ _ (Nat.le_refl _) (fun _ _ => rfl) (fun h => absurd rfl h) ⟨rfl, by simp, by simp [maxLen], hsz, by simp, .inl rfl⟩, Ext.push _ S (Nat.le_refl _) (fun _ _ => rfl) rfl rfl rfl⟩

theorem app_full {E : Env} {st : St} {w : World} (S : Sim P T E st w) {t t0 e sz bytes : Nat} (A : AppT P t e sz bytes) {ss : Nat} {es xs : List (List AV)} {sv : Value} (hs : Rep E st.objs.length w (.fsl ss es) sv)
    {ax : Option Addr} {cx b' o' : Nat} {news : List Value} (hax : xs = [] ∨ ax = some ⟨b', o', none⟩) (hlx : Lie E st.objs.length w sz xs b' o' news)
    (hc1 : es = [] ∨ (ss = sz ∧ xs ≠ [])) (hroom : room (es.length + xs.length) bytes = true) :
    ∃ cv w' E', (Builtin.append_ #[t, t] t0 #[sv, .slice ax xs.length cx]).run P w = .ok cv w' ∧ Rep E' (st.objs.length + 1) w' (.own st.objs.length 0 (es.length + xs.length) false) cv ∧
      Sim P T E' (st.push (.arr e sz (es ++ xs))) w' ∧ Ext E st.objs.length w E' (st.objs.length + 1) w' := by
  by_cases hn : xs = []
  · subst hn
    obtain rfl : es = [] := hc1.resolve_right fun h => h.2 rfl
    cases hs with
    | fsl b o c hl hcp hs' ha hc h =>
      rename_i a len cp
      subst hl hcp
      obtain ⟨g1, g2⟩ := new_none (ty := e) S A.pos
      refine ⟨_, _, _, run_append_none A (Nat.le_refl _), ?_, by simpa using g1, g2⟩
      exact .own (by omega) (Nat.le_refl _) (by simp) (by simp [updL_eq]) (.inl rfl)
  · cases hs with
    | fsl b o c hl hcp hs' ha hc h =>
      rename_i a len cp
      subst hl hcp
      have hes : es = [] ∨ ss = sz := hc1.imp id (·.1)
      obtain ⟨ax2, cx2, b2, o2, olds, e2, _, ha2, hlo⟩ := elems_lie S (Rep.fsl b o c rfl rfl hs' ha hc h : Rep E st.objs.length w (.fsl ss es) (.slice a es.length es.length)) (sx := ss) (xs := es) rfl A.pos hes.symm
      cases e2
      exact append_grow (t0 := t0) S rfl A hlo hlx ha2 (fun hnone => by
        rcases ha2 with rfl | ha2
        · rfl
        · rw [hnone] at ha2; cases ha2) (hax.resolve_left hn) (by have := List.length_pos_iff.2 hn; omega) hroom (Nat.le_refl _)

theorem app_own {E : Env} {st : St} {w : World} (S : Sim P T E st w) {t t0 ty s' bytes : Nat} (A : AppT P t ty s' bytes) {r : Nat} {es xs : List (List AV)} {sv : Value} (hs : Rep E st.objs.length w (.own r 0 es.length false) sv)
    {ax : Option Addr} {cx b' o' : Nat} {news : List Value} (hax : xs = [] ∨ ax = some ⟨b', o', none⟩) (hlx : Lie E st.objs.length w s' xs b' o' news)
    (hr : st.arr? r = some (ty, s', es)) (hroom : room (es.length + xs.length) bytes = true) :
    ∃ cv w' E', (Builtin.append_ #[t, t] t0 #[sv, .slice ax xs.length cx]).run P w = .ok cv w' ∧ Rep E' (st.objs.length + 1) w' (.own st.objs.length 0 (es.length + xs.length) false) cv ∧
      Sim P T E' ((st.set r .dead).push (.arr ty s' (es ++ xs))) w' ∧ Ext E st.objs.length w E' (st.objs.length + 1) w' := by
  have hobj := arr_get hr
  obtain ⟨q1, q2, q3, q4, q5, q6⟩ := S.obj r _ hobj
  have hkl : (st.set r .dead).objs.length = st.objs.length := by simp [St.set]
  have hel : elems st (.own r 0 es.length false) = some (s', es) := by simp [elems, hr]
  have hs0 := hs
  cases hs with
  | own hr' hm h1 h2 ha =>
    rename_i cp a
    have h2' : cp = (E.L r).cap := by simpa using h2 rfl
    subst h2'
    obtain ⟨a2, c2, b2, o2, olds, e2, _, hb2, hlo⟩ := elems_lie S hs0 hel A.pos (.inl rfl)
    cases e2
    by_cases hroomin : es.length + xs.length ≤ (E.L r).cap
    · by_cases hcap : (E.L r).cap = 0
      · obtain rfl : es = [] := List.eq_nil_of_length_eq_zero (by omega)
        obtain rfl : xs = [] := List.eq_nil_of_length_eq_zero (by omega)
        have Sk := S.kill r
        obtain ⟨g1, g2⟩ := new_none (ty := ty) Sk q4
        rw [hkl] at g1 g2
        refine ⟨_, _, _, run_append_none A (Nat.zero_le _), ?_, by simpa using g1, g2⟩
        refine .own (by omega) (Nat.zero_le _) (by simp) ?_ (.inl hcap)
        simp [updL_eq, hcap]
      · -- in place
        obtain ⟨cur, k1, k2, k3⟩ := q6.resolve_left hcap
        obtain ⟨i, z, hi, hisz, hiby, hz, hzs⟩ := A.info
        have hfit : es.length * i.size + news.length ≤ cur.size := by rw [hisz, hlx.len, k2, ← Nat.add_mul]; exact Nat.mul_le_mul_right _ hroomin
        have ha' := ha.resolve_left hcap
        simp only [Nat.zero_mul] at ha'
        subst ha'
        by_cases hn : xs = []
        · subst hn
          refine ⟨_, w, updL E st.objs.length ⟨(E.L r).blk, (E.L r).cap, s'⟩, run_append_none A hm, ?_, ?_, ?_⟩
          · exact .own (by omega) hm (by simp) (by simp [updL_eq]) (.inr (by simp [updL_eq]))
          · refine S.move r _ _ ⟨(E.L r).blk, (E.L r).cap, s'⟩ hobj hcap rfl rfl (fun _ _ => rfl) ⟨rfl, by simpa using q2, q3, q4, by simpa using q5, .inr ⟨cur, k1, k2, fun i e j x h1 h2 => ?_⟩⟩
            obtain ⟨v, a1, a2, a3⟩ := k3 i e j x (by simpa using h1) h2
            exact ⟨v, a1, a2, a3.mono ⟨fun r hr => ⟨by omega, updL_lt hr⟩, fun _ h => h, fun _ _ => rfl⟩⟩
          · exact Ext.move S _ hobj hcap rfl (fun _ _ => rfl) rfl rfl rfl
        · have hax' := hax.resolve_left hn
          subst hax'
          have htake : cur.toList.take (es.length * s') = olds := by
            apply List.ext_getElem?
            intro j
            rw [List.getElem?_take]
            split
            · rename_i hj
              have hj' : j < olds.length := by rw [hlo.len]; exact hj
              have hc1 := hlo.cell j olds[j] (by simp [hj'])
              have hb2' := hb2.resolve_left (by intro h0; subst h0; simp at hj)
              simp only [Option.some.injEq, Addr.mk.injEq, and_true] at hb2'
              obtain ⟨rfl, rfl⟩ := hb2'
              simp [World.cell?, k1] at hc1
              simp [hc1, hj']
            · rename_i hj
              rw [List.getElem?_eq_none (by rw [hlo.len]; omega)]
          have hrun := run_append_room (P := P) w t t0 ty i A.und hi (E.L r).blk es.length (E.L r).cap cur k1 ⟨b', o', none⟩ xs.length cx news (by rw [hisz]; exact hlx.len)
            (fun j v hv => by rw [Addr.add_lit]; exact hlx.cell j v hv) hlx.one hroomin hfit
          rw [hisz, htake] at hrun
          have hmv : Ext E st.objs.length w (updL E st.objs.length ⟨(E.L r).blk, (E.L r).cap, s'⟩) (st.objs.length + 1) (w.setRow (E.L r).blk (olds ++ news ++ cur.toList.drop (es.length * s' + news.length)).toArray) :=
            Ext.move S _ hobj hcap (by simp) (fun b hb => setRow_other _ _ _ _ hb) rfl rfl rfl
          refine ⟨_, _, updL E st.objs.length ⟨(E.L r).blk, (E.L r).cap, s'⟩, hrun, ?_, ?_, hmv⟩
          · exact .own (by omega) hroomin (by simp) (by simp [updL_eq]) (.inr (by simp [updL_eq]))
          · refine S.move r _ _ ⟨(E.L r).blk, (E.L r).cap, s'⟩ hobj hcap rfl (by simp) (fun b hb => setRow_other _ _ _ _ hb)
              ⟨rfl, by simpa using hroomin, q3, q4, fun e' he' => (List.mem_append.1 he').elim (hlo.each e') (hlx.each e'), .inr ⟨_, setRow_heap _ _ _ _ _ _ k1, ?_, fun i e j x h1 h2 => ?_⟩⟩
            · rw [← k2]
              simp only [List.size_toArray, List.length_append, List.length_drop, Array.length_toList, hlo.len]
              rw [hisz] at hfit
              omega
            · obtain ⟨v, v1, v2, v3⟩ := lie_app (rest := cur.toList.drop (es.length * s' + news.length)) hlo hlx i e j x h1 h2
              exact ⟨v, by simpa using v1, v2, v3.mono hmv.toMono⟩
    · -- a new array
      have hn : xs ≠ [] := by rintro rfl; simp at hroomin; omega
      have Sk := S.kill r
      have hlo' : Lie E (st.set r .dead).objs.length w s' es b2 o2 olds := by rw [hkl]; exact hlo
      have hlx' : Lie E (st.set r .dead).objs.length w s' xs b' o' news := by rw [hkl]; exact hlx
      obtain ⟨cv, w', E', r1, r2, r3, r4⟩ := append_grow (t0 := t0) (cx := cx) (cap := (E.L r).cap) (base := a) Sk hkl.symm A hlo' hlx' hb2 (fun hnone => by
        rcases ha with ha | ha
        · exact ha
        · rw [hnone] at ha; cases ha) (hax.resolve_left hn) (by omega) hroom hm
      rw [hkl] at r2 r4
      exact ⟨cv, w', E', r1, r2, r3, r4⟩

theorem app_part {E : Env} {st : St} {w : World} (S : Sim P T E st w) {t t0 ty s' bytes : Nat} (A : AppT P t ty s' bytes) {r lo m : Nat} {es xs : List (List AV)} {sv : Value} (hs : Rep E st.objs.length w (.own r lo m true) sv)
    {ax : Option Addr} {cx b' o' : Nat} {news : List Value} (hax : xs = [] ∨ ax = some ⟨b', o', none⟩) (hlx : Lie E st.objs.length w s' xs b' o' news)
    (hr : st.arr? r = some (ty, s', es)) (hle : lo + m ≤ es.length) (hn : xs ≠ []) (hroom : room (m + xs.length) bytes = true) :
    ∃ cv w' E', (Builtin.append_ #[t, t] t0 #[sv, .slice ax xs.length cx]).run P w = .ok cv w' ∧ Rep E' (st.objs.length + 1) w' (.own st.objs.length 0 (m + xs.length) false) cv ∧
      Sim P T E' (st.push (.arr ty s' ((es.drop lo).take m ++ xs))) w' ∧ Ext E st.objs.length w E' (st.objs.length + 1) w' := by
  have hel : elems st (.own r lo m true) = some (s', (es.drop lo).take m) := by simp [elems, hr, hle]
  have hml : ((es.drop lo).take m).length = m := by simp; omega
  obtain ⟨a2, c2, b2, o2, olds, e2, hc2, hb2, hlo⟩ := elems_lie S hs hel A.pos (.inl rfl)
  rw [hml] at e2
  subst e2
  have hcap : c2 = m ∧ (c2 = 0 ∨ a2 = some ⟨(E.L r).blk, lo * (E.L r).sz, none⟩) := by
    cases hs with
    | own hr' hm h1 h2 ha => exact ⟨h1 rfl, ha⟩
  have := append_grow (t0 := t0) (cx := cx) (cap := c2) (base := a2) S rfl A hlo hlx hb2 (fun hnone => by
    rcases hcap.2 with ha | ha
    · exact ha
    · rw [hnone] at ha; cases ha) (hax.resolve_left hn) (by rw [hml]; have := List.length_pos_iff.2 hn; omega) (by rw [hml]; exact hroom) (by rw [hml]; omega)
  rw [hml] at this
  exact this

theorem app_sound {E : Env} {st : St} {w : World} (S : Sim P T E st w) {t t0 e sz bytes : Nat} (A : AppT P t e sz bytes) {s x v : AV} {sv xv : Value} (hs : Rep E st.objs.length w s sv) (hx : Rep E st.objs.length w x xv)
    (h : app st e sz bytes s x = some (v, st')) :
    ∃ cv w' E', (Builtin.append_ #[t, t] t0 #[sv, xv]).run P w = .ok cv w' ∧ Rep E' st'.objs.length w' v cv ∧ Sim P T E' st' w' ∧ Ext E st.objs.length w E' st'.objs.length w' := by
  unfold app at h
  split at h
  · cases h
  · rename_i sx xs hxs
    split at h
    · cases h
    · rename_i hsx
      have hsx' : sx = sz ∨ xs = [] := Classical.byContradiction hsx
      obtain ⟨ax, cx, b', o', news, rfl, hcx, hax, hlx⟩ := elems_lie S hx hxs A.pos hsx'
      split at h
      · rename_i ss es
        split at h
        · rename_i hc0
          obtain ⟨rfl, rfl⟩ := Prod.mk.inj (Option.some.inj h)
          obtain ⟨rfl, _⟩ := hc0
          cases hs with
          | fsl b o c hl hcp hs' ha hc h =>
            subst hl hcp
            exact ⟨_, w, E, run_append_none A (Nat.le_refl _), .fsl b o c rfl rfl hs' ha hc h, S, Ext.refl _ _ _⟩
        split at h
        · rename_i hc
          obtain ⟨rfl, rfl⟩ : _ ∧ _ := by simpa using h
          rw [show (st.push (.arr e sz (es ++ xs))).objs.length = st.objs.length + 1 by simp [St.push]]
          exact app_full S A hs hax hlx hc.1 hc.2
        · cases h
      · rename_i r lo m
        split at h
        · rename_i ty s' es hr
          split at h
          · rename_i hc
            obtain ⟨rfl, rfl, rfl, rfl, hro, hroom⟩ := hc
            obtain ⟨rfl, rfl⟩ : _ ∧ _ := by simpa using h
            rw [show ((st.set r .dead).push (.arr ty s' (es ++ xs))).objs.length = st.objs.length + 1 by simp [St.push, St.set]]
            exact app_own S A hs hax hlx hr hroom
          · cases h
        · cases h
      · rename_i r lo m
        split at h
        · rename_i ty s' es hr
          split at h
          · rename_i hc
            obtain ⟨hle, rfl, rfl, hn, hroom⟩ := hc
            obtain ⟨rfl, rfl⟩ : _ ∧ _ := by simpa using h
            rw [show (st.push (.arr ty s' ((es.drop lo).take m ++ xs))).objs.length = st.objs.length + 1 by simp [St.push]]
            exact app_part S A hs hax hlx hr hle hn hroom
          · cases h
        · cases h
      · cases h

end
end Go.Proofs.Ytgabnhmjlhhojaa.A

/- Every operation but calls. -/
namespace Go.Proofs.Ytgabnhmjlhhojaa.A
open Go

section
variable {P : Program} {T : Tab} {E E' : Env} {st st' : St} {w w' : World} {n : Nat}

/-- what an operation comes to -/
def Goes (P : Program) (T : Tab) (E : Env) (st : St) (w : World) (o : Oper) (a : Act) (v : AV) (st' : St) : Prop :=
  ∃ nx w' E', (execOp a.eval o).run P w = .ok nx w' ∧ ((∃ cv, nx = .value cv ∧ Rep E' st'.objs.length w' v cv) ∨ (nx = .skip ∧ v = .any)) ∧ Sim P T E' st' w' ∧
    Ext E st.objs.length w E' st'.objs.length w'

theorem Goes.quiet (S : Sim P T E st w) {o : Oper} {a : Act} {v : AV} {cv : Value} (h : (execOp a.eval o).run P w = .ok (.value cv) w) (hv : Rep E st.objs.length w v cv) : Goes P T E st w o a v st :=
  ⟨_, w, E, h, .inl ⟨cv, rfl, hv⟩, S, Ext.refl _ _ _⟩

theorem opt_get {o : Option AV} {v : AV} {s : St} (h : opt st o = some (v, s)) : o = some v ∧ s = st := by
  unfold opt at h
  split at h
  · simp at h; exact ⟨by rw [h.1], h.2.symm⟩
  · cases h

variable {o : Oper} {a : Act} {fr : List AV} {v : AV} {O : Orc}

theorem s_move (S : Sim P T E st w) (F : RepL E st.objs.length w fr a.tmps.toList) {x : Opd} (hc : chkOp P o.op (.move x) = true) (h : exOp O fr st (.move x) = some (v, st')) : Goes P T E st w o a v st' := by
  obtain ⟨rfl, rfl⟩ : ev fr x = v ∧ st = st' := by simpa [exOp] using h
  obtain ⟨dst, op, ty, pos, after, guard⟩ := o
  cases op <;> simp only [chkOp, Bool.false_eq_true] at hc
  case move y => exact Goes.quiet S (cv := a.eval y) (by simp [execOp]) (ev_rep S.glob F hc)
  case assign y => exact Goes.quiet S (cv := a.eval y) (by simp [execOp]) (ev_rep S.glob F hc)

theorem s_pick (S : Sim P T E st w) (F : RepL E st.objs.length w fr a.tmps.toList) {x y z : Opd} (hc : chkOp P o.op (.pick x y z) = true) (h : exOp O fr st (.pick x y z) = some (v, st')) : Goes P T E st w o a v st' := by
  obtain ⟨dst, op, ty, pos, after, guard⟩ := o
  cases op <;> simp only [chkOp, Bool.false_eq_true] at hc
  rename_i c p q
  simp only [Bool.and_eq_true] at hc
  simp only [exOp] at h
  split at h
  · rename_i t ht
    obtain ⟨rfl, rfl⟩ : _ ∧ _ := by simpa using h
    have hb := ev_rep S.glob F hc.1.1
    rw [ht] at hb
    have e : a.eval c = .bool t := by
      generalize a.eval c = u at hb
      cases hb; rfl
    cases t
    · exact Goes.quiet S (cv := a.eval q) (by simp [execOp, e, asBool]) (ev_rep S.glob F hc.2)
    · exact Goes.quiet S (cv := a.eval p) (by simp [execOp, e, asBool]) (ev_rep S.glob F hc.1.2)
  · cases h

theorem zeroB_get {t : Nat} {z : List AV} (h : zeroB P t z = true) : ∃ i v, P.info? t = some i ∧ i.zero = some v ∧ atomsB z v.cells.toList = true ∧ i.size = z.length := by
  unfold zeroB at h
  cases hi : P.info? t with
  | none => simp [hi] at h
  | some i =>
    cases hz : i.zero with
    | none => simp [hi, hz] at h
    | some v => simp [hi, hz] at h; exact ⟨i, v, rfl, hz, h.1, h.2⟩

/-- a variable of its own -/
theorem new_box (S : Sim P T E st w) {ty : Nat} {cs : List AV} {cv : List Value} (hp : 0 < cs.length) (hr : RepL E st.objs.length w cs cv) (h1 : ∀ u ∈ cv, u.oneCell' = true) :
    Sim P T (updL E st.objs.length ⟨w.heap.size, 1, cs.length⟩) (st.push (.arr ty cs.length [cs])) (w.alloc (.cells cv.toArray ty)) ∧
      Ext E st.objs.length w (updL E st.objs.length ⟨w.heap.size, 1, cs.length⟩) (st.objs.length + 1) (w.alloc (.cells cv.toArray ty)) ∧
      Rep (updL E st.objs.length ⟨w.heap.size, 1, cs.length⟩) (st.objs.length + 1) (w.alloc (.cells cv.toArray ty)) (.ptr st.objs.length 0 0) (.pointer (some ⟨w.heap.size, 0, none⟩)) := by
  have hb : ∀ b, b < w.heap.size → (w.alloc (.cells cv.toArray ty)).heap[b]? = w.heap[b]? := fun b hb => heap_alloc_old w _ b hb
  have hx := Ext.push (w' := w.alloc (.cells cv.toArray ty)) ⟨w.heap.size, 1, cs.length⟩ S (by simp) hb rfl rfl rfl
  refine ⟨S.push _ _ (by simp) hb (fun _ => Nat.le_refl _) ⟨rfl, by simp, by simp [maxLen], hp, by simp, .inr ⟨_, heap_alloc_new w _, by simp [hr.len], fun i e j x he hj => ?_⟩⟩, hx, ?_⟩
  · cases i with
    | succ i => simp at he
    | zero =>
      simp at he; subst he
      have hjl := lt_of_get hj
      have hjv : j < cv.length := by rw [← hr.len]; exact hjl
      refine ⟨cv[j], by simp [hjv], h1 _ (by simp), (hr.at_ j x _ hj (by simp [hjv])).mono hx.toMono⟩
  · have := Rep.ptr (E := updL E st.objs.length ⟨w.heap.size, 1, cs.length⟩) (n := st.objs.length + 1) (w := w.alloc (.cells cv.toArray ty)) (r := st.objs.length) 0 0 0 (by omega) (by simp)
    rwa [updL_eq] at this

theorem s_alloc (S : Sim P T E st w) {ty : Nat} {z : List AV} (hc : chkOp P o.op (.alloc ty z) = true) (h : exOp O fr st (.alloc ty z) = some (v, st')) : Goes P T E st w o a v st' := by
  obtain ⟨dst, op, ty', pos, after, guard⟩ := o
  cases op <;> simp only [chkOp, Bool.false_eq_true] at hc
  rename_i e
  simp only [Bool.and_eq_true, beq_iff_eq, decide_eq_true_eq] at hc
  obtain ⟨⟨rfl, hz⟩, hp⟩ := hc
  obtain ⟨rfl, rfl⟩ : _ ∧ _ := by simpa [exOp] using h
  obtain ⟨i, zv, hi, hzv, ha, hs⟩ := zeroB_get hz
  obtain ⟨hr, ho⟩ := atomsB_rep (E := E) (n := st.objs.length) (w := w) ha
  obtain ⟨g1, g2, g3⟩ := new_box (ty := ty) S hp hr ho
  refine ⟨.value (.pointer (some ⟨w.heap.size, 0, none⟩)), _, _, ?_, .inl ⟨_, rfl, by simpa [St.push] using g3⟩, g1, by simpa [St.push] using g2⟩
  simp [execOp, Instr.alloc, zeroValue, typeInfo, hi, hzv, newVar, newRow]

theorem s_box (S : Sim P T E st w) (F : RepL E st.objs.length w fr a.tmps.toList) {ty : Nat} {x : Opd} (hc : chkOp P o.op (.box ty x) = true) (h : exOp O fr st (.box ty x) = some (v, st')) : Goes P T E st w o a v st' := by
  obtain ⟨dst, op, ty', pos, after, guard⟩ := o
  cases op <;> simp only [chkOp, Bool.false_eq_true] at hc
  rename_i e y
  simp only [Bool.and_eq_true, beq_iff_eq] at hc
  obtain ⟨rfl, hxy⟩ := hc
  simp only [exOp] at h
  split at h
  · rename_i hone
    obtain ⟨rfl, rfl⟩ : _ ∧ _ := by simpa using h
    have hx := ev_rep S.glob F hxy
    obtain ⟨hr, ho⟩ := cells_rep hx hone.1
    obtain ⟨g1, g2, g3⟩ := new_box (ty := ty) S hone.2 hr ho
    refine ⟨.value (.pointer (some ⟨w.heap.size, 0, none⟩)), _, _, ?_, .inl ⟨_, rfl, by simpa [St.push] using g3⟩, g1, by simpa [St.push] using g2⟩
    simp [execOp, Instr.box, newVar, newRow]
  · cases h

theorem s_load (S : Sim P T E st w) (F : RepL E st.objs.length w fr a.tmps.toList) {agg : Bool} {sz : Nat} {x : Opd} (hc : chkOp P o.op (.load agg sz x) = true) (h : exOp O fr st (.load agg sz x) = some (v, st')) : Goes P T E st w o a v st' := by
  obtain ⟨dst, op, ty', pos, after, guard⟩ := o
  cases op <;> simp only [chkOp, Bool.false_eq_true] at hc
  rename_i t y
  simp only [Bool.and_eq_true, Bool.or_eq_true, beq_iff_eq, decide_eq_true_eq] at hc
  obtain ⟨⟨⟨⟨h1, h2⟩, h3⟩, h4⟩, h5⟩ := hc
  obtain ⟨hl, rfl⟩ := opt_get h
  obtain ⟨cv, r1, r2⟩ := run_load S hl (ev_rep S.glob F h1) h2 h3 h5
  exact Goes.quiet S (cv := cv) (by simp [execOp, r1]) r2

theorem s_store (S : Sim P T E st w) (F : RepL E st.objs.length w fr a.tmps.toList) {sz : Nat} {x y : Opd} (hc : chkOp P o.op (.store sz x y) = true) (h : exOp O fr st (.store sz x y) = some (v, st')) : Goes P T E st w o a v st' := by
  obtain ⟨dst, op, ty', pos, after, guard⟩ := o
  cases op <;> simp only [chkOp, Bool.false_eq_true] at hc
  rename_i t p q
  simp only [Bool.and_eq_true, decide_eq_true_eq] at hc
  obtain ⟨⟨⟨h1, h2⟩, h3⟩, h4⟩ := hc
  simp only [exOp] at h
  split at h
  · rename_i s hs
    obtain ⟨rfl, rfl⟩ : _ ∧ _ := by simpa using h
    obtain ⟨w', r1, r2, r3⟩ := run_store S hs (ev_rep S.glob F h1) (ev_rep S.glob F h2) h3
    exact ⟨.skip, w', E, by simp [execOp, r1], .inr ⟨rfl, rfl⟩, r2, r3⟩
  · cases h

theorem s_nilck (S : Sim P T E st w) (F : RepL E st.objs.length w fr a.tmps.toList) {x : Opd} (hc : chkOp P o.op (.nilck x) = true) (h : exOp O fr st (.nilck x) = some (v, st')) : Goes P T E st w o a v st' := by
  obtain ⟨dst, op, ty', pos, after, guard⟩ := o
  cases op <;> simp only [chkOp, Bool.false_eq_true] at hc
  rename_i y
  have hx := ev_rep S.glob F hc
  simp only [exOp] at h
  generalize ev fr x = u at h hx
  generalize hz : a.eval y = z at hx
  cases hx
  all_goals try (cases h; done)
  case ptr i off o' hr ho => obtain ⟨rfl, rfl⟩ : _ ∧ _ := by simpa using h
                             exact Goes.quiet S (by simp [execOp, hz]) (.ptr i off o' hr ho)
  case yld hr => obtain ⟨rfl, rfl⟩ : _ ∧ _ := by simpa using h
                 exact Goes.quiet S (by simp [execOp, hz]) (.yld hr)
  case vptr b o' c hF hc' hh => obtain ⟨rfl, rfl⟩ : _ ∧ _ := by simpa using h
                                exact Goes.quiet S (by simp [execOp, hz]) (.vptr b o' c hF hc' hh)
  case fn f a' b' va vb hla ha hlb hb =>
    cases f with
    | func f => obtain ⟨rfl, rfl⟩ : _ ∧ _ := by simpa using h
                exact Goes.quiet S (cv := .func (.func (rl f)) va vb) (by simp [execOp, hz, rlF]) (.fn (f := .func f) hla ha hlb hb)
    | _ => simp at h

end
end Go.Proofs.Ytgabnhmjlhhojaa.A
