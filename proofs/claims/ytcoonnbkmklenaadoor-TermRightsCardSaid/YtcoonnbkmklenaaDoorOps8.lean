/- Literals; then all operations in one. -/
import Derived.Test.YtcoonnbkmklenaaDoorOps7
namespace Go.Proofs.YtcoonnbkmklenaaDoor.A
open Go

section
variable {P : Program} {T : Tab} {E E' : Env} {st st' : St} {w w' : World} {n : Nat}
variable {o : Oper} {a : Act} {fr : List AV} {v : AV} {O : Orc}

def splice (off : Nat) (vs cells : Array Value) : Array Value := vs.zipIdx.foldl (fun cs (p : Value × Nat) => cs.setIfInBounds (off + p.2) p.1) cells

theorem spliceL (off : Nat) : ∀ (l : List Value) (k : Nat) (cells : Array Value),
    ((l.zipIdx k).foldl (fun cs (p : Value × Nat) => cs.setIfInBounds (off + p.2) p.1) cells).size = cells.size ∧
    ∀ q, off + k + l.length ≤ cells.size → ((l.zipIdx k).foldl (fun cs (p : Value × Nat) => cs.setIfInBounds (off + p.2) p.1) cells)[q]? =
      if off + k ≤ q ∧ q < off + k + l.length then l[q - (off + k)]? else cells[q]?
  | [], k, cells => ⟨rfl, fun q _ => by
    have h : ¬ (off + k ≤ q ∧ q < off + k + ([] : List Value).length) := by simp only [List.length_nil]; omega
    rw [if_neg h]; rfl⟩
  | x :: l, k, cells => by
    simp only [List.zipIdx_cons, List.foldl_cons]
    obtain ⟨h1, h2⟩ := spliceL off l (k + 1) (cells.setIfInBounds (off + k) x)
    refine ⟨by rw [h1]; simp, fun q hq => ?_⟩
    rw [h2 q (by simp at hq ⊢; omega)]
    simp only [List.length_cons] at hq ⊢
    by_cases e : q = off + k
    · subst e
      rw [if_neg (by omega), if_pos (by omega)]
      simp [show off + k < cells.size by omega]
    · by_cases c : off + (k + 1) ≤ q ∧ q < off + (k + 1) + l.length
      · rw [if_pos c, if_pos (by omega), show q - (off + k) = (q - (off + (k + 1))) + 1 by omega]
        simp
      · rw [if_neg c, if_neg (by omega)]
        simp [show off + k ≠ q by omega]

theorem splice_eq (off : Nat) (vs cells : Array Value) : splice off vs cells = (vs.toList.zipIdx).foldl (fun cs (p : Value × Nat) => cs.setIfInBounds (off + p.2) p.1) cells := by
  rw [splice, ← Array.foldl_toList, Array.toList_zipIdx]

theorem splice_size (off : Nat) (vs cells : Array Value) : (splice off vs cells).size = cells.size := by
  rw [splice_eq]; exact (spliceL off vs.toList 0 cells).1
theorem splice_get (off : Nat) (vs cells : Array Value) (h : off + vs.size ≤ cells.size) (q : Nat) : (splice off vs cells)[q]? = if off ≤ q ∧ q < off + vs.size then vs[q - off]? else cells[q]? := by
  rw [splice_eq, (spliceL off vs.toList 0 cells).2 q (by simpa using h)]
  simp

theorem fill_cons {place : Nat → Option (Nat × Nat)} {cells : Array Value} {i : Nat} {u : Value} {rest : List (Nat × Value)} {off size : Nat} (hp : place i = some (off, size)) (hs : u.cells.size = size) (hle : off + u.cells.size ≤ cells.size) :
    Instr.fill place cells ((i, u) :: rest) = Instr.fill place (splice off u.cells cells) rest := by
  simp only [Instr.fill, hp]
  rw [if_neg (by simp [hs]; omega)]
  rfl

theorem fill_rep (G : GlobOk E w) (F : RepL E n w fr a.tmps.toList) {fs : Array Field} {place : Nat → Option (Nat × Nat)} (hpl : ∀ (i : Nat) f, fs[i]? = some f → ∃ inf, P.info? f.type = some inf ∧ place i = some (f.offset, inf.size)) :
    ∀ (ps : List (Nat × Operand)) (ps' : List (Nat × Nat × Opd)) (cs cs' : List AV) (cells : Array Value), partsB P fs ps ps' = true → fill fr ps' cs = some cs' → RepL E n w cs cells.toList →
      ∃ cells', Instr.fill place cells (ps.map fun p => (p.1, a.eval p.2)) = some cells' ∧ RepL E n w cs' cells'.toList
  | [], [], cs, cs', cells, _, h, hr => by
    obtain rfl := Option.some.inj h
    exact ⟨cells, rfl, hr⟩
  | [], _ :: _, _, _, _, h, _, _ => by simp [partsB] at h
  | _ :: _, [], _, _, _, h, _, _ => by simp [partsB] at h
  | (i, x) :: ps, (off, m, y) :: ps', cs, cs', cells, hb, h, hr => by
    simp only [partsB, Bool.and_eq_true] at hb
    obtain ⟨⟨h1, h2⟩, h3⟩ := hb
    split at h1
    · rename_i f hf
      simp only [Bool.and_eq_true, beq_iff_eq] at h1
      obtain ⟨rfl, h4⟩ := h1
      obtain ⟨inf, hi, hp⟩ := hpl i f hf
      obtain ⟨inf', hi', rfl⟩ := sizeB_get h4
      obtain rfl : inf = inf' := by rw [hi] at hi'; exact Option.some.inj hi'
      simp only [fill] at h
      split at h
      · rename_i hc
        obtain ⟨c1, c2, c3⟩ := hc
        have r := ev_rep G F h2
        obtain ⟨hcr, _⟩ := cells_rep r c3
        have hsz : (a.eval x).cells.size = inf.size := by have := hcr.len; simp at this; omega
        have hcl : cells.size = cs.length := by have := hr.len; simp at this; omega
        have hle : f.offset + (a.eval x).cells.size ≤ cells.size := by omega
        obtain ⟨cells', g1, g2⟩ := fill_rep G F hpl ps ps' _ cs' (splice f.offset (a.eval x).cells cells) h3 h ⟨by rw [setMany_length]; simp [splice_size, hcl], fun j z u hz hu => by
          rw [Array.getElem?_toList, splice_get _ _ _ hle] at hu
          rcases setMany_get _ _ _ _ _ hz with ⟨a1, a2, a3⟩ | ⟨a1, a2⟩
          · rw [if_pos (by omega)] at hu
            exact hcr.at_ _ z u a3 (by simpa using hu)
          · rw [if_neg (by omega)] at hu
            exact hr.at_ j z u a2 (by simpa using hu)⟩
        exact ⟨cells', by simp only [List.map_cons]; rw [fill_cons hp hsz hle]; exact g1, g2⟩
      · cases h
    · cases h1

theorem known_places {fs : Array Field} (h : fieldsKnown P fs = true) : ∃ places : List (Nat × Nat), fs.toList.mapM (fun f => (P.info? f.type).map fun i => (f.offset, i.size)) = some places ∧
    ∀ (i : Nat) f, fs[i]? = some f → ∃ inf, P.info? f.type = some inf ∧ places.toArray[i]? = some (f.offset, inf.size) := by
  have key : ∀ l : List Field, l.all (fun f => (P.info? f.type).isSome) = true → ∃ places : List (Nat × Nat), l.mapM (fun f => (P.info? f.type).map fun i => (f.offset, i.size)) = some places ∧
      ∀ (i : Nat) f, l[i]? = some f → ∃ inf, P.info? f.type = some inf ∧ places[i]? = some (f.offset, inf.size) := by
    intro l
    induction l with
    | nil => intro _; exact ⟨[], rfl, by simp⟩
    | cons f l ih =>
      intro h
      simp only [List.all_cons, Bool.and_eq_true] at h
      obtain ⟨places, h1, h2⟩ := ih h.2
      obtain ⟨inf, hi⟩ := Option.isSome_iff_exists.1 h.1
      refine ⟨(f.offset, inf.size) :: places, by simp [List.mapM_cons, hi, h1], fun i g hg => ?_⟩
      cases i with
      | zero => simp at hg; subst hg; exact ⟨inf, hi, by simp⟩
      | succ i => obtain ⟨inf', a1, a2⟩ := h2 i g (by simpa using hg); exact ⟨inf', a1, by simpa using a2⟩
  obtain ⟨places, h1, h2⟩ := key fs.toList h
  exact ⟨places, h1, fun i f hf => by obtain ⟨inf, a1, a2⟩ := h2 i f (by simpa using hf); exact ⟨inf, a1, by simpa using a2⟩⟩

theorem s_build (S : Sim P T E st w) (F : RepL E st.objs.length w fr a.tmps.toList) {z : List AV} {ps' : List (Nat × Nat × Opd)} (hc : chkOp P o.op (.build z ps') = true) (h : exOp O fr st (.build z ps') = some (v, st')) : Goes P T E st w o a v st' := by
  obtain ⟨dst, op, ty', pos, after, guard⟩ := o
  cases op <;> simp only [chkOp, Bool.false_eq_true] at hc
  rename_i t ps
  simp only [Bool.and_eq_true] at hc
  obtain ⟨h1, h2⟩ := hc
  split at h2
  · rename_i fs hfs
    simp only [Bool.and_eq_true] at h2
    obtain ⟨h3, h4⟩ := h2
    obtain ⟨inf, zv, hi, hz, ha, hsz⟩ := zeroB_get h1
    obtain ⟨places, hp, hpl⟩ := known_places h3
    simp only [exOp] at h
    split at h
    · rename_i cs hcs
      simp only [Option.some.injEq, Prod.mk.injEq] at h
      obtain ⟨rfl, rfl⟩ := h
      obtain ⟨hr0, _⟩ := atomsB_rep (E := E) (n := st.objs.length) (w := w) ha
      obtain ⟨cells, g1, g2⟩ := fill_rep S.glob F hpl ps.toList ps' z cs zv.cells h4 hcs hr0
      have hb : P.built t (ps.map fun p => (p.1, a.eval p.2)).toList = some cells := by
        simp only [Program.built, hi, hfs, hz, hp, Array.toList_map]
        exact g1
      have hrun := run_build (P := P) w t (ps.map fun p => (p.1, a.eval p.2)) cells hb
      exact Goes.quiet S (cv := .agg cells) (by simp [execOp, hrun]) (.agg (by simpa using g2.len) fun j x u hx hu => g2.at_ j x u hx (by simpa using hu))
    · cases h
  · cases h2

/-- the cells of a literal's array -/
structure LitRep (E : Env) (n : Nat) (w : World) (sz : Nat) (es : List (List AV)) (cells : Array Value) : Prop where
  size : cells.size = es.length * sz
  each : ∀ e ∈ es, e.length = sz
  at_ : ∀ (i : Nat) e (j : Nat) x, es[i]? = some e → e[j]? = some x → ∃ u, cells[i * sz + j]? = some u ∧ Rep E n w x u ∧ u.oneCell' = true

theorem fillSl_rep (G : GlobOk E w) (F : RepL E n w fr a.tmps.toList) {sz : Nat} : ∀ (ps : List (Nat × Operand)) (ps' : List (Nat × Opd)) (es es' : List (List AV)) (cells : Array Value), partsSlB ps ps' = true → fillSl fr sz ps' es = some es' →
    LitRep E n w sz es cells → ∃ cells', Instr.fill (fun i => some (i * sz, sz)) cells (ps.map fun p => (p.1, a.eval p.2)) = some cells' ∧ LitRep E n w sz es' cells'
  | [], [], es, es', cells, _, h, hr => by
    obtain rfl := Option.some.inj h
    exact ⟨cells, rfl, hr⟩
  | [], _ :: _, _, _, _, h, _, _ => by simp [partsSlB] at h
  | _ :: _, [], _, _, _, h, _, _ => by simp [partsSlB] at h
  | (i, x) :: ps, (i', y) :: ps', es, es', cells, hb, h, hr => by
    simp only [partsSlB, Bool.and_eq_true, beq_iff_eq] at hb
    obtain ⟨⟨rfl, h2⟩, h3⟩ := hb
    simp only [fillSl] at h
    split at h
    · rename_i hc
      obtain ⟨c1, c2, c3⟩ := hc
      have r := ev_rep G F h2
      obtain ⟨hcr, hone⟩ := cells_rep r c3
      have hsz : (a.eval x).cells.size = sz := by have := hcr.len; simp at this; omega
      have hle : i * sz + (a.eval x).cells.size ≤ cells.size := by
        rw [hsz, hr.size]
        have : (i + 1) * sz ≤ es.length * sz := Nat.mul_le_mul_right _ c2
        rwa [Nat.add_mul, Nat.one_mul] at this
      obtain ⟨cells', g1, g2⟩ := fillSl_rep G F ps ps' _ es' (splice (i * sz) (a.eval x).cells cells) h3 h ⟨by rw [splice_size, hr.size]; simp, fun e he => by
          rcases List.mem_or_eq_of_mem_set he with h' | rfl
          · exact hr.each e h'
          · rw [canL_length]; exact c1, fun k e j z he hz => by
          rw [splice_get _ _ _ hle, hsz]
          rw [List.getElem?_set] at he
          by_cases e1 : i = k
          · subst e1
            rw [if_pos rfl, if_pos c2] at he
            obtain rfl := Option.some.inj he
            obtain ⟨z', hz', rfl⟩ := canL_get hz
            have hj : j < sz := by have := lt_of_get hz'; omega
            rw [if_pos (by omega), show i * sz + j - i * sz = j by omega]
            have hj2 : j < (a.eval x).cells.size := by omega
            exact ⟨(a.eval x).cells[j], by simp [hj2], can1_rep (hcr.at_ j z' _ hz' (by simp [hj2])), hone _ (by simp)⟩
          · rw [if_neg e1] at he
            have hj : j < sz := by have := lt_of_get hz; rw [hr.each e (List.mem_of_getElem? he)] at this; exact this
            rw [if_neg ?_]
            · exact hr.at_ k e j z he hz
            · rcases Nat.lt_or_gt_of_ne e1 with h' | h'
              · have : (i + 1) * sz ≤ k * sz := Nat.mul_le_mul_right _ (by omega)
                rw [Nat.add_mul, Nat.one_mul] at this
                omega
              · have : (k + 1) * sz ≤ i * sz := Nat.mul_le_mul_right _ (by omega)
                rw [Nat.add_mul, Nat.one_mul] at this
                omega⟩
      exact ⟨cells', by simp only [List.map_cons]; rw [fill_cons rfl hsz hle]; exact g1, g2⟩
    · cases h

theorem s_buildSl (S : Sim P T E st w) (F : RepL E st.objs.length w fr a.tmps.toList) {sz : Nat} {z : List AV} {m : Nat} {ps' : List (Nat × Opd)} (hc : chkOp P o.op (.buildSl sz z m ps') = true) (h : exOp O fr st (.buildSl sz z m ps') = some (v, st')) : Goes P T E st w o a v st' := by
  obtain ⟨dst, op, ty', pos, after, guard⟩ := o
  cases op <;> simp only [chkOp, Bool.false_eq_true] at hc
  rename_i t len ps
  split at hc
  · rename_i e he
    simp only [Bool.and_eq_true, beq_iff_eq, decide_eq_true_eq] at hc
    obtain ⟨⟨⟨⟨⟨⟨h1, h2⟩, h3⟩, h4⟩, rfl⟩, h6⟩, h7⟩ := hc
    obtain ⟨inf, zv, hi, hz, ha, hsz⟩ := zeroB_get h1
    obtain ⟨hr0, ho0⟩ := atomsB_rep (E := E) (n := st.objs.length) (w := w) ha
    have hzs : zv.cells.size = sz := by have := hr0.len; simp at this; omega
    simp only [exOp] at h
    split at h
    · rename_i es hes
      split at h
      · rename_i hfl
        simp only [Option.some.injEq, Prod.mk.injEq] at h
        obtain ⟨rfl, rfl⟩ := h
        let c0 : Array Value := (Array.range (m * sz)).map ((if m * sz = 0 then #[] else zv.cells)[· % (if m * sz = 0 then #[] else zv.cells).size]!)
        have hc0 : LitRep E st.objs.length w sz (List.replicate m z) c0 := by
          refine ⟨by simp [c0], fun e he => by rw [List.eq_of_mem_replicate he, h2], fun i e j x he hx => ?_⟩
          have him : i < m := by have := lt_of_get he; simpa using this
          obtain rfl : z = e := by simp [him] at he; exact he
          have hj : j < sz := by have := lt_of_get hx; omega
          have hk := idx_lt him hj
          have hne : m * sz ≠ 0 := by omega
          have hmod : (i * sz + j) % sz = j := by rw [Nat.mul_comm, Nat.mul_add_mod, Nat.mod_eq_of_lt hj]
          have hjz : j < zv.cells.size := by omega
          refine ⟨zv.cells[j], ?_, hr0.at_ j x _ hx (by simp [hjz]), ho0 _ (by simp)⟩
          simp [c0, hne, hk, hzs, hmod, hj]
        obtain ⟨cells, g1, g2⟩ := fillSl_rep S.glob F ps.toList ps' _ es c0 h7 hes hc0
        have hel : es.length = m := by
          have : ∀ (ps : List (Nat × Opd)) es es', fillSl fr sz ps es = some es' → es'.length = es.length := by
            intro ps
            induction ps with
            | nil => intro es es' h; obtain rfl := Option.some.inj h; rfl
            | cons p ps ih =>
              intro es es' h
              simp only [fillSl] at h
              split at h
              · rw [ih _ _ h]; simp
              · cases h
          rw [this _ _ _ hes]; simp
        have hsz0 : sizeB P e sz = true := h4
        have hrun : (Instr.buildSlice t m (ps.map fun p => (p.1, a.eval p.2))).run P w = .ok (.slice (some ⟨w.heap.size, 0, none⟩) m m) (w.alloc (.cells cells e)) := by
          have g1' : Instr.fill (fun i => some (i * sz, sz)) c0 (ps.toList.map fun p => (p.1, a.eval p.2)) = some cells := g1
          have hzr : ((if m * sz = 0 then pure #[] else do pure (← zeroValue e).cells : Sem (Array Value))).run P w = .ok (if m * sz = 0 then #[] else zv.cells) w := by
            by_cases h0 : m * sz = 0
            · simp [h0]
            · simp [h0, zeroValue, typeInfo, hi, hz]
          have hbig : ¬ (m * sz > 2 ^ 24) := by omega
          simp only [Instr.buildSlice, Sem.run_bind, run_underlying he, Result.andThen_ok, run_sizeOf hsz0, if_neg hbig]
          by_cases h0 : m * sz = 0
          · simp only [h0, if_true, c0] at g1' ⊢
            simp only [Sem.run_pure, Result.andThen_ok, Sem.run_bind, Array.toList_map, g1', newRow, run_newObj]
            rfl
          · simp only [h0, if_false, c0] at g1' ⊢
            simp only [zeroValue, typeInfo, hi, hz, Sem.run_bind, Sem.run_pure, run_program, Result.andThen_ok, Array.toList_map, g1', newRow, run_newObj]
            rfl
        have hgrow : ∀ b, b < w.heap.size → (w.alloc (.cells cells e)).heap[b]? = w.heap[b]? := fun b hb => heap_alloc_old w _ b hb
        have S1 : Sim P T E st (w.alloc (.cells cells e)) := S.grow (by simp) hgrow
        have hnew : ∀ (r : Nat) ob, st.objs[r]? = some ob → live ob (E.L r) → ¬ (E.L r).blk = w.heap.size := fun r ob hr hl hh => by have := (S.obj r ob hr).lt hl; omega
        have S2 := S1.freeze (fun b => b = w.heap.size) (by rintro b rfl; simp) hnew
        have X : Ext E st.objs.length w (addF E fun b => b = w.heap.size) st.objs.length (w.alloc (.cells cells e)) := (Ext.grow (n := st.objs.length) S (by simp) hgrow rfl rfl rfl).trans (Ext.freeze _)
        have key : ∀ i j, i < es.length → j < sz → (w.alloc (.cells cells e)).cell? ⟨w.heap.size, 0 + i * sz + j, none⟩ = some (cells.getD (i * sz + j) undef) ∧ (cells.getD (i * sz + j) undef).oneCell' = true := by
          intro i j hi' hj
          have hll : es[i].length = sz := g2.each _ (List.getElem_mem hi')
          obtain ⟨u, a1, a2, a3⟩ := g2.at_ i es[i] j (es[i]'hi')[j] (by simp [hi']) (by simp [show j < es[i].length by omega])
          have : cells.getD (i * sz + j) undef = u := by simp [Array.getD_eq_getD_getElem?, a1]
          rw [this]
          exact ⟨by rw [World.cell?_alloc_new, Nat.zero_add]; exact a1, a3⟩
        have rep : ∀ i e' j x, es[i]? = some e' → e'[j]? = some x → Rep (addF E fun b => b = w.heap.size) st.objs.length (w.alloc (.cells cells e)) x (cells.getD (i * sz + j) undef) := by
          intro i e' j x h1 h2
          obtain ⟨u, a1, a2, a3⟩ := g2.at_ i e' j x h1 h2
          have : cells.getD (i * sz + j) undef = u := by simp [Array.getD_eq_getD_getElem?, a1]
          rw [this]
          exact a2.mono X.toMono
        refine ⟨.value (.slice (some ⟨w.heap.size, 0, none⟩) m m), _, _, by simp only [execOp, Sem.run_bind]; rw [show (ps.map fun x => match x with | (i, x) => (i, a.eval x)) = ps.map fun p => (p.1, a.eval p.2) from rfl, hrun]; rfl, .inl ⟨_, rfl, ?_⟩, S2, X⟩
        exact .fsl w.heap.size 0 (fun i j => cells.getD (i * sz + j) undef) hel.symm rfl g2.each (.inr ⟨rfl, .inr rfl⟩) key rep
      · cases h
    · cases h
  · cases hc

/-- every operation that is no call -/
theorem op_sound (S : Sim P T E st w) (F : RepL E st.objs.length w fr a.tmps.toList) {x : AO} (hc : chkOp P o.op x = true) (h : exOp O fr st x = some (v, st'))
    (h1 : ∀ f l, x ≠ .call f l) (h2 : ∀ f l, x ≠ .callv f l) : Goes P T E st w o a v st' := by
  cases x with
  | move x => exact s_move S F hc h
  | pick c a b => exact s_pick S F hc h
  | alloc ty z => exact s_alloc S hc h
  | box ty x => exact s_box S F hc h
  | build z ps => exact s_build S F hc h
  | buildSl sz z n ps => exact s_buildSl S F hc h
  | load agg sz a => exact s_load S F hc h
  | store sz a v => exact s_store S F hc h
  | nilck x => exact s_nilck S F hc h
  | bin op x y => exact s_bin S F hc h
  | beq n x y => exact s_beq S F hc h
  | not x => exact s_not S F hc h
  | neg x => exact s_neg S F hc h
  | conv k x => exact s_conv S F hc h
  | same x => exact s_same S F hc h
  | mkfn f a b => exact s_mkfn S F hc h
  | fieldA off x => exact s_fieldA S F hc h
  | field agg off sz x => exact s_field S F hc h
  | idxA sz x i => exact s_idxA S F hc h
  | idxArrA n sz x i => exact s_idxArrA S F hc h
  | idxS x i => exact s_idxS S F hc h
  | slice sz x lo hi mx => exact s_slice S F hc h
  | sliceS x lo hi => exact s_sliceS S F hc h
  | extract x i => exact s_extract S F hc h
  | len x => exact s_len S F hc h
  | lenS x => exact s_lenS S F hc h
  | append ty sz b s x => exact s_append S F hc h
  | max2 x y => exact s_max2 S F hc h
  | min2 x y => exact s_min2 S F hc h
  | call f l => exact absurd rfl (h1 f l)
  | callv f l => exact absurd rfl (h2 f l)

end
end Go.Proofs.YtcoonnbkmklenaaDoor.A
