/- Numbers, texts, addresses, slices. -/
import Derived.Laws.MakeOwn
import Derived.Test.YtgabnhmjlhhojaaOps
import Derived.Test.YtgabnhmjlhhojaaOpsM
import Derived.Laws.StructEq
namespace Go.Proofs.Ytgabnhmjlhhojaa.A
open Go

section
variable {P : Program} {T : Tab} {E E' : Env} {st st' : St} {w w' : World} {n : Nat}
variable {o : Oper} {a : Act} {fr : List AV} {v : AV} {O : Orc}

theorem rep_int {k : IntKind} {x : Int} {u : Value} (h : Rep E n w (.int k x) u) : u = .int k x := by cases h; rfl
theorem rep_str {s : ByteArray} {u : Value} (h : Rep E n w (.str s) u) : u = .string s := by cases h; rfl
theorem rep_bool {b : Bool} {u : Value} (h : Rep E n w (.bool b) u) : u = .bool b := by cases h; rfl

theorem eqGuard_int (op : BinOp) (t : TypeId) (x y : Operand) (k k' : IntKind) (p q : Int) : (eqGuard op t x y (.int k p) (.int k' q)).run P w = .ok () w := by
  unfold eqGuard; cases op <;> rfl
theorem eqGuard_str (op : BinOp) (t : TypeId) (x y : Operand) (p q : ByteArray) : (eqGuard op t x y (.string p) (.string q)).run P w = .ok () w := by
  unfold eqGuard; cases op <;> rfl
theorem eqGuard_bool (op : BinOp) (t : TypeId) (x y : Operand) (p q : Bool) : (eqGuard op t x y (.bool p) (.bool q)).run P w = .ok () w := by
  unfold eqGuard; cases op <;> rfl

theorem binI_run {op : BinOp} {k : IntKind} {x y : Int} {r : AV} (t : TypeId) (h : binI op k x y = some r) : ∃ u, (binOp op t (.int k x) (.int k y)).run P w = .ok u w ∧ Rep E n w r u := by
  cases op <;> simp only [binI, reduceCtorEq] at h
  case quo =>
    split at h
    · cases h
    · rename_i hy
      obtain rfl := Option.some.inj h
      exact ⟨_, by simp [binOp, Op.intDiv, hy], .int _ _⟩
  case rem =>
    split at h
    · cases h
    · rename_i hy
      obtain rfl := Option.some.inj h
      exact ⟨_, by simp [binOp, Op.intDiv, hy], .int _ _⟩
  all_goals
    obtain rfl := Option.some.inj h
    exact ⟨_, by simp only [binOp, Op.intArith, Op.intCmp, Op.intBits, ne_eq, not_true_eq_false, if_false]; rfl, by first | exact .int _ _ | exact .bool _⟩

theorem binS_run {op : BinOp} {x y : ByteArray} {r : AV} (t : TypeId) (h : binS op x y = some r) : ∃ u, (binOp op t (.string x) (.string y)).run P w = .ok u w ∧ Rep E n w r u := by
  cases op <;> simp only [binS, reduceCtorEq] at h
  all_goals
    obtain rfl := Option.some.inj h
    exact ⟨_, by simp only [binOp, Op.stringOp]; rfl, .bool _⟩

theorem s_bin (S : Sim P T E st w) (F : RepL E st.objs.length w fr a.tmps.toList) {op' : BinOp} {x y : Opd} (hc : chkOp P o.op (.bin op' x y) = true) (h : exOp O fr st (.bin op' x y) = some (v, st')) : Goes P T E st w o a v st' := by
  obtain ⟨dst, op, ty', pos, after, guard⟩ := o
  cases op <;> simp only [chkOp, Bool.false_eq_true] at hc
  rename_i op t p q ty2
  simp only [Bool.and_eq_true, decide_eq_true_eq] at hc
  obtain ⟨⟨rfl, h1⟩, h2⟩ := hc
  obtain ⟨hb, rfl⟩ := opt_get h
  have r1 := ev_rep S.glob F h1
  have r2 := ev_rep S.glob F h2
  unfold bin at hb
  split at hb
  · rename_i k x k' y e1 e2
    split at hb
    · rename_i hk
      subst hk
      rw [e1] at r1; rw [e2] at r2
      obtain ⟨u, hu, hr⟩ := binI_run (P := P) (E := E) (n := st'.objs.length) (w := w) t hb
      exact Goes.quiet S (cv := u) (by simp [execOp, rep_int r1, rep_int r2, eqGuard_int, hu]) hr
    · cases hb
  · rename_i x y e1 e2
    rw [e1] at r1; rw [e2] at r2
    obtain ⟨u, hu, hr⟩ := binS_run (P := P) (E := E) (n := st'.objs.length) (w := w) t hb
    exact Goes.quiet S (cv := u) (by simp [execOp, rep_str r1, rep_str r2, eqGuard_str, hu]) hr
  · cases hb

theorem equal_bool {t : TypeId} (ht : P.underlying t = some .bool) (b c : Bool) : (Op.equal t (.bool b) (.bool c)).run P w = .ok (b == c) w := by
  have key : ∀ d, (Op.equalIn (d + 1) t (.bool b) (.bool c)).run P w = .ok (b == c) w := fun d => by simp [Op.equalIn, run_underlying ht]
  exact key 9999

theorem s_beq (S : Sim P T E st w) (F : RepL E st.objs.length w fr a.tmps.toList) {ng : Bool} {x y : Opd} (hc : chkOp P o.op (.beq ng x y) = true) (h : exOp O fr st (.beq ng x y) = some (v, st')) : Goes P T E st w o a v st' := by
  obtain ⟨dst, op, ty', pos, after, guard⟩ := o
  cases op <;> simp only [chkOp, Bool.false_eq_true] at hc
  rename_i op t p q ty2
  simp only [Bool.and_eq_true] at hc
  obtain ⟨⟨⟨h0, h1⟩, h2⟩, h3⟩ := hc
  have ht : P.underlying t = some .bool := by
    split at h3
    · assumption
    · cases h3
  have r1 := ev_rep S.glob F h1
  have r2 := ev_rep S.glob F h2
  simp only [exOp] at h
  split at h
  · rename_i b c e1 e2
    obtain ⟨rfl, rfl⟩ : _ ∧ _ := by simpa using h
    rw [e1] at r1; rw [e2] at r2
    have he := equal_bool (P := P) (w := w) ht b c
    cases op <;> simp only [Bool.false_eq_true] at h0
    · obtain rfl : ng = false := by simpa using h0
      exact Goes.quiet S (cv := .bool (b == c)) (by simp [execOp, rep_bool r1, rep_bool r2, eqGuard_bool, binOp, he]) (by simpa using Rep.bool _)
    · subst h0
      exact Goes.quiet S (cv := .bool !(b == c)) (by simp [execOp, rep_bool r1, rep_bool r2, eqGuard_bool, binOp, he]) (by simpa using Rep.bool _)
  · cases h

theorem s_not (S : Sim P T E st w) (F : RepL E st.objs.length w fr a.tmps.toList) {x : Opd} (hc : chkOp P o.op (.not x) = true) (h : exOp O fr st (.not x) = some (v, st')) : Goes P T E st w o a v st' := by
  obtain ⟨dst, op, ty', pos, after, guard⟩ := o
  cases op <;> simp only [chkOp, Bool.false_eq_true] at hc
  rename_i uo t y
  cases uo <;> simp only [Bool.false_eq_true] at hc
  have r1 := ev_rep S.glob F hc
  simp only [exOp] at h
  split at h
  · rename_i b e
    obtain ⟨rfl, rfl⟩ : _ ∧ _ := by simpa using h
    rw [e] at r1
    exact Goes.quiet S (cv := .bool !b) (by simp [execOp, rep_bool r1, Op.unary]) (.bool _)
  · cases h

theorem s_neg (S : Sim P T E st w) (F : RepL E st.objs.length w fr a.tmps.toList) {x : Opd} (hc : chkOp P o.op (.neg x) = true) (h : exOp O fr st (.neg x) = some (v, st')) : Goes P T E st w o a v st' := by
  obtain ⟨dst, op, ty', pos, after, guard⟩ := o
  cases op <;> simp only [chkOp, Bool.false_eq_true] at hc
  rename_i uo t y
  cases uo <;> simp only [Bool.false_eq_true] at hc
  have r1 := ev_rep S.glob F hc
  simp only [exOp] at h
  split at h
  · rename_i k b e
    simp only [Option.some.injEq, Prod.mk.injEq] at h
    obtain ⟨rfl, rfl⟩ := h
    rw [e] at r1
    exact Goes.quiet S (cv := .int k (k.wrap (0 - b))) (by simp [execOp, rep_int r1, Op.unary, Op.intArith]) (.int _ _)
  · cases h

theorem s_com (S : Sim P T E st w) (F : RepL E st.objs.length w fr a.tmps.toList) {x : Opd} (hc : chkOp P o.op (.com x) = true) (h : exOp O fr st (.com x) = some (v, st')) : Goes P T E st w o a v st' := by
  obtain ⟨dst, op, ty', pos, after, guard⟩ := o
  cases op <;> simp only [chkOp, Bool.false_eq_true] at hc
  rename_i uo t y
  cases uo <;> simp only [Bool.false_eq_true] at hc
  have r1 := ev_rep S.glob F hc
  simp only [exOp] at h
  split at h
  · rename_i k b e
    simp only [Option.some.injEq, Prod.mk.injEq] at h
    obtain ⟨rfl, rfl⟩ := h
    rw [e] at r1
    unfold comI
    exact Goes.quiet S (cv := .int k (bitI .xor k (if k.signed then -1 else k.max) b)) (by simp [execOp, rep_int r1, Op.unary, Op.intBits, bitI]) (.int _ _)
  · cases h

theorem s_conv (S : Sim P T E st w) (F : RepL E st.objs.length w fr a.tmps.toList) {k : IntKind} {x : Opd} (hc : chkOp P o.op (.conv k x) = true) (h : exOp O fr st (.conv k x) = some (v, st')) : Goes P T E st w o a v st' := by
  obtain ⟨dst, op, ty', pos, after, guard⟩ := o
  cases op <;> simp only [chkOp, Bool.false_eq_true] at hc
  rename_i s d y
  simp only [Bool.and_eq_true] at hc
  obtain ⟨⟨h1, h2⟩, h3⟩ := hc
  have hd : P.underlying d = some (.int k) := by
    split at h3
    · rename_i k' e; rw [e, of_decide_eq_true h3]
    · cases h3
  obtain ⟨ds, hs⟩ := Option.isSome_iff_exists.1 h2
  have r1 := ev_rep S.glob F h1
  simp only [exOp] at h
  split at h
  · rename_i k' b e
    obtain ⟨rfl, rfl⟩ : _ ∧ _ := by simpa using h
    rw [e] at r1
    exact Goes.quiet S (cv := .int k (k.wrap b)) (by simp [execOp, rep_int r1, convert, run_underlying hs, run_underlying hd, Conv.intToInt]) (.int _ _)
  · cases h

theorem s_same (S : Sim P T E st w) (F : RepL E st.objs.length w fr a.tmps.toList) {x : Opd} (hc : chkOp P o.op (.same x) = true) (h : exOp O fr st (.same x) = some (v, st')) : Goes P T E st w o a v st' := by
  obtain ⟨dst, op, ty', pos, after, guard⟩ := o
  cases op <;> simp only [chkOp, Bool.false_eq_true] at hc
  rename_i s d y
  simp only [Bool.and_eq_true] at hc
  obtain ⟨⟨h1, h2⟩, h3⟩ := hc
  have hd : P.underlying d = some .string := by
    split at h3
    · assumption
    · cases h3
  obtain ⟨ds, hs⟩ := Option.isSome_iff_exists.1 h2
  have r1 := ev_rep S.glob F h1
  simp only [exOp] at h
  split at h
  · rename_i b e
    obtain ⟨rfl, rfl⟩ : _ ∧ _ := by simpa using h
    rw [e] at r1
    exact Goes.quiet S (cv := .string b) (by simp [execOp, rep_str r1, convert, run_underlying hs, run_underlying hd]) (.str _)
  · cases h

theorem s_mkfn (S : Sim P T E st w) (F : RepL E st.objs.length w fr a.tmps.toList) {f : Fn} {x y : List Opd} (hc : chkOp P o.op (.mkfn f x y) = true) (h : exOp O fr st (.mkfn f x y) = some (v, st')) : Goes P T E st w o a v st' := by
  obtain ⟨dst, op, ty', pos, after, guard⟩ := o
  cases op <;> simp only [chkOp, Bool.false_eq_true] at hc
  rename_i f' p q
  simp only [Bool.and_eq_true, decide_eq_true_eq] at hc
  obtain ⟨⟨rfl, h1⟩, h2⟩ := hc
  obtain ⟨rfl, rfl⟩ : _ ∧ _ := by simpa [exOp] using h
  have r1 := evs_rep S.glob F h1
  have r2 := evs_rep S.glob F h2
  refine Goes.quiet S (cv := .func (rlF f) (p.map a.eval) (q.map a.eval)) (by simp [execOp, Instr.makeFunc]) (.fn (by simpa using r1.len) (fun j x u hx hu => r1.at_ j x u hx ?_) (by simpa using r2.len) (fun j x u hx hu => r2.at_ j x u hx ?_))
  · rw [← Array.getElem?_toList] at hu; simpa using hu
  · rw [← Array.getElem?_toList] at hu; simpa using hu

theorem s_fieldA (S : Sim P T E st w) (F : RepL E st.objs.length w fr a.tmps.toList) {off : Nat} {x : Opd} (hc : chkOp P o.op (.fieldA off x) = true) (h : exOp O fr st (.fieldA off x) = some (v, st')) : Goes P T E st w o a v st' := by
  obtain ⟨dst, op, ty', pos, after, guard⟩ := o
  cases op <;> simp only [chkOp, Bool.false_eq_true] at hc
  rename_i s y f
  simp only [Bool.and_eq_true] at hc
  obtain ⟨h1, h2⟩ := hc
  split at h2
  · rename_i fs hfs
    split at h2
    · rename_i fd hfd
      simp only [Bool.and_eq_true, beq_iff_eq] at h2
      obtain ⟨rfl, h3⟩ := h2
      split at h3
      · rename_i i hi
        have hne : i.size ≠ 0 := by simpa using h3
        have r1 := ev_rep S.glob F h1
        have run : ∀ b o', (Instr.fieldAt s (.pointer (some ⟨b, o', none⟩)) f).run P w = .ok (.pointer (some ⟨b, o' + fd.offset, none⟩)) w := by
          intro b o'
          simp [Instr.fieldAt, run_underlying hfs, hfd, Instr.sureAddr, fieldPlace, Go.sizeOf, typeInfo, hi, hne, Addr.add_lit]
        simp only [exOp] at h
        generalize ev fr x = u at h r1
        generalize hz : a.eval y = z at r1
        cases r1
        all_goals try (cases h; done)
        case ptr r i off o' hr ho =>
          obtain ⟨rfl, rfl⟩ : _ ∧ _ := by simpa using h
          exact Goes.quiet S (cv := .pointer (some ⟨(E.L r).blk, o' + fd.offset, none⟩)) (by simp [execOp, hz, run]) (.ptr i (off + fd.offset) _ hr (by omega))
        case vptr cs b o' c hF hc' hh =>
          obtain ⟨rfl, rfl⟩ : _ ∧ _ := by simpa using h
          refine Goes.quiet S (cv := .pointer (some ⟨b, o' + fd.offset, none⟩)) (by simp [execOp, hz, run]) (.vptr b (o' + fd.offset) (fun j => c (fd.offset + j)) hF (fun j hj => ?_) fun j x hx => hh _ x (by simpa using hx))
          have := hc' (fd.offset + j) (by simp at hj; omega)
          rwa [← Nat.add_assoc] at this
      · cases h3
    · cases h2
  · cases h2

theorem run_part {t : Nat} {agg : Bool} {off sz : Nat} {vs : Array Value} (hs : sizeB P t sz = true) (ha : isAggB P t agg = true) (h1 : agg = true ∨ sz = 1) (hl : off + sz ≤ vs.size) :
    (part t vs off).run P w = .ok (if agg = true then .agg ((List.range sz).map fun j => vs.getD (off + j) undef).toArray else vs.getD off undef) w := by
  unfold part
  simp only [Sem.run_bind, run_isAgg ha, Result.andThen_ok]
  cases agg with
  | true =>
    simp only [if_true, Sem.run_bind, run_sizeOf hs, Result.andThen_ok, Sem.run_pure]
    congr 2
    apply Array.ext_getElem?
    intro j
    simp only [Array.getElem?_extract, List.getElem?_toArray, List.getElem?_map]
    by_cases hj : j < sz
    · have : off + j < vs.size := by omega
      simp [hj, this, show j < min (off + sz) vs.size - off by omega]
    · simp [hj, show ¬ j < min (off + sz) vs.size - off by omega]
  | false =>
    have h0 : sz = 1 := by simpa using h1
    subst h0
    simp [show off < vs.size by omega]

theorem s_field (S : Sim P T E st w) (F : RepL E st.objs.length w fr a.tmps.toList) {agg : Bool} {off sz : Nat} {x : Opd} (hc : chkOp P o.op (.field agg off sz x) = true) (h : exOp O fr st (.field agg off sz x) = some (v, st')) : Goes P T E st w o a v st' := by
  obtain ⟨dst, op, ty', pos, after, guard⟩ := o
  cases op <;> simp only [chkOp, Bool.false_eq_true] at hc
  rename_i s y f
  simp only [Bool.and_eq_true] at hc
  obtain ⟨h1, h2⟩ := hc
  split at h2
  · rename_i fs hfs
    split at h2
    · rename_i fd hfd
      simp only [Bool.and_eq_true, Bool.or_eq_true, beq_iff_eq] at h2
      obtain ⟨⟨⟨rfl, h3⟩, h4⟩, h5⟩ := h2
      have r1 := ev_rep S.glob F h1
      simp only [exOp] at h
      generalize ev fr x = u at h r1
      generalize hz : a.eval y = z at r1
      cases r1
      all_goals try (cases h; done)
      case agg cs vs hl hh =>
        simp only at h
        split at h
        · rename_i hle
          obtain ⟨hv, rfl⟩ := opt_get h
          have hrun := run_part (P := P) (w := w) (off := fd.offset) (vs := vs) h3 h4 h5 (by omega)
          refine Goes.quiet S (cv := _) (by simp [execOp, hz, Instr.field, run_underlying hfs, hfd, asAgg, hrun]; rfl) ?_
          have := val_rep (E := E) (n := st'.objs.length) (w := w) hv (sz := sz) (by simp; omega) (fun j => vs.getD (fd.offset + j) undef) fun j y hy => ?_
          · simpa using this
          · have hj : j < sz := by have := lt_of_get hy; simp at this; omega
            refine hh (fd.offset + j) y _ (by simpa [List.getElem?_take, hj] using hy) ?_
            simp [show fd.offset + j < vs.size by omega]
        · cases h
    · cases h2
  · cases h2

end
end Go.Proofs.Ytgabnhmjlhhojaa.A

/- Indexes, parts of slices, builtins, literals. -/
namespace Go.Proofs.Ytgabnhmjlhhojaa.A
open Go

section
variable {P : Program} {T : Tab} {E E' : Env} {st st' : St} {w w' : World} {n : Nat}
variable {o : Oper} {a : Act} {fr : List AV} {v : AV} {O : Orc}

theorem inB_get {i : Int} {n : Nat} (h : inB i n = true) : 0 ≤ i ∧ i < n ∧ i.toNat < n := by
  simp only [inB, Bool.and_eq_true, decide_eq_true_eq] at h
  omega

theorem run_idx {t e sz : Nat} (ht : P.underlying t = some (.slice e)) (hs : sizeB P e sz = true) {k : IntKind} {i : Int} {len cp : Nat} (h0 : 0 ≤ i) (h1 : i < len) (b o' : Nat) :
    (Instr.indexAt t (.slice (some ⟨b, o', none⟩) len cp) (.int k i)).run P w = .ok (.pointer (some ⟨b, o' + i.toNat * sz, none⟩)) w := by
  simp [Instr.indexAt, asIntOf, run_underlying ht, h0, h1, run_sizeOf hs, Addr.add_lit]

theorem drop_get {α : Type} {l : List α} {d j : Nat} {x : α} (h : (l.drop d)[j]? = some x) : l[d + j]? = some x := by simpa using h

theorem s_idxA (S : Sim P T E st w) (F : RepL E st.objs.length w fr a.tmps.toList) {sz : Nat} {x i : Opd} (hc : chkOp P o.op (.idxA sz x i) = true) (h : exOp O fr st (.idxA sz x i) = some (v, st')) : Goes P T E st w o a v st' := by
  obtain ⟨dst, op, ty', pos, after, guard⟩ := o
  cases op <;> simp only [chkOp, Bool.false_eq_true] at hc
  rename_i t y j
  simp only [Bool.and_eq_true] at hc
  obtain ⟨⟨h1, h2⟩, h3⟩ := hc
  split at h3
  · rename_i e he
    simp only [Bool.and_eq_true, decide_eq_true_eq] at h3
    obtain ⟨h4, h5⟩ := h3
    obtain ⟨hi, rfl⟩ := opt_get h
    have r1 := ev_rep S.glob F h1
    have r2 := ev_rep S.glob F h2
    generalize ev fr x = u at hi r1
    generalize hz : a.eval y = z at r1
    have gen : ∀ (es : List (List AV)) (k : IntKind) (iv : Int) (b o' len cp : Nat) (c : Nat → Nat → Value) (ax : Option Addr), ev fr i = .int k iv → inB iv es.length = true → z = .slice ax len cp → len = es.length →
        (∀ e ∈ es, e.length = sz) → (es = [] ∨ (ax = some ⟨b, o', none⟩ ∧ E.F b)) →
        (∀ i j, i < es.length → j < sz → w.cell? ⟨b, o' + i * sz + j, none⟩ = some (c i j) ∧ (c i j).oneCell' = true) →
        (∀ i e j x, es[i]? = some e → e[j]? = some x → Rep E st'.objs.length w x (c i j)) → v = .vptr (es.getD iv.toNat []) →
        Goes P T E st' w ⟨dst, .indexAddr t y j, ty', pos, after, guard⟩ a v st' := by
      intro es k iv b o' len cp c ax e1 hin hzz hlen hes ha hcc hh hv
      obtain ⟨b1, b2, b3⟩ := inB_get hin
      rw [e1] at r2
      obtain ⟨rfl, hF⟩ := ha.resolve_left (by rintro rfl; simp at b3)
      subst hzz hlen hv
      refine Goes.quiet S (cv := .pointer (some ⟨b, o' + iv.toNat * sz, none⟩)) (by simp [execOp, hz, rep_int r2, run_idx he h4 b1 b2]) (.vptr b _ (c iv.toNat) hF (fun q hq => ?_) fun q x hx => ?_)
      · have hel : (es.getD iv.toNat []).length = sz := by simp only [List.getD, List.getElem?_eq_getElem b3, Option.getD_some]; exact hes _ (List.getElem_mem b3)
        exact hcc iv.toNat q b3 (by omega)
      · exact hh iv.toNat es[iv.toNat] q x (by simp [b3]) (by simpa [List.getD, b3] using hx)
    cases hx : ev fr i with
    | int k iv =>
      rw [hx] at hi
      cases r1
      all_goals try (simp only [idxA, reduceCtorEq] at hi; done)
      case sl s es ax len cp b o' c hl hcp hs ha hcc hh =>
        simp only [idxA] at hi
        split at hi
        · rename_i hcond
          obtain ⟨hin, rfl⟩ := hcond
          exact gen es k iv b o' len cp c ax hx hin rfl hl hs ha hcc hh (Option.some.inj hi).symm
        · cases hi
      case fsl s es ax len cp b o' c hl hcp hs ha hcc hh =>
        simp only [idxA] at hi
        split at hi
        · rename_i hcond
          obtain ⟨hin, rfl⟩ := hcond
          exact gen es k iv b o' len cp c ax hx hin rfl hl hs ha hcc hh (Option.some.inj hi).symm
        · cases hi
      case own r lo m cp full ax hr hm q1 q2 ha =>
        simp only [idxA] at hi
        split at hi
        · rename_i ty s es hr'
          split at hi
          · rename_i hcond
            obtain ⟨hin, rfl, hle⟩ := hcond
            obtain rfl := (Option.some.inj hi).symm
            obtain ⟨b1, b2, b3⟩ := inB_get hin
            rw [hx] at r2
            obtain rfl := ha.resolve_left (by omega)
            have hsz := (S.obj r _ (arr_get hr')).1
            exact Goes.quiet S (cv := .pointer (some ⟨(E.L r).blk, lo * (E.L r).sz + iv.toNat * s, none⟩)) (by simp [execOp, hz, rep_int r2, run_idx he h4 b1 b2])
              (.ptr (lo + iv.toNat) 0 _ hr (by rw [hsz, Nat.add_mul]; rfl))
          · cases hi
        · cases hi
    | _ => rw [hx] at hi; cases u <;> simp [idxA] at hi
  · cases h3

theorem run_idxArr {t e m sz : Nat} (ht : P.underlying t = some (.array m e)) (hs : sizeB P e sz = true) {k : IntKind} {i : Int} (h0 : 0 ≤ i) (h1 : i < m) (b o' : Nat) :
    (Instr.indexAt t (.pointer (some ⟨b, o', none⟩)) (.int k i)).run P w = .ok (.pointer (some ⟨b, o' + i.toNat * sz, none⟩)) w := by
  simp [Instr.indexAt, asIntOf, run_underlying ht, Instr.sureAddr, h0, h1, run_sizeOf hs, Addr.add_lit]

theorem s_idxV (S : Sim P T E st w) (F : RepL E st.objs.length w fr a.tmps.toList) {sz : Nat} {x i : Opd} (hc : chkOp P o.op (.idxV sz x i) = true) (h : exOp O fr st (.idxV sz x i) = some (v, st')) : Goes P T E st w o a v st' := by
  refine s_idxA (O := O) S F (sz := sz) (x := x) (i := i) ?_ ?_
  · obtain ⟨dst, op, ty', pos, after, guard⟩ := o
    cases op <;> first | exact hc | (simp only [chkOp, Bool.false_eq_true] at hc)
  · simp only [exOp] at h ⊢
    rw [← h]
    congr 1
    cases hx : ev fr x <;> cases hi : ev fr i <;> rw [hx, hi] at h <;> first | rfl | (simp [idxV, opt] at h; done)

theorem s_idxArrA (S : Sim P T E st w) (F : RepL E st.objs.length w fr a.tmps.toList) {m sz : Nat} {x i : Opd} (hc : chkOp P o.op (.idxArrA m sz x i) = true) (h : exOp O fr st (.idxArrA m sz x i) = some (v, st')) : Goes P T E st w o a v st' := by
  obtain ⟨dst, op, ty', pos, after, guard⟩ := o
  cases op <;> simp only [chkOp, Bool.false_eq_true] at hc
  rename_i t y j
  simp only [Bool.and_eq_true] at hc
  obtain ⟨⟨h1, h2⟩, h3⟩ := hc
  split at h3
  · rename_i m' e he
    simp only [Bool.and_eq_true, decide_eq_true_eq, beq_iff_eq] at h3
    obtain ⟨⟨rfl, h4⟩, h5⟩ := h3
    obtain ⟨hi, rfl⟩ := opt_get h
    have r1 := ev_rep S.glob F h1
    have r2 := ev_rep S.glob F h2
    generalize ev fr x = u at hi r1
    generalize hz : a.eval y = z at r1
    cases hx : ev fr i with
    | int k iv =>
      rw [hx] at hi r2
      cases r1
      all_goals try (simp only [idxArrA, reduceCtorEq] at hi; done)
      case ptr r i' off o' hr ho =>
        simp only [idxArrA] at hi
        split at hi
        · rename_i hin
          obtain ⟨b1, b2, b3⟩ := inB_get hin
          obtain rfl := (Option.some.inj hi).symm
          exact Goes.quiet S (cv := .pointer (some ⟨(E.L r).blk, o' + iv.toNat * sz, none⟩)) (by simp [execOp, hz, rep_int r2, run_idxArr he h4 b1 b2]) (.ptr i' _ _ hr (by omega))
        · cases hi
      case vptr cs b o' c hF hcc hh =>
        simp only [idxArrA] at hi
        split at hi
        · rename_i hin
          obtain ⟨b1, b2, b3⟩ := inB_get hin
          obtain rfl := (Option.some.inj hi).symm
          refine Goes.quiet S (cv := .pointer (some ⟨b, o' + iv.toNat * sz, none⟩)) (by simp [execOp, hz, rep_int r2, run_idxArr he h4 b1 b2]) (.vptr b _ (fun q => c (iv.toNat * sz + q)) hF (fun q hq => ?_) fun q x hx => hh _ x (drop_get hx))
          have := hcc (iv.toNat * sz + q) (by simp at hq; omega)
          rwa [← Nat.add_assoc] at this
        · cases hi
    | _ => rw [hx] at hi; cases u <;> simp [idxArrA] at hi
  · cases h3

theorem s_idxS (S : Sim P T E st w) (F : RepL E st.objs.length w fr a.tmps.toList) {x i : Opd} (hc : chkOp P o.op (.idxS x i) = true) (h : exOp O fr st (.idxS x i) = some (v, st')) : Goes P T E st w o a v st' := by
  obtain ⟨dst, op, ty', pos, after, guard⟩ := o
  cases op <;> simp only [chkOp, Bool.false_eq_true] at hc
  rename_i t y j
  simp only [Bool.and_eq_true] at hc
  obtain ⟨⟨h1, h2⟩, h3⟩ := hc
  have ht : P.underlying t = some .string := by
    split at h3
    · assumption
    · cases h3
  have r1 := ev_rep S.glob F h1
  have r2 := ev_rep S.glob F h2
  simp only [exOp] at h
  split at h
  · rename_i s k iv e1 e2
    rw [e1] at r1; rw [e2] at r2
    split at h
    · rename_i hin
      obtain ⟨b1, b2, b3⟩ := inB_get hin
      simp only [Option.some.injEq, Prod.mk.injEq] at h
      obtain ⟨rfl, rfl⟩ := h
      have hg : s[iv.toNat]? = some (s.data.toList.getD iv.toNat 0) := by
        have b4 : iv.toNat < s.data.size := b3
        simp only [List.getD, Array.getElem?_toList, Array.getElem?_eq_getElem b4, Option.getD_some]
        exact getElem?_pos s iv.toNat b3
      exact Goes.quiet S (cv := .int .u8 (s.data.toList.getD iv.toNat 0).toNat) (by simp [execOp, rep_str r1, rep_int r2, Instr.index, asIntOf, run_underlying ht, b1, hg]) (.int _ _)
    · cases h
  · cases h

theorem natB_run {oo : Option AV} {d lo hi r : Nat} (h : natB oo d lo hi = some r) : (oo = none ∧ r = d) ∨ ∃ k i, oo = some (.int k i) ∧ (lo : Int) ≤ i ∧ i ≤ hi ∧ r = i.toNat := by
  unfold natB at h
  split at h
  · exact .inl ⟨rfl, (Option.some.inj h).symm⟩
  · split at h
    · rename_i hc; exact .inr ⟨_, _, rfl, hc.1, hc.2, (Option.some.inj h).symm⟩
    · cases h
  · cases h

theorem bound_run {k : IntKind} {i : Int} {y : Nat} {code : BoundsCode} (h0 : 0 ≤ i) (h1 : i ≤ y) : (Instr.sliceBound (.int k i) y code).run P w = .ok i.toNat w := by
  simp [Instr.sliceBound, asIntOf, h0, h1]

theorem opdO_rep (G : GlobOk E w) (F : RepL E n w fr a.tmps.toList) {x : Option Opd} {y : Option Operand} (h : opdO x y = true) :
    (x = none ∧ y = none) ∨ ∃ x' y', x = some x' ∧ y = some y' ∧ Rep E n w (ev fr x') (a.eval y') := by
  unfold opdO at h
  split at h
  · exact .inl ⟨rfl, rfl⟩
  · exact .inr ⟨_, _, rfl, rfl, ev_rep G F h⟩
  · cases h

/-- the bounds of a slice expression -/
theorem bounds_run (isSl : Bool) (G : GlobOk E w) (F : RepL E n w fr a.tmps.toList) {lo hi mx : Option Opd} {lo' hi' mx' : Option Operand} (h1 : opdO lo lo' = true) (h2 : opdO hi hi' = true) (h3 : opdO mx mx' = true) (h4 : mx'.isNone = true ∨ hi'.isSome = true)
    {len cap l h : Nat} (hle : len ≤ cap) (eh : natB (hi.map (ev fr)) len 0 len = some h) (el : natB (lo.map (ev fr)) 0 0 h = some l) :
    h ≤ len ∧ l ≤ h ∧ (mx = none → (Instr.sliceBounds isSl len cap (lo'.map a.eval) (hi'.map a.eval) (mx'.map a.eval)).run P w = .ok (l, h, cap) w) ∧
      (∀ k (m : Int) x, mx = some x → ev fr x = .int k m → m = h → (Instr.sliceBounds isSl len cap (lo'.map a.eval) (hi'.map a.eval) (mx'.map a.eval)).run P w = .ok (l, h, h) w) := by
  have hh : h ≤ len := by
    rcases natB_run eh with ⟨_, rfl⟩ | ⟨k, i, _, i0, i1, rfl⟩ <;> omega
  have hl : l ≤ h := by
    rcases natB_run el with ⟨_, rfl⟩ | ⟨k, i, _, i0, i1, rfl⟩ <;> omega
  have low : ∀ (code : BoundsCode) v, lo'.map a.eval = some v → (Instr.sliceBound v h code).run P w = .ok l w := by
    intro code v hv
    rcases opdO_rep G F h1 with ⟨e1, e2⟩ | ⟨x', y', e1, e2, hr⟩
    · subst e2; simp at hv
    · subst e1 e2
      rcases natB_run el with ⟨e, _⟩ | ⟨k, i, e, i0, i1, rfl⟩
      · simp at e
      · simp at e hv; subst hv; rw [e] at hr
        rw [rep_int hr]
        exact bound_run i0 i1
  have nolow : lo'.map a.eval = none → l = 0 := by
    intro e
    rcases opdO_rep G F h1 with ⟨e1, e2⟩ | ⟨x', y', e1, e2, hr⟩
    · subst e1; simp [natB] at el; omega
    · subst e2; simp at e
  have high : ∀ (code : BoundsCode) (y : Nat), h ≤ y → ∀ v, hi'.map a.eval = some v → (Instr.sliceBound v y code).run P w = .ok h w := by
    intro code y hy v hv
    rcases opdO_rep G F h2 with ⟨e1, e2⟩ | ⟨x', y', e1, e2, hr⟩
    · subst e2; simp at hv
    · subst e1 e2
      rcases natB_run eh with ⟨e, _⟩ | ⟨k, i, e, i0, i1, rfl⟩
      · simp at e
      · simp at e; rw [e] at hr
        simp at hv; subst hv
        rw [rep_int hr]
        exact bound_run i0 (by omega)
  have nohigh : hi'.map a.eval = none → h = len := by
    intro e
    rcases opdO_rep G F h2 with ⟨e1, e2⟩ | ⟨x', y', e1, e2, hr⟩
    · subst e1; simp [natB] at eh; exact eh.symm
    · subst e2; simp at e
  refine ⟨hh, hl, fun hmx => ?_, fun k m x hmx hm hmh => ?_⟩
  · subst hmx
    rcases opdO_rep G F h3 with ⟨_, e2⟩ | ⟨x', y', e1, _⟩
    · subst e2
      unfold Instr.sliceBounds
      cases hhi : hi'.map a.eval with
      | none =>
        have e := nohigh hhi
        subst e
        cases hlo : lo'.map a.eval with
        | none => obtain rfl := nolow hlo; simp
        | some u => simp [low .sliceB u hlo]
      | some v =>
        have hhigh := high (if isSl = true then .sliceAcap else .sliceAlen) cap (by omega) v hhi
        cases hlo : lo'.map a.eval with
        | none => obtain rfl := nolow hlo; simp [hhigh]
        | some u => simp [hhigh, low .sliceB u hlo]
    · cases e1
  · subst hmx
    rcases opdO_rep G F h3 with ⟨e1, _⟩ | ⟨x', y', e1, e2, hr⟩
    · cases e1
    · obtain rfl := Option.some.inj e1
      subst e2
      rw [hm] at hr
      have hhs : hi'.isSome = true := by simpa using h4
      obtain ⟨hv, hhv⟩ := Option.isSome_iff_exists.1 hhs
      subst hhv
      have hhigh := high .slice3B h (Nat.le_refl _) (a.eval hv) rfl
      have hmax : (Instr.sliceBound (a.eval y') cap (if isSl = true then .slice3Acap else .slice3Alen)).run P w = .ok h w := by
        rw [rep_int hr, bound_run (by omega) (by omega), hmh]; rfl
      unfold Instr.sliceBounds
      cases hlo : lo'.map a.eval with
      | none => obtain rfl := nolow hlo; simp [hhigh, hmax]
      | some u => simp [hhigh, hmax, low .slice3C u hlo]

end
end Go.Proofs.Ytgabnhmjlhhojaa.A

/- The last operations; then all of them in one. -/
namespace Go.Proofs.Ytgabnhmjlhhojaa.A
open Go

section
variable {P : Program} {T : Tab} {E E' : Env} {st st' : St} {w w' : World} {n : Nat}
variable {o : Oper} {a : Act} {fr : List AV} {v : AV} {O : Orc}

/-- a part of a slice that never changes -/
theorem part_sl {sz : Nat} {es : List (List AV)} {b o' : Nat} {c : Nat → Nat → Value} {ax : Option Addr} {l h m : Nat} {a' : Option Addr} (hs : ∀ e ∈ es, e.length = sz) (hh : h ≤ es.length) (hl : l ≤ h) (hm : h ≤ m)
    (ha : es = [] ∨ (ax = some ⟨b, o', none⟩ ∧ E.F b)) (hc : ∀ i j, i < es.length → j < sz → w.cell? ⟨b, o' + i * sz + j, none⟩ = some (c i j) ∧ (c i j).oneCell' = true)
    (hr : ∀ i e j x, es[i]? = some e → e[j]? = some x → Rep E n w x (c i j)) (haddr : l < h → a' = ax.map (·.add (l * sz))) :
    Rep E n w (.sl sz ((es.take h).drop l)) (.slice a' (h - l) (m - l)) ∧ (m = h → Rep E n w (.fsl sz ((es.take h).drop l)) (.slice a' (h - l) (m - l))) := by
  have hlen : ((es.take h).drop l).length = h - l := by simp; omega
  have h1 : ∀ e ∈ (es.take h).drop l, e.length = sz := fun e he => hs e (List.mem_of_mem_take (List.mem_of_mem_drop he))
  have h2 : (es.take h).drop l = [] ∨ (a' = some ⟨b, o' + l * sz, none⟩ ∧ E.F b) := by
    by_cases hlt : l < h
    · right
      obtain ⟨e1, e2⟩ := ha.resolve_left (by rintro rfl; simp at hh; omega)
      exact ⟨by rw [haddr hlt, e1]; simp [Addr.add_lit], e2⟩
    · left; exact List.eq_nil_of_length_eq_zero (by omega)
  have h3 : ∀ i j, i < ((es.take h).drop l).length → j < sz → w.cell? ⟨b, o' + l * sz + i * sz + j, none⟩ = some (c (l + i) j) ∧ (c (l + i) j).oneCell' = true := by
    intro i j hi hj
    have := hc (l + i) j (by omega) hj
    rwa [show o' + (l + i) * sz + j = o' + l * sz + i * sz + j by rw [Nat.add_mul]; omega] at this
  have h4 : ∀ i e j x, ((es.take h).drop l)[i]? = some e → e[j]? = some x → Rep E n w x (c (l + i) j) := by
    intro i e j x he hx
    refine hr (l + i) e j x ?_ hx
    have := drop_get he
    rw [List.getElem?_take] at this
    split at this
    · exact this
    · cases this
  exact ⟨.sl b _ (fun i j => c (l + i) j) hlen.symm (by omega) h1 h2 h3 h4, fun e => .fsl b _ (fun i j => c (l + i) j) hlen.symm (by omega) h1 h2 h3 h4⟩

theorem run_slice {t e sz : Nat} (ht : P.underlying t = some (.slice e)) (hs : sizeB P e sz = true) {ax : Option Addr} {len cap l h m : Nat} {lo hi mx : Option Value}
    (hb : (Instr.sliceBounds true len cap lo hi mx).run P w = .ok (l, h, m) w) :
    (Instr.sliceAt t (.slice ax len cap) lo hi mx).run P w = .ok (.slice (if m = l then ax else ax.map (·.add (l * sz))) (h - l) (m - l)) w := by
  simp [Instr.sliceAt, Instr.slice, run_underlying ht, hb, run_sizeOf hs]

theorem s_slice (S : Sim P T E st w) (F : RepL E st.objs.length w fr a.tmps.toList) {sz : Nat} {x : Opd} {lo hi mx : Option Opd} (hc : chkOp P o.op (.slice sz x lo hi mx) = true) (h : exOp O fr st (.slice sz x lo hi mx) = some (v, st')) : Goes P T E st w o a v st' := by
  obtain ⟨dst, op, ty', pos, after, guard⟩ := o
  cases op <;> simp only [chkOp, Bool.false_eq_true] at hc
  rename_i t y lo' hi' mx'
  simp only [Bool.and_eq_true, Bool.or_eq_true] at hc
  obtain ⟨⟨⟨⟨⟨h1, h2⟩, h3⟩, h4⟩, h5⟩, h6⟩ := hc
  split at h6
  · rename_i e he
    simp only [Bool.and_eq_true, decide_eq_true_eq] at h6
    obtain ⟨hs, hpos⟩ := h6
    obtain ⟨hv, rfl⟩ := opt_get h
    have r1 := ev_rep S.glob F h1
    generalize ev fr x = u at hv r1
    generalize hz : a.eval y = z at r1
    -- a slice by value
    have gen : ∀ (s : Nat) (es : List (List AV)) (full : Bool) (b o' len cp : Nat) (c : Nat → Nat → Value) (ax : Option Addr), z = .slice ax len cp → len = es.length → len ≤ cp → (full = true → cp = len) →
        (∀ e ∈ es, e.length = s) → (es = [] ∨ (ax = some ⟨b, o', none⟩ ∧ E.F b)) →
        (∀ i j, i < es.length → j < s → w.cell? ⟨b, o' + i * s + j, none⟩ = some (c i j) ∧ (c i j).oneCell' = true) →
        (∀ i e j x, es[i]? = some e → e[j]? = some x → Rep E st'.objs.length w x (c i j)) →
        (s == sz || es.isEmpty) = true → slcL s es full (lo.map (ev fr)) (hi.map (ev fr)) (mx.map (ev fr)) = some v →
        Goes P T E st' w ⟨dst, .slice t y lo' hi' mx', ty', pos, after, guard⟩ a v st' := by
      intro s es full b o' len cp c ax hzz hlen hcp hful hes ha hcc hh hsz hv
      subst hzz hlen
      have hsz' : s = sz ∨ es = [] := by simpa [Bool.or_eq_true] using hsz
      unfold slcL at hv
      split at hv
      · rename_i hh' eh
        split at hv
        · rename_i l el
          obtain ⟨b1, b2, b3⟩ := bounds_run (P := P) (w := w) true S.glob F h2 h3 h4 h5 hcp eh el
          have addr : ∀ m, hh' ≤ m → l < hh' → (if m = l then ax else ax.map (·.add (l * sz))) = ax.map (·.add (l * s)) := by
            intro m hm hlt
            rw [if_neg (by omega)]
            rcases hsz' with rfl | hsz
            · rfl
            · subst hsz; simp at b1; omega
          split at hv
          · rename_i emx
            have emx' : mx = none := by simpa using emx
            have hb := b3.1 emx'
            have hrun := run_slice (P := P) (ax := ax) he hs hb
            obtain ⟨p1, p2⟩ := part_sl (a' := if cp = l then ax else ax.map (·.add (l * sz))) hes b1 b2 (show hh' ≤ cp by omega) ha hcc hh (addr cp (by omega))
            refine Goes.quiet S (cv := .slice (if cp = l then ax else ax.map (·.add (l * sz))) (hh' - l) (cp - l)) (by simp [execOp, hz, hrun]) ?_
            obtain rfl := Option.some.inj hv
            cases hfl : (full && hh' == es.length) with
            | true =>
              simp only [Bool.and_eq_true, beq_iff_eq] at hfl
              simp only [cond_true]
              exact p2 (by rw [hful hfl.1, hfl.2])
            | false => exact p1
          · rename_i k m emx
            split at hv
            · rename_i hm
              obtain rfl := Option.some.inj hv
              obtain ⟨x', ex', ex2⟩ := Option.map_eq_some_iff.1 emx
              have hb := b3.2 k m x' ex' ex2 hm
              have hrun := run_slice (P := P) (ax := ax) he hs hb
              obtain ⟨p1, p2⟩ := part_sl (a' := if hh' = l then ax else ax.map (·.add (l * sz))) hes b1 b2 (Nat.le_refl hh') ha hcc hh (addr hh' (Nat.le_refl _))
              exact Goes.quiet S (cv := .slice (if hh' = l then ax else ax.map (·.add (l * sz))) (hh' - l) (hh' - l)) (by simp [execOp, hz, hrun]) (p2 rfl)
            · cases hv
          · cases hv
        · cases hv
      · cases hv
    cases r1
    all_goals try (simp only [slc, reduceCtorEq] at hv; done)
    case sl s es ax len cp b o' c hl hcp hs' ha hcc hh =>
      simp only [slc] at hv
      split at hv
      · rename_i hsz
        exact gen s es false b o' len cp c ax rfl hl hcp (by simp) hs' ha hcc hh hsz hv
      · cases hv
    case fsl s es ax len cp b o' c hl hcp hs' ha hcc hh =>
      simp only [slc] at hv
      split at hv
      · rename_i hsz
        exact gen s es true b o' len cp c ax rfl hl (by omega) (fun _ => hcp) hs' ha hcc hh hsz hv
      · cases hv
    case own r lo0 m cp full ax hr hm q1 q2 ha =>
      simp only [slc] at hv
      split at hv
      · rename_i ty s es hr'
        split at hv
        · rename_i hss
          subst hss
          have hlsz := (S.obj r _ (arr_get hr')).1
          split at hv
          · rename_i hh' eh
            split at hv
            · rename_i l el
              obtain ⟨b1, b2, b3⟩ := bounds_run (P := P) (w := w) true S.glob F h2 h3 h4 h5 hm eh el
              have addr : ∀ m', m' ≤ cp → m' - l = 0 ∨ (if m' = l then ax else ax.map (·.add (l * s))) = some ⟨(E.L r).blk, (lo0 + l) * (E.L r).sz, none⟩ := by
                intro m' hm'
                by_cases e : m' = l
                · left; omega
                · rcases ha with ha | ha
                  · left; omega
                  · right; rw [if_neg e]; subst ha; simp [Addr.add_lit, hlsz, Nat.add_mul]
              split at hv
              · rename_i emx
                have emx' : mx = none := by simpa using emx
                have hrun := run_slice (P := P) (ax := ax) he hs (b3.1 emx')
                split at hv
                · cases hv
                · rename_i hfl
                  obtain rfl := Option.some.inj hv
                  refine Goes.quiet S (cv := .slice (if cp = l then ax else ax.map (·.add (l * s))) (hh' - l) (cp - l)) (by simp [execOp, hz, hrun]) (.own hr (by omega) (fun hf => ?_) (fun hf => ?_) (addr cp (Nat.le_refl _)))
                  · have := q1 hf
                    have : hh' = m := by simpa [hf] using hfl
                    omega
                  · have := q2 hf; omega
              · rename_i k mm emx
                split at hv
                · rename_i hmm
                  obtain rfl := Option.some.inj hv
                  obtain ⟨x', ex', ex2⟩ := Option.map_eq_some_iff.1 emx
                  have hrun := run_slice (P := P) (ax := ax) he hs (b3.2 k mm x' ex' ex2 hmm)
                  exact Goes.quiet S (cv := .slice (if hh' = l then ax else ax.map (·.add (l * s))) (hh' - l) (hh' - l)) (by simp [execOp, hz, hrun]) (.own hr (Nat.le_refl _) (fun _ => rfl) (by simp) (addr hh' (by omega)))
                · cases hv
              · cases hv
            · cases hv
          · cases hv
        · cases hv
      · cases hv
  · cases h6

theorem s_sliceS (S : Sim P T E st w) (F : RepL E st.objs.length w fr a.tmps.toList) {x : Opd} {lo hi : Option Opd} (hc : chkOp P o.op (.sliceS x lo hi) = true) (h : exOp O fr st (.sliceS x lo hi) = some (v, st')) : Goes P T E st w o a v st' := by
  obtain ⟨dst, op, ty', pos, after, guard⟩ := o
  cases op <;> simp only [chkOp, Bool.false_eq_true] at hc
  rename_i t y lo' hi' mx'
  cases mx' with
  | some _ => simp at hc
  | none =>
    simp only [Bool.and_eq_true] at hc
    obtain ⟨⟨⟨h1, h2⟩, h3⟩, h6⟩ := hc
    have ht : P.underlying t = some .string := by
      split at h6
      · assumption
      · cases h6
    obtain ⟨hv, rfl⟩ := opt_get h
    have r1 := ev_rep S.glob F h1
    unfold slcS at hv
    split at hv
    · rename_i s es
      rw [es] at r1
      split at hv
      · rename_i hh' eh
        split at hv
        · rename_i l el
          obtain rfl := Option.some.inj hv
          obtain ⟨b1, b2, b3⟩ := bounds_run (P := P) (w := w) false S.glob F h2 h3 (mx := none) (mx' := none) rfl (.inl rfl) (Nat.le_refl s.size) eh el
          have hb := b3.1 rfl
          simp only [Option.map_none] at hb
          exact Goes.quiet S (cv := .string (s.extract l hh')) (by simp [execOp, rep_str r1, Instr.sliceAt, Instr.slice, run_underlying ht, hb]) (.str _)
        · cases hv
      · cases hv
    · cases hv

theorem s_extract (S : Sim P T E st w) (F : RepL E st.objs.length w fr a.tmps.toList) {x : Opd} {i : Nat} (hc : chkOp P o.op (.extract x i) = true) (h : exOp O fr st (.extract x i) = some (v, st')) : Goes P T E st w o a v st' := by
  obtain ⟨dst, op, ty', pos, after, guard⟩ := o
  cases op <;> simp only [chkOp, Bool.false_eq_true] at hc
  rename_i y j
  simp only [Bool.and_eq_true, beq_iff_eq] at hc
  obtain ⟨h1, rfl⟩ := hc
  have r1 := ev_rep S.glob F h1
  simp only [exOp] at h
  split at h
  · rename_i vs e
    split at h
    · rename_i u hu
      obtain ⟨rfl, rfl⟩ : _ ∧ _ := by simpa using h
      rw [e] at r1
      generalize hz : a.eval y = z at r1
      cases r1 with
      | tup hl hh =>
        obtain ⟨cv, hcv⟩ := get_of_len hl (lt_of_get hu)
        exact Goes.quiet S (cv := cv) (by simp [execOp, hz, Instr.extract, hcv]) (hh j _ cv hu hcv)
    · cases h
  · cases h

theorem s_len (S : Sim P T E st w) (F : RepL E st.objs.length w fr a.tmps.toList) {x : Opd} (hc : chkOp P o.op (.len x) = true) (h : exOp O fr st (.len x) = some (v, st')) : Goes P T E st w o a v st' := by
  obtain ⟨dst, op, ty', pos, after, guard⟩ := o
  cases op <;> simp only [chkOp, Bool.false_eq_true] at hc
  rename_i c
  obtain ⟨callee, args, ts⟩ := c
  cases callee <;> simp only [chkCall, Bool.false_eq_true, chkBuiltin] at hc
  rename_i b
  split at hc
  · rename_i y t ey et
    obtain rfl : args = #[y] := by cases args; simpa using ey
    obtain rfl : ts = #[t] := by cases ts; simpa using et
    simp only [Bool.and_eq_true] at hc
    obtain ⟨h1, h2⟩ := hc
    have r1 := ev_rep S.glob F h1
    simp only [exOp] at h
    split at h
    · rename_i m hm
      obtain ⟨rfl, rfl⟩ : _ ∧ _ := by simpa using h
      have ht : ∃ e, P.underlying t = some (.slice e) := by
        split at h2
        · exact ⟨_, by assumption⟩
        · cases h2
      obtain ⟨e, he⟩ := ht
      generalize ev fr x = u at hm r1
      generalize hz : a.eval y = z at r1
      have fin : ∀ ax len cp, z = .slice ax len cp → len = m → Goes P T E st w ⟨dst, .call ⟨.builtin .len, #[y], #[t]⟩, ty', pos, after, guard⟩ a (.int .i64 m) st := by
        rintro ax len cp rfl rfl
        have hr : (Builtin.len_ #[t] ty' #[.slice ax len cp]).run P w = .ok (goInt len) w := by simp [Builtin.len_, run_underlying he]
        exact Goes.quiet S (cv := .int .i64 len) (by simp [execOp, resolve, invoke, builtin, hz, hr, goInt]) (.int _ _)
      cases r1 <;> simp only [lenOf, Option.some.injEq, reduceCtorEq] at hm
      case own => exact fin _ _ _ rfl hm
      case nils => exact fin _ _ _ rfl hm
      case emps => exact fin _ _ _ rfl hm
      case sl hl _ _ _ _ _ => exact fin _ _ _ rfl (by omega)
      case fsl hl _ _ _ _ _ => exact fin _ _ _ rfl (by omega)
    · cases h
  · cases hc

theorem s_lenS (S : Sim P T E st w) (F : RepL E st.objs.length w fr a.tmps.toList) {x : Opd} (hc : chkOp P o.op (.lenS x) = true) (h : exOp O fr st (.lenS x) = some (v, st')) : Goes P T E st w o a v st' := by
  obtain ⟨dst, op, ty', pos, after, guard⟩ := o
  cases op <;> simp only [chkOp, Bool.false_eq_true] at hc
  rename_i c
  obtain ⟨callee, args, ts⟩ := c
  cases callee <;> simp only [chkCall, Bool.false_eq_true, chkBuiltin] at hc
  rename_i b
  split at hc
  · rename_i y t ey et
    obtain rfl : args = #[y] := by cases args; simpa using ey
    obtain rfl : ts = #[t] := by cases ts; simpa using et
    simp only [Bool.and_eq_true] at hc
    obtain ⟨h1, h2⟩ := hc
    have r1 := ev_rep S.glob F h1
    have ht : P.underlying t = some .string := by
      split at h2
      · assumption
      · cases h2
    simp only [exOp] at h
    split at h
    · rename_i s e
      obtain ⟨rfl, rfl⟩ : _ ∧ _ := by simpa using h
      rw [e] at r1
      have hr : (Builtin.len_ #[t] ty' #[.string s]).run P w = .ok (goInt s.size) w := by simp [Builtin.len_, run_underlying ht]
      exact Goes.quiet S (cv := .int .i64 s.size) (by simp [execOp, resolve, invoke, builtin, rep_str r1, hr, goInt]) (.int _ _)
    · cases h
  · cases hc

theorem s_append (S : Sim P T E st w) (F : RepL E st.objs.length w fr a.tmps.toList) {ty sz bytes : Nat} {s x : Opd} (hc : chkOp P o.op (.append ty sz bytes s x) = true) (h : exOp O fr st (.append ty sz bytes s x) = some (v, st')) : Goes P T E st w o a v st' := by
  obtain ⟨dst, op, ty', pos, after, guard⟩ := o
  cases op <;> simp only [chkOp, Bool.false_eq_true] at hc
  rename_i c
  obtain ⟨callee, args, ts⟩ := c
  cases callee <;> simp only [chkCall, Bool.false_eq_true, chkBuiltin] at hc
  rename_i b
  split at hc
  · rename_i y z t t' ey et
    obtain rfl : args = #[y, z] := by cases args; simpa using ey
    obtain rfl : ts = #[t, t'] := by cases ts; simpa using et
    simp only [Bool.and_eq_true, beq_iff_eq] at hc
    obtain ⟨⟨⟨h1, h2⟩, rfl⟩, h3⟩ := hc
    have A : AppT P t ty sz bytes := by
      split at h3
      · rename_i e he
        simp only [Bool.and_eq_true, beq_iff_eq] at h3
        obtain ⟨rfl, h4⟩ := h3
        split at h4
        · rename_i i hi
          simp only [Bool.and_eq_true, beq_iff_eq, decide_eq_true_eq] at h4
          obtain ⟨⟨⟨h5, h6⟩, h7⟩, h8⟩ := h4
          split at h8
          · rename_i zz hz
            exact ⟨he, h7, i, zz, hi, h5, h6, hz, by simpa using h8⟩
          · cases h8
        · cases h4
      · cases h3
    obtain ⟨cv, w', E', r1, r2, r3, r4⟩ := app_sound (t0 := ty') S A (ev_rep S.glob F h1) (ev_rep S.glob F h2) h
    exact ⟨.value cv, w', E', by simp [execOp, resolve, invoke, builtin, r1], .inl ⟨cv, rfl, r2⟩, r3, r4⟩
  · cases hc

theorem s_max2 (S : Sim P T E st w) (F : RepL E st.objs.length w fr a.tmps.toList) {x y : Opd} (hc : chkOp P o.op (.max2 x y) = true) (h : exOp O fr st (.max2 x y) = some (v, st')) : Goes P T E st w o a v st' := by
  obtain ⟨dst, op, ty', pos, after, guard⟩ := o
  cases op <;> simp only [chkOp, Bool.false_eq_true] at hc
  rename_i c
  obtain ⟨callee, args, ts⟩ := c
  cases callee <;> simp only [chkCall, Bool.false_eq_true, chkBuiltin] at hc
  rename_i b
  split at hc
  · rename_i p q ey
    obtain rfl : args = #[p, q] := by cases args; simpa using ey
    simp only [Bool.and_eq_true] at hc
    have r1 := ev_rep S.glob F hc.1
    have r2 := ev_rep S.glob F hc.2
    simp only [exOp] at h
    split at h
    · rename_i k i k' j e1 e2
      split at h
      · rename_i hk
        subst hk
        simp only [Option.some.injEq, Prod.mk.injEq] at h
        obtain ⟨rfl, rfl⟩ := h
        rw [e1] at r1; rw [e2] at r2
        exact Goes.quiet S (cv := .int k (if j > i then j else i)) (by simp [execOp, resolve, invoke, builtin, rep_int r1, rep_int r2, Builtin.max_, Builtin.max2]) (.int _ _)
      · cases h
    · cases h
  · cases hc

theorem s_min2 (S : Sim P T E st w) (F : RepL E st.objs.length w fr a.tmps.toList) {x y : Opd} (hc : chkOp P o.op (.min2 x y) = true) (h : exOp O fr st (.min2 x y) = some (v, st')) : Goes P T E st w o a v st' := by
  obtain ⟨dst, op, ty', pos, after, guard⟩ := o
  cases op <;> simp only [chkOp, Bool.false_eq_true] at hc
  rename_i c
  obtain ⟨callee, args, ts⟩ := c
  cases callee <;> simp only [chkCall, Bool.false_eq_true, chkBuiltin] at hc
  rename_i b
  split at hc
  · rename_i p q ey
    obtain rfl : args = #[p, q] := by cases args; simpa using ey
    simp only [Bool.and_eq_true] at hc
    have r1 := ev_rep S.glob F hc.1
    have r2 := ev_rep S.glob F hc.2
    simp only [exOp] at h
    split at h
    · rename_i k i k' j e1 e2
      split at h
      · rename_i hk
        subst hk
        simp only [Option.some.injEq, Prod.mk.injEq] at h
        obtain ⟨rfl, rfl⟩ := h
        rw [e1] at r1; rw [e2] at r2
        exact Goes.quiet S (cv := .int k (if j < i then j else i)) (by simp [execOp, resolve, invoke, builtin, rep_int r1, rep_int r2, Builtin.min_, Builtin.min2]) (.int _ _)
      · cases h
    · cases h
  · cases hc

end
end Go.Proofs.Ytgabnhmjlhhojaa.A

/- Literals; then all operations in one. -/
namespace Go.Proofs.Ytgabnhmjlhhojaa.A
open Go

section
variable {P : Program} {T : Tab} {E E' : Env} {st st' : St} {w w' : World} {n : Nat}
variable {o : Oper} {a : Act} {fr : List AV} {v : AV} {O : Orc}

def splice (off : Nat) (vs cells : Array Value) : Array Value := vs.zipIdx.foldl (fun cs (p : Value × Nat) => cs.setIfInBounds (off + p.2) p.1) cells

theorem spliceL (off : Nat) : ∀ (l : List Value) (k : Nat) (cells : Array Value),
    ((l.zipIdx k).foldl (fun cs (p : Value × Nat) => cs.setIfInBounds (off + p.2) p.1) cells).size = cells.size ∧
    ∀ q, off + k + l.length ≤ cells.size → ((l.zipIdx k).foldl (fun cs (p : Value × Nat) => cs.setIfInBounds (off + p.2) p.1) cells)[q]? =
      if off + k ≤ q ∧ q < off + k + l.length then l[q - (off + k)]? else cells[q]?
  | [], k, cells => ⟨rfl, fun q _ => by
    have h : ¬ (off + k ≤ q ∧ q < off + k + ([] : List Value).length) := by simp only [List.length_nil]; omega
    rw [if_neg h]; rfl⟩
  | x :: l, k, cells => by
    simp only [List.zipIdx_cons, List.foldl_cons]
    obtain ⟨h1, h2⟩ := spliceL off l (k + 1) (cells.setIfInBounds (off + k) x)
    refine ⟨by rw [h1]; simp, fun q hq => ?_⟩
    rw [h2 q (by simp at hq ⊢; omega)]
    simp only [List.length_cons] at hq ⊢
    by_cases e : q = off + k
    · subst e
      rw [if_neg (by omega), if_pos (by omega)]
      simp [show off + k < cells.size by omega]
    · by_cases c : off + (k + 1) ≤ q ∧ q < off + (k + 1) + l.length
      · rw [if_pos c, if_pos (by omega), show q - (off + k) = (q - (off + (k + 1))) + 1 by omega]
        simp
      · rw [if_neg c, if_neg (by omega)]
        simp [show off + k ≠ q by omega]

theorem splice_eq (off : Nat) (vs cells : Array Value) : splice off vs cells = (vs.toList.zipIdx).foldl (fun cs (p : Value × Nat) => cs.setIfInBounds (off + p.2) p.1) cells := by
  rw [splice, ← Array.foldl_toList, Array.toList_zipIdx]

theorem splice_size (off : Nat) (vs cells : Array Value) : (splice off vs cells).size = cells.size := by
  rw [splice_eq]; exact (spliceL off vs.toList 0 cells).1
theorem splice_get (off : Nat) (vs cells : Array Value) (h : off + vs.size ≤ cells.size) (q : Nat) : (splice off vs cells)[q]? = if off ≤ q ∧ q < off + vs.size then vs[q - off]? else cells[q]? := by
  rw [splice_eq, (spliceL off vs.toList 0 cells).2 q (by simpa using h)]
  simp

theorem fill_cons {place : Nat → Option (Nat × Nat)} {cells : Array Value} {i : Nat} {u : Value} {rest : List (Nat × Value)} {off size : Nat} (hp : place i = some (off, size)) (hs : u.cells.size = size) (hle : off + u.cells.size ≤ cells.size) :
    Instr.fill place cells ((i, u) :: rest) = Instr.fill place (splice off u.cells cells) rest := by
  simp only [Instr.fill, hp]
  rw [if_neg (by simp [hs]; omega)]
  rfl

theorem fill_rep (G : GlobOk E w) (F : RepL E n w fr a.tmps.toList) {fs : Array Field} {place : Nat → Option (Nat × Nat)} (hpl : ∀ (i : Nat) f, fs[i]? = some f → ∃ inf, P.info? f.type = some inf ∧ place i = some (f.offset, inf.size)) :
    ∀ (ps : List (Nat × Operand)) (ps' : List (Nat × Nat × Opd)) (cs cs' : List AV) (cells : Array Value), partsB P fs ps ps' = true → fill fr ps' cs = some cs' → RepL E n w cs cells.toList →
      ∃ cells', Instr.fill place cells (ps.map fun p => (p.1, a.eval p.2)) = some cells' ∧ RepL E n w cs' cells'.toList
  | [], [], cs, cs', cells, _, h, hr => by
    obtain rfl := Option.some.inj h
    exact ⟨cells, rfl, hr⟩
  | [], _ :: _, _, _, _, h, _, _ => by simp [partsB] at h
  | _ :: _, [], _, _, _, h, _, _ => by simp [partsB] at h
  | (i, x) :: ps, (off, m, y) :: ps', cs, cs', cells, hb, h, hr => by
    simp only [partsB, Bool.and_eq_true] at hb
    obtain ⟨⟨h1, h2⟩, h3⟩ := hb
    split at h1
    · rename_i f hf
      simp only [Bool.and_eq_true, beq_iff_eq] at h1
      obtain ⟨rfl, h4⟩ := h1
      obtain ⟨inf, hi, hp⟩ := hpl i f hf
      obtain ⟨inf', hi', rfl⟩ := sizeB_get h4
      obtain rfl : inf = inf' := by rw [hi] at hi'; exact Option.some.inj hi'
      simp only [fill] at h
      split at h
      · rename_i hc
        obtain ⟨c1, c2, c3⟩ := hc
        have r := ev_rep G F h2
        obtain ⟨hcr, _⟩ := cells_rep r c3
        have hsz : (a.eval x).cells.size = inf.size := by have := hcr.len; simp at this; omega
        have hcl : cells.size = cs.length := by have := hr.len; simp at this; omega
        have hle : f.offset + (a.eval x).cells.size ≤ cells.size := by omega
        obtain ⟨cells', g1, g2⟩ := fill_rep G F hpl ps ps' _ cs' (splice f.offset (a.eval x).cells cells) h3 h ⟨by rw [setMany_length]; simp [splice_size, hcl], fun j z u hz hu => by
          rw [Array.getElem?_toList, splice_get _ _ _ hle] at hu
          rcases setMany_get _ _ _ _ _ hz with ⟨a1, a2, a3⟩ | ⟨a1, a2⟩
          · rw [if_pos (by omega)] at hu
            exact hcr.at_ _ z u a3 (by simpa using hu)
          · rw [if_neg (by omega)] at hu
            exact hr.at_ j z u a2 (by simpa using hu)⟩
        exact ⟨cells', by simp only [List.map_cons]; rw [fill_cons hp hsz hle]; exact g1, g2⟩
      · cases h
    · cases h1

theorem known_places {fs : Array Field} (h : fieldsKnown P fs = true) : ∃ places : List (Nat × Nat), fs.toList.mapM (fun f => (P.info? f.type).map fun i => (f.offset, i.size)) = some places ∧
    ∀ (i : Nat) f, fs[i]? = some f → ∃ inf, P.info? f.type = some inf ∧ places.toArray[i]? = some (f.offset, inf.size) := by
  have key : ∀ l : List Field, l.all (fun f => (P.info? f.type).isSome) = true → ∃ places : List (Nat × Nat), l.mapM (fun f => (P.info? f.type).map fun i => (f.offset, i.size)) = some places ∧
      ∀ (i : Nat) f, l[i]? = some f → ∃ inf, P.info? f.type = some inf ∧ places[i]? = some (f.offset, inf.size) := by
    intro l
    induction l with
    | nil => intro _; exact ⟨[], rfl, by simp⟩
    | cons f l ih =>
      intro h
      simp only [List.all_cons, Bool.and_eq_true] at h
      obtain ⟨places, h1, h2⟩ := ih h.2
      obtain ⟨inf, hi⟩ := Option.isSome_iff_exists.1 h.1
      refine ⟨(f.offset, inf.size) :: places, by simp [List.mapM_cons, hi, h1], fun i g hg => ?_⟩
      cases i with
      | zero => simp at hg; subst hg; exact ⟨inf, hi, by simp⟩
      | succ i => obtain ⟨inf', a1, a2⟩ := h2 i g (by simpa using hg); exact ⟨inf', a1, by simpa using a2⟩
  obtain ⟨places, h1, h2⟩ := key fs.toList h
  exact ⟨places, h1, fun i f hf => by obtain ⟨inf, a1, a2⟩ := h2 i f (by simpa using hf); exact ⟨inf, a1, by simpa using a2⟩⟩

theorem s_build (S : Sim P T E st w) (F : RepL E st.objs.length w fr a.tmps.toList) {z : List AV} {ps' : List (Nat × Nat × Opd)} (hc : chkOp P o.op (.build z ps') = true) (h : exOp O fr st (.build z ps') = some (v, st')) : Goes P T E st w o a v st' := by
  obtain ⟨dst, op, ty', pos, after, guard⟩ := o
  cases op <;> simp only [chkOp, Bool.false_eq_true] at hc
  rename_i t ps
  simp only [Bool.and_eq_true] at hc
  obtain ⟨h1, h2⟩ := hc
  split at h2
  · rename_i fs hfs
    simp only [Bool.and_eq_true] at h2
    obtain ⟨h3, h4⟩ := h2
    obtain ⟨inf, zv, hi, hz, ha, hsz⟩ := zeroB_get h1
    obtain ⟨places, hp, hpl⟩ := known_places h3
    simp only [exOp] at h
    split at h
    · rename_i cs hcs
      simp only [Option.some.injEq, Prod.mk.injEq] at h
      obtain ⟨rfl, rfl⟩ := h
      obtain ⟨hr0, _⟩ := atomsB_rep (E := E) (n := st.objs.length) (w := w) ha
      obtain ⟨cells, g1, g2⟩ := fill_rep S.glob F hpl ps.toList ps' z cs zv.cells h4 hcs hr0
      have hb : P.built t (ps.map fun p => (p.1, a.eval p.2)).toList = some cells := by
        simp only [Program.built, hi, hfs, hz, hp, Array.toList_map]
        exact g1
      have hrun := run_build (P := P) w t (ps.map fun p => (p.1, a.eval p.2)) cells hb
      exact Goes.quiet S (cv := .agg cells) (by simp [execOp, hrun]) (.agg (by simpa using g2.len) fun j x u hx hu => g2.at_ j x u hx (by simpa using hu))
    · cases h
  · cases h2

/-- the cells of a literal's array -/
structure LitRep (E : Env) (n : Nat) (w : World) (sz : Nat) (es : List (List AV)) (cells : Array Value) : Prop where
  size : cells.size = es.length * sz
  each : ∀ e ∈ es, e.length = sz
  at_ : ∀ (i : Nat) e (j : Nat) x, es[i]? = some e → e[j]? = some x → ∃ u, cells[i * sz + j]? = some u ∧ Rep E n w x u ∧ u.oneCell' = true

theorem fillSl_rep (G : GlobOk E w) (F : RepL E n w fr a.tmps.toList) {sz : Nat} : ∀ (ps : List (Nat × Operand)) (ps' : List (Nat × Opd)) (es es' : List (List AV)) (cells : Array Value), partsSlB ps ps' = true → fillSl fr sz ps' es = some es' →
    LitRep E n w sz es cells → ∃ cells', Instr.fill (fun i => some (i * sz, sz)) cells (ps.map fun p => (p.1, a.eval p.2)) = some cells' ∧ LitRep E n w sz es' cells'
  | [], [], es, es', cells, _, h, hr => by
    obtain rfl := Option.some.inj h
    exact ⟨cells, rfl, hr⟩
  | [], _ :: _, _, _, _, h, _, _ => by simp [partsSlB] at h
  | _ :: _, [], _, _, _, h, _, _ => by simp [partsSlB] at h
  | (i, x) :: ps, (i', y) :: ps', es, es', cells, hb, h, hr => by
    simp only [partsSlB, Bool.and_eq_true, beq_iff_eq] at hb
    obtain ⟨⟨rfl, h2⟩, h3⟩ := hb
    simp only [fillSl] at h
    split at h
    · rename_i hc
      obtain ⟨c1, c2, c3⟩ := hc
      have r := ev_rep G F h2
      obtain ⟨hcr, hone⟩ := cells_rep r c3
      have hsz : (a.eval x).cells.size = sz := by have := hcr.len; simp at this; omega
      have hle : i * sz + (a.eval x).cells.size ≤ cells.size := by
        rw [hsz, hr.size]
        have : (i + 1) * sz ≤ es.length * sz := Nat.mul_le_mul_right _ c2
        rwa [Nat.add_mul, Nat.one_mul] at this
      obtain ⟨cells', g1, g2⟩ := fillSl_rep G F ps ps' _ es' (splice (i * sz) (a.eval x).cells cells) h3 h ⟨by rw [splice_size, hr.size]; simp, fun e he => by
          rcases List.mem_or_eq_of_mem_set he with h' | rfl
          · exact hr.each e h'
          · rw [canL_length]; exact c1, fun k e j z he hz => by
          rw [splice_get _ _ _ hle, hsz]
          rw [List.getElem?_set] at he
          by_cases e1 : i = k
          · subst e1
            rw [if_pos rfl, if_pos c2] at he
            obtain rfl := Option.some.inj he
            obtain ⟨z', hz', rfl⟩ := canL_get hz
            have hj : j < sz := by have := lt_of_get hz'; omega
            rw [if_pos (by omega), show i * sz + j - i * sz = j by omega]
            have hj2 : j < (a.eval x).cells.size := by omega
            exact ⟨(a.eval x).cells[j], by simp [hj2], can1_rep (hcr.at_ j z' _ hz' (by simp [hj2])), hone _ (by simp)⟩
          · rw [if_neg e1] at he
            have hj : j < sz := by have := lt_of_get hz; rw [hr.each e (List.mem_of_getElem? he)] at this; exact this
            rw [if_neg ?_]
            · exact hr.at_ k e j z he hz
            · rcases Nat.lt_or_gt_of_ne e1 with h' | h'
              · have : (i + 1) * sz ≤ k * sz := Nat.mul_le_mul_right _ (by omega)
                rw [Nat.add_mul, Nat.one_mul] at this
                omega
              · have : (k + 1) * sz ≤ i * sz := Nat.mul_le_mul_right _ (by omega)
                rw [Nat.add_mul, Nat.one_mul] at this
                omega⟩
      exact ⟨cells', by simp only [List.map_cons]; rw [fill_cons rfl hsz hle]; exact g1, g2⟩
    · cases h

theorem s_buildSl (S : Sim P T E st w) (F : RepL E st.objs.length w fr a.tmps.toList) {sz : Nat} {z : List AV} {m : Nat} {ps' : List (Nat × Opd)} (hc : chkOp P o.op (.buildSl sz z m ps') = true) (h : exOp O fr st (.buildSl sz z m ps') = some (v, st')) : Goes P T E st w o a v st' := by
  obtain ⟨dst, op, ty', pos, after, guard⟩ := o
  cases op <;> simp only [chkOp, Bool.false_eq_true] at hc
  rename_i t len ps
  split at hc
  · rename_i e he
    simp only [Bool.and_eq_true, beq_iff_eq, decide_eq_true_eq] at hc
    obtain ⟨⟨⟨⟨⟨⟨h1, h2⟩, h3⟩, h4⟩, rfl⟩, h6⟩, h7⟩ := hc
    obtain ⟨inf, zv, hi, hz, ha, hsz⟩ := zeroB_get h1
    obtain ⟨hr0, ho0⟩ := atomsB_rep (E := E) (n := st.objs.length) (w := w) ha
    have hzs : zv.cells.size = sz := by have := hr0.len; simp at this; omega
    simp only [exOp] at h
    split at h
    · rename_i es hes
      split at h
      · rename_i hfl
        simp only [Option.some.injEq, Prod.mk.injEq] at h
        obtain ⟨rfl, rfl⟩ := h
        let c0 : Array Value := (Array.range (m * sz)).map ((if m * sz = 0 then #[] else zv.cells)[· % (if m * sz = 0 then #[] else zv.cells).size]!)
        have hc0 : LitRep E st.objs.length w sz (List.replicate m z) c0 := by
          refine ⟨by simp [c0], fun e he => by rw [List.eq_of_mem_replicate he, h2], fun i e j x he hx => ?_⟩
          have him : i < m := by have := lt_of_get he; simpa using this
          obtain rfl : z = e := by simp [him] at he; exact he
          have hj : j < sz := by have := lt_of_get hx; omega
          have hk := idx_lt him hj
          have hne : m * sz ≠ 0 := by omega
          have hmod : (i * sz + j) % sz = j := by rw [Nat.mul_comm, Nat.mul_add_mod, Nat.mod_eq_of_lt hj]
          have hjz : j < zv.cells.size := by omega
          refine ⟨zv.cells[j], ?_, hr0.at_ j x _ hx (by simp [hjz]), ho0 _ (by simp)⟩
          simp [c0, hne, hk, hzs, hmod, hj]
        obtain ⟨cells, g1, g2⟩ := fillSl_rep S.glob F ps.toList ps' _ es c0 h7 hes hc0
        have hel : es.length = m := by
          have : ∀ (ps : List (Nat × Opd)) es es', fillSl fr sz ps es = some es' → es'.length = es.length := by
            intro ps
            induction ps with
            | nil => intro es es' h; obtain rfl := Option.some.inj h; rfl
            | cons p ps ih =>
              intro es es' h
              simp only [fillSl] at h
              split at h
              · rw [ih _ _ h]; simp
              · cases h
          rw [this _ _ _ hes]; simp
        have hsz0 : sizeB P e sz = true := h4
        have hrun : (Instr.buildSlice t m (ps.map fun p => (p.1, a.eval p.2))).run P w = .ok (.slice (some ⟨w.heap.size, 0, none⟩) m m) (w.alloc (.cells cells e)) := by
          have g1' : Instr.fill (fun i => some (i * sz, sz)) c0 (ps.toList.map fun p => (p.1, a.eval p.2)) = some cells := g1
          have hzr : ((if m * sz = 0 then pure #[] else do pure (← zeroValue e).cells : Sem (Array Value))).run P w = .ok (if m * sz = 0 then #[] else zv.cells) w := by
            by_cases h0 : m * sz = 0
            · simp [h0]
            · simp [h0, zeroValue, typeInfo, hi, hz]
          have hbig : ¬ (m * sz > 2 ^ 24) := by omega
          simp only [Instr.buildSlice, Sem.run_bind, run_underlying he, Result.andThen_ok, run_sizeOf hsz0, if_neg hbig]
          by_cases h0 : m * sz = 0
          · simp only [h0, if_true, c0] at g1' ⊢
            simp only [Sem.run_pure, Result.andThen_ok, Sem.run_bind, Array.toList_map, g1', newRow, run_newObj]
            rfl
          · simp only [h0, if_false, c0] at g1' ⊢
            simp only [zeroValue, typeInfo, hi, hz, Sem.run_bind, Sem.run_pure, run_program, Result.andThen_ok, Array.toList_map, g1', newRow, run_newObj]
            rfl
        have hgrow : ∀ b, b < w.heap.size → (w.alloc (.cells cells e)).heap[b]? = w.heap[b]? := fun b hb => heap_alloc_old w _ b hb
        have S1 : Sim P T E st (w.alloc (.cells cells e)) := S.grow (by simp) hgrow
        have hnew : ∀ (r : Nat) ob, st.objs[r]? = some ob → live ob (E.L r) → ¬ (E.L r).blk = w.heap.size := fun r ob hr hl hh => by have := (S.obj r ob hr).lt hl; omega
        have S2 := S1.freeze (fun b => b = w.heap.size) (by rintro b rfl; simp) hnew (by rintro b rfl hG; exact absurd (S.fro _ (.inr hG)) (Nat.lt_irrefl _))
        have X : Ext E st.objs.length w (addF E fun b => b = w.heap.size) st.objs.length (w.alloc (.cells cells e)) := (Ext.grow (n := st.objs.length) S (by simp) hgrow rfl rfl rfl).trans (Ext.freeze _)
        have key : ∀ i j, i < es.length → j < sz → (w.alloc (.cells cells e)).cell? ⟨w.heap.size, 0 + i * sz + j, none⟩ = some (cells.getD (i * sz + j) undef) ∧ (cells.getD (i * sz + j) undef).oneCell' = true := by
          intro i j hi' hj
          have hll : es[i].length = sz := g2.each _ (List.getElem_mem hi')
          obtain ⟨u, a1, a2, a3⟩ := g2.at_ i es[i] j (es[i]'hi')[j] (by simp [hi']) (by simp [show j < es[i].length by omega])
          have : cells.getD (i * sz + j) undef = u := by simp [Array.getD_eq_getD_getElem?, a1]
          rw [this]
          exact ⟨by rw [World.cell?_alloc_new, Nat.zero_add]; exact a1, a3⟩
        have rep : ∀ i e' j x, es[i]? = some e' → e'[j]? = some x → Rep (addF E fun b => b = w.heap.size) st.objs.length (w.alloc (.cells cells e)) x (cells.getD (i * sz + j) undef) := by
          intro i e' j x h1 h2
          obtain ⟨u, a1, a2, a3⟩ := g2.at_ i e' j x h1 h2
          have : cells.getD (i * sz + j) undef = u := by simp [Array.getD_eq_getD_getElem?, a1]
          rw [this]
          exact a2.mono X.toMono
        refine ⟨.value (.slice (some ⟨w.heap.size, 0, none⟩) m m), _, _, by simp only [execOp, Sem.run_bind]; rw [show (ps.map fun x => match x with | (i, x) => (i, a.eval x)) = ps.map fun p => (p.1, a.eval p.2) from rfl, hrun]; rfl, .inl ⟨_, rfl, ?_⟩, S2, X⟩
        exact .fsl w.heap.size 0 (fun i j => cells.getD (i * sz + j) undef) hel.symm rfl g2.each (.inr ⟨rfl, .inr rfl⟩) key rep
      · cases h
    · cases h
  · cases hc

theorem s_mksl (S : Sim P T E st w) (F : RepL E st.objs.length w fr a.tmps.toList) {sz : Nat} {z : List AV} {x : Opd} (hc : chkOp P o.op (.mksl sz z x) = true) (h : exOp O fr st (.mksl sz z x) = some (v, st')) : Goes P T E st w o a v st' := by
  obtain ⟨dst, op, ty', pos, after, guard⟩ := o
  cases op <;> simp only [chkOp, Bool.false_eq_true] at hc
  rename_i t l c
  simp only [Bool.and_eq_true] at hc
  obtain ⟨⟨k1, k2⟩, hc⟩ := hc
  split at hc
  · rename_i e he
    simp only [Bool.and_eq_true, beq_iff_eq, decide_eq_true_eq] at hc
    obtain ⟨⟨⟨⟨h1, h2⟩, h3⟩, h4⟩, h5⟩ := hc
    obtain ⟨inf, zv, hi, hz, ha, hsz⟩ := zeroB_get h1
    rw [hi] at h5
    simp only [Bool.and_eq_true, beq_iff_eq, decide_eq_true_eq] at h5
    obtain ⟨h5, h6⟩ := h5
    obtain ⟨hr0, ho0⟩ := atomsB_rep (E := E) (n := st.objs.length) (w := w) ha
    have hzs : zv.cells.size = sz := by have := hr0.len; simp at this; omega
    have r1 := ev_rep S.glob F k1
    have r2 := ev_rep S.glob F k2
    simp only [exOp] at h
    split at h
    · rename_i kd n e1
      split at h
      · rename_i hn
        obtain ⟨⟨n0, n1⟩, hone⟩ := hn
        simp only [Option.some.injEq, Prod.mk.injEq] at h
        obtain ⟨rfl, rfl⟩ := h
        rw [e1] at r1 r2
        obtain ⟨m, rfl⟩ : ∃ m : Nat, n = (m : Int) := ⟨n.toNat, by omega⟩
        rw [Int.toNat_natCast]
        have hm : m ≤ 1000000 := by omega
        obtain ⟨cells, hcells⟩ : ∃ cells : Array Value, cells = madeCells zv.cells (m * sz) := ⟨_, rfl⟩
        have hbytes : (inf.bytes : Int) * (m : Int) ≤ 281474976710656 := by
          have h9 : inf.bytes * m ≤ 1000000 * 1000000 := Nat.mul_le_mul h5 hm
          have h8 : ((inf.bytes * m : Nat) : Int) ≤ 281474976710656 := by omega
          rwa [Int.natCast_mul] at h8
        have hrun := run_make (P := P) w t e inf zv he hi hz kd kd (m : Int) (m : Int) (by omega) (Int.le_refl _) hbytes (by omega)
        rw [Int.toNat_natCast, h6, ← hcells] at hrun
        have g2 : LitRep E st.objs.length w sz (List.replicate m (canL z)) cells := by
          rw [hcells]
          refine ⟨by simp [madeCells], fun e he => by rw [List.eq_of_mem_replicate he, canL_length, h2], fun i e j x he hx => ?_⟩
          have him : i < m := by have := lt_of_get he; simpa using this
          obtain rfl : canL z = e := by simp [him] at he; exact he
          have hj : j < sz := by have := lt_of_get hx; rw [canL_length] at this; omega
          have hk := idx_lt him hj
          have hmod : (i * sz + j) % sz = j := by rw [Nat.mul_comm, Nat.mul_add_mod, Nat.mod_eq_of_lt hj]
          have hjz : j < zv.cells.size := by omega
          refine ⟨zv.cells[j], ?_, (canL_rep hr0).at_ j x _ hx (by simp [hjz]), ho0 _ (by simp)⟩
          simp [madeCells, hk, hzs, hmod, hj]
        have hel : (List.replicate m (canL z)).length = m := by simp
        generalize List.replicate m (canL z) = es at *
        have hgrow : ∀ b, b < w.heap.size → (w.alloc (.cells cells e)).heap[b]? = w.heap[b]? := fun b hb => heap_alloc_old w _ b hb
        have S1 : Sim P T E st (w.alloc (.cells cells e)) := S.grow (by simp) hgrow
        have hnew : ∀ (r : Nat) ob, st.objs[r]? = some ob → live ob (E.L r) → ¬ (E.L r).blk = w.heap.size := fun r ob hr hl hh => by have := (S.obj r ob hr).lt hl; omega
        have S2 := S1.freeze (fun b => b = w.heap.size) (by rintro b rfl; simp) hnew (by rintro b rfl hG; exact absurd (S.fro _ (.inr hG)) (Nat.lt_irrefl _))
        have X : Ext E st.objs.length w (addF E fun b => b = w.heap.size) st.objs.length (w.alloc (.cells cells e)) := (Ext.grow (n := st.objs.length) S (by simp) hgrow rfl rfl rfl).trans (Ext.freeze _)
        have key : ∀ i j, i < es.length → j < sz → (w.alloc (.cells cells e)).cell? ⟨w.heap.size, 0 + i * sz + j, none⟩ = some (cells.getD (i * sz + j) undef) ∧ (cells.getD (i * sz + j) undef).oneCell' = true := by
          intro i j hi' hj
          have hll : es[i].length = sz := g2.each _ (List.getElem_mem hi')
          obtain ⟨u, a1, a2, a3⟩ := g2.at_ i es[i] j (es[i]'hi')[j] (by simp [hi']) (by simp [show j < es[i].length by omega])
          have : cells.getD (i * sz + j) undef = u := by simp [Array.getD_eq_getD_getElem?, a1]
          rw [this]
          exact ⟨by rw [World.cell?_alloc_new, Nat.zero_add]; exact a1, a3⟩
        have rep : ∀ i e' j x, es[i]? = some e' → e'[j]? = some x → Rep (addF E fun b => b = w.heap.size) st.objs.length (w.alloc (.cells cells e)) x (cells.getD (i * sz + j) undef) := by
          intro i e' j x h1 h2
          obtain ⟨u, a1, a2, a3⟩ := g2.at_ i e' j x h1 h2
          have : cells.getD (i * sz + j) undef = u := by simp [Array.getD_eq_getD_getElem?, a1]
          rw [this]
          exact a2.mono X.toMono
        refine ⟨.value (.slice (some ⟨w.heap.size, 0, none⟩) m m), _, _, by simp only [execOp, rep_int r1, rep_int r2, Sem.run_bind]; rw [hrun]; rfl, .inl ⟨_, rfl, ?_⟩, S2, X⟩
        exact .fsl w.heap.size 0 (fun i j => cells.getD (i * sz + j) undef) hel.symm rfl g2.each (.inr ⟨rfl, .inr rfl⟩) key rep
      · cases h
    · cases h
  · cases hc

theorem s_sh (S : Sim P T E st w) (F : RepL E st.objs.length w fr a.tmps.toList) {l : Bool} {x y : Opd} (hc : chkOp P o.op (.sh l x y) = true) (h : exOp O fr st (.sh l x y) = some (v, st')) : Goes P T E st w o a v st' := by
  obtain ⟨dst, op, ty', pos, after, guard⟩ := o
  cases op <;> simp only [chkOp, Bool.false_eq_true] at hc
  rename_i op t p q ty2
  simp only [Bool.and_eq_true] at hc
  obtain ⟨⟨h0, h1⟩, h2⟩ := hc
  have r1 := ev_rep S.glob F h1
  have r2 := ev_rep S.glob F h2
  simp only [exOp] at h
  split at h
  · rename_i k c k' b e1 e2
    obtain ⟨hb, rfl⟩ := opt_get h
    rw [e1] at r1; rw [e2] at r2
    unfold shI at hb
    split at hb
    · cases hb
    · rename_i hy
      cases op <;> simp only [Bool.false_eq_true] at h0
      · subst h0
        simp only [cond_true, Option.some.injEq] at hb
        subst hb
        exact Goes.quiet S (cv := _) (by simp only [execOp, rep_int r1, rep_int r2, eqGuard_int, binOp, Op.shift, hy, if_false, Sem.run_bind, Result.andThen_ok]; rfl) (.int _ _)
      · obtain rfl : l = false := by simpa using h0
        simp only [cond_false, Option.some.injEq] at hb
        subst hb
        exact Goes.quiet S (cv := _) (by simp only [execOp, rep_int r1, rep_int r2, eqGuard_int, binOp, Op.shift, hy, if_false, Sem.run_bind, Result.andThen_ok]; rfl) (.int _ _)
  · cases h

theorem part1_run {t j : Nat} {vs : Array Value} {u : Value} (hs : sizeB P t 1 = true) (hp : isAggB P t false = true) (hu : vs[j]? = some u) : (part t vs j).run P w = .ok u w := by
  have hl : j + 1 ≤ vs.size := by
    rcases Nat.lt_or_ge j vs.size with h' | h'
    · exact h'
    · rw [Array.getElem?_eq_none h'] at hu; cases hu
  rw [run_part hs hp (.inr rfl) hl]
  simp [Array.getD_eq_getD_getElem?, hu]

theorem eqF_run (d : Nat) {vx vy : Array Value} : ∀ (l : List Field) (ks : List Nat) (k : Nat) (x y : List AV) (t : Bool), plainFs P k ks l = true → eqCells ks x y = some t →
    (∀ (j : Nat) c, x[j]? = some c → ∃ u, vx[k + j]? = some u ∧ Rep E n w c u) → (∀ (j : Nat) c, y[j]? = some c → ∃ u, vy[k + j]? = some u ∧ Rep E n w c u) →
    (Op.eqFields (d + 1) vx vy l).run P w = .ok t w
  | [], [], k, [], [], t, _, h, _, _ => by
    simp only [eqCells, Option.some.injEq] at h
    subst h
    simp [Op.eqFields]
  | [], [], k, [], _ :: _, t, _, h, _, _ => by simp [eqCells] at h
  | [], [], k, _ :: _, _, t, _, h, _, _ => by simp [eqCells] at h
  | [], _ :: _, k, _, _, t, hp, _, _, _ => by simp [plainFs] at hp
  | _ :: _, [], k, _, _, t, hp, _, _, _ => by simp [plainFs] at hp
  | _ :: _, _ :: _, k, [], _, t, _, h, _, _ => by simp [eqCells] at h
  | _ :: _, _ :: _, k, _ :: _, [], t, _, h, _, _ => by simp [eqCells] at h
  | f :: l, q :: ks, k, c :: x, e :: y, t, hp, h, h1, h2 => by
    simp only [plainFs, Bool.and_eq_true, beq_iff_eq, bne_iff_ne] at hp
    obtain ⟨⟨⟨⟨p1, p2⟩, p3⟩, p4⟩, p5⟩ := hp
    obtain ⟨u, hu, ru⟩ := h1 0 c rfl
    obtain ⟨z, hz, rz⟩ := h2 0 e rfl
    rw [Nat.add_zero] at hu hz
    have ha : isAggB P f.type false = true := by
      unfold isAggB
      split at p4 <;> simp_all
    have e1 := part1_run (P := P) (w := w) p3 ha hu
    have e2 := part1_run (P := P) (w := w) p3 ha hz
    simp only [eqCells] at h
    split at h
    · rename_i b hb
      split at h
      · rename_i t' ht'
        obtain rfl := Option.some.inj h
        have ih := eqF_run d l ks (k + 1) x y t' p5 ht'
          (fun j c' hc => by obtain ⟨u', a1, a2⟩ := h1 (j + 1) c' (by simpa using hc); exact ⟨u', by rw [← a1]; congr 1; omega, a2⟩)
          (fun j c' hc => by obtain ⟨u', a1, a2⟩ := h2 (j + 1) c' (by simpa using hc); exact ⟨u', by rw [← a1]; congr 1; omega, a2⟩)
        have hq : (Op.equalIn (d + 1) f.type u z).run P w = .ok b w := by
          unfold eqCell at hb
          split at hb
          · obtain rfl := Option.some.inj hb
            rw [rep_bool ru, rep_bool rz]
            cases hu' : P.underlying f.type with
            | none => rw [hu'] at p4; simp at p4
            | some τ =>
              rw [hu'] at p4
              cases τ <;> simp at p4
              exact run_equalIn_bool w d f.type _ _ hu'
          · obtain rfl := Option.some.inj hb
            rw [rep_str ru, rep_str rz]
            cases hu' : P.underlying f.type with
            | none => rw [hu'] at p4; simp at p4
            | some τ =>
              rw [hu'] at p4
              cases τ <;> simp at p4
              exact run_equalIn_string w d f.type _ _ hu'
          · split at hb
            · rename_i hk
              subst hk
              obtain rfl := Option.some.inj hb
              rw [rep_int ru, rep_int rz]
              cases hu' : P.underlying f.type with
              | none => rw [hu'] at p4; simp at p4
              | some τ =>
                rw [hu'] at p4
                cases τ <;> simp at p4
                exact run_equalIn_int w d f.type _ _ _ _ hu'
            · cases hb
          · cases hb
        simp only [Op.eqFields, p2, ne_eq, not_false_eq_true, if_true, Sem.run_bind, p1, e1, e2, Result.andThen_ok, hq]
        cases b with
        | true => simp only [Bool.not_true, Bool.false_eq_true, if_false, Bool.true_and]; exact ih
        | false => simp
      · cases h
    · cases h

theorem s_aeq (S : Sim P T E st w) (F : RepL E st.objs.length w fr a.tmps.toList) {ks : List Nat} {ng : Bool} {x y : Opd} (hc : chkOp P o.op (.aeq ks ng x y) = true) (h : exOp O fr st (.aeq ks ng x y) = some (v, st')) : Goes P T E st w o a v st' := by
  obtain ⟨dst, op, ty', pos, after, guard⟩ := o
  cases op <;> simp only [chkOp, Bool.false_eq_true] at hc
  rename_i op t p q ty2
  simp only [Bool.and_eq_true] at hc
  obtain ⟨⟨⟨h0, h1⟩, h2⟩, h3⟩ := hc
  have r1 := ev_rep S.glob F h1
  have r2 := ev_rep S.glob F h2
  simp only [exOp] at h
  split at h
  · rename_i ca cb e1 e2
    split at h
    · rename_i t' ht'
      obtain ⟨rfl, rfl⟩ : _ ∧ _ := by simpa using h
      rw [e1] at r1; rw [e2] at r2
      unfold plainB at h3
      split at h3
      · rename_i fs hfs
        simp only [Bool.and_eq_true, Bool.not_eq_true'] at h3
        obtain ⟨⟨p1, p2⟩, p3⟩ := h3
        have ht : P.underlying t = some (.struct (P.fieldsOf t)) := by simp [Program.fieldsOf, hfs]
        have hff : P.fieldsOf t = fs := by simp [Program.fieldsOf, hfs]
        generalize hva : a.eval p = va at r1
        generalize hvb : a.eval q = vb at r2
        cases r1 with
        | agg la ha =>
          cases r2 with
          | agg lb hb =>
            rename_i vx vy
            have he : (Op.equalIn 10000 t (.agg vx) (.agg vy)).run P w = .ok t' w := by
              rw [run_equalIn_struct w 9999 t vx vy ht p1, hff]
              exact eqF_run (E := E) (n := st.objs.length) 9998 fs.toList ks 0 ca cb t' p3 ht'
                (fun j c hc => by obtain ⟨u, hu⟩ := get_of_len la (lt_of_get hc); exact ⟨u, by simpa using hu, ha j c u hc hu⟩)
                (fun j c hc => by obtain ⟨u, hu⟩ := get_of_len lb (lt_of_get hc); exact ⟨u, by simpa using hu, hb j c u hc hu⟩)
            have hg := fun op => run_eqGuard_agg (P := P) w op t p q vx vy p2
            cases op <;> simp only [Bool.false_eq_true] at h0
            · obtain rfl : ng = false := by simpa using h0
              exact Goes.quiet S (cv := .bool t') (by simp [execOp, hva, hvb, hg, run_eql_struct, he]) (by simpa using Rep.bool _)
            · subst h0
              exact Goes.quiet S (cv := .bool !t') (by simp [execOp, hva, hvb, hg, run_neq_struct, he]) (by simpa using Rep.bool _)
      · cases h3
    · cases h
  · cases h

theorem nil_goes (S : Sim P T E st w) {op : BinOp} {t : TypeId} {p q : Operand} {ty2 ty' : TypeId} {dst : Option Tmp} {pos : String} {after : Array Edge} {guard : Option (Nat × Bool)} {ng t' : Bool} {va vq : Value}
    (h0 : (match op with | .eql => !ng | .neq => ng | _ => false) = true) (hp : a.eval p = va) (hq : a.eval q = vq) (hg : ∀ op : BinOp, (eqGuard op t p q va vq).run P w = .ok () w) (he : (Op.equal t va vq).run P w = .ok t' w)
    (hb1 : binOp .eql t va vq = do pure (.bool (← Op.equal t va vq))) (hb2 : binOp .neq t va vq = do pure (.bool (!(← Op.equal t va vq)))) :
    Goes P T E st w ⟨dst, .binOp op t p q ty2, ty', pos, after, guard⟩ a (.bool (xor ng t')) st := by
  cases op <;> simp only [Bool.false_eq_true] at h0
  · obtain rfl : ng = false := by simpa using h0
    exact Goes.quiet S (cv := .bool t') (by simp [execOp, hp, hq, hg, hb1, he]) (by simpa using Rep.bool _)
  · subst h0
    exact Goes.quiet S (cv := .bool !t') (by simp [execOp, hp, hq, hg, hb2, he]) (by simpa using Rep.bool _)

theorem s_isnil (S : Sim P T E st w) (F : RepL E st.objs.length w fr a.tmps.toList) {k : Nat} {ng : Bool} {x : Opd} (hc : chkOp P o.op (.isnil k ng x) = true) (h : exOp O fr st (.isnil k ng x) = some (v, st')) : Goes P T E st w o a v st' := by
  obtain ⟨dst, op, ty', pos, after, guard⟩ := o
  cases op <;> simp only [chkOp, Bool.false_eq_true] at hc
  rename_i op t p q ty2
  simp only [Bool.and_eq_true] at hc
  obtain ⟨⟨h0, h1⟩, h3⟩ := hc
  have r1 := ev_rep S.glob F h1
  simp only [exOp] at h
  split at h
  · rename_i t' ht'
    obtain ⟨rfl, rfl⟩ : _ ∧ _ := by simpa using h
    generalize hva : a.eval p = va at r1
    generalize ev fr x = u at ht' r1
    unfold nilB at h3
    split at h3
    · -- a slice
      rename_i e hu
      obtain rfl : k = 0 := by simpa using h3
      have key : ∀ (pa : Option Addr) len cp, va = .slice pa len cp → t' = pa.isNone → Goes P T E st w ⟨dst, .binOp op t p (.const (.slice none 0 0)) ty2, ty', pos, after, guard⟩ a (.bool (xor ng t')) st := by
        rintro pa len cp rfl ht
        refine nil_goes S h0 hva rfl (fun op => by unfold eqGuard; cases op <;> rfl) ?_ (by simp [binOp]) (by simp [binOp])
        have : ∀ d, (Op.equalIn (d + 1) t (.slice pa len cp) (.slice none 0 0)).run P w = .ok pa.isNone w := fun d => by cases pa <;> simp [Op.equalIn, run_underlying hu]
        rw [ht]
        exact this 9999
      cases r1 <;> simp only [nilOf, Option.some.injEq, reduceCtorEq] at ht'
      case nils => exact key _ _ _ rfl ht'.symm
      case emps => exact key _ _ _ rfl ht'.symm
      case own r lo m cp full ad hr hm k1 k2 ha =>
        cases m with
        | zero => simp at ht'
        | succ m =>
          simp only [Option.some.injEq] at ht'
          have := ha.resolve_left (by omega)
          subst this
          exact key _ _ _ rfl ht'.symm
      case sl sz es ad len cp b o c hl hcp hs ha hc hh =>
        cases es with
        | nil => simp at ht'
        | cons e es =>
          simp only [Option.some.injEq] at ht'
          have := (ha.resolve_left (by simp)).1
          subst this
          exact key _ _ _ rfl ht'.symm
      case fsl sz es ad len cp b o c hl hcp hs ha hc hh =>
        cases es with
        | nil => simp at ht'
        | cons e es =>
          simp only [Option.some.injEq] at ht'
          have := (ha.resolve_left (by simp)).1
          subst this
          exact key _ _ _ rfl ht'.symm
    · rename_i e hu
      obtain rfl : k = 1 := by simpa using h3
      have key : ∀ (pa : Option Addr), va = .pointer pa → t' = pa.isNone → Goes P T E st w ⟨dst, .binOp op t p (.const (.pointer none)) ty2, ty', pos, after, guard⟩ a (.bool (xor ng t')) st := by
        rintro pa rfl ht
        refine nil_goes S h0 hva rfl (fun op => by unfold eqGuard; cases op <;> rfl) ?_ (by simp [binOp]) (by simp [binOp])
        have : ∀ d, (Op.equalIn (d + 1) t (.pointer pa) (.pointer none)).run P w = .ok pa.isNone w := fun d => by cases pa <;> simp [Op.equalIn, run_underlying hu]
        rw [ht]
        exact this 9999
      cases r1 <;> simp only [nilOf, Option.some.injEq, reduceCtorEq] at ht'
      case nilp => exact key _ rfl ht'.symm
      case ptr => exact key _ rfl ht'.symm
      case vptr => exact key _ rfl ht'.symm
    · rename_i hu
      obtain rfl : k = 2 := by simpa using h3
      cases r1 <;> simp only [nilOf, Option.some.injEq, reduceCtorEq] at ht'
      case nilf =>
        subst ht'
        have : ∀ d, (Op.equalIn (d + 1) t .nilFunc .nilFunc).run P w = .ok true w := fun d => by simp [Op.equalIn, run_underlying hu]
        exact nil_goes S h0 hva rfl (fun op => by unfold eqGuard; cases op <;> rfl) (this 9999) (by simp [binOp]) (by simp [binOp])
      case fn f x y va' vb' _ _ _ _ =>
        subst ht'
        have : ∀ d, (Op.equalIn (d + 1) t (.func (rlF f) va' vb') .nilFunc).run P w = .ok false w := fun d => by simp [Op.equalIn, run_underlying hu]
        exact nil_goes S h0 hva rfl (fun op => by unfold eqGuard; cases op <;> rfl) (this 9999) (by simp [binOp]) (by simp [binOp])
    · cases h3
  · cases h

theorem op_sound (S : Sim P T E st w) (F : RepL E st.objs.length w fr a.tmps.toList) {x : AO} (hc : chkOp P o.op x = true) (h : exOp O fr st x = some (v, st'))
    (h1 : ∀ f l, x ≠ .call f l) (h2 : ∀ f l, x ≠ .callv f l) : Goes P T E st w o a v st' := by
  cases x with
  | move x => exact s_move S F hc h
  | pick c a b => exact s_pick S F hc h
  | alloc ty z => exact s_alloc S hc h
  | box ty x => exact s_box S F hc h
  | build z ps => exact s_build S F hc h
  | buildSl sz z n ps => exact s_buildSl S F hc h
  | load agg sz a => exact s_load S F hc h
  | store sz a v => exact s_store S F hc h
  | nilck x => exact s_nilck S F hc h
  | bin op x y => exact s_bin S F hc h
  | beq n x y => exact s_beq S F hc h
  | sh l x y => exact s_sh S F hc h
  | aeq ks n x y => exact s_aeq S F hc h
  | isnil k n x => exact s_isnil S F hc h
  | not x => exact s_not S F hc h
  | neg x => exact s_neg S F hc h
  | com x => exact s_com S F hc h
  | conv k x => exact s_conv S F hc h
  | same x => exact s_same S F hc h
  | mkfn f a b => exact s_mkfn S F hc h
  | fieldA off x => exact s_fieldA S F hc h
  | field agg off sz x => exact s_field S F hc h
  | idxA sz x i => exact s_idxA S F hc h
  | idxV sz x i => exact s_idxV S F hc h
  | idxArrA n sz x i => exact s_idxArrA S F hc h
  | idxS x i => exact s_idxS S F hc h
  | slice sz x lo hi mx => exact s_slice S F hc h
  | sliceS x lo hi => exact s_sliceS S F hc h
  | extract x i => exact s_extract S F hc h
  | len x => exact s_len S F hc h
  | lenS x => exact s_lenS S F hc h
  | append ty sz b s x => exact s_append S F hc h
  | max2 x y => exact s_max2 S F hc h
  | min2 x y => exact s_min2 S F hc h
  | call f l => exact absurd rfl (h1 f l)
  | callv f l => exact absurd rfl (h2 f l)
  | mksl sz z x => exact s_mksl S F hc h
  | mkmap => exact s_mkmap S hc h
  | add64 x y c => exact s_add64 S F hc h
  | mapset s m k v => exact s_mapset S F hc h
  | mapget s ok agg z m k => exact s_mapget S F hc h

end
end Go.Proofs.Ytgabnhmjlhhojaa.A
