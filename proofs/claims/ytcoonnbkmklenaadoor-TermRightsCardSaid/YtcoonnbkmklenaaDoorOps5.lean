/- Numbers, texts, addresses, slices. -/
import Derived.Test.YtcoonnbkmklenaaDoorOps4
namespace Go.Proofs.YtcoonnbkmklenaaDoor.A
open Go

section
variable {P : Program} {T : Tab} {E E' : Env} {st st' : St} {w w' : World} {n : Nat}
variable {o : Oper} {a : Act} {fr : List AV} {v : AV} {O : Orc}

theorem rep_int {k : IntKind} {x : Int} {u : Value} (h : Rep E n w (.int k x) u) : u = .int k x := by cases h; rfl
theorem rep_str {s : ByteArray} {u : Value} (h : Rep E n w (.str s) u) : u = .string s := by cases h; rfl
theorem rep_bool {b : Bool} {u : Value} (h : Rep E n w (.bool b) u) : u = .bool b := by cases h; rfl

theorem eqGuard_int (op : BinOp) (t : TypeId) (x y : Operand) (k k' : IntKind) (p q : Int) : (eqGuard op t x y (.int k p) (.int k' q)).run P w = .ok () w := by
  unfold eqGuard; cases op <;> rfl
theorem eqGuard_str (op : BinOp) (t : TypeId) (x y : Operand) (p q : ByteArray) : (eqGuard op t x y (.string p) (.string q)).run P w = .ok () w := by
  unfold eqGuard; cases op <;> rfl
theorem eqGuard_bool (op : BinOp) (t : TypeId) (x y : Operand) (p q : Bool) : (eqGuard op t x y (.bool p) (.bool q)).run P w = .ok () w := by
  unfold eqGuard; cases op <;> rfl

theorem binI_run {op : BinOp} {k : IntKind} {x y : Int} {r : AV} (t : TypeId) (h : binI op k x y = some r) : ∃ u, (binOp op t (.int k x) (.int k y)).run P w = .ok u w ∧ Rep E n w r u := by
  cases op <;> simp only [binI, reduceCtorEq] at h
  case quo =>
    split at h
    · cases h
    · rename_i hy
      obtain rfl := Option.some.inj h
      exact ⟨_, by simp [binOp, Op.intDiv, hy], .int _ _⟩
  case rem =>
    split at h
    · cases h
    · rename_i hy
      obtain rfl := Option.some.inj h
      exact ⟨_, by simp [binOp, Op.intDiv, hy], .int _ _⟩
  all_goals
    obtain rfl := Option.some.inj h
    exact ⟨_, by simp only [binOp, Op.intArith, Op.intCmp, ne_eq, not_true_eq_false, if_false]; rfl, by first | exact .int _ _ | exact .bool _⟩

theorem binS_run {op : BinOp} {x y : ByteArray} {r : AV} (t : TypeId) (h : binS op x y = some r) : ∃ u, (binOp op t (.string x) (.string y)).run P w = .ok u w ∧ Rep E n w r u := by
  cases op <;> simp only [binS, reduceCtorEq] at h
  all_goals
    obtain rfl := Option.some.inj h
    exact ⟨_, by simp only [binOp, Op.stringOp]; rfl, .bool _⟩

theorem s_bin (S : Sim P T E st w) (F : RepL E st.objs.length w fr a.tmps.toList) {op' : BinOp} {x y : Opd} (hc : chkOp P o.op (.bin op' x y) = true) (h : exOp O fr st (.bin op' x y) = some (v, st')) : Goes P T E st w o a v st' := by
  obtain ⟨dst, op, ty', pos, after, guard⟩ := o
  cases op <;> simp only [chkOp, Bool.false_eq_true] at hc
  rename_i op t p q ty2
  simp only [Bool.and_eq_true, decide_eq_true_eq] at hc
  obtain ⟨⟨rfl, h1⟩, h2⟩ := hc
  obtain ⟨hb, rfl⟩ := opt_get h
  have r1 := ev_rep S.glob F h1
  have r2 := ev_rep S.glob F h2
  unfold bin at hb
  split at hb
  · rename_i k x k' y e1 e2
    split at hb
    · rename_i hk
      subst hk
      rw [e1] at r1; rw [e2] at r2
      obtain ⟨u, hu, hr⟩ := binI_run (P := P) (E := E) (n := st'.objs.length) (w := w) t hb
      exact Goes.quiet S (cv := u) (by simp [execOp, rep_int r1, rep_int r2, eqGuard_int, hu]) hr
    · cases hb
  · rename_i x y e1 e2
    rw [e1] at r1; rw [e2] at r2
    obtain ⟨u, hu, hr⟩ := binS_run (P := P) (E := E) (n := st'.objs.length) (w := w) t hb
    exact Goes.quiet S (cv := u) (by simp [execOp, rep_str r1, rep_str r2, eqGuard_str, hu]) hr
  · cases hb

theorem equal_bool {t : TypeId} (ht : P.underlying t = some .bool) (b c : Bool) : (Op.equal t (.bool b) (.bool c)).run P w = .ok (b == c) w := by
  have key : ∀ d, (Op.equalIn (d + 1) t (.bool b) (.bool c)).run P w = .ok (b == c) w := fun d => by simp [Op.equalIn, run_underlying ht]
  exact key 9999

theorem s_beq (S : Sim P T E st w) (F : RepL E st.objs.length w fr a.tmps.toList) {ng : Bool} {x y : Opd} (hc : chkOp P o.op (.beq ng x y) = true) (h : exOp O fr st (.beq ng x y) = some (v, st')) : Goes P T E st w o a v st' := by
  obtain ⟨dst, op, ty', pos, after, guard⟩ := o
  cases op <;> simp only [chkOp, Bool.false_eq_true] at hc
  rename_i op t p q ty2
  simp only [Bool.and_eq_true] at hc
  obtain ⟨⟨⟨h0, h1⟩, h2⟩, h3⟩ := hc
  have ht : P.underlying t = some .bool := by
    split at h3
    · assumption
    · cases h3
  have r1 := ev_rep S.glob F h1
  have r2 := ev_rep S.glob F h2
  simp only [exOp] at h
  split at h
  · rename_i b c e1 e2
    obtain ⟨rfl, rfl⟩ : _ ∧ _ := by simpa using h
    rw [e1] at r1; rw [e2] at r2
    have he := equal_bool (P := P) (w := w) ht b c
    cases op <;> simp only [Bool.false_eq_true] at h0
    · obtain rfl : ng = false := by simpa using h0
      exact Goes.quiet S (cv := .bool (b == c)) (by simp [execOp, rep_bool r1, rep_bool r2, eqGuard_bool, binOp, he]) (by simpa using Rep.bool _)
    · subst h0
      exact Goes.quiet S (cv := .bool !(b == c)) (by simp [execOp, rep_bool r1, rep_bool r2, eqGuard_bool, binOp, he]) (by simpa using Rep.bool _)
  · cases h

theorem s_not (S : Sim P T E st w) (F : RepL E st.objs.length w fr a.tmps.toList) {x : Opd} (hc : chkOp P o.op (.not x) = true) (h : exOp O fr st (.not x) = some (v, st')) : Goes P T E st w o a v st' := by
  obtain ⟨dst, op, ty', pos, after, guard⟩ := o
  cases op <;> simp only [chkOp, Bool.false_eq_true] at hc
  rename_i uo t y
  cases uo <;> simp only [Bool.false_eq_true] at hc
  have r1 := ev_rep S.glob F hc
  simp only [exOp] at h
  split at h
  · rename_i b e
    obtain ⟨rfl, rfl⟩ : _ ∧ _ := by simpa using h
    rw [e] at r1
    exact Goes.quiet S (cv := .bool !b) (by simp [execOp, rep_bool r1, Op.unary]) (.bool _)
  · cases h

theorem s_neg (S : Sim P T E st w) (F : RepL E st.objs.length w fr a.tmps.toList) {x : Opd} (hc : chkOp P o.op (.neg x) = true) (h : exOp O fr st (.neg x) = some (v, st')) : Goes P T E st w o a v st' := by
  obtain ⟨dst, op, ty', pos, after, guard⟩ := o
  cases op <;> simp only [chkOp, Bool.false_eq_true] at hc
  rename_i uo t y
  cases uo <;> simp only [Bool.false_eq_true] at hc
  have r1 := ev_rep S.glob F hc
  simp only [exOp] at h
  split at h
  · rename_i k b e
    simp only [Option.some.injEq, Prod.mk.injEq] at h
    obtain ⟨rfl, rfl⟩ := h
    rw [e] at r1
    exact Goes.quiet S (cv := .int k (k.wrap (0 - b))) (by simp [execOp, rep_int r1, Op.unary, Op.intArith]) (.int _ _)
  · cases h

theorem s_conv (S : Sim P T E st w) (F : RepL E st.objs.length w fr a.tmps.toList) {k : IntKind} {x : Opd} (hc : chkOp P o.op (.conv k x) = true) (h : exOp O fr st (.conv k x) = some (v, st')) : Goes P T E st w o a v st' := by
  obtain ⟨dst, op, ty', pos, after, guard⟩ := o
  cases op <;> simp only [chkOp, Bool.false_eq_true] at hc
  rename_i s d y
  simp only [Bool.and_eq_true] at hc
  obtain ⟨⟨h1, h2⟩, h3⟩ := hc
  have hd : P.underlying d = some (.int k) := by
    split at h3
    · rename_i k' e; rw [e, of_decide_eq_true h3]
    · cases h3
  obtain ⟨ds, hs⟩ := Option.isSome_iff_exists.1 h2
  have r1 := ev_rep S.glob F h1
  simp only [exOp] at h
  split at h
  · rename_i k' b e
    obtain ⟨rfl, rfl⟩ : _ ∧ _ := by simpa using h
    rw [e] at r1
    exact Goes.quiet S (cv := .int k (k.wrap b)) (by simp [execOp, rep_int r1, convert, run_underlying hs, run_underlying hd, Conv.intToInt]) (.int _ _)
  · cases h

theorem s_same (S : Sim P T E st w) (F : RepL E st.objs.length w fr a.tmps.toList) {x : Opd} (hc : chkOp P o.op (.same x) = true) (h : exOp O fr st (.same x) = some (v, st')) : Goes P T E st w o a v st' := by
  obtain ⟨dst, op, ty', pos, after, guard⟩ := o
  cases op <;> simp only [chkOp, Bool.false_eq_true] at hc
  rename_i s d y
  simp only [Bool.and_eq_true] at hc
  obtain ⟨⟨h1, h2⟩, h3⟩ := hc
  have hd : P.underlying d = some .string := by
    split at h3
    · assumption
    · cases h3
  obtain ⟨ds, hs⟩ := Option.isSome_iff_exists.1 h2
  have r1 := ev_rep S.glob F h1
  simp only [exOp] at h
  split at h
  · rename_i b e
    obtain ⟨rfl, rfl⟩ : _ ∧ _ := by simpa using h
    rw [e] at r1
    exact Goes.quiet S (cv := .string b) (by simp [execOp, rep_str r1, convert, run_underlying hs, run_underlying hd]) (.str _)
  · cases h

theorem s_mkfn (S : Sim P T E st w) (F : RepL E st.objs.length w fr a.tmps.toList) {f : Fn} {x y : List Opd} (hc : chkOp P o.op (.mkfn f x y) = true) (h : exOp O fr st (.mkfn f x y) = some (v, st')) : Goes P T E st w o a v st' := by
  obtain ⟨dst, op, ty', pos, after, guard⟩ := o
  cases op <;> simp only [chkOp, Bool.false_eq_true] at hc
  rename_i f' p q
  simp only [Bool.and_eq_true, decide_eq_true_eq] at hc
  obtain ⟨⟨rfl, h1⟩, h2⟩ := hc
  obtain ⟨rfl, rfl⟩ : _ ∧ _ := by simpa [exOp] using h
  have r1 := evs_rep S.glob F h1
  have r2 := evs_rep S.glob F h2
  refine Goes.quiet S (cv := .func f' (p.map a.eval) (q.map a.eval)) (by simp [execOp, Instr.makeFunc]) (.fn (by simpa using r1.len) (fun j x u hx hu => r1.at_ j x u hx ?_) (by simpa using r2.len) (fun j x u hx hu => r2.at_ j x u hx ?_))
  · rw [← Array.getElem?_toList] at hu; simpa using hu
  · rw [← Array.getElem?_toList] at hu; simpa using hu

theorem s_fieldA (S : Sim P T E st w) (F : RepL E st.objs.length w fr a.tmps.toList) {off : Nat} {x : Opd} (hc : chkOp P o.op (.fieldA off x) = true) (h : exOp O fr st (.fieldA off x) = some (v, st')) : Goes P T E st w o a v st' := by
  obtain ⟨dst, op, ty', pos, after, guard⟩ := o
  cases op <;> simp only [chkOp, Bool.false_eq_true] at hc
  rename_i s y f
  simp only [Bool.and_eq_true] at hc
  obtain ⟨h1, h2⟩ := hc
  split at h2
  · rename_i fs hfs
    split at h2
    · rename_i fd hfd
      simp only [Bool.and_eq_true, beq_iff_eq] at h2
      obtain ⟨rfl, h3⟩ := h2
      split at h3
      · rename_i i hi
        have hne : i.size ≠ 0 := by simpa using h3
        have r1 := ev_rep S.glob F h1
        have run : ∀ b o', (Instr.fieldAt s (.pointer (some ⟨b, o', none⟩)) f).run P w = .ok (.pointer (some ⟨b, o' + fd.offset, none⟩)) w := by
          intro b o'
          simp [Instr.fieldAt, run_underlying hfs, hfd, Instr.sureAddr, fieldPlace, Go.sizeOf, typeInfo, hi, hne, Addr.add_lit]
        simp only [exOp] at h
        generalize ev fr x = u at h r1
        generalize hz : a.eval y = z at r1
        cases r1
        all_goals try (cases h; done)
        case ptr r i off o' hr ho =>
          obtain ⟨rfl, rfl⟩ : _ ∧ _ := by simpa using h
          exact Goes.quiet S (cv := .pointer (some ⟨(E.L r).blk, o' + fd.offset, none⟩)) (by simp [execOp, hz, run]) (.ptr i (off + fd.offset) _ hr (by omega))
        case vptr cs b o' c hF hc' hh =>
          obtain ⟨rfl, rfl⟩ : _ ∧ _ := by simpa using h
          refine Goes.quiet S (cv := .pointer (some ⟨b, o' + fd.offset, none⟩)) (by simp [execOp, hz, run]) (.vptr b (o' + fd.offset) (fun j => c (fd.offset + j)) hF (fun j hj => ?_) fun j x hx => hh _ x (by simpa using hx))
          have := hc' (fd.offset + j) (by simp at hj; omega)
          rwa [← Nat.add_assoc] at this
      · cases h3
    · cases h2
  · cases h2

theorem run_part {t : Nat} {agg : Bool} {off sz : Nat} {vs : Array Value} (hs : sizeB P t sz = true) (ha : isAggB P t agg = true) (h1 : agg = true ∨ sz = 1) (hl : off + sz ≤ vs.size) :
    (part t vs off).run P w = .ok (if agg = true then .agg ((List.range sz).map fun j => vs.getD (off + j) undef).toArray else vs.getD off undef) w := by
  unfold part
  simp only [Sem.run_bind, run_isAgg ha, Result.andThen_ok]
  cases agg with
  | true =>
    simp only [if_true, Sem.run_bind, run_sizeOf hs, Result.andThen_ok, Sem.run_pure]
    congr 2
    apply Array.ext_getElem?
    intro j
    simp only [Array.getElem?_extract, List.getElem?_toArray, List.getElem?_map]
    by_cases hj : j < sz
    · have : off + j < vs.size := by omega
      simp [hj, this, show j < min (off + sz) vs.size - off by omega]
    · simp [hj, show ¬ j < min (off + sz) vs.size - off by omega]
  | false =>
    have h0 : sz = 1 := by simpa using h1
    subst h0
    simp [show off < vs.size by omega]

theorem s_field (S : Sim P T E st w) (F : RepL E st.objs.length w fr a.tmps.toList) {agg : Bool} {off sz : Nat} {x : Opd} (hc : chkOp P o.op (.field agg off sz x) = true) (h : exOp O fr st (.field agg off sz x) = some (v, st')) : Goes P T E st w o a v st' := by
  obtain ⟨dst, op, ty', pos, after, guard⟩ := o
  cases op <;> simp only [chkOp, Bool.false_eq_true] at hc
  rename_i s y f
  simp only [Bool.and_eq_true] at hc
  obtain ⟨h1, h2⟩ := hc
  split at h2
  · rename_i fs hfs
    split at h2
    · rename_i fd hfd
      simp only [Bool.and_eq_true, Bool.or_eq_true, beq_iff_eq] at h2
      obtain ⟨⟨⟨rfl, h3⟩, h4⟩, h5⟩ := h2
      have r1 := ev_rep S.glob F h1
      simp only [exOp] at h
      generalize ev fr x = u at h r1
      generalize hz : a.eval y = z at r1
      cases r1
      all_goals try (cases h; done)
      case agg cs vs hl hh =>
        simp only at h
        split at h
        · rename_i hle
          obtain ⟨hv, rfl⟩ := opt_get h
          have hrun := run_part (P := P) (w := w) (off := fd.offset) (vs := vs) h3 h4 h5 (by omega)
          refine Goes.quiet S (cv := _) (by simp [execOp, hz, Instr.field, run_underlying hfs, hfd, asAgg, hrun]; rfl) ?_
          have := val_rep (E := E) (n := st'.objs.length) (w := w) hv (sz := sz) (by simp; omega) (fun j => vs.getD (fd.offset + j) undef) fun j y hy => ?_
          · simpa using this
          · have hj : j < sz := by have := lt_of_get hy; simp at this; omega
            refine hh (fd.offset + j) y _ (by simpa [List.getElem?_take, hj] using hy) ?_
            simp [show fd.offset + j < vs.size by omega]
        · cases h
    · cases h2
  · cases h2

end
end Go.Proofs.YtcoonnbkmklenaaDoor.A
