/- The last operations; then all of them in one. -/
import Derived.Test.YtcoonnbkmklenaaDoorOps6
namespace Go.Proofs.YtcoonnbkmklenaaDoor.A
open Go

section
variable {P : Program} {T : Tab} {E E' : Env} {st st' : St} {w w' : World} {n : Nat}
variable {o : Oper} {a : Act} {fr : List AV} {v : AV} {O : Orc}

/-- a part of a slice that never changes -/
theorem part_sl {sz : Nat} {es : List (List AV)} {b o' : Nat} {c : Nat → Nat → Value} {ax : Option Addr} {l h m : Nat} {a' : Option Addr} (hs : ∀ e ∈ es, e.length = sz) (hh : h ≤ es.length) (hl : l ≤ h) (hm : h ≤ m)
    (ha : es = [] ∨ (ax = some ⟨b, o', none⟩ ∧ E.F b)) (hc : ∀ i j, i < es.length → j < sz → w.cell? ⟨b, o' + i * sz + j, none⟩ = some (c i j) ∧ (c i j).oneCell' = true)
    (hr : ∀ i e j x, es[i]? = some e → e[j]? = some x → Rep E n w x (c i j)) (haddr : l < h → a' = ax.map (·.add (l * sz))) :
    Rep E n w (.sl sz ((es.take h).drop l)) (.slice a' (h - l) (m - l)) ∧ (m = h → Rep E n w (.fsl sz ((es.take h).drop l)) (.slice a' (h - l) (m - l))) := by
  have hlen : ((es.take h).drop l).length = h - l := by simp; omega
  have h1 : ∀ e ∈ (es.take h).drop l, e.length = sz := fun e he => hs e (List.mem_of_mem_take (List.mem_of_mem_drop he))
  have h2 : (es.take h).drop l = [] ∨ (a' = some ⟨b, o' + l * sz, none⟩ ∧ E.F b) := by
    by_cases hlt : l < h
    · right
      obtain ⟨e1, e2⟩ := ha.resolve_left (by rintro rfl; simp at hh; omega)
      exact ⟨by rw [haddr hlt, e1]; simp [Addr.add_lit], e2⟩
    · left; exact List.eq_nil_of_length_eq_zero (by omega)
  have h3 : ∀ i j, i < ((es.take h).drop l).length → j < sz → w.cell? ⟨b, o' + l * sz + i * sz + j, none⟩ = some (c (l + i) j) ∧ (c (l + i) j).oneCell' = true := by
    intro i j hi hj
    have := hc (l + i) j (by omega) hj
    rwa [show o' + (l + i) * sz + j = o' + l * sz + i * sz + j by rw [Nat.add_mul]; omega] at this
  have h4 : ∀ i e j x, ((es.take h).drop l)[i]? = some e → e[j]? = some x → Rep E n w x (c (l + i) j) := by
    intro i e j x he hx
    refine hr (l + i) e j x ?_ hx
    have := drop_get he
    rw [List.getElem?_take] at this
    split at this
    · exact this
    · cases this
  exact ⟨.sl b _ (fun i j => c (l + i) j) hlen.symm (by omega) h1 h2 h3 h4, fun e => .fsl b _ (fun i j => c (l + i) j) hlen.symm (by omega) h1 h2 h3 h4⟩

theorem run_slice {t e sz : Nat} (ht : P.underlying t = some (.slice e)) (hs : sizeB P e sz = true) {ax : Option Addr} {len cap l h m : Nat} {lo hi mx : Option Value}
    (hb : (Instr.sliceBounds true len cap lo hi mx).run P w = .ok (l, h, m) w) :
    (Instr.sliceAt t (.slice ax len cap) lo hi mx).run P w = .ok (.slice (if m = l then ax else ax.map (·.add (l * sz))) (h - l) (m - l)) w := by
  simp [Instr.sliceAt, Instr.slice, run_underlying ht, hb, run_sizeOf hs]

theorem s_slice (S : Sim P T E st w) (F : RepL E st.objs.length w fr a.tmps.toList) {sz : Nat} {x : Opd} {lo hi mx : Option Opd} (hc : chkOp P o.op (.slice sz x lo hi mx) = true) (h : exOp O fr st (.slice sz x lo hi mx) = some (v, st')) : Goes P T E st w o a v st' := by
  obtain ⟨dst, op, ty', pos, after, guard⟩ := o
  cases op <;> simp only [chkOp, Bool.false_eq_true] at hc
  rename_i t y lo' hi' mx'
  simp only [Bool.and_eq_true, Bool.or_eq_true] at hc
  obtain ⟨⟨⟨⟨⟨h1, h2⟩, h3⟩, h4⟩, h5⟩, h6⟩ := hc
  split at h6
  · rename_i e he
    simp only [Bool.and_eq_true, decide_eq_true_eq] at h6
    obtain ⟨hs, hpos⟩ := h6
    obtain ⟨hv, rfl⟩ := opt_get h
    have r1 := ev_rep S.glob F h1
    generalize ev fr x = u at hv r1
    generalize hz : a.eval y = z at r1
    -- a slice by value
    have gen : ∀ (s : Nat) (es : List (List AV)) (full : Bool) (b o' len cp : Nat) (c : Nat → Nat → Value) (ax : Option Addr), z = .slice ax len cp → len = es.length → len ≤ cp → (full = true → cp = len) →
        (∀ e ∈ es, e.length = s) → (es = [] ∨ (ax = some ⟨b, o', none⟩ ∧ E.F b)) →
        (∀ i j, i < es.length → j < s → w.cell? ⟨b, o' + i * s + j, none⟩ = some (c i j) ∧ (c i j).oneCell' = true) →
        (∀ i e j x, es[i]? = some e → e[j]? = some x → Rep E st'.objs.length w x (c i j)) →
        (s == sz || es.isEmpty) = true → slcL s es full (lo.map (ev fr)) (hi.map (ev fr)) (mx.map (ev fr)) = some v →
        Goes P T E st' w ⟨dst, .slice t y lo' hi' mx', ty', pos, after, guard⟩ a v st' := by
      intro s es full b o' len cp c ax hzz hlen hcp hful hes ha hcc hh hsz hv
      subst hzz hlen
      have hsz' : s = sz ∨ es = [] := by simpa [Bool.or_eq_true] using hsz
      unfold slcL at hv
      split at hv
      · rename_i hh' eh
        split at hv
        · rename_i l el
          obtain ⟨b1, b2, b3⟩ := bounds_run (P := P) (w := w) true S.glob F h2 h3 h4 h5 hcp eh el
          have addr : ∀ m, hh' ≤ m → l < hh' → (if m = l then ax else ax.map (·.add (l * sz))) = ax.map (·.add (l * s)) := by
            intro m hm hlt
            rw [if_neg (by omega)]
            rcases hsz' with rfl | hsz
            · rfl
            · subst hsz; simp at b1; omega
          split at hv
          · rename_i emx
            have emx' : mx = none := by simpa using emx
            have hb := b3.1 emx'
            have hrun := run_slice (P := P) (ax := ax) he hs hb
            obtain ⟨p1, p2⟩ := part_sl (a' := if cp = l then ax else ax.map (·.add (l * sz))) hes b1 b2 (show hh' ≤ cp by omega) ha hcc hh (addr cp (by omega))
            refine Goes.quiet S (cv := .slice (if cp = l then ax else ax.map (·.add (l * sz))) (hh' - l) (cp - l)) (by simp [execOp, hz, hrun]) ?_
            obtain rfl := Option.some.inj hv
            cases hfl : (full && hh' == es.length) with
            | true =>
              simp only [Bool.and_eq_true, beq_iff_eq] at hfl
              simp only [cond_true]
              exact p2 (by rw [hful hfl.1, hfl.2])
            | false => exact p1
          · rename_i k m emx
            split at hv
            · rename_i hm
              obtain rfl := Option.some.inj hv
              obtain ⟨x', ex', ex2⟩ := Option.map_eq_some_iff.1 emx
              have hb := b3.2 k m x' ex' ex2 hm
              have hrun := run_slice (P := P) (ax := ax) he hs hb
              obtain ⟨p1, p2⟩ := part_sl (a' := if hh' = l then ax else ax.map (·.add (l * sz))) hes b1 b2 (Nat.le_refl hh') ha hcc hh (addr hh' (Nat.le_refl _))
              exact Goes.quiet S (cv := .slice (if hh' = l then ax else ax.map (·.add (l * sz))) (hh' - l) (hh' - l)) (by simp [execOp, hz, hrun]) (p2 rfl)
            · cases hv
          · cases hv
        · cases hv
      · cases hv
    cases r1
    all_goals try (simp only [slc, reduceCtorEq] at hv; done)
    case sl s es ax len cp b o' c hl hcp hs' ha hcc hh =>
      simp only [slc] at hv
      split at hv
      · rename_i hsz
        exact gen s es false b o' len cp c ax rfl hl hcp (by simp) hs' ha hcc hh hsz hv
      · cases hv
    case fsl s es ax len cp b o' c hl hcp hs' ha hcc hh =>
      simp only [slc] at hv
      split at hv
      · rename_i hsz
        exact gen s es true b o' len cp c ax rfl hl (by omega) (fun _ => hcp) hs' ha hcc hh hsz hv
      · cases hv
    case own r lo0 m cp full ax hr hm q1 q2 ha =>
      simp only [slc] at hv
      split at hv
      · rename_i ty s es hr'
        split at hv
        · rename_i hss
          subst hss
          have hlsz := (S.obj r _ (arr_get hr')).1
          split at hv
          · rename_i hh' eh
            split at hv
            · rename_i l el
              obtain ⟨b1, b2, b3⟩ := bounds_run (P := P) (w := w) true S.glob F h2 h3 h4 h5 hm eh el
              have addr : ∀ m', m' ≤ cp → m' - l = 0 ∨ (if m' = l then ax else ax.map (·.add (l * s))) = some ⟨(E.L r).blk, (lo0 + l) * (E.L r).sz, none⟩ := by
                intro m' hm'
                by_cases e : m' = l
                · left; omega
                · rcases ha with ha | ha
                  · left; omega
                  · right; rw [if_neg e]; subst ha; simp [Addr.add_lit, hlsz, Nat.add_mul]
              split at hv
              · rename_i emx
                have emx' : mx = none := by simpa using emx
                have hrun := run_slice (P := P) (ax := ax) he hs (b3.1 emx')
                split at hv
                · cases hv
                · rename_i hfl
                  obtain rfl := Option.some.inj hv
                  refine Goes.quiet S (cv := .slice (if cp = l then ax else ax.map (·.add (l * s))) (hh' - l) (cp - l)) (by simp [execOp, hz, hrun]) (.own hr (by omega) (fun hf => ?_) (fun hf => ?_) (addr cp (Nat.le_refl _)))
                  · have := q1 hf
                    have : hh' = m := by simpa [hf] using hfl
                    omega
                  · have := q2 hf; omega
              · rename_i k mm emx
                split at hv
                · rename_i hmm
                  obtain rfl := Option.some.inj hv
                  obtain ⟨x', ex', ex2⟩ := Option.map_eq_some_iff.1 emx
                  have hrun := run_slice (P := P) (ax := ax) he hs (b3.2 k mm x' ex' ex2 hmm)
                  exact Goes.quiet S (cv := .slice (if hh' = l then ax else ax.map (·.add (l * s))) (hh' - l) (hh' - l)) (by simp [execOp, hz, hrun]) (.own hr (Nat.le_refl _) (fun _ => rfl) (by simp) (addr hh' (by omega)))
                · cases hv
              · cases hv
            · cases hv
          · cases hv
        · cases hv
      · cases hv
  · cases h6

theorem s_sliceS (S : Sim P T E st w) (F : RepL E st.objs.length w fr a.tmps.toList) {x : Opd} {lo hi : Option Opd} (hc : chkOp P o.op (.sliceS x lo hi) = true) (h : exOp O fr st (.sliceS x lo hi) = some (v, st')) : Goes P T E st w o a v st' := by
  obtain ⟨dst, op, ty', pos, after, guard⟩ := o
  cases op <;> simp only [chkOp, Bool.false_eq_true] at hc
  rename_i t y lo' hi' mx'
  cases mx' with
  | some _ => simp at hc
  | none =>
    simp only [Bool.and_eq_true] at hc
    obtain ⟨⟨⟨h1, h2⟩, h3⟩, h6⟩ := hc
    have ht : P.underlying t = some .string := by
      split at h6
      · assumption
      · cases h6
    obtain ⟨hv, rfl⟩ := opt_get h
    have r1 := ev_rep S.glob F h1
    unfold slcS at hv
    split at hv
    · rename_i s es
      rw [es] at r1
      split at hv
      · rename_i hh' eh
        split at hv
        · rename_i l el
          obtain rfl := Option.some.inj hv
          obtain ⟨b1, b2, b3⟩ := bounds_run (P := P) (w := w) false S.glob F h2 h3 (mx := none) (mx' := none) rfl (.inl rfl) (Nat.le_refl s.size) eh el
          have hb := b3.1 rfl
          simp only [Option.map_none] at hb
          exact Goes.quiet S (cv := .string (s.extract l hh')) (by simp [execOp, rep_str r1, Instr.sliceAt, Instr.slice, run_underlying ht, hb]) (.str _)
        · cases hv
      · cases hv
    · cases hv

theorem s_extract (S : Sim P T E st w) (F : RepL E st.objs.length w fr a.tmps.toList) {x : Opd} {i : Nat} (hc : chkOp P o.op (.extract x i) = true) (h : exOp O fr st (.extract x i) = some (v, st')) : Goes P T E st w o a v st' := by
  obtain ⟨dst, op, ty', pos, after, guard⟩ := o
  cases op <;> simp only [chkOp, Bool.false_eq_true] at hc
  rename_i y j
  simp only [Bool.and_eq_true, beq_iff_eq] at hc
  obtain ⟨h1, rfl⟩ := hc
  have r1 := ev_rep S.glob F h1
  simp only [exOp] at h
  split at h
  · rename_i vs e
    split at h
    · rename_i u hu
      obtain ⟨rfl, rfl⟩ : _ ∧ _ := by simpa using h
      rw [e] at r1
      generalize hz : a.eval y = z at r1
      cases r1 with
      | tup hl hh =>
        obtain ⟨cv, hcv⟩ := get_of_len hl (lt_of_get hu)
        exact Goes.quiet S (cv := cv) (by simp [execOp, hz, Instr.extract, hcv]) (hh j _ cv hu hcv)
    · cases h
  · cases h

theorem s_len (S : Sim P T E st w) (F : RepL E st.objs.length w fr a.tmps.toList) {x : Opd} (hc : chkOp P o.op (.len x) = true) (h : exOp O fr st (.len x) = some (v, st')) : Goes P T E st w o a v st' := by
  obtain ⟨dst, op, ty', pos, after, guard⟩ := o
  cases op <;> simp only [chkOp, Bool.false_eq_true] at hc
  rename_i c
  obtain ⟨callee, args, ts⟩ := c
  cases callee <;> simp only [chkCall, Bool.false_eq_true, chkBuiltin] at hc
  rename_i b
  split at hc
  · rename_i y t ey et
    obtain rfl : args = #[y] := by cases args; simpa using ey
    obtain rfl : ts = #[t] := by cases ts; simpa using et
    simp only [Bool.and_eq_true] at hc
    obtain ⟨h1, h2⟩ := hc
    have r1 := ev_rep S.glob F h1
    simp only [exOp] at h
    split at h
    · rename_i m hm
      obtain ⟨rfl, rfl⟩ : _ ∧ _ := by simpa using h
      have ht : ∃ e, P.underlying t = some (.slice e) := by
        split at h2
        · exact ⟨_, by assumption⟩
        · cases h2
      obtain ⟨e, he⟩ := ht
      generalize ev fr x = u at hm r1
      generalize hz : a.eval y = z at r1
      have fin : ∀ ax len cp, z = .slice ax len cp → len = m → Goes P T E st w ⟨dst, .call ⟨.builtin .len, #[y], #[t]⟩, ty', pos, after, guard⟩ a (.int .i64 m) st := by
        rintro ax len cp rfl rfl
        have hr : (Builtin.len_ #[t] ty' #[.slice ax len cp]).run P w = .ok (goInt len) w := by simp [Builtin.len_, run_underlying he]
        exact Goes.quiet S (cv := .int .i64 len) (by simp [execOp, resolve, invoke, builtin, hz, hr, goInt]) (.int _ _)
      cases r1 <;> simp only [lenOf, Option.some.injEq, reduceCtorEq] at hm
      case own => exact fin _ _ _ rfl hm
      case sl hl _ _ _ _ _ => exact fin _ _ _ rfl (by omega)
      case fsl hl _ _ _ _ _ => exact fin _ _ _ rfl (by omega)
    · cases h
  · cases hc

theorem s_lenS (S : Sim P T E st w) (F : RepL E st.objs.length w fr a.tmps.toList) {x : Opd} (hc : chkOp P o.op (.lenS x) = true) (h : exOp O fr st (.lenS x) = some (v, st')) : Goes P T E st w o a v st' := by
  obtain ⟨dst, op, ty', pos, after, guard⟩ := o
  cases op <;> simp only [chkOp, Bool.false_eq_true] at hc
  rename_i c
  obtain ⟨callee, args, ts⟩ := c
  cases callee <;> simp only [chkCall, Bool.false_eq_true, chkBuiltin] at hc
  rename_i b
  split at hc
  · rename_i y t ey et
    obtain rfl : args = #[y] := by cases args; simpa using ey
    obtain rfl : ts = #[t] := by cases ts; simpa using et
    simp only [Bool.and_eq_true] at hc
    obtain ⟨h1, h2⟩ := hc
    have r1 := ev_rep S.glob F h1
    have ht : P.underlying t = some .string := by
      split at h2
      · assumption
      · cases h2
    simp only [exOp] at h
    split at h
    · rename_i s e
      obtain ⟨rfl, rfl⟩ : _ ∧ _ := by simpa using h
      rw [e] at r1
      have hr : (Builtin.len_ #[t] ty' #[.string s]).run P w = .ok (goInt s.size) w := by simp [Builtin.len_, run_underlying ht]
      exact Goes.quiet S (cv := .int .i64 s.size) (by simp [execOp, resolve, invoke, builtin, rep_str r1, hr, goInt]) (.int _ _)
    · cases h
  · cases hc

theorem s_append (S : Sim P T E st w) (F : RepL E st.objs.length w fr a.tmps.toList) {ty sz bytes : Nat} {s x : Opd} (hc : chkOp P o.op (.append ty sz bytes s x) = true) (h : exOp O fr st (.append ty sz bytes s x) = some (v, st')) : Goes P T E st w o a v st' := by
  obtain ⟨dst, op, ty', pos, after, guard⟩ := o
  cases op <;> simp only [chkOp, Bool.false_eq_true] at hc
  rename_i c
  obtain ⟨callee, args, ts⟩ := c
  cases callee <;> simp only [chkCall, Bool.false_eq_true, chkBuiltin] at hc
  rename_i b
  split at hc
  · rename_i y z t t' ey et
    obtain rfl : args = #[y, z] := by cases args; simpa using ey
    obtain rfl : ts = #[t, t'] := by cases ts; simpa using et
    simp only [Bool.and_eq_true, beq_iff_eq] at hc
    obtain ⟨⟨⟨h1, h2⟩, rfl⟩, h3⟩ := hc
    have A : AppT P t ty sz bytes := by
      split at h3
      · rename_i e he
        simp only [Bool.and_eq_true, beq_iff_eq] at h3
        obtain ⟨rfl, h4⟩ := h3
        split at h4
        · rename_i i hi
          simp only [Bool.and_eq_true, beq_iff_eq, decide_eq_true_eq] at h4
          obtain ⟨⟨⟨h5, h6⟩, h7⟩, h8⟩ := h4
          split at h8
          · rename_i zz hz
            exact ⟨he, h7, i, zz, hi, h5, h6, hz, by simpa using h8⟩
          · cases h8
        · cases h4
      · cases h3
    obtain ⟨cv, w', E', r1, r2, r3, r4⟩ := app_sound (t0 := ty') S A (ev_rep S.glob F h1) (ev_rep S.glob F h2) h
    exact ⟨.value cv, w', E', by simp [execOp, resolve, invoke, builtin, r1], .inl ⟨cv, rfl, r2⟩, r3, r4⟩
  · cases hc

theorem s_max2 (S : Sim P T E st w) (F : RepL E st.objs.length w fr a.tmps.toList) {x y : Opd} (hc : chkOp P o.op (.max2 x y) = true) (h : exOp O fr st (.max2 x y) = some (v, st')) : Goes P T E st w o a v st' := by
  obtain ⟨dst, op, ty', pos, after, guard⟩ := o
  cases op <;> simp only [chkOp, Bool.false_eq_true] at hc
  rename_i c
  obtain ⟨callee, args, ts⟩ := c
  cases callee <;> simp only [chkCall, Bool.false_eq_true, chkBuiltin] at hc
  rename_i b
  split at hc
  · rename_i p q ey
    obtain rfl : args = #[p, q] := by cases args; simpa using ey
    simp only [Bool.and_eq_true] at hc
    have r1 := ev_rep S.glob F hc.1
    have r2 := ev_rep S.glob F hc.2
    simp only [exOp] at h
    split at h
    · rename_i k i k' j e1 e2
      split at h
      · rename_i hk
        subst hk
        simp only [Option.some.injEq, Prod.mk.injEq] at h
        obtain ⟨rfl, rfl⟩ := h
        rw [e1] at r1; rw [e2] at r2
        exact Goes.quiet S (cv := .int k (if j > i then j else i)) (by simp [execOp, resolve, invoke, builtin, rep_int r1, rep_int r2, Builtin.max_, Builtin.max2]) (.int _ _)
      · cases h
    · cases h
  · cases hc

theorem s_min2 (S : Sim P T E st w) (F : RepL E st.objs.length w fr a.tmps.toList) {x y : Opd} (hc : chkOp P o.op (.min2 x y) = true) (h : exOp O fr st (.min2 x y) = some (v, st')) : Goes P T E st w o a v st' := by
  obtain ⟨dst, op, ty', pos, after, guard⟩ := o
  cases op <;> simp only [chkOp, Bool.false_eq_true] at hc
  rename_i c
  obtain ⟨callee, args, ts⟩ := c
  cases callee <;> simp only [chkCall, Bool.false_eq_true, chkBuiltin] at hc
  rename_i b
  split at hc
  · rename_i p q ey
    obtain rfl : args = #[p, q] := by cases args; simpa using ey
    simp only [Bool.and_eq_true] at hc
    have r1 := ev_rep S.glob F hc.1
    have r2 := ev_rep S.glob F hc.2
    simp only [exOp] at h
    split at h
    · rename_i k i k' j e1 e2
      split at h
      · rename_i hk
        subst hk
        simp only [Option.some.injEq, Prod.mk.injEq] at h
        obtain ⟨rfl, rfl⟩ := h
        rw [e1] at r1; rw [e2] at r2
        exact Goes.quiet S (cv := .int k (if j < i then j else i)) (by simp [execOp, resolve, invoke, builtin, rep_int r1, rep_int r2, Builtin.min_, Builtin.min2]) (.int _ _)
      · cases h
    · cases h
  · cases hc

end
end Go.Proofs.YtcoonnbkmklenaaDoor.A
