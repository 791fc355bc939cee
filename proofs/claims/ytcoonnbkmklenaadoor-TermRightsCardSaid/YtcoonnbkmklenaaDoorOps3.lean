/- Append, all cases; then every operation but calls. -/
import Derived.Test.YtcoonnbkmklenaaDoorOps2
namespace Go.Proofs.YtcoonnbkmklenaaDoor.A
open Go

section
variable {P : Program} {T : Tab} {E E' : Env} {st st' : St} {w w' : World} {n : Nat}

/-- an array without a place in memory -/
theorem new_none (S : Sim P T E st w) {ty sz : Nat} (hsz : 0 < sz) : Sim P T (updL E st.objs.length ⟨0, 0, sz⟩) (st.push (.arr ty sz [])) w ∧ Ext E st.objs.length w (updL E st.objs.length ⟨0, 0, sz⟩) (st.objs.length + 1) w :=
  ⟨S.push _ _ (Nat.le_refl _) (fun _ _ => rfl) (fun h => absurd rfl h) ⟨rfl, by simp, by simp [maxLen], hsz, by simp, .inl rfl⟩, Ext.push _ S (Nat.le_refl _) (fun _ _ => rfl) rfl rfl rfl⟩

theorem app_full {E : Env} {st : St} {w : World} (S : Sim P T E st w) {t t0 e sz bytes : Nat} (A : AppT P t e sz bytes) {ss : Nat} {es xs : List (List AV)} {sv : Value} (hs : Rep E st.objs.length w (.fsl ss es) sv)
    {ax : Option Addr} {cx b' o' : Nat} {news : List Value} (hax : xs = [] ∨ ax = some ⟨b', o', none⟩) (hlx : Lie E st.objs.length w sz xs b' o' news)
    (hc1 : es = [] ∨ (ss = sz ∧ xs ≠ [])) (hroom : room (es.length + xs.length) bytes = true) :
    ∃ cv w' E', (Builtin.append_ #[t, t] t0 #[sv, .slice ax xs.length cx]).run P w = .ok cv w' ∧ Rep E' (st.objs.length + 1) w' (.own st.objs.length 0 (es.length + xs.length) false) cv ∧
      Sim P T E' (st.push (.arr e sz (es ++ xs))) w' ∧ Ext E st.objs.length w E' (st.objs.length + 1) w' := by
  by_cases hn : xs = []
  · subst hn
    obtain rfl : es = [] := hc1.resolve_right fun h => h.2 rfl
    cases hs with
    | fsl b o c hl hcp hs' ha hc h =>
      rename_i a len cp
      subst hl hcp
      obtain ⟨g1, g2⟩ := new_none (ty := e) S A.pos
      refine ⟨_, _, _, run_append_none A (Nat.le_refl _), ?_, by simpa using g1, g2⟩
      exact .own (by omega) (Nat.le_refl _) (by simp) (by simp [updL_eq]) (.inl rfl)
  · cases hs with
    | fsl b o c hl hcp hs' ha hc h =>
      rename_i a len cp
      subst hl hcp
      have hes : es = [] ∨ ss = sz := hc1.imp id (·.1)
      obtain ⟨ax2, cx2, b2, o2, olds, e2, _, ha2, hlo⟩ := elems_lie S (Rep.fsl b o c rfl rfl hs' ha hc h : Rep E st.objs.length w (.fsl ss es) (.slice a es.length es.length)) (sx := ss) (xs := es) rfl A.pos hes.symm
      cases e2
      exact append_grow (t0 := t0) S rfl A hlo hlx ha2 (fun hnone => by
        rcases ha2 with rfl | ha2
        · rfl
        · rw [hnone] at ha2; cases ha2) (hax.resolve_left hn) (by have := List.length_pos_iff.2 hn; omega) hroom (Nat.le_refl _)

theorem app_own {E : Env} {st : St} {w : World} (S : Sim P T E st w) {t t0 ty s' bytes : Nat} (A : AppT P t ty s' bytes) {r : Nat} {es xs : List (List AV)} {sv : Value} (hs : Rep E st.objs.length w (.own r 0 es.length false) sv)
    {ax : Option Addr} {cx b' o' : Nat} {news : List Value} (hax : xs = [] ∨ ax = some ⟨b', o', none⟩) (hlx : Lie E st.objs.length w s' xs b' o' news)
    (hr : st.arr? r = some (ty, s', es)) (hroom : room (es.length + xs.length) bytes = true) :
    ∃ cv w' E', (Builtin.append_ #[t, t] t0 #[sv, .slice ax xs.length cx]).run P w = .ok cv w' ∧ Rep E' (st.objs.length + 1) w' (.own st.objs.length 0 (es.length + xs.length) false) cv ∧
      Sim P T E' ((st.set r .dead).push (.arr ty s' (es ++ xs))) w' ∧ Ext E st.objs.length w E' (st.objs.length + 1) w' := by
  have hobj := arr_get hr
  obtain ⟨q1, q2, q3, q4, q5, q6⟩ := S.obj r _ hobj
  have hkl : (st.set r .dead).objs.length = st.objs.length := by simp [St.set]
  have hel : elems st (.own r 0 es.length false) = some (s', es) := by simp [elems, hr]
  have hs0 := hs
  cases hs with
  | own hr' hm h1 h2 ha =>
    rename_i cp a
    have h2' : cp = (E.L r).cap := by simpa using h2 rfl
    subst h2'
    obtain ⟨a2, c2, b2, o2, olds, e2, _, hb2, hlo⟩ := elems_lie S hs0 hel A.pos (.inl rfl)
    cases e2
    by_cases hroomin : es.length + xs.length ≤ (E.L r).cap
    · by_cases hcap : (E.L r).cap = 0
      · obtain rfl : es = [] := List.eq_nil_of_length_eq_zero (by omega)
        obtain rfl : xs = [] := List.eq_nil_of_length_eq_zero (by omega)
        have Sk := S.kill r
        obtain ⟨g1, g2⟩ := new_none (ty := ty) Sk q4
        rw [hkl] at g1 g2
        refine ⟨_, _, _, run_append_none A (Nat.zero_le _), ?_, by simpa using g1, g2⟩
        refine .own (by omega) (Nat.zero_le _) (by simp) ?_ (.inl hcap)
        simp [updL_eq, hcap]
      · -- in place
        obtain ⟨cur, k1, k2, k3⟩ := q6.resolve_left hcap
        obtain ⟨i, z, hi, hisz, hiby, hz, hzs⟩ := A.info
        have hfit : es.length * i.size + news.length ≤ cur.size := by rw [hisz, hlx.len, k2, ← Nat.add_mul]; exact Nat.mul_le_mul_right _ hroomin
        have ha' := ha.resolve_left hcap
        simp only [Nat.zero_mul] at ha'
        subst ha'
        by_cases hn : xs = []
        · subst hn
          refine ⟨_, w, updL E st.objs.length ⟨(E.L r).blk, (E.L r).cap, s'⟩, run_append_none A hm, ?_, ?_, ?_⟩
          · exact .own (by omega) hm (by simp) (by simp [updL_eq]) (.inr (by simp [updL_eq]))
          · refine S.move r _ _ ⟨(E.L r).blk, (E.L r).cap, s'⟩ hobj hcap rfl rfl (fun _ _ => rfl) ⟨rfl, by simpa using q2, q3, q4, by simpa using q5, .inr ⟨cur, k1, k2, fun i e j x h1 h2 => ?_⟩⟩
            obtain ⟨v, a1, a2, a3⟩ := k3 i e j x (by simpa using h1) h2
            exact ⟨v, a1, a2, a3.mono ⟨fun r hr => ⟨by omega, updL_lt hr⟩, fun _ h => h, fun _ _ => rfl⟩⟩
          · exact Ext.move S _ hobj hcap rfl (fun _ _ => rfl) rfl rfl rfl
        · have hax' := hax.resolve_left hn
          subst hax'
          have htake : cur.toList.take (es.length * s') = olds := by
            apply List.ext_getElem?
            intro j
            rw [List.getElem?_take]
            split
            · rename_i hj
              have hj' : j < olds.length := by rw [hlo.len]; exact hj
              have hc1 := hlo.cell j olds[j] (by simp [hj'])
              have hb2' := hb2.resolve_left (by intro h0; subst h0; simp at hj)
              simp only [Option.some.injEq, Addr.mk.injEq, and_true] at hb2'
              obtain ⟨rfl, rfl⟩ := hb2'
              simp [World.cell?, k1] at hc1
              simp [hc1, hj']
            · rename_i hj
              rw [List.getElem?_eq_none (by rw [hlo.len]; omega)]
          have hrun := run_append_room (P := P) w t t0 ty i A.und hi (E.L r).blk es.length (E.L r).cap cur k1 ⟨b', o', none⟩ xs.length cx news (by rw [hisz]; exact hlx.len)
            (fun j v hv => by rw [Addr.add_lit]; exact hlx.cell j v hv) hlx.one hroomin hfit
          rw [hisz, htake] at hrun
          have hmv : Ext E st.objs.length w (updL E st.objs.length ⟨(E.L r).blk, (E.L r).cap, s'⟩) (st.objs.length + 1) (w.setRow (E.L r).blk (olds ++ news ++ cur.toList.drop (es.length * s' + news.length)).toArray) :=
            Ext.move S _ hobj hcap (by simp) (fun b hb => setRow_other _ _ _ _ hb) rfl rfl rfl
          refine ⟨_, _, updL E st.objs.length ⟨(E.L r).blk, (E.L r).cap, s'⟩, hrun, ?_, ?_, hmv⟩
          · exact .own (by omega) hroomin (by simp) (by simp [updL_eq]) (.inr (by simp [updL_eq]))
          · refine S.move r _ _ ⟨(E.L r).blk, (E.L r).cap, s'⟩ hobj hcap rfl (by simp) (fun b hb => setRow_other _ _ _ _ hb)
              ⟨rfl, by simpa using hroomin, q3, q4, fun e' he' => (List.mem_append.1 he').elim (hlo.each e') (hlx.each e'), .inr ⟨_, setRow_heap _ _ _ _ _ _ k1, ?_, fun i e j x h1 h2 => ?_⟩⟩
            · rw [← k2]
              simp only [List.size_toArray, List.length_append, List.length_drop, Array.length_toList, hlo.len]
              rw [hisz] at hfit
              omega
            · obtain ⟨v, v1, v2, v3⟩ := lie_app (rest := cur.toList.drop (es.length * s' + news.length)) hlo hlx i e j x h1 h2
              exact ⟨v, by simpa using v1, v2, v3.mono hmv.toMono⟩
    · -- a new array
      have hn : xs ≠ [] := by rintro rfl; simp at hroomin; omega
      have Sk := S.kill r
      have hlo' : Lie E (st.set r .dead).objs.length w s' es b2 o2 olds := by rw [hkl]; exact hlo
      have hlx' : Lie E (st.set r .dead).objs.length w s' xs b' o' news := by rw [hkl]; exact hlx
      obtain ⟨cv, w', E', r1, r2, r3, r4⟩ := append_grow (t0 := t0) (cx := cx) (cap := (E.L r).cap) (base := a) Sk hkl.symm A hlo' hlx' hb2 (fun hnone => by
        rcases ha with ha | ha
        · exact ha
        · rw [hnone] at ha; cases ha) (hax.resolve_left hn) (by omega) hroom hm
      rw [hkl] at r2 r4
      exact ⟨cv, w', E', r1, r2, r3, r4⟩

theorem app_part {E : Env} {st : St} {w : World} (S : Sim P T E st w) {t t0 ty s' bytes : Nat} (A : AppT P t ty s' bytes) {r lo m : Nat} {es xs : List (List AV)} {sv : Value} (hs : Rep E st.objs.length w (.own r lo m true) sv)
    {ax : Option Addr} {cx b' o' : Nat} {news : List Value} (hax : xs = [] ∨ ax = some ⟨b', o', none⟩) (hlx : Lie E st.objs.length w s' xs b' o' news)
    (hr : st.arr? r = some (ty, s', es)) (hle : lo + m ≤ es.length) (hn : xs ≠ []) (hroom : room (m + xs.length) bytes = true) :
    ∃ cv w' E', (Builtin.append_ #[t, t] t0 #[sv, .slice ax xs.length cx]).run P w = .ok cv w' ∧ Rep E' (st.objs.length + 1) w' (.own st.objs.length 0 (m + xs.length) false) cv ∧
      Sim P T E' (st.push (.arr ty s' ((es.drop lo).take m ++ xs))) w' ∧ Ext E st.objs.length w E' (st.objs.length + 1) w' := by
  have hel : elems st (.own r lo m true) = some (s', (es.drop lo).take m) := by simp [elems, hr, hle]
  have hml : ((es.drop lo).take m).length = m := by simp; omega
  obtain ⟨a2, c2, b2, o2, olds, e2, hc2, hb2, hlo⟩ := elems_lie S hs hel A.pos (.inl rfl)
  rw [hml] at e2
  subst e2
  have hcap : c2 = m ∧ (c2 = 0 ∨ a2 = some ⟨(E.L r).blk, lo * (E.L r).sz, none⟩) := by
    cases hs with
    | own hr' hm h1 h2 ha => exact ⟨h1 rfl, ha⟩
  have := append_grow (t0 := t0) (cx := cx) (cap := c2) (base := a2) S rfl A hlo hlx hb2 (fun hnone => by
    rcases hcap.2 with ha | ha
    · exact ha
    · rw [hnone] at ha; cases ha) (hax.resolve_left hn) (by rw [hml]; have := List.length_pos_iff.2 hn; omega) (by rw [hml]; exact hroom) (by rw [hml]; omega)
  rw [hml] at this
  exact this

theorem app_sound {E : Env} {st : St} {w : World} (S : Sim P T E st w) {t t0 e sz bytes : Nat} (A : AppT P t e sz bytes) {s x v : AV} {sv xv : Value} (hs : Rep E st.objs.length w s sv) (hx : Rep E st.objs.length w x xv)
    (h : app st e sz bytes s x = some (v, st')) :
    ∃ cv w' E', (Builtin.append_ #[t, t] t0 #[sv, xv]).run P w = .ok cv w' ∧ Rep E' st'.objs.length w' v cv ∧ Sim P T E' st' w' ∧ Ext E st.objs.length w E' st'.objs.length w' := by
  unfold app at h
  split at h
  · cases h
  · rename_i sx xs hxs
    split at h
    · cases h
    · rename_i hsx
      have hsx' : sx = sz ∨ xs = [] := Classical.byContradiction hsx
      obtain ⟨ax, cx, b', o', news, rfl, hcx, hax, hlx⟩ := elems_lie S hx hxs A.pos hsx'
      split at h
      · rename_i ss es
        split at h
        · rename_i hc
          obtain ⟨rfl, rfl⟩ : _ ∧ _ := by simpa using h
          rw [show (st.push (.arr e sz (es ++ xs))).objs.length = st.objs.length + 1 by simp [St.push]]
          exact app_full S A hs hax hlx hc.1 hc.2
        · cases h
      · rename_i r lo m
        split at h
        · rename_i ty s' es hr
          split at h
          · rename_i hc
            obtain ⟨rfl, rfl, rfl, rfl, hro, hroom⟩ := hc
            obtain ⟨rfl, rfl⟩ : _ ∧ _ := by simpa using h
            rw [show ((st.set r .dead).push (.arr ty s' (es ++ xs))).objs.length = st.objs.length + 1 by simp [St.push, St.set]]
            exact app_own S A hs hax hlx hr hroom
          · cases h
        · cases h
      · rename_i r lo m
        split at h
        · rename_i ty s' es hr
          split at h
          · rename_i hc
            obtain ⟨hle, rfl, rfl, hn, hroom⟩ := hc
            obtain ⟨rfl, rfl⟩ : _ ∧ _ := by simpa using h
            rw [show (st.push (.arr ty s' ((es.drop lo).take m ++ xs))).objs.length = st.objs.length + 1 by simp [St.push]]
            exact app_part S A hs hax hlx hr hle hn hroom
          · cases h
        · cases h
      · cases h

end
end Go.Proofs.YtcoonnbkmklenaaDoor.A
