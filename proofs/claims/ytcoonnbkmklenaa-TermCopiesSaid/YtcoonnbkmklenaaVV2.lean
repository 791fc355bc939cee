/- A copy of a term, in memory of its own. -/
import Derived.Test.YtcoonnbkmklenaaVV1
import Derived.Test.YtcoonnbkmklenaaVS6
namespace Go.Proofs.Ytcoonnbkmklenaa.A
open Go
set_option maxRecDepth 10000
set_option linter.unusedSimpArgs false
attribute [-simp] List.all_eq_true put slot_def ld idxA lenOf elems canA app hand

theorem mem_allV : ∀ {l : List Tm} {t : Tm}, t ∈ l → t.all.length ≤ (allL l).length
  | u :: l, t, h => by
    simp only [allL, List.length_append]
    rcases List.mem_cons.1 h with rfl | h
    · omega
    · have := mem_allV h
      omega
theorem le_allV : ∀ l : List Tm, l.length ≤ (allL l).length
  | [] => Nat.le_refl _
  | .mk a s b k :: l => by
    have := le_allV l
    simp only [allL, Tm.all, List.length_append, List.length_cons]
    omega

/-- what a call makes that hands out a term in new memory -/
structure Made (o0 : List Obj) (t : Tm) (cs : List AV) (o' : List Obj) : Prop where
  R : RT o' (fun r => o0.length ≤ r ∧ r < o'.length) t cs
  le : o0.length ≤ o'.length
  low : ∀ i, i < o0.length → o'[i]? = o0[i]?

theorem withv_eq (a : Int) (s : ByteArray) (b : Int) (l : List Tm) (hl : l.length ≤ 4294967296) (f : Nat) (o0 : List Obj) (ro : Nat) (hro : ro ≤ o0.length)
    (h : ∀ u ∈ l, ∀ o, ro ≤ o.length → ∃ cs o', (D T).call f [.agg u.cells] ⟨o, ro, []⟩ = some (.agg cs, ⟨o', ro, []⟩) ∧ Made o u cs o') (df : List Nat) :
    ∃ cs o', (D T).call 42 [(Tm.mk a s b l).av, .fn (.func f) [] []] ⟨o0, ro, df⟩ = some (.agg cs, ⟨o', ro, df⟩) ∧ Made o0 (Tm.mk a s b l) cs o' := by
  have hmx : l.length ≤ 9223372036854775807 := by omega
  suffices hh : ∃ v st', (D T).call 42 [(Tm.mk a s b l).av, .fn (.func f) [] []] ⟨o0, ro, df⟩ = some (v, st') ∧ (fun v st' => ∃ cs o', v = .agg cs ∧ st' = ⟨o', ro, df⟩ ∧ Made o0 (Tm.mk a s b l) cs o') v st' by
    obtain ⟨_, _, h1, cs, o', rfl, rfl, h2⟩ := hh
    exact ⟨cs, o', h1, h2⟩
  have lp : ∀ (fr : List AV) (o1 : List Obj) (Q : AE → List AV → St → Prop), fr.length = 25 → slot fr 1 = .fn (.func f) [] [] → slot fr 2 = .ptr o0.length 0 0 → slot fr 4 = .ptr (o0.length + 1) 0 0 → slot fr 5 = .fsl 4 [] → slot fr 9 = .sl 4 (l.map Tm.cells) → slot fr 10 = .int .i64 (l.length : Int) → slot fr 11 = .int .i64 0 →
      o1 = o0 ++ [.arr 24 4 [[.int .i64 a, .str s, .int .i64 b, .sl 4 (l.map Tm.cells)]], .arr 24 4 [[.int .i64 0, .str ⟨#[]⟩, .int .i64 0, .fsl 4 []]]] →
      (∀ (fr' : List AV) v es o', fr'.length = 25 → slot fr' 2 = .ptr o0.length 0 0 → slot fr' 4 = .ptr (o0.length + 1) 0 0 → slot fr' 5 = v → Gx 24 4 (o0.length + 2) o' v es → RE o' (fun q => o0.length + 2 ≤ q ∧ q < o'.length ∧ ∀ n f, v ≠ .own q 0 n f) l es →
        o0.length + 2 ≤ o'.length → (∀ i, i < o0.length + 2 → o'[i]? = o1[i]?) → Q (.exit 0) fr' ⟨o', ro, []⟩) →
      ∃ e fr' st', (D T).loop false L42_0 fr ⟨o1, ro, []⟩ = some (e, fr', st') ∧ Q e fr' st' := by
    intro fr o1 Q hfr q1 q2 q4 q5 q9 q10 q11 ho1 k
    apply loop_inv L42_0.eq_1 List.length (fun (rest : List Tm) fr st => ∃ pre v es o, l = pre ++ rest ∧ fr.length = 25 ∧ slot fr 1 = .fn (.func f) [] [] ∧ slot fr 2 = .ptr o0.length 0 0 ∧ slot fr 4 = .ptr (o0.length + 1) 0 0 ∧ slot fr 5 = v ∧
        slot fr 9 = .sl 4 (l.map Tm.cells) ∧ slot fr 10 = .int .i64 (l.length : Int) ∧ slot fr 11 = .int .i64 (pre.length : Int) ∧
        st = ⟨o, ro, []⟩ ∧ Gx 24 4 (o0.length + 2) o v es ∧ RE o (fun q => o0.length + 2 ≤ q ∧ q < o.length ∧ ∀ n f, v ≠ .own q 0 n f) pre es ∧ o0.length + 2 ≤ o.length ∧ (∀ i, i < o0.length + 2 → o[i]? = o1[i]?)) ?_ l
        ⟨[], .fsl 4 [], [], o1, rfl, hfr, q1, q2, q4, q5, q9, q10, q11, rfl, ⟨.inl rfl, fun _ => rfl⟩, by simp [RE], by subst ho1; simp, fun _ _ => rfl⟩
    clear hfr q1 q2 q4 q5 q9 q10 q11 ho1
    rintro rest fr _ ⟨pre, v, es, o, e, hfr, q1, q2, q4, q5, q9, q10, q11, rfl, G, E, hlo, low⟩
    cases rest with
    | nil =>
      have hlt := idx_end e
      have ee : l = pre := by simpa using e
      simp -implicitDefEqProofs [hfr, q1, q2, q4, q5, q9, q10, q11, hlt]
      exact k _ v es o (by simp [hfr]) (by simp [hfr, q2]) (by simp [hfr, q4]) (by simp [hfr, q5]) G (by rw [ee]; exact E) hlo low
    | cons t rest =>
      obtain ⟨hlt, hg, hpl⟩ := idx_at e
      have hw := idx_next e hmx
      obtain ⟨cs, o2, hc, M⟩ := h t (by simp [e]) (o ++ [.arr 24 4 [t.cells]]) (by simp; omega)
      have hle := M.le
      simp only [List.length_append, List.length_cons, List.length_nil, Nat.zero_add] at hle
      have ag : ∀ i, i < o.length → o2[i]? = o[i]? := fun i hi => by rw [M.low i (by simp; omega), List.getElem?_append_left hi]
      have G2 := G.agree ag
      have hlen := E.len
      obtain ⟨o3, a1, a2, W⟩ := gx_appw G2 (ro := ro) (df := []) (bytes := 56) (by omega) (by omega) (elems_fsl _ 4 [canL cs]) (room_of0 (by simp; omega) (by simp; omega))
      simp only [List.length_cons, List.length_nil, Nat.zero_add] at a1 W
      have h4 := M.R.len
      have l1 : ro ≤ o.length := by omega
      have hcl : (canL cs).length = 4 := M.R.can.len.1
      have hca : (canL cs).all AV.one = true := M.R.can.len.2
      simp -implicitDefEqProofs [hfr, q1, q2, q4, q5, q9, q10, q11, hlt, hg, hw, hc, h4.1, h4.2, hcl, hca, setO_last, getO_last, l1, a1, -getElem?_pos, List.getElem?_cons_zero]
      refine ⟨rest, by simp, pre ++ [t], by simp [e], by simp, es ++ [canL cs], W.G, RE.snoc ?_ ?_, by omega, fun i hi => ?_⟩
      · refine RE.mono (fun r x hr hx => ?_) pre es E
        obtain ⟨r1, r2, r3⟩ := hr
        obtain ⟨k1, k2⟩ := W.keep r (by omega) r3
        exact ⟨⟨r1, by omega, by omega⟩, by rw [k1, ag r r2]; exact hx⟩
      · refine RT.mono (fun r x hr hx => ?_) t _ M.R.can
        simp only [List.length_append, List.length_cons, List.length_nil, Nat.zero_add] at hr
        obtain ⟨r1, r2⟩ := hr
        obtain ⟨k1, k2⟩ := W.keep r r2 (fun n f => G.lt (by omega) n f)
        exact ⟨⟨by omega, by omega, by omega⟩, by rw [k1]; exact hx⟩
      · rw [(W.keep i (by omega) (fun n f => G.not (by omega) n f)).1, ag i (by omega)]
        exact low i hi
  apply call_for (by exact rfl : T 42 = some _) (by simp)
  intro fr hfr hsl
  have s0 := hsl 0 _ rfl
  have s1 := hsl 1 _ rfl
  simp only [Tm.av, Tm.cells_mk] at s0
  simp -implicitDefEqProofs [hfr, s0, s1]
  apply lp _ _ _ (by simp [hfr]) (by simp [hfr, s1]) (by simp [hfr]) (by simp [hfr]) (by simp [hfr]) (by simp [hfr]) (by simp [hfr]) (by simp [hfr]) rfl
  clear lp hfr s0 s1 hsl
  intro fr v es o hfr q2 q4 q5 G E hlo low
  have g0 := low o0.length (by omega)
  have g1 := low (o0.length + 1) (by omega)
  simp only [get_base0, get_base, List.getElem?_cons_zero, List.getElem?_cons_succ] at g0 g1
  have l1 : o0.length < o.length := by omega
  have l2 : o0.length + 1 < o.length := by omega
  have hone : AV.one v = true := by rcases G.G with rfl | ⟨r, r1, rfl, r2⟩ <;> rfl
  have keep : ∀ X Y (i : Nat) x, o0.length + 2 ≤ i → o[i]? = some x → ((o.set o0.length X).set (o0.length + 1) Y)[i]? = some x := fun X Y i x hi hx => by
    rw [List.getElem?_set_ne (by omega), List.getElem?_set_ne (by omega)]; exact hx
  have hR : Gn 24 4 o (fun r => o0.length + 2 ≤ r ∧ r < o.length) v es := by
    rcases G.G with hv | ⟨r, r1, hv, r2⟩
    · have := G.nil hv
      subst this
      exact .inl ⟨.inl hv, rfl⟩
    · exact .inr ⟨r, ⟨r1, lt_of_getO r2⟩, hv, r2⟩
  rcases G.G with hv | ⟨r, r1, hv, r2⟩
  all_goals
    subst hv
    have hro' : ro ≤ o0.length + 1 := by omega
    simp -implicitDefEqProofs [hfr, q2, q4, q5, g0, g1, hro, hro', l1, l2, getO_set, -getElem?_pos, List.getElem?_cons_zero]
    refine ⟨?_, by simp; omega, fun i hi => ?_⟩
    · simp only [RT]
      refine ⟨_, es, rfl, hR.mono fun r x hr hx => ?_, RE.mono (fun r x hr hx => ?_) l es E⟩
      · exact ⟨⟨by omega, by simp; omega⟩, keep _ _ _ _ hr.1 hx⟩
      · exact ⟨⟨by omega, by simp; omega⟩, keep _ _ _ _ hr.1 hx⟩
    · rw [List.getElem?_set_ne (by omega), List.getElem?_set_ne (by omega), low i (by omega), List.getElem?_append_left hi]

theorem copyv_eq : ∀ (t : Tm), t.ok → t.all.length ≤ 4294967296 → ∀ (o0 : List Obj) (ro : Nat) (df : List Nat), ro ≤ o0.length →
    ∃ cs o', (D T).call 23 [t.av] ⟨o0, ro, df⟩ = some (.agg cs, ⟨o', ro, df⟩) ∧ Made o0 t cs o'
  | .mk a s b l, hok, hn, o0, ro, df, hro => by
    simp only [Tm.ok] at hok
    have hl := okL_iff.1 hok.2.2.2.2
    have hle := le_allV l
    simp only [Tm.all, List.length_cons] at hn
    have ih := fun u (hu : u ∈ l) o ho => copyv_eq u (hl u hu) (by have := mem_allV hu; omega) o ro [] ho
    simp only [Tm.av] at ih
    obtain ⟨B, hB⟩ : ∃ B, B = [Obj.arr 24 4 [[.int .i64 a, .str s, .int .i64 b, .sl 4 (l.map Tm.cells)]], Obj.arr 24 4 [[.int .i64 0, .str ⟨#[]⟩, .int .i64 0, .fsl 4 []]]] := ⟨_, rfl⟩
    obtain ⟨cs, o2, hc, M⟩ := withv_eq a s b l (by omega) 23 (o0 ++ B) ro (by simp; omega) ih []
    have hle2 := M.le
    have g1 := M.low (o0.length + 1) (by rw [hB]; simp)
    rw [hB] at hle2
    simp only [List.length_append, List.length_cons, List.length_nil, Nat.zero_add] at hle2
    rw [hB] at hc g1
    simp only [get_base, List.getElem?_cons_zero, List.getElem?_cons_succ] at g1
    simp only [Tm.av, Tm.cells_mk] at hc
    suffices hh : ∃ v st', (D T).call 23 [(Tm.mk a s b l).av] ⟨o0, ro, df⟩ = some (v, st') ∧ (fun v st' => ∃ cs o', v = .agg cs ∧ st' = ⟨o', ro, df⟩ ∧ Made o0 (Tm.mk a s b l) cs o') v st' by
      obtain ⟨_, _, h1, cs, o', rfl, rfl, h2⟩ := hh
      exact ⟨cs, o', h1, h2⟩
    apply call_for (by exact rfl : T 23 = some _) (by simp)
    intro fr hfr hsl
    have s0 := hsl 0 _ rfl
    simp only [Tm.av, Tm.cells_mk] at s0
    have h4 := M.R.len
    have l2 : o0.length + 1 < o2.length := by omega
    have hro' : ro ≤ o0.length + 1 := by omega
    have R := M.R
    simp only [RT] at R
    obtain ⟨v, es, rfl, G, E⟩ := R
    have hone := G.one
    simp -implicitDefEqProofs [hfr, s0, get_base0, get_base, hc, g1, hone, l2, hro', getO_set, -getElem?_pos, List.getElem?_cons_zero]
    refine ⟨?_, by simp; omega, fun i hi => ?_⟩
    · simp only [RT]
      have key : ∀ r x, ((o0 ++ B).length ≤ r ∧ r < o2.length) → o2[r]? = some x → (o0.length ≤ r ∧ r < (o2.set (o0.length + 1) (Obj.arr 24 4 [[.int .i64 a, .str s, .int .i64 b, v]])).length) ∧ (o2.set (o0.length + 1) (Obj.arr 24 4 [[.int .i64 a, .str s, .int .i64 b, v]]))[r]? = some x := fun r x hr hx => by
        have h1 := hr.1
        rw [hB] at h1
        simp only [List.length_append, List.length_cons, List.length_nil, Nat.zero_add] at h1
        exact ⟨⟨by omega, by simp; exact hr.2⟩, by rw [List.getElem?_set_ne (by omega)]; exact hx⟩
      exact ⟨v, es, rfl, G.mono key, RE.mono key l es E⟩
    · rw [List.getElem?_set_ne (by omega), M.low i (by simp; omega), List.getElem?_append_left hi]
termination_by t => SizeOf.sizeOf t
decreasing_by
  have := List.sizeOf_lt_of_mem hu
  simp
  omega

end Go.Proofs.Ytcoonnbkmklenaa.A
