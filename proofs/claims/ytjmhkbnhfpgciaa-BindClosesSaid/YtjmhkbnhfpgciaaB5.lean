/- What is done to claims, the document's. -/
import Derived.Test.YtjmhkbnhfpgciaaB4
namespace Go.Proofs.Ytjmhkbnhfpgciaa.A
open Go
set_option maxRecDepth 10000
set_option linter.unusedSimpArgs false
attribute [-simp] List.all_eq_true put slot_def ld idxA lenOf elems canA app hand

theorem binds_eq (c : Cl) (st : St) : (D T).call 69 [c.av] st = some (.bool (match c with | .mk a _ _ _ _ => binder a), st) := by
  obtain ⟨a, s, u, ts, cs⟩ := c
  obtain ⟨o, ro, df⟩ := st
  apply call_by (by exact rfl : T 69 = some _) (by simp)
  intro fr hfr hsl
  have s0 := hsl 0 _ rfl
  simp only [Cl.av, Cl.cells_mk] at s0
  by_cases h11 : a = 11
  · simp -implicitDefEqProofs [hfr, s0, h11, binder, get_base0, get_base, -getElem?_pos, List.getElem?_cons_zero, List.getElem?_cons_succ]
  · have h11b : (a == 11) = false := by simpa using h11
    by_cases h12 : a = 12
    · simp -implicitDefEqProofs [hfr, s0, h12, binder, get_base0, get_base, -getElem?_pos, List.getElem?_cons_zero, List.getElem?_cons_succ]
    · have h12b : (a == 12) = false := by simpa using h12
      simp -implicitDefEqProofs [hfr, s0, h11, h11b, h12, h12b, binder, get_base0, get_base, -getElem?_pos, List.getElem?_cons_zero, List.getElem?_cons_succ]

theorem within_eq (a : Int) (s u ts cs) (k : Nat) (hk : k ≤ 4294967296) (st : St) : (D T).call 57 [(Cl.mk a s u ts cs).av, .int .i64 (k : Int)] st = some (.int .i64 (inn a k : Int), st) := by
  have hb := fun st => binds_eq (Cl.mk a s u ts cs) st
  obtain ⟨o, ro, df⟩ := st
  simp only [Cl.av, Cl.cells_mk] at hb
  apply call_by (by exact rfl : T 57 = some _) (by simp)
  intro fr hfr hsl
  have s0 := hsl 0 _ rfl
  have s1 := hsl 1 _ rfl
  simp only [Cl.av, Cl.cells_mk] at s0
  have hwd : IntKind.i64.wrap ((k : Int) + 1) = ((k + 1 : Nat) : Int) := by rw [wrap_id] <;> omega
  cases h : binder a with
  | true => simp -implicitDefEqProofs [hfr, s0, s1, hb, h, inn, hwd, get_base0, get_base, -getElem?_pos, List.getElem?_cons_zero, List.getElem?_cons_succ]
  | false => simp -implicitDefEqProofs [hfr, s0, s1, hb, h, inn, hwd, get_base0, get_base, -getElem?_pos, List.getElem?_cons_zero, List.getElem?_cons_succ]

theorem rClaim_eq (w : Wk) (hw : w.ok) : ∀ (c : Cl) (d : Nat), c.ok → d + c.ct ≤ 4294967296 → ∀ (o : List Obj) (ro : Nat) (df : List Nat),
      (D T).call 41 [.agg (w.cells (.sl 4 [])), c.av, .int .i64 (d : Int)] ⟨o, ro, df⟩ = some ((cmapW w.f d c).av, ⟨o, ro, df⟩)
  | .mk a s u ts cs, d, hok, hn, o, ro, df => by
    simp only [Cl.ok] at hok
    have hts := okL_iff.1 hok.2.2.2.2.1
    have hcs := okC_iff.1 hok.2.2.2.2.2.2
    have hle1 := le_allV ts
    have hle2 := le_ct cs
    simp only [Cl.ct] at hn
    have hm1 : ts.length ≤ 9223372036854775807 := by omega
    have hm2 : cs.length ≤ 9223372036854775807 := by omega
    have iht := fun t (ht : t ∈ ts) o ro df => rTerm_eq w hw t d (by omega) (hts t ht) (by have := mem_allV ht; omega) o ro df
    have hinn : inn a d ≤ d + 1 := by unfold inn; cases binder a <;> simp
    have ihc := fun c (hc : c ∈ cs) o ro df => rClaim_eq w hw c (inn a d) (hcs c hc) (by have := mem_ct hc; omega) o ro df
    have hwi := fun st => within_eq a s u ts cs d (by omega) st
    rw [cmapW, cmapWL_map]
    obtain ⟨wc, hwc0⟩ : ∃ wc, wc = w.cells (.sl 4 []) := ⟨_, rfl⟩
    have hwl : wc.length = 8 := by rw [hwc0]; rcases w with ⟨b, c⟩ | ⟨a, s, b, l⟩ | n <;> rfl
    have hcan : canL (wc.take 8) = wc := by rw [hwc0]; exact Wk.can (.inr rfl) w
    have hw1 : wc.all AV.one = true := by rw [hwc0]; rcases w with ⟨b, c⟩ | ⟨⟨a, s, b, l⟩⟩ | n <;> rfl
    rw [← hwc0] at iht ihc ⊢
    clear hwc0
    simp only [Tm.av, Cl.av] at iht ihc
    simp only [Cl.av, Cl.cells_mk] at hwi
    obtain ⟨b0, hb0⟩ : ∃ b0, b0 = Obj.arr 62 8 [wc] := ⟨_, rfl⟩
    obtain ⟨b1, hb1⟩ : ∃ b1, b1 = Obj.arr 25 5 [[.int .i64 a, .str s, .str u, .sl 4 (ts.map Tm.cells), .sl 5 (cs.map Cl.cells)]] := ⟨_, rfl⟩
    obtain ⟨b2, hb2⟩ : ∃ b2, b2 = Obj.arr 25 5 [[.int .i64 0, .str ⟨#[]⟩, .str ⟨#[]⟩, .fsl 4 [], .fsl 5 []]] := ⟨_, rfl⟩
    have lp0 : ∀ (fr : List AV) (Q : AE → List AV → St → Prop), fr.length = 56 → slot fr 2 = .int .i64 (d : Int) → slot fr 3 = .ptr o.length 0 0 → slot fr 4 = .ptr (o.length + 1) 0 0 → slot fr 6 = .ptr (o.length + 2) 0 0 → slot fr 7 = .ptr (o.length + 3) 0 0 → slot fr 8 = .int .i64 0 →
        (∀ (fr' : List AV) v o', fr'.length = 56 → slot fr' 2 = .int .i64 (d : Int) → slot fr' 3 = .ptr o.length 0 0 → slot fr' 4 = .ptr (o.length + 1) 0 0 → slot fr' 6 = .ptr (o.length + 2) 0 0 → slot fr' 7 = .ptr (o.length + 3) 0 0 → Gx 27 4 (o.length + 4) o' v ((ts.map (tmap (w.f d))).map Tm.cells) → o.length + 4 ≤ o'.length →
          o'[o.length]? = some b0 → o'[o.length + 1]? = some b1 → o'[o.length + 2]? = some b2 → o'[o.length + 3]? = some (Obj.arr 25 5 [[.int .i64 a, .str s, .str u, v, .fsl 5 []]]) → Q (.exit 0) fr' ⟨o', o.length, []⟩) →
        ∃ e fr' st', (D T).loop false L41_0 fr ⟨o ++ [b0, b1, b2, Obj.arr 25 5 [[.int .i64 a, .str s, .str u, .fsl 4 [], .fsl 5 []]]], o.length, []⟩ = some (e, fr', st') ∧ Q e fr' st' := by
      intro fr Q hfr q2 q3 q4 q6 q7 q8 kk
      apply loop_inv L41_0.eq_1 List.length (fun (rest : List Tm) fr st => ∃ pre v o', ts = pre ++ rest ∧ fr.length = 56 ∧ slot fr 2 = .int .i64 (d : Int) ∧ slot fr 3 = .ptr o.length 0 0 ∧ slot fr 4 = .ptr (o.length + 1) 0 0 ∧ slot fr 6 = .ptr (o.length + 2) 0 0 ∧ slot fr 7 = .ptr (o.length + 3) 0 0 ∧ slot fr 8 = .int .i64 (pre.length : Int) ∧
          st = ⟨o', o.length, []⟩ ∧ Gx 27 4 (o.length + 4) o' v ((pre.map (tmap (w.f d))).map Tm.cells) ∧ o.length + 4 ≤ o'.length ∧ o'[o.length]? = some b0 ∧ o'[o.length + 1]? = some b1 ∧ o'[o.length + 2]? = some b2 ∧ o'[o.length + 3]? = some (Obj.arr 25 5 [[.int .i64 a, .str s, .str u, v, .fsl 5 []]])) ?_ ts
          ⟨[], .fsl 4 [], _, rfl, hfr, q2, q3, q4, q6, q7, q8, rfl, ⟨.inl rfl, fun _ => rfl⟩, by simp, by simp [get_base0], by simp [get_base], by simp [get_base], by simp [get_base]⟩
      clear hfr q2 q3 q4 q6 q7 q8
      rintro rest fr _ ⟨pre, v, o', e, hfr, q2, q3, q4, q6, q7, q8, rfl, G, hlo, g0, g1, g2, g3⟩
      cases rest with
      | nil =>
        have hlt := idx_end e
        have ee : ts = pre := by simpa using e
        have g1' := g1
        rw [hb1] at g1'
        simp -implicitDefEqProofs [hfr, q2, q3, q4, q6, q7, q8, g1', hlt, -getElem?_pos, List.getElem?_cons_zero]
        exact kk _ v o' (by simp [hfr]) (by simp [hfr, q2]) (by simp [hfr, q3]) (by simp [hfr, q4]) (by simp [hfr, q6]) (by simp [hfr, q7]) (by rw [ee]; exact G) hlo g0 g1 g2 g3
      | cons t rest =>
        obtain ⟨hlt, hg, hpl⟩ := idx_at e
        have hw := idx_next e hm1
        have hc := iht t (by simp [e]) o' o.length []
        obtain ⟨o3, a1, a2, W⟩ := gx_appw G (ro := o.length) (df := []) (bytes := 56) (by omega) (by omega) (elems_fsl _ 4 [(tmap (w.f d) t).cells]) (room_of0 (by simp; omega) (by simp; omega))
        simp only [List.length_cons, List.length_nil, Nat.zero_add, List.length_map, List.length_append] at a1 a2 W
        have k0 := (W.keep (o.length) (by omega) (fun n f => G.not (by omega) n f)).1
        have k1 := (W.keep (o.length + 1) (by omega) (fun n f => G.not (by omega) n f)).1
        have k2 := (W.keep (o.length + 2) (by omega) (fun n f => G.not (by omega) n f)).1
        have k3 := (W.keep (o.length + 3) (by omega) (fun n f => G.not (by omega) n f)).1
        rw [g0] at k0
        rw [g1] at k1
        rw [g2] at k2
        rw [g3] at k3
        have l1 : o.length + 3 < o3.length := by omega
        have l2 : o.length ≤ o'.length := by omega
        have g0' := g0
        rw [hb0] at g0'
        have g1' := g1
        rw [hb1] at g1'
        simp -implicitDefEqProofs [-List.map_map, hfr, q2, q3, q4, q6, q7, q8, hlt, hg, hw, hc, hwl, hcan, hw1, g0', g1', g3, k3, a1, l1, l2, setO_last, getO_last, getO_set, -getElem?_pos, List.getElem?_cons_zero]
        refine ⟨rest, by simp, pre ++ [t], by simp [e], by simp, .own o'.length 0 (pre.length + 1) false, ⟨?_, by simp⟩, by omega, k0, k1, k2, rfl⟩
        refine .inr ⟨o'.length, by omega, by simp, ?_⟩
        rcases W.G.G with hv | ⟨r, r1, hv, r2⟩
        · cases hv
        · obtain rfl : o'.length = r := by simpa using hv
          rw [List.getElem?_set_ne (by omega), r2]; simp
    have lp1 : ∀ (fr : List AV) (Q : AE → List AV → St → Prop) wv o1, fr.length = 56 → slot fr 2 = .int .i64 (d : Int) → slot fr 3 = .ptr o.length 0 0 → slot fr 4 = .ptr (o.length + 1) 0 0 → slot fr 6 = .ptr (o.length + 2) 0 0 → slot fr 7 = .ptr (o.length + 3) 0 0 → slot fr 9 = .int .i64 0 → Gx 27 4 (o.length + 4) o1 wv ((ts.map (tmap (w.f d))).map Tm.cells) → o.length + 4 ≤ o1.length →
          o1[o.length]? = some b0 → o1[o.length + 1]? = some b1 → o1[o.length + 2]? = some b2 → o1[o.length + 3]? = some (Obj.arr 25 5 [[.int .i64 a, .str s, .str u, wv, .fsl 5 []]]) →
        (∀ (fr' : List AV) v o', fr'.length = 56 → slot fr' 6 = .ptr (o.length + 2) 0 0 → slot fr' 7 = .ptr (o.length + 3) 0 0 → Gx 27 4 (o.length + 4) o' wv ((ts.map (tmap (w.f d))).map Tm.cells) → Gx 25 5 (o.length + 4) o' v ((cs.map (cmapW w.f (inn a d))).map Cl.cells) → o.length + 4 ≤ o'.length →
          o'[o.length + 2]? = some b2 → o'[o.length + 3]? = some (Obj.arr 25 5 [[.int .i64 a, .str s, .str u, wv, v]]) → Q (.exit 2) fr' ⟨o', o.length, []⟩) →
        ∃ e fr' st', (D T).loop false L41_1 fr ⟨o1, o.length, []⟩ = some (e, fr', st') ∧ Q e fr' st' := by
      intro fr Q wv o1 hfr q2 q3 q4 q6 q7 q9 Gw hlo g0 g1 g2 g3 kk
      apply loop_inv L41_1.eq_1 List.length (fun (rest : List Cl) fr st => ∃ pre v o', cs = pre ++ rest ∧ fr.length = 56 ∧ slot fr 2 = .int .i64 (d : Int) ∧ slot fr 3 = .ptr o.length 0 0 ∧ slot fr 4 = .ptr (o.length + 1) 0 0 ∧ slot fr 6 = .ptr (o.length + 2) 0 0 ∧ slot fr 7 = .ptr (o.length + 3) 0 0 ∧ slot fr 9 = .int .i64 (pre.length : Int) ∧
          st = ⟨o', o.length, []⟩ ∧ Gx 27 4 (o.length + 4) o' wv ((ts.map (tmap (w.f d))).map Tm.cells) ∧ Gx 25 5 (o.length + 4) o' v ((pre.map (cmapW w.f (inn a d))).map Cl.cells) ∧ o.length + 4 ≤ o'.length ∧ o'[o.length]? = some b0 ∧ o'[o.length + 1]? = some b1 ∧ o'[o.length + 2]? = some b2 ∧ o'[o.length + 3]? = some (Obj.arr 25 5 [[.int .i64 a, .str s, .str u, wv, v]])) ?_ cs
          ⟨[], .fsl 5 [], _, rfl, hfr, q2, q3, q4, q6, q7, q9, rfl, Gw, ⟨.inl rfl, fun _ => rfl⟩, hlo, g0, g1, g2, g3⟩
      clear hfr q2 q3 q4 q6 q7 q9 Gw hlo g0 g1 g2 g3
      rintro rest fr _ ⟨pre, v, o', e, hfr, q2, q3, q4, q6, q7, q9, rfl, Gt, G, hlo, g0, g1, g2, g3⟩
      cases rest with
      | nil =>
        have hlt := idx_end e
        have ee : cs = pre := by simpa using e
        have g1' := g1
        rw [hb1] at g1'
        simp -implicitDefEqProofs [hfr, q2, q3, q4, q6, q7, q9, g1', hlt, -getElem?_pos, List.getElem?_cons_zero]
        exact kk _ v o' (by simp [hfr]) (by simp [hfr, q6]) (by simp [hfr, q7]) Gt (by rw [ee]; exact G) hlo g2 g3
      | cons t rest =>
        obtain ⟨hlt, hg, hpl⟩ := idx_at e
        have hw := idx_next e hm2
        have hc := ihc t (by simp [e]) o' o.length []
        obtain ⟨o3, a1, a2, W⟩ := gx_appw G (ro := o.length) (df := []) (bytes := 88) (by omega) (by omega) (elems_fsl _ 5 [(cmapW w.f (inn a d) t).cells]) (room_of0 (by simp; omega) (by simp; omega))
        simp only [List.length_cons, List.length_nil, Nat.zero_add, List.length_map, List.length_append] at a1 a2 W
        have k0 := (W.keep (o.length) (by omega) (fun n f => G.not (by omega) n f)).1
        have k1 := (W.keep (o.length + 1) (by omega) (fun n f => G.not (by omega) n f)).1
        have k2 := (W.keep (o.length + 2) (by omega) (fun n f => G.not (by omega) n f)).1
        have k3 := (W.keep (o.length + 3) (by omega) (fun n f => G.not (by omega) n f)).1
        rw [g0] at k0
        rw [g1] at k1
        rw [g2] at k2
        rw [g3] at k3
        have l1 : o.length + 3 < o3.length := by omega
        have l2 : o.length ≤ o'.length := by omega
        have g0' := g0
        rw [hb0] at g0'
        have g1' := g1
        rw [hb1] at g1'
        simp -implicitDefEqProofs [-List.map_map, hfr, q2, q3, q4, q6, q7, q9, hlt, hg, hw, hc, hwi, hwl, hcan, hw1, g0', g1', g3, k3, a1, l1, l2, setO_last, getO_last, getO_set, -getElem?_pos, List.getElem?_cons_zero]
        refine ⟨rest, by simp, pre ++ [t], by simp [e], by simp, gx_beside Gt G (by decide) W (by omega) _, .own o'.length 0 (pre.length + 1) false, ⟨?_, by simp⟩, by omega, k0, k1, k2, rfl⟩
        refine .inr ⟨o'.length, by omega, by simp, ?_⟩
        rcases W.G.G with hv | ⟨r, r1, hv, r2⟩
        · cases hv
        · obtain rfl : o'.length = r := by simpa using hv
          rw [List.getElem?_set_ne (by omega), r2]; simp
    apply call_by (by exact rfl : T 41 = some _) (by simp)
    intro fr hfr hsl
    have s0 := hsl 0 _ rfl
    have s1 := hsl 1 _ rfl
    have s2 := hsl 2 _ rfl
    simp only [Cl.av, Cl.cells_mk] at s1
    simp -implicitDefEqProofs [hfr, s0, s1, s2, hwl, hw1, get_base0, get_base, set_base0, set_base, -getElem?_pos, List.getElem?_cons_zero, List.getElem?_cons_succ]
    rw [← hb0, ← hb1, ← hb2]
    apply lp0 _ _ (by simp [hfr]) (by simp [hfr, s2]) (by simp [hfr]) (by simp [hfr]) (by simp [hfr]) (by simp [hfr]) (by simp [hfr])
    clear lp0 hfr s0 s1 s2 hsl
    intro fr w1 o1 hfr q2 q3 q4 q6 q7 Gt hlo g0 g1 g2 g3
    simp -implicitDefEqProofs [hfr, q2, q3, q4, q6, q7, -getElem?_pos, List.getElem?_cons_zero, List.getElem?_cons_succ]
    apply lp1 _ _ w1 o1 (by simp [hfr]) (by simp [hfr, q2]) (by simp [hfr, q3]) (by simp [hfr, q4]) (by simp [hfr, q6]) (by simp [hfr, q7]) (by simp [hfr]) Gt hlo g0 g1 g2 g3
    clear lp1 hfr q2 q3 q4 q6 q7 Gt hlo g0 g1 g2 g3
    intro fr v o' hfr q6 q7 Gt G hlo g1 g2
    have hone := gx_one G
    have hone2 := gx_one Gt
    have l1 : o.length + 2 < o'.length := by omega
    have h1 := gx_hand0 (gx_set Gt (show o.length + 2 < o.length + 4 by omega) (Obj.arr 25 5 [[.int .i64 a, .str s, .str u, w1, v]])) (show o.length ≤ _ by omega) (flat_list _)
    have h2 := gx_hand0 (gx_set G (show o.length + 2 < o.length + 4 by omega) (Obj.arr 25 5 [[.int .i64 a, .str s, .str u, w1, v]])) (show o.length ≤ _ by omega) (cflat_list _)
    rw [hb2] at g1
    simp -implicitDefEqProofs [-hand0, hfr, q6, q7, g1, g2, hone, hone2, l1, getO_set, h1, h2, hand0_int, hand0_str, Cl.av, Cl.cells_mk, -getElem?_pos, List.getElem?_cons_zero, -List.map_map]
termination_by c => SizeOf.sizeOf c
decreasing_by
  have := List.sizeOf_lt_of_mem hc
  simp
  omega

end Go.Proofs.Ytjmhkbnhfpgciaa.A
