/- Claims with something done to each part of their terms: what the program's walk gives. -/
import Derived.Test.YtjmhkbnhfpgciaaB1
namespace Go.Proofs.Ytjmhkbnhfpgciaa.A
open Go
set_option maxRecDepth 10000
set_option linter.unusedSimpArgs false
attribute [-simp] List.all_eq_true put slot_def ld idxA lenOf elems canA app hand

def inn (a : Int) (d : Nat) : Nat := bif binder a then d + 1 else d

mutual
def cmapW (f : Nat → Tm → Tm × Bool) : Nat → Cl → Cl
  | d, .mk a s u ts cs => .mk a s u (ts.map (tmap (f d))) (cmapWL f (inn a d) cs)
def cmapWL (f : Nat → Tm → Tm × Bool) : Nat → List Cl → List Cl
  | _, [] => []
  | d, c :: l => cmapW f d c :: cmapWL f d l
end

theorem cmapWL_map (f : Nat → Tm → Tm × Bool) (d : Nat) : ∀ l, cmapWL f d l = l.map (cmapW f d)
  | [] => rfl
  | c :: l => by simp [cmapWL, cmapWL_map f d l]

/-! how much there is in a claim -/
mutual
def Cl.ct : Cl → Nat
  | .mk _ _ _ ts cs => 1 + (allL ts).length + ctL cs
def ctL : List Cl → Nat
  | [] => 0
  | c :: l => c.ct + ctL l
end

theorem mem_ct : ∀ {l : List Cl} {t : Cl}, t ∈ l → t.ct ≤ ctL l
  | u :: l, t, h => by
    simp only [ctL]
    rcases List.mem_cons.1 h with rfl | h
    · omega
    · have := mem_ct h
      omega
theorem le_ct : ∀ l : List Cl, l.length ≤ ctL l
  | [] => Nat.le_refl _
  | .mk a s u ts cs :: l => by
    have := le_ct l
    simp only [ctL, Cl.ct, List.length_cons]
    omega

theorem walkc_eq {o0 : List Obj} {g : Nat} {cap : List AV} (f : Nat → Tm → Tm × Bool)
    (hdo : ∀ (d : Nat) t, d ≤ 4294967296 → t.ok → ∀ o ro df, (∀ (i : Nat) y, o0[i]? = some y → o[i]? = some y) → (D T).call g (t.av :: .int .i64 (d : Int) :: cap) ⟨o, ro, df⟩ = some (.tup [(f d t).1.av, .bool (f d t).2], ⟨o, ro, df⟩)) :
    ∀ (c : Cl) (d : Nat), c.ok → d + c.ct ≤ 4294967296 → ∀ (o : List Obj) (ro : Nat) (df : List Nat), (∀ (i : Nat) y, o0[i]? = some y → o[i]? = some y) →
      (D T).call 38 [c.av, .int .i64 (d : Int), .fn (.func g) [] cap] ⟨o, ro, df⟩ = some ((cmapW f d c).av, ⟨o, ro, df⟩)
  | .mk a s u ts cs, d, hok, hn, o, ro, df, K => by
    simp only [Cl.ok] at hok
    have hts := okL_iff.1 hok.2.2.2.2.1
    have hcs := okC_iff.1 hok.2.2.2.2.2.2
    have hle1 := le_allV ts
    have hle2 := le_ct cs
    simp only [Cl.ct] at hn
    have hm1 : ts.length ≤ 9223372036854775807 := by omega
    have hm2 : cs.length ≤ 9223372036854775807 := by omega
    have iht := fun t (ht : t ∈ ts) o ro df K => term_eq (o0 := o0) (f d) (hdo d · (by omega)) t (hts t ht) (by have := mem_allV ht; omega) o ro df K
    have hinn : inn a d ≤ d + 1 := by unfold inn; cases binder a <;> simp
    have ihc := fun c (hc : c ∈ cs) o ro df K => walkc_eq f hdo c (inn a d) (hcs c hc) (by have := mem_ct hc; omega) o ro df K
    rw [cmapW, cmapWL_map]
    simp only [Tm.av, Cl.av] at iht ihc
    obtain ⟨b0, hb0⟩ : ∃ b0, b0 = Obj.arr 25 5 [[.int .i64 a, .str s, .str u, .sl 4 (ts.map Tm.cells), .sl 5 (cs.map Cl.cells)]] := ⟨_, rfl⟩
    obtain ⟨b1, hb1⟩ : ∃ b1, b1 = Obj.arr 25 5 [[.int .i64 0, .str ⟨#[]⟩, .str ⟨#[]⟩, .fsl 4 [], .fsl 5 []]] := ⟨_, rfl⟩
    have lp0 : ∀ (fr : List AV) (Q : AE → List AV → St → Prop), fr.length = 64 → slot fr 1 = .int .i64 (d : Int) → slot fr 2 = .fn (.func g) [] cap → slot fr 3 = .ptr o.length 0 0 → slot fr 6 = .ptr (o.length + 1) 0 0 → slot fr 7 = .ptr (o.length + 2) 0 0 → slot fr 20 = .sl 4 (ts.map Tm.cells) → slot fr 21 = .int .i64 (ts.length : Int) → slot fr 22 = .int .i64 0 →
        (∀ (fr' : List AV) v o', fr'.length = 64 → slot fr' 1 = .int .i64 (d : Int) → slot fr' 2 = .fn (.func g) [] cap → slot fr' 3 = .ptr o.length 0 0 → slot fr' 6 = .ptr (o.length + 1) 0 0 → slot fr' 7 = .ptr (o.length + 2) 0 0 → Gx 27 4 (o.length + 3) o' v ((ts.map (tmap (f d))).map Tm.cells) → o.length + 3 ≤ o'.length →
          o'[o.length]? = some b0 → o'[o.length + 1]? = some b1 → o'[o.length + 2]? = some (Obj.arr 25 5 [[.int .i64 a, .str s, .str u, v, .fsl 5 []]]) → (∀ (i : Nat) y, o[i]? = some y → o'[i]? = some y) → Q (.exit 0) fr' ⟨o', o.length, []⟩) →
        ∃ e fr' st', (D T).loop false L38_0 fr ⟨o ++ [b0, b1, Obj.arr 25 5 [[.int .i64 a, .str s, .str u, .fsl 4 [], .fsl 5 []]]], o.length, []⟩ = some (e, fr', st') ∧ Q e fr' st' := by
      intro fr Q hfr q1 q2 q3 q6 q7 q20 q21 q22 kk
      apply loop_inv L38_0.eq_1 List.length (fun (rest : List Tm) fr st => ∃ pre v o', ts = pre ++ rest ∧ fr.length = 64 ∧ slot fr 1 = .int .i64 (d : Int) ∧ slot fr 2 = .fn (.func g) [] cap ∧ slot fr 3 = .ptr o.length 0 0 ∧ slot fr 6 = .ptr (o.length + 1) 0 0 ∧ slot fr 7 = .ptr (o.length + 2) 0 0 ∧ slot fr 20 = .sl 4 (ts.map Tm.cells) ∧ slot fr 21 = .int .i64 (ts.length : Int) ∧ slot fr 22 = .int .i64 (pre.length : Int) ∧
          st = ⟨o', o.length, []⟩ ∧ Gx 27 4 (o.length + 3) o' v ((pre.map (tmap (f d))).map Tm.cells) ∧ o.length + 3 ≤ o'.length ∧ o'[o.length]? = some b0 ∧ o'[o.length + 1]? = some b1 ∧ o'[o.length + 2]? = some (Obj.arr 25 5 [[.int .i64 a, .str s, .str u, v, .fsl 5 []]]) ∧ (∀ (i : Nat) y, o[i]? = some y → o'[i]? = some y)) ?_ ts
          ⟨[], .fsl 4 [], _, rfl, hfr, q1, q2, q3, q6, q7, q20, q21, q22, rfl, ⟨.inl rfl, fun _ => rfl⟩, by simp, by simp [get_base0], by simp [get_base], by simp [get_base], fun i y h => getO_push h _⟩
      clear hfr q1 q2 q3 q6 q7 q20 q21 q22
      rintro rest fr _ ⟨pre, v, o', e, hfr, q1, q2, q3, q6, q7, q20, q21, q22, rfl, G, hlo, g0, g1, g2, low⟩
      cases rest with
      | nil =>
        have hlt := idx_end e
        have ee : ts = pre := by simpa using e
        simp -implicitDefEqProofs [hfr, q1, q2, q3, q6, q7, q20, q21, q22, hlt]
        exact kk _ v o' (by simp [hfr]) (by simp [hfr, q1]) (by simp [hfr, q2]) (by simp [hfr, q3]) (by simp [hfr, q6]) (by simp [hfr, q7]) (by rw [ee]; exact G) hlo g0 g1 g2 low
      | cons t rest =>
        obtain ⟨hlt, hg, hpl⟩ := idx_at e
        have hw := idx_next e hm1
        have G1 := G.push [Obj.arr 27 4 [t.cells]]
        have g0' : (o' ++ [Obj.arr 27 4 [t.cells]])[o.length]? = some b0 := getO_push g0 _
        have g1' : (o' ++ [Obj.arr 27 4 [t.cells]])[o.length + 1]? = some b1 := getO_push g1 _
        have g2' : (o' ++ [Obj.arr 27 4 [t.cells]])[o.length + 2]? = some (Obj.arr 25 5 [[.int .i64 a, .str s, .str u, v, .fsl 5 []]]) := getO_push g2 _
        have hc := iht t (by simp [e]) (o' ++ [Obj.arr 27 4 [t.cells]]) o.length [] (fun i y h => getO_push (low i y (K i y h)) _)
        obtain ⟨o3, a1, a2, W⟩ := gx_appw G1 (ro := o.length) (df := []) (bytes := 56) (by omega) (by simp; omega) (elems_fsl _ 4 [(tmap (f d) t).cells]) (room_of0 (by simp; omega) (by simp; omega))
        simp only [List.length_cons, List.length_nil, Nat.zero_add, List.length_map, List.length_append] at a1 a2 W
        have k0 := (W.keep o.length (by simp; omega) (fun n f => G.not (by omega) n f)).1
        have k1 := (W.keep (o.length + 1) (by simp; omega) (fun n f => G.not (by omega) n f)).1
        have k2 := (W.keep (o.length + 2) (by simp; omega) (fun n f => G.not (by omega) n f)).1
        rw [g0'] at k0
        rw [g1'] at k1
        rw [g2'] at k2
        have l1 : o.length + 2 < o3.length := by omega
        have l2 : o.length ≤ o'.length := by omega
        simp -implicitDefEqProofs [hfr, q1, q2, q3, q6, q7, q20, q21, q22, hlt, hg, hw, hc, g2', k2, a1, l1, l2, setO_last, getO_last, getO_set, -getElem?_pos, List.getElem?_cons_zero]
        refine ⟨rest, by simp, pre ++ [t], by simp [e], by simp, .own (o'.length + 1) 0 (pre.length + 1) false, ⟨?_, by simp⟩, by omega, k0, k1, rfl, fun i y hy => ?_⟩
        · refine .inr ⟨o'.length + 1, by omega, by simp, ?_⟩
          rcases W.G.G with hv | ⟨r, r1, hv, r2⟩
          · cases hv
          · obtain rfl : o'.length + 1 = r := by simpa using hv
            rw [List.getElem?_set_ne (by omega), r2]; simp
        · have hi := lt_of_getO hy
          rw [List.getElem?_set_ne (by omega), (W.keep i (by simp; omega) (fun n f => G.not (by omega) n f)).1]
          exact getO_push (low i y hy) _
    have lp1 : ∀ (fr : List AV) (o1 : List Obj) (w : AV) (Q : AE → List AV → St → Prop), fr.length = 64 → slot fr 1 = .int .i64 (inn a d : Int) → slot fr 2 = .fn (.func g) [] cap → slot fr 6 = .ptr (o.length + 1) 0 0 → slot fr 7 = .ptr (o.length + 2) 0 0 → slot fr 47 = .sl 5 (cs.map Cl.cells) → slot fr 48 = .int .i64 (cs.length : Int) → slot fr 49 = .int .i64 0 →
        Gx 27 4 (o.length + 3) o1 w ((ts.map (tmap (f d))).map Tm.cells) → o.length + 3 ≤ o1.length → o1[o.length + 1]? = some b1 → o1[o.length + 2]? = some (Obj.arr 25 5 [[.int .i64 a, .str s, .str u, w, .fsl 5 []]]) → (∀ (i : Nat) y, o[i]? = some y → o1[i]? = some y) →
        (∀ (fr' : List AV) v o', fr'.length = 64 → slot fr' 6 = .ptr (o.length + 1) 0 0 → slot fr' 7 = .ptr (o.length + 2) 0 0 → Gx 27 4 (o.length + 3) o' w ((ts.map (tmap (f d))).map Tm.cells) → Gx 25 5 (o.length + 3) o' v ((cs.map (cmapW f (inn a d))).map Cl.cells) → o.length + 3 ≤ o'.length →
          o'[o.length + 1]? = some b1 → o'[o.length + 2]? = some (Obj.arr 25 5 [[.int .i64 a, .str s, .str u, w, v]]) → Q (.exit 2) fr' ⟨o', o.length, []⟩) →
        ∃ e fr' st', (D T).loop false L38_1 fr ⟨o1, o.length, []⟩ = some (e, fr', st') ∧ Q e fr' st' := by
      intro fr o1 w Q hfr q1 q2 q6 q7 q47 q48 q49 Gw hlo g1 g2 low kk
      apply loop_inv L38_1.eq_1 List.length (fun (rest : List Cl) fr st => ∃ pre v o', cs = pre ++ rest ∧ fr.length = 64 ∧ slot fr 1 = .int .i64 (inn a d : Int) ∧ slot fr 2 = .fn (.func g) [] cap ∧ slot fr 6 = .ptr (o.length + 1) 0 0 ∧ slot fr 7 = .ptr (o.length + 2) 0 0 ∧ slot fr 47 = .sl 5 (cs.map Cl.cells) ∧ slot fr 48 = .int .i64 (cs.length : Int) ∧ slot fr 49 = .int .i64 (pre.length : Int) ∧
          st = ⟨o', o.length, []⟩ ∧ Gx 27 4 (o.length + 3) o' w ((ts.map (tmap (f d))).map Tm.cells) ∧ Gx 25 5 (o.length + 3) o' v ((pre.map (cmapW f (inn a d))).map Cl.cells) ∧ o.length + 3 ≤ o'.length ∧ o'[o.length + 1]? = some b1 ∧ o'[o.length + 2]? = some (Obj.arr 25 5 [[.int .i64 a, .str s, .str u, w, v]]) ∧ (∀ (i : Nat) y, o[i]? = some y → o'[i]? = some y)) ?_ cs
          ⟨[], .fsl 5 [], _, rfl, hfr, q1, q2, q6, q7, q47, q48, q49, rfl, Gw, ⟨.inl rfl, fun _ => rfl⟩, hlo, g1, g2, low⟩
      clear hfr q1 q2 q6 q7 q47 q48 q49 Gw hlo g1 g2 low
      rintro rest fr _ ⟨pre, v, o', e, hfr, q1, q2, q6, q7, q47, q48, q49, rfl, Gt, G, hlo, g1, g2, low⟩
      cases rest with
      | nil =>
        have hlt := idx_end e
        have ee : cs = pre := by simpa using e
        simp -implicitDefEqProofs [hfr, q1, q2, q6, q7, q47, q48, q49, hlt]
        exact kk _ v o' (by simp [hfr]) (by simp [hfr, q6]) (by simp [hfr, q7]) Gt (by rw [ee]; exact G) hlo g1 g2
      | cons t rest =>
        obtain ⟨hlt, hg, hpl⟩ := idx_at e
        have hw := idx_next e hm2
        have G1 := G.push [Obj.arr 25 5 [t.cells]]
        have g1' : (o' ++ [Obj.arr 25 5 [t.cells]])[o.length + 1]? = some b1 := getO_push g1 _
        have g2' : (o' ++ [Obj.arr 25 5 [t.cells]])[o.length + 2]? = some (Obj.arr 25 5 [[.int .i64 a, .str s, .str u, w, v]]) := getO_push g2 _
        have hc := ihc t (by simp [e]) (o' ++ [Obj.arr 25 5 [t.cells]]) o.length [] (fun i y h => getO_push (low i y (K i y h)) _)
        obtain ⟨o3, a1, a2, W⟩ := gx_appw G1 (ro := o.length) (df := []) (bytes := 88) (by omega) (by simp; omega) (elems_fsl _ 5 [(cmapW f (inn a d) t).cells]) (room_of0 (by simp; omega) (by simp; omega))
        simp only [List.length_cons, List.length_nil, Nat.zero_add, List.length_map, List.length_append] at a1 a2 W
        have k1 := (W.keep (o.length + 1) (by simp; omega) (fun n f => G.not (by omega) n f)).1
        have k2 := (W.keep (o.length + 2) (by simp; omega) (fun n f => G.not (by omega) n f)).1
        rw [g1'] at k1
        rw [g2'] at k2
        have l1 : o.length + 2 < o3.length := by omega
        have l2 : o.length ≤ o'.length := by omega
        simp -implicitDefEqProofs [-List.map_map, hfr, q1, q2, q6, q7, q47, q48, q49, hlt, hg, hw, hc, g2', k2, a1, l1, l2, setO_last, getO_last, getO_set, -getElem?_pos, List.getElem?_cons_zero]
        refine ⟨rest, by simp, pre ++ [t], by simp [e], by simp, gx_beside (Gt.push _) G1 (by decide) W (by omega) _, .own (o'.length + 1) 0 (pre.length + 1) false, ⟨?_, by simp⟩, by omega, k1, rfl, fun i y hy => ?_⟩
        · refine .inr ⟨o'.length + 1, by omega, by simp, ?_⟩
          rcases W.G.G with hv | ⟨r, r1, hv, r2⟩
          · cases hv
          · obtain rfl : o'.length + 1 = r := by simpa using hv
            rw [List.getElem?_set_ne (by omega), r2]; simp
        · have hi := lt_of_getO hy
          rw [List.getElem?_set_ne (by omega), (W.keep i (by simp; omega) (fun n f => G.not (by omega) n f)).1]
          exact getO_push (low i y hy) _
    apply call_by (by exact rfl : T 38 = some _) (by simp)
    intro fr hfr hsl
    have s0 := hsl 0 _ rfl
    have s1 := hsl 1 _ rfl
    have s2 := hsl 2 _ rfl
    simp only [Cl.av, Cl.cells_mk] at s0
    simp -implicitDefEqProofs [hfr, s0, s1, s2, get_base0, get_base, set_base0, set_base, -getElem?_pos, List.getElem?_cons_zero, List.getElem?_cons_succ]
    rw [← hb0, ← hb1]
    apply lp0 _ _ (by simp [hfr]) (by simp [hfr, s1]) (by simp [hfr, s2]) (by simp [hfr]) (by simp [hfr]) (by simp [hfr]) (by simp [hfr]) (by simp [hfr]) (by simp [hfr])
    clear lp0 hfr s0 s1 s2 hsl
    intro fr w o1 hfr q1 q2 q3 q6 q7 Gt hlo g0 g1 g2 low
    rw [hb0] at g0
    have fin : ∀ (fr' : List AV) v o', fr'.length = 64 → slot fr' 6 = .ptr (o.length + 1) 0 0 → slot fr' 7 = .ptr (o.length + 2) 0 0 → Gx 27 4 (o.length + 3) o' w ((ts.map (tmap (f d))).map Tm.cells) → Gx 25 5 (o.length + 3) o' v ((cs.map (cmapW f (inn a d))).map Cl.cells) → o.length + 3 ≤ o'.length →
          o'[o.length + 1]? = some b1 → o'[o.length + 2]? = some (Obj.arr 25 5 [[.int .i64 a, .str s, .str u, w, v]]) →
          run (D T) false (fin [ARes.cell 6 true 5] true ⟨o, ro, df⟩ (fun v' s' => v' = (Cl.mk a s u (ts.map (tmap (f d))) (cs.map (cmapW f (inn a d)))).av ∧ s' = ⟨o, ro, df⟩)) [It.blk 2, It.c ((AC.ops [⟨some 63, AO.load true 5 (Opd.t 7), none⟩, ⟨none, AO.store 5 (Opd.t 6) (Opd.t 63), none⟩] false).seq AC.ret)] (.exit 2) fr' ⟨o', o.length, []⟩ := by
      intro fr v o' hfr q6 q7 Gt G hlo g1 g2
      have hone := gx_one G
      have hone2 := gx_one Gt
      have l1 : o.length + 1 < o'.length := by omega
      have h1 := gx_hand0 (gx_set Gt (show o.length + 1 < o.length + 3 by omega) (Obj.arr 25 5 [[.int .i64 a, .str s, .str u, w, v]])) (show o.length ≤ _ by omega) (flat_list _)
      have h2 := gx_hand0 (gx_set G (show o.length + 1 < o.length + 3 by omega) (Obj.arr 25 5 [[.int .i64 a, .str s, .str u, w, v]])) (show o.length ≤ _ by omega) (cflat_list _)
      rw [hb1] at g1
      simp -implicitDefEqProofs [-hand0, hfr, q6, q7, g1, g2, hone, hone2, l1, getO_set, h1, h2, hand0_int, hand0_str, Cl.av, Cl.cells_mk, -getElem?_pos, List.getElem?_cons_zero, -List.map_map]
    have hwd : IntKind.i64.wrap ((d : Int) + 1) = ((d + 1 : Nat) : Int) := by rw [wrap_id] <;> omega
    by_cases h11 : a = 11
    · have hi : inn a d = d + 1 := by simp [inn, binder, h11]
      rw [hi] at lp1 fin
      rw [hi]
      simp -implicitDefEqProofs [hfr, q1, q2, q3, q6, q7, g0, h11, hwd, -getElem?_pos, List.getElem?_cons_zero]
      rw [← h11]
      exact lp1 _ _ w _ (by simp [hfr]) (by simp [hfr]) (by simp [hfr, q2]) (by simp [hfr, q6]) (by simp [hfr, q7]) (by simp [hfr]) (by simp [hfr]) (by simp [hfr]) Gt hlo g1 g2 low fin
    · have h11b : (a == 11) = false := by simpa using h11
      by_cases h12 : a = 12
      · have hi : inn a d = d + 1 := by simp [inn, binder, h12]
        rw [hi] at lp1 fin
        rw [hi]
        simp -implicitDefEqProofs [hfr, q1, q2, q3, q6, q7, g0, h12, hwd, -getElem?_pos, List.getElem?_cons_zero]
        rw [← h12]
        exact lp1 _ _ w _ (by simp [hfr]) (by simp [hfr]) (by simp [hfr, q2]) (by simp [hfr, q6]) (by simp [hfr, q7]) (by simp [hfr]) (by simp [hfr]) (by simp [hfr]) Gt hlo g1 g2 low fin
      · have h12b : (a == 12) = false := by simpa using h12
        have hi : inn a d = d := by simp [inn, binder, h11b, h12b]
        rw [hi] at lp1 fin
        rw [hi]
        simp -implicitDefEqProofs [hfr, q1, q2, q3, q6, q7, g0, h11, h11b, h12, h12b, -getElem?_pos, List.getElem?_cons_zero]
        exact lp1 _ _ w _ (by simp [hfr]) (by simp [hfr, q1]) (by simp [hfr, q2]) (by simp [hfr, q6]) (by simp [hfr, q7]) (by simp [hfr]) (by simp [hfr]) (by simp [hfr]) Gt hlo g1 g2 low fin
termination_by c => SizeOf.sizeOf c
decreasing_by
  have := List.sizeOf_lt_of_mem hc
  simp
  omega

end Go.Proofs.Ytjmhkbnhfpgciaa.A
