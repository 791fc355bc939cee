/- The loose numbers of a claim, gathered by the program. -/
import Derived.Test.YtjmhkbnhfpgciaaB9
import Derived.Test.YtjmhkbnhfpgciaaB2
namespace Go.Proofs.Ytjmhkbnhfpgciaa.A
open Go
set_option maxRecDepth 10000
set_option linter.unusedSimpArgs false
attribute [-simp] List.all_eq_true put slot_def ld idxA lenOf elems canA app hand

mutual
/-- a claim's loose numbers, as they come -/
def lsC : Nat → Cl → List Int
  | d, .mk a _ _ ts cs => lsTL d ts ++ lsCL (inn a d) cs
def lsCL : Nat → List Cl → List Int
  | _, [] => []
  | d, c :: l => lsC d c ++ lsCL d l
end

theorem lsCL_ap (d : Nat) : ∀ l m, lsCL d (l ++ m) = lsCL d l ++ lsCL d m
  | [], m => rfl
  | t :: l, m => by simp [lsCL, lsCL_ap d l m]
theorem ctL_ap : ∀ l m, ctL (l ++ m) = ctL l + ctL m
  | [], m => by simp [ctL]
  | t :: l, m => by simp [ctL, ctL_ap l m]; omega

mutual
theorem lsC_len : ∀ (d : Nat) (c : Cl), (lsC d c).length ≤ c.ct
  | d, .mk a s u ts cs => by
    have := lsTL_len d ts
    have := lsCL_len (inn a d) cs
    simp only [lsC, Cl.ct, List.length_append]
    omega
theorem lsCL_len : ∀ (d : Nat) (l : List Cl), (lsCL d l).length ≤ ctL l
  | _, [] => by simp [lsCL]
  | d, t :: l => by
    have := lsC_len d t
    have := lsCL_len d l
    simp only [lsCL, ctL, List.length_append]
    omega
end

theorem walki_eq {lo pb lb : Nat} : ∀ (c : Cl) (d : Nat) (o : List Obj) (v : AV) (ns : List Int) (ro : Nat) (df : List Nat), c.ok → Gi lo pb lb o v ns → lo ≤ o.length → ro ≤ lb → d + ns.length + c.ct ≤ 4294967296 →
    ∃ w x o' v', (D T).call 1000038 [c.av, .int .i64 (d : Int), .fn (.func 64) [] [.ptr pb 0 0]] ⟨o, ro, df⟩ = some (.agg [.int .i64 (match c with | .mk a _ _ _ _ => a), .str (match c with | .mk _ s _ _ _ => s), .str (match c with | .mk _ _ u _ _ => u), w, x], ⟨o', ro, df⟩) ∧
      (AV.one w = true ∧ AV.one (can1 w) = true ∧ AV.one x = true ∧ AV.one (can1 x) = true) ∧ Gi lo pb lb o' v' (ns ++ lsC d c) ∧ Gk lb o v o' v'
  | .mk a s u ts cs, d, o, v, ns, ro, df, hok, S, hlo, hro, hn => by
    simp only [Cl.ok] at hok
    have hts := okL_iff.1 hok.2.2.2.2.1
    have hcs := okC_iff.1 hok.2.2.2.2.2.2
    have hle1 := le_allV ts
    have hle2 := le_ct cs
    have hll := lsTL_len d ts
    simp only [Cl.ct] at hn
    have hm1 : ts.length ≤ 9223372036854775807 := by omega
    have hm2 : cs.length ≤ 9223372036854775807 := by omega
    have hinn : inn a d ≤ d + 1 := by unfold inn; cases binder a <;> simp
    have hpb := S.hp
    have hlb := S.hl
    have hro1 : ro ≤ o.length + 1 := by omega
    have hro2 : ro ≤ o.length + 2 := by omega
    obtain ⟨b0, hb0⟩ : ∃ b0, b0 = Obj.arr 25 5 [[.int .i64 a, .str s, .str u, .sl 4 (ts.map Tm.cells), .sl 5 (cs.map Cl.cells)]] := ⟨_, rfl⟩
    obtain ⟨b1, hb1⟩ : ∃ b1, b1 = Obj.arr 25 5 [[.int .i64 0, .str ⟨#[]⟩, .str ⟨#[]⟩, .fsl 4 [], .fsl 5 []]] := ⟨_, rfl⟩
    have lp0 : ∀ (fr : List AV) (Q : AE → List AV → St → Prop), fr.length = 64 → slot fr 1 = .int .i64 (d : Int) → slot fr 2 = .fn (.func 64) [] [.ptr pb 0 0] → slot fr 3 = .ptr o.length 0 0 → slot fr 6 = .ptr (o.length + 1) 0 0 → slot fr 7 = .ptr (o.length + 2) 0 0 → slot fr 20 = .sl 4 (ts.map Tm.cells) → slot fr 21 = .int .i64 (ts.length : Int) → slot fr 22 = .int .i64 0 →
        (∀ (fr' : List AV) w es o' v', fr'.length = 64 → slot fr' 1 = .int .i64 (d : Int) → slot fr' 2 = .fn (.func 64) [] [.ptr pb 0 0] → slot fr' 3 = .ptr o.length 0 0 → slot fr' 6 = .ptr (o.length + 1) 0 0 → slot fr' 7 = .ptr (o.length + 2) 0 0 → Gx 27 4 (o.length + 3) o' w es → Gi lo pb lb o' v' (ns ++ lsTL d ts) → Gk lb o v o' v' → o.length + 3 ≤ o'.length →
          o'[o.length]? = some b0 → o'[o.length + 1]? = some b1 → o'[o.length + 2]? = some (Obj.arr 25 5 [[.int .i64 a, .str s, .str u, w, .fsl 5 []]]) → Q (.exit 0) fr' ⟨o', ro, []⟩) →
        ∃ e fr' st', (D T).loop false L1000038_0 fr ⟨o ++ [b0, b1, Obj.arr 25 5 [[.int .i64 a, .str s, .str u, .fsl 4 [], .fsl 5 []]]], ro, []⟩ = some (e, fr', st') ∧ Q e fr' st' := by
      intro fr Q hfr q1 q2 q3 q6 q7 q20 q21 q22 kk
      apply loop_inv L1000038_0.eq_1 List.length (fun (rest : List Tm) fr st => ∃ pre w es o' v', ts = pre ++ rest ∧ fr.length = 64 ∧ slot fr 1 = .int .i64 (d : Int) ∧ slot fr 2 = .fn (.func 64) [] [.ptr pb 0 0] ∧ slot fr 3 = .ptr o.length 0 0 ∧ slot fr 6 = .ptr (o.length + 1) 0 0 ∧ slot fr 7 = .ptr (o.length + 2) 0 0 ∧ slot fr 20 = .sl 4 (ts.map Tm.cells) ∧ slot fr 21 = .int .i64 (ts.length : Int) ∧ slot fr 22 = .int .i64 (pre.length : Int) ∧
          st = ⟨o', ro, []⟩ ∧ es.length = pre.length ∧ Gx 27 4 (o.length + 3) o' w es ∧ Gi lo pb lb o' v' (ns ++ lsTL d pre) ∧ Gk lb o v o' v' ∧ o.length + 3 ≤ o'.length ∧ o'[o.length]? = some b0 ∧ o'[o.length + 1]? = some b1 ∧ o'[o.length + 2]? = some (Obj.arr 25 5 [[.int .i64 a, .str s, .str u, w, .fsl 5 []]])) ?_ ts
          ⟨[], .fsl 4 [], [], _, v, rfl, hfr, q1, q2, q3, q6, q7, q20, q21, q22, rfl, rfl, ⟨.inl rfl, fun _ => rfl⟩, by simpa [lsTL] using S.push _, Gk.refl.push _, by simp, by simp [get_base0], by simp [get_base], by simp [get_base]⟩
      clear hfr q1 q2 q3 q6 q7 q20 q21 q22
      rintro rest fr _ ⟨pre, w, es, o', v', e, hfr, q1, q2, q3, q6, q7, q20, q21, q22, rfl, hes, G, Sx, Kx, hlo2, g0, g1, g2⟩
      cases rest with
      | nil =>
        have hlt := idx_end e
        have ee : ts = pre := by simpa using e
        simp -implicitDefEqProofs [hfr, q1, q2, q3, q6, q7, q20, q21, q22, hlt]
        exact kk _ w es o' v' (by simp [hfr]) (by simp [hfr, q1]) (by simp [hfr, q2]) (by simp [hfr, q3]) (by simp [hfr, q6]) (by simp [hfr, q7]) G (by rw [ee]; exact Sx) Kx hlo2 g0 g1 g2
      | cons t rest =>
        obtain ⟨hlt, hg, hpl⟩ := idx_at e
        have hw := idx_next e hm1
        have hpl2 : (lsTL d pre).length + t.all.length ≤ (allL ts).length := by
          have := lsTL_len d pre
          rw [e, allL_ap']
          simp only [allL, List.length_append]
          omega
        obtain ⟨w1, o3, v3, hc, ⟨hw1, hcw1⟩, S3, K3⟩ := termi_eq t d (o' ++ [Obj.arr 27 4 [t.cells]]) v' (ns ++ lsTL d pre) ro [] (hts t (by simp [e])) (Sx.push _) (by simp; omega) hro (by simp; omega)
        have hle3 := K3.le
        simp only [List.length_append, List.length_cons, List.length_nil, Nat.zero_add] at hle3
        rw [hb0] at g0
        rw [hb1] at g1
        have k0 := (K3.keep o.length (by simp; omega) (by omega) (gx_apart Sx.G g0 (by decide))).1
        have k1 := (K3.keep (o.length + 1) (by simp; omega) (by omega) (gx_apart Sx.G g1 (by decide))).1
        have k2 := (K3.keep (o.length + 2) (by simp; omega) (by omega) (gx_apart Sx.G g2 (by decide))).1
        have k3 := (K3.keep o'.length (by simp) (by omega) (fun n f => Sx.G.lt (by omega) n f)).1
        rw [getO_push g0 _] at k0
        rw [getO_push g1 _] at k1
        rw [getO_push g2 _] at k2
        rw [List.getElem?_append_right (Nat.le_refl _), Nat.sub_self, List.getElem?_cons_zero] at k3
        have G3 := K3.gx (Sx.push [Obj.arr 27 4 [t.cells]]).G (G.push _) (by omega) (by decide)
        obtain ⟨ta, tn, tb, tl⟩ := t
        simp only at hc
        obtain ⟨c1, hc1⟩ : ∃ c1, can1 w1 = c1 := ⟨_, rfl⟩
        rw [hc1] at hcw1
        simp only [can1] at hc1
        obtain ⟨o4, a1, a2, W⟩ := gx_appw G3 (ro := ro) (df := []) (bytes := 56) (by omega) (by omega) (elems_fsl _ 4 [[.int .i64 ta, .str tn, .int .i64 tb, c1]]) (room_of0 (by simp; omega) (by simp; omega))
        simp only [List.length_cons, List.length_nil, Nat.zero_add] at a1 a2 W
        have m0 := (W.keep o.length (by omega) (fun n f => G3.not (by omega) n f)).1
        have m1 := (W.keep (o.length + 1) (by omega) (fun n f => G3.not (by omega) n f)).1
        have m2 := (W.keep (o.length + 2) (by omega) (fun n f => G3.not (by omega) n f)).1
        have m3 := (W.keep o'.length (by omega) (fun n f => G.lt (by omega) n f)).1
        rw [k0] at m0
        rw [k1] at m1
        rw [k2] at m2
        rw [k3] at m3
        have l1 : o.length + 2 < o4.length := by omega
        have l2 : ro ≤ o'.length := by omega
        simp only [Tm.av, Tm.cells_mk] at hc k3 m3
        have g2' : ∀ m, (o' ++ m)[o.length + 2]? = some (Obj.arr 25 5 [[.int .i64 a, .str s, .str u, w, .fsl 5 []]]) := fun m => getO_push g2 _
        have hone := gx_one G
        have hbw : AV.beq w w = true := beq_refl w
        simp -implicitDefEqProofs [-List.map_map, hfr, q1, q2, q3, q6, q7, q20, q21, q22, hlt, hg, hw, hc, hw1, hc1, hcw1, hone, hbw, g2', k2, k3, m2, m3, a1, l1, l2, hro2, setO_last, getO_last, getO_set, Tm.cells_mk, -getElem?_pos, List.getElem?_cons_zero]
        refine ⟨rest, by simp, pre ++ [.mk ta tn tb tl], by simp [e], by simp, .own o3.length 0 (es.length + 1) false, es ++ [[.int .i64 ta, .str tn, .int .i64 tb, c1]], by simp [hes], gx_setne W.G (by simp; omega) _, v3, ?_, (((Kx.push _).trans K3).appw G3 W (by omega)).set (by omega) _, by omega, ?_, ?_, rfl⟩
        · rw [lsTL_ap, ← List.append_assoc]
          have := (S3.appw G3 W (by omega) (by decide)).set (i := o.length + 2) (by omega) m2 (by decide) (Obj.arr 25 5 [[.int .i64 a, .str s, .str u, .own o3.length 0 (es.length + 1) false, .fsl 5 []]])
          simpa [lsTL] using this
        · rw [hb0]; exact m0
        · rw [hb1]; exact m1
    have lp1 : ∀ (fr : List AV) (Q : AE → List AV → St → Prop) (di : Nat) w o1 v1 n1, di ≤ d + 1 → n1.length ≤ ns.length + (allL ts).length → fr.length = 64 → slot fr 1 = .int .i64 (di : Int) → slot fr 2 = .fn (.func 64) [] [.ptr pb 0 0] → slot fr 6 = .ptr (o.length + 1) 0 0 → slot fr 7 = .ptr (o.length + 2) 0 0 → slot fr 47 = .sl 5 (cs.map Cl.cells) → slot fr 48 = .int .i64 (cs.length : Int) → slot fr 49 = .int .i64 0 →
        Gi lo pb lb o1 v1 n1 → Gk lb o v o1 v1 → o.length + 3 ≤ o1.length → o1[o.length + 1]? = some b1 → o1[o.length + 2]? = some (Obj.arr 25 5 [[.int .i64 a, .str s, .str u, w, .fsl 5 []]]) →
        (∀ (fr' : List AV) x es o' v', fr'.length = 64 → slot fr' 6 = .ptr (o.length + 1) 0 0 → slot fr' 7 = .ptr (o.length + 2) 0 0 → Gx 25 5 (o.length + 3) o' x es → Gi lo pb lb o' v' (n1 ++ lsCL di cs) → Gk lb o v o' v' → o.length + 3 ≤ o'.length →
          o'[o.length + 1]? = some b1 → o'[o.length + 2]? = some (Obj.arr 25 5 [[.int .i64 a, .str s, .str u, w, x]]) → Q (.exit 2) fr' ⟨o', ro, []⟩) →
        ∃ e fr' st', (D T).loop false L1000038_1 fr ⟨o1, ro, []⟩ = some (e, fr', st') ∧ Q e fr' st' := by
      intro fr Q di w o1 v1 n1 hdi hn1 hfr q1 q2 q6 q7 q47 q48 q49 S1 K1 hlo1 g1 g2 kk
      apply loop_inv L1000038_1.eq_1 List.length (fun (rest : List Cl) fr st => ∃ pre x es o' v', cs = pre ++ rest ∧ fr.length = 64 ∧ slot fr 1 = .int .i64 (di : Int) ∧ slot fr 2 = .fn (.func 64) [] [.ptr pb 0 0] ∧ slot fr 6 = .ptr (o.length + 1) 0 0 ∧ slot fr 7 = .ptr (o.length + 2) 0 0 ∧ slot fr 47 = .sl 5 (cs.map Cl.cells) ∧ slot fr 48 = .int .i64 (cs.length : Int) ∧ slot fr 49 = .int .i64 (pre.length : Int) ∧
          st = ⟨o', ro, []⟩ ∧ es.length = pre.length ∧ Gx 25 5 (o.length + 3) o' x es ∧ Gi lo pb lb o' v' (n1 ++ lsCL di pre) ∧ Gk lb o v o' v' ∧ o.length + 3 ≤ o'.length ∧ o'[o.length + 1]? = some b1 ∧ o'[o.length + 2]? = some (Obj.arr 25 5 [[.int .i64 a, .str s, .str u, w, x]])) ?_ cs
          ⟨[], .fsl 5 [], [], o1, v1, rfl, hfr, q1, q2, q6, q7, q47, q48, q49, rfl, rfl, ⟨.inl rfl, fun _ => rfl⟩, by simpa [lsCL] using S1, K1, hlo1, g1, g2⟩
      clear hfr q1 q2 q6 q7 q47 q48 q49 S1 K1 hlo1 g1 g2
      rintro rest fr _ ⟨pre, x, es, o', v', e, hfr, q1, q2, q6, q7, q47, q48, q49, rfl, hes, G, Sx, Kx, hlo2, g1, g2⟩
      cases rest with
      | nil =>
        have hlt := idx_end e
        have ee : cs = pre := by simpa using e
        simp -implicitDefEqProofs [hfr, q1, q2, q6, q7, q47, q48, q49, hlt]
        exact kk _ x es o' v' (by simp [hfr]) (by simp [hfr, q6]) (by simp [hfr, q7]) G (by rw [ee]; exact Sx) Kx hlo2 g1 g2
      | cons t rest =>
        obtain ⟨hlt, hg, hpl⟩ := idx_at e
        have hw := idx_next e hm2
        have hpl2 : (lsCL di pre).length + t.ct ≤ ctL cs := by
          have := lsCL_len di pre
          rw [e, ctL_ap]
          simp only [ctL]
          omega
        obtain ⟨w1, x1, o3, v3, hc, ⟨hw1, hcw1, hx1, hcx1⟩, S3, K3⟩ := walki_eq t di (o' ++ [Obj.arr 25 5 [t.cells]]) v' (n1 ++ lsCL di pre) ro [] (hcs t (by simp [e])) (Sx.push _) (by simp; omega) hro (by simp; omega)
        have hle3 := K3.le
        simp only [List.length_append, List.length_cons, List.length_nil, Nat.zero_add] at hle3
        rw [hb1] at g1
        have k1 := (K3.keep (o.length + 1) (by simp; omega) (by omega) (gx_apart Sx.G g1 (by decide))).1
        have k2 := (K3.keep (o.length + 2) (by simp; omega) (by omega) (gx_apart Sx.G g2 (by decide))).1
        have k3 := (K3.keep o'.length (by simp) (by omega) (fun n f => Sx.G.lt (by omega) n f)).1
        rw [getO_push g1 _] at k1
        rw [getO_push g2 _] at k2
        rw [List.getElem?_append_right (Nat.le_refl _), Nat.sub_self, List.getElem?_cons_zero] at k3
        have G3 := K3.gx (Sx.push [Obj.arr 25 5 [t.cells]]).G (G.push _) (by omega) (by decide)
        obtain ⟨ta, tn, tu, tl, tc⟩ := t
        simp only at hc
        obtain ⟨c1, hc1⟩ : ∃ c1, can1 w1 = c1 := ⟨_, rfl⟩
        obtain ⟨c2, hc2⟩ : ∃ c2, can1 x1 = c2 := ⟨_, rfl⟩
        rw [hc1] at hcw1
        rw [hc2] at hcx1
        simp only [can1] at hc1 hc2
        obtain ⟨o4, a1, a2, W⟩ := gx_appw G3 (ro := ro) (df := []) (bytes := 88) (by omega) (by omega) (elems_fsl _ 5 [[.int .i64 ta, .str tn, .str tu, c1, c2]]) (room_of0 (by simp; omega) (by simp; omega))
        simp only [List.length_cons, List.length_nil, Nat.zero_add] at a1 a2 W
        have m1 := (W.keep (o.length + 1) (by omega) (fun n f => G3.not (by omega) n f)).1
        have m2 := (W.keep (o.length + 2) (by omega) (fun n f => G3.not (by omega) n f)).1
        have m3 := (W.keep o'.length (by omega) (fun n f => G.lt (by omega) n f)).1
        rw [k1] at m1
        rw [k2] at m2
        rw [k3] at m3
        have l1 : o.length + 2 < o4.length := by omega
        have l2 : ro ≤ o'.length := by omega
        simp only [Cl.av, Cl.cells_mk] at hc k3 m3
        have g2' : ∀ m, (o' ++ m)[o.length + 2]? = some (Obj.arr 25 5 [[.int .i64 a, .str s, .str u, w, x]]) := fun m => getO_push g2 _
        have hone := gx_one G
        have hbw : AV.beq w w = true := beq_refl w
        have hbx : AV.beq x x = true := beq_refl x
        simp -implicitDefEqProofs [-List.map_map, hfr, q1, q2, q6, q7, q47, q48, q49, hlt, hg, hw, hc, hw1, hc1, hcw1, hx1, hc2, hcx1, hone, hbw, hbx, g2', k2, k3, m2, m3, a1, l1, l2, hro2, setO_last, getO_last, getO_set, Cl.cells_mk, -getElem?_pos, List.getElem?_cons_zero]
        refine ⟨rest, by simp, pre ++ [.mk ta tn tu tl tc], by simp [e], by simp, .own o3.length 0 (es.length + 1) false, es ++ [[.int .i64 ta, .str tn, .str tu, c1, c2]], by simp [hes], gx_setne W.G (by simp; omega) _, v3, ?_, (((Kx.push _).trans K3).appw G3 W (by omega)).set (by omega) _, by omega, ?_, rfl⟩
        · rw [lsCL_ap, ← List.append_assoc]
          have := (S3.appw G3 W (by omega) (by decide)).set (i := o.length + 2) (by omega) m2 (by decide) (Obj.arr 25 5 [[.int .i64 a, .str s, .str u, w, .own o3.length 0 (es.length + 1) false]])
          simpa [lsCL] using this
        · rw [hb1]; exact m1
    obtain ⟨R, hR⟩ : ∃ R : AV → St → Prop, R = (fun y st' => ∃ w x o' v', y = .agg [.int .i64 a, .str s, .str u, w, x] ∧ st' = ⟨o', ro, df⟩ ∧ (AV.one w = true ∧ AV.one (can1 w) = true ∧ AV.one x = true ∧ AV.one (can1 x) = true) ∧ Gi lo pb lb o' v' (ns ++ lsC d (.mk a s u ts cs)) ∧ Gk lb o v o' v') := ⟨_, rfl⟩
    suffices hh : ∃ y st', (D T).call 1000038 [(Cl.mk a s u ts cs).av, .int .i64 (d : Int), .fn (.func 64) [] [.ptr pb 0 0]] ⟨o, ro, df⟩ = some (y, st') ∧ R y st' by
      rw [hR] at hh
      obtain ⟨_, _, h1, w, x, o', v', rfl, rfl, h2, h3, h4⟩ := hh
      exact ⟨w, x, o', v', h1, h2, h3, h4⟩
    apply call_for (by exact rfl : T 1000038 = some _) (by simp)
    intro fr hfr hsl
    have s0 := hsl 0 _ rfl
    have s1 := hsl 1 _ rfl
    have s2 := hsl 2 _ rfl
    simp only [Cl.av, Cl.cells_mk] at s0
    simp -implicitDefEqProofs [hfr, s0, s1, s2, hro2, get_base0, get_base, set_base0, set_base, -getElem?_pos, List.getElem?_cons_zero, List.getElem?_cons_succ]
    rw [← hb0, ← hb1]
    apply lp0 _ _ (by simp [hfr]) (by simp [hfr, s1]) (by simp [hfr, s2]) (by simp [hfr]) (by simp [hfr]) (by simp [hfr]) (by simp [hfr]) (by simp [hfr]) (by simp [hfr])
    clear lp0 hfr s0 s1 s2 hsl
    intro fr w es o1 v1 hfr q1 q2 q3 q6 q7 Gt S1 K1 hlo1 g0 g1 g2
    have hw : AV.one w = true ∧ AV.one (can1 w) = true := by
      rcases Gt.G with rfl | ⟨r, _, rfl, _⟩ <;> exact ⟨rfl, rfl⟩
    rw [hb0] at g0
    have fin : ∀ (fr' : List AV) x es o' v', fr'.length = 64 → slot fr' 6 = .ptr (o.length + 1) 0 0 → slot fr' 7 = .ptr (o.length + 2) 0 0 → Gx 25 5 (o.length + 3) o' x es → Gi lo pb lb o' v' ((ns ++ lsTL d ts) ++ lsCL (inn a d) cs) → Gk lb o v o' v' → o.length + 3 ≤ o'.length →
          o'[o.length + 1]? = some b1 → o'[o.length + 2]? = some (Obj.arr 25 5 [[.int .i64 a, .str s, .str u, w, x]]) →
          run (D T) false (fin [ARes.cell 6 true 5] false ⟨o, ro, df⟩ R) [It.blk 2, It.c ((AC.ops [⟨some 63, AO.load true 5 (Opd.t 7), none⟩, ⟨none, AO.store 5 (Opd.t 6) (Opd.t 63), none⟩] false).seq AC.ret)] (.exit 2) fr' ⟨o', ro, []⟩ := by
      intro fr x es o' v' hfr q6 q7 G Sx Kx hlo2 g1 g2
      have hx : AV.one x = true ∧ AV.one (can1 x) = true := by
        rcases G.G with rfl | ⟨r, _, rfl, _⟩ <;> exact ⟨rfl, rfl⟩
      have hw1 := hw.1
      have hx1 := hx.1
      have l1 : o.length + 1 < o'.length := by omega
      rw [hb1] at g1
      simp -implicitDefEqProofs [hfr, q6, q7, g1, g2, hw1, hx1, l1, hro1, getO_set, -getElem?_pos, List.getElem?_cons_zero]
      rw [hR]
      refine ⟨w, x, _, v', rfl, rfl, ⟨hw1, hw.2, hx1, hx.2⟩, ?_, Kx.set (by omega) _⟩
      have := Sx.set (i := o.length + 1) (by omega) g1 (by decide) (Obj.arr 25 5 [[.int .i64 a, .str s, .str u, w, x]])
      rw [lsC, ← List.append_assoc]
      exact this
    have hwd : IntKind.i64.wrap ((d : Int) + 1) = ((d + 1 : Nat) : Int) := by rw [wrap_id] <;> omega
    have hl1 : (ns ++ lsTL d ts).length ≤ ns.length + (allL ts).length := by simp; omega
    have g0' := g0
    by_cases h11 : a = 11
    · have hi : inn a d = d + 1 := by simp [inn, binder, h11]
      rw [hi] at fin
      rw [h11] at fin
      subst h11
      simp -implicitDefEqProofs [hfr, q1, q2, q3, q6, q7, g0, hwd, -getElem?_pos, List.getElem?_cons_zero]
      exact lp1 _ _ (d + 1) w _ _ _ (by omega) hl1 (by simp [hfr]) (by simp [hfr]) (by simp [hfr, q2]) (by simp [hfr, q6]) (by simp [hfr, q7]) (by simp [hfr]) (by simp [hfr]) (by simp [hfr]) S1 K1 hlo1 g1 g2 fin
    · have h11b : (a == 11) = false := by simpa using h11
      by_cases h12 : a = 12
      · have hi : inn a d = d + 1 := by simp [inn, binder, h12]
        rw [hi] at fin
        subst h12
        simp -implicitDefEqProofs [hfr, q1, q2, q3, q6, q7, g0, hwd, -getElem?_pos, List.getElem?_cons_zero]
        exact lp1 _ _ (d + 1) w _ _ _ (by omega) hl1 (by simp [hfr]) (by simp [hfr]) (by simp [hfr, q2]) (by simp [hfr, q6]) (by simp [hfr, q7]) (by simp [hfr]) (by simp [hfr]) (by simp [hfr]) S1 K1 hlo1 g1 g2 fin
      · have h12b : (a == 12) = false := by simpa using h12
        have hi : inn a d = d := by simp [inn, binder, h11b, h12b]
        rw [hi] at fin
        simp -implicitDefEqProofs [hfr, q1, q2, q3, q6, q7, g0, h11, h11b, h12, h12b, -getElem?_pos, List.getElem?_cons_zero]
        exact lp1 _ _ d w _ _ _ (by omega) hl1 (by simp [hfr]) (by simp [hfr, q1]) (by simp [hfr, q2]) (by simp [hfr, q6]) (by simp [hfr, q7]) (by simp [hfr]) (by simp [hfr]) (by simp [hfr]) S1 K1 hlo1 g1 g2 fin
termination_by c => SizeOf.sizeOf c
decreasing_by
  have := List.sizeOf_lt_of_mem (show t ∈ cs by simp [e])
  simp
  omega

end Go.Proofs.Ytjmhkbnhfpgciaa.A
