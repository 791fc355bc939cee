/- The loose numbers of a term, gathered by the program. -/
import Derived.Test.YtjmhkbnhfpgciaaB8
import Derived.Test.YtjmhkbnhfpgciaaB1
namespace Go.Proofs.Ytjmhkbnhfpgciaa.A
open Go
set_option maxRecDepth 10000
set_option linter.unusedSimpArgs false
attribute [-simp] List.all_eq_true put slot_def ld idxA lenOf elems canA app hand

/-- a list of a frame's own is kept while numbers are gathered -/
theorem Gk.gx {lo lb L ty sz ni : Nat} {o o' : List Obj} {v v' w : AV} {es ns : List (List AV)} (K : Gk lb o v o' v') (Gv : Gx 3 ni lo o v ns) (G : Gx ty sz L o w es) (hlb : lb < L) (hty : ty ≠ 3) : Gx ty sz L o' w es := by
  refine ⟨?_, G.nil⟩
  rcases G.G with hv | ⟨r, r1, hv, r2⟩
  · exact .inl hv
  · exact .inr ⟨r, r1, hv, by rw [(K.keep r (lt_of_getO r2) (by omega) (gx_apart Gv r2 (Ne.symm hty))).1]; exact r2⟩

theorem termi_eq {lo pb lb : Nat} : ∀ (t : Tm) (k : Nat) (o : List Obj) (v : AV) (ns : List Int) (ro : Nat) (df : List Nat), t.ok → Gi lo pb lb o v ns → lo ≤ o.length → ro ≤ lb → ns.length + t.all.length ≤ 4294967296 →
    ∃ w o' v', (D T).call 1000053 [t.av, .int .i64 (k : Int), .fn (.func 64) [] [.ptr pb 0 0]] ⟨o, ro, df⟩ = some (.agg [.int .i64 (match t with | .mk a _ _ _ => a), .str (match t with | .mk _ s _ _ => s), .int .i64 (match t with | .mk _ _ b _ => b), w], ⟨o', ro, df⟩) ∧
      (AV.one w = true ∧ AV.one (can1 w) = true) ∧ Gi lo pb lb o' v' (ns ++ lsT k t) ∧ Gk lb o v o' v'
  | .mk a s b l, k, o, v, ns, ro, df, hok, S, hlo, hro, hn => by
    simp only [Tm.ok] at hok
    have hl := okL_iff.1 hok.2.2.2.2
    have hle := le_allV l
    have hll := lsTL_len k l
    simp only [Tm.all, List.length_cons] at hn
    have hmx : l.length ≤ 9223372036854775807 := by omega
    have hpb := S.hp
    have hlb := S.hl
    obtain ⟨b0, hb0⟩ : ∃ b0, b0 = Obj.arr 27 4 [[.int .i64 a, .str s, .int .i64 b, .sl 4 (l.map Tm.cells)]] := ⟨_, rfl⟩
    obtain ⟨b1, hb1⟩ : ∃ b1, b1 = Obj.arr 27 4 [[.int .i64 0, .str ⟨#[]⟩, .int .i64 0, .fsl 4 []]] := ⟨_, rfl⟩
    obtain ⟨o2, v2, hd, S2, K2⟩ := gather1_eq (.mk a s b l) k (o ++ [b0, b1]) ro [] (S.push _) (by simp; omega) hro (by omega)
    have hle2 := K2.le
    simp only [List.length_append, List.length_cons, List.length_nil, Nat.zero_add] at hle2
    have g0 : o2[o.length]? = some b0 := by rw [(K2.keep o.length (by simp) (by omega) (fun n f => S.G.lt (by omega) n f)).1]; simp [get_base0]
    have g1 : o2[o.length + 1]? = some b1 := by rw [(K2.keep (o.length + 1) (by simp) (by omega) (fun n f => S.G.lt (by omega) n f)).1]; simp [get_base]
    obtain ⟨n2, hn2⟩ : ∃ n2, n2 = ns ++ (bif lq k a b then [nOf k b] else []) := ⟨_, rfl⟩
    simp only at S2
    rw [← hn2] at S2
    have hn2l : n2.length ≤ ns.length + 1 := by rw [hn2]; cases lq k a b <;> simp
    have hls : ns ++ lsT k (.mk a s b l) = n2 ++ lsTL k l := by rw [hn2, lsT, List.append_assoc]
    rw [hls]
    clear hn2 hls
    have K02 : Gk lb o v o2 v2 := (Gk.refl.push _).trans K2
    have hro1 : ro ≤ o.length + 1 := by omega
    have hro2 : ro ≤ o2.length := by omega
    have lp : ∀ (fr : List AV) (Q : AE → List AV → St → Prop), fr.length = 39 → slot fr 1 = .int .i64 k → slot fr 2 = .fn (.func 64) [] [.ptr pb 0 0] → slot fr 6 = .ptr (o.length + 1) 0 0 → slot fr 7 = .ptr o2.length 0 0 → slot fr 22 = .sl 4 (l.map Tm.cells) → slot fr 23 = .int .i64 (l.length : Int) → slot fr 24 = .int .i64 0 →
        (∀ (fr' : List AV) w es o' v', fr'.length = 39 → slot fr' 6 = .ptr (o.length + 1) 0 0 → slot fr' 7 = .ptr o2.length 0 0 → Gx 27 4 (o2.length + 1) o' w es → Gi lo pb lb o' v' (n2 ++ lsTL k l) → Gk lb o2 v2 o' v' →
          o'[o.length + 1]? = some b1 → o'[o2.length]? = some (Obj.arr 27 4 [[.int .i64 a, .str s, .int .i64 b, w]]) → Q (.exit 0) fr' ⟨o', ro, []⟩) →
        ∃ e fr' st', (D T).loop false L1000053_0 fr ⟨o2 ++ [Obj.arr 27 4 [[.int .i64 a, .str s, .int .i64 b, .fsl 4 []]]], ro, []⟩ = some (e, fr', st') ∧ Q e fr' st' := by
      intro fr Q hfr q1 q2 q6 q7 q22 q23 q24 kk
      apply loop_inv L1000053_0.eq_1 List.length (fun (rest : List Tm) fr st => ∃ pre w es o' v', l = pre ++ rest ∧ fr.length = 39 ∧ slot fr 1 = .int .i64 k ∧ slot fr 2 = .fn (.func 64) [] [.ptr pb 0 0] ∧ slot fr 6 = .ptr (o.length + 1) 0 0 ∧ slot fr 7 = .ptr o2.length 0 0 ∧ slot fr 22 = .sl 4 (l.map Tm.cells) ∧ slot fr 23 = .int .i64 (l.length : Int) ∧ slot fr 24 = .int .i64 (pre.length : Int) ∧
          st = ⟨o', ro, []⟩ ∧ es.length = pre.length ∧ Gx 27 4 (o2.length + 1) o' w es ∧ Gi lo pb lb o' v' (n2 ++ lsTL k pre) ∧ Gk lb o2 v2 o' v' ∧ o2.length + 1 ≤ o'.length ∧ o'[o.length + 1]? = some b1 ∧ o'[o2.length]? = some (Obj.arr 27 4 [[.int .i64 a, .str s, .int .i64 b, w]])) ?_ l
          ⟨[], .fsl 4 [], [], _, v2, rfl, hfr, q1, q2, q6, q7, q22, q23, q24, rfl, rfl, ⟨.inl rfl, fun _ => rfl⟩, by simpa [lsTL] using S2.push _, Gk.refl.push _, by simp, getO_push g1 _, by simp [get_base0]⟩
      clear hfr q1 q2 q6 q7 q22 q23 q24
      rintro rest fr _ ⟨pre, w, es, o', v', e, hfr, q1, q2, q6, q7, q22, q23, q24, rfl, hes, G, Sx, Kx, hlo2, h1, h2⟩
      cases rest with
      | nil =>
        have hlt := idx_end e
        have ee : l = pre := by simpa using e
        simp -implicitDefEqProofs [hfr, q1, q2, q6, q7, q22, q23, q24, hlt]
        exact kk _ w es o' v' (by simp [hfr]) (by simp [hfr, q6]) (by simp [hfr, q7]) G (by rw [ee]; exact Sx) Kx h1 h2
      | cons t rest =>
        obtain ⟨hlt, hg, hpl⟩ := idx_at e
        have hw := idx_next e hmx
        have hpl2 : (lsTL k pre).length + t.all.length ≤ (allL l).length := by
          have := lsTL_len k pre
          rw [e, allL_ap']
          simp only [allL, List.length_append]
          omega
        obtain ⟨w1, o3, v3, hc, ⟨hw1, hcw1⟩, S3, K3⟩ := termi_eq t k (o' ++ [Obj.arr 27 4 [t.cells]]) v' (n2 ++ lsTL k pre) ro [] (hl t (by simp [e])) (Sx.push _) (by simp; omega) hro (by simp; omega)
        have hle3 := K3.le
        simp only [List.length_append, List.length_cons, List.length_nil, Nat.zero_add] at hle3
        rw [hb1] at h1
        have k1 := (K3.keep (o.length + 1) (by simp; omega) (by omega) (gx_apart Sx.G h1 (by decide))).1
        have k2 := (K3.keep o2.length (by simp; omega) (by omega) (gx_apart Sx.G h2 (by decide))).1
        have k3 := (K3.keep o'.length (by simp) (by omega) (fun n f => Sx.G.lt (by omega) n f)).1
        rw [getO_push h1 _] at k1
        rw [getO_push h2 _] at k2
        rw [List.getElem?_append_right (Nat.le_refl _), Nat.sub_self, List.getElem?_cons_zero] at k3
        have G3 := K3.gx (Sx.push [Obj.arr 27 4 [t.cells]]).G (G.push _) (by omega) (by decide)
        obtain ⟨ta, ts, tb, tl⟩ := t
        simp only at hc
        obtain ⟨c1, hc1⟩ : ∃ c1, can1 w1 = c1 := ⟨_, rfl⟩
        rw [hc1] at hcw1
        simp only [can1] at hc1
        obtain ⟨o4, a1, a2, W⟩ := gx_appw G3 (ro := ro) (df := []) (bytes := 56) (by omega) (by omega) (elems_fsl _ 4 [[.int .i64 ta, .str ts, .int .i64 tb, c1]]) (room_of0 (by simp; omega) (by simp; omega))
        simp only [List.length_cons, List.length_nil, Nat.zero_add] at a1 a2 W
        have m1 := (W.keep (o.length + 1) (by omega) (fun n f => G3.not (by omega) n f)).1
        have m2 := (W.keep o2.length (by omega) (fun n f => G3.not (by omega) n f)).1
        have m3 := (W.keep o'.length (by omega) (fun n f => G.lt (by omega) n f)).1
        rw [k1] at m1
        rw [k2] at m2
        rw [k3] at m3
        have l1 : o2.length < o4.length := by omega
        have l2 : ro ≤ o'.length := by omega
        simp only [Tm.av, Tm.cells_mk] at hc k3 m3
        have h2' : ∀ m, (o' ++ m)[o2.length]? = some (Obj.arr 27 4 [[.int .i64 a, .str s, .int .i64 b, w]]) := fun m => getO_push h2 _
        have hone := gx_one G
        have hbw : AV.beq w w = true := beq_refl w
        simp -implicitDefEqProofs [-List.map_map, hfr, q1, q2, q6, q7, q22, q23, q24, hlt, hg, hw, hc, hw1, hc1, hcw1, hone, hbw, h2', k2, k3, m2, m3, a1, l1, l2, hro2, setO_last, getO_last, getO_set, Tm.cells_mk, -getElem?_pos, List.getElem?_cons_zero]
        refine ⟨rest, by simp, pre ++ [.mk ta ts tb tl], by simp [e], by simp, .own o3.length 0 (es.length + 1) false, es ++ [[.int .i64 ta, .str ts, .int .i64 tb, c1]], by simp [hes], gx_setne W.G (by simp; omega) _, v3, ?_, (((Kx.push _).trans K3).appw G3 W (by omega)).set (Nat.le_refl _) _, by omega, ?_, rfl⟩
        · rw [lsTL_ap, ← List.append_assoc]
          have := (S3.appw G3 W (by omega) (by decide)).set (i := o2.length) (by omega) m2 (by decide) (Obj.arr 27 4 [[.int .i64 a, .str s, .int .i64 b, .own o3.length 0 (es.length + 1) false]])
          simpa [lsTL] using this
        · rw [List.getElem?_set_ne (by omega), hb1]; exact m1
    suffices hh : ∃ u st', (D T).call 1000053 [(Tm.mk a s b l).av, .int .i64 (k : Int), .fn (.func 64) [] [.ptr pb 0 0]] ⟨o, ro, df⟩ = some (u, st') ∧ (fun u st' => ∃ w o' v', u = .agg [.int .i64 a, .str s, .int .i64 b, w] ∧ st' = ⟨o', ro, df⟩ ∧ (AV.one w = true ∧ AV.one (can1 w) = true) ∧ Gi lo pb lb o' v' (n2 ++ lsTL k l) ∧ Gk lb o v o' v') u st' by
      obtain ⟨_, _, h1, w, o', v', rfl, rfl, h2, h3, h4⟩ := hh
      exact ⟨w, o', v', h1, h2, h3, h4⟩
    simp only [Tm.av, Tm.cells_mk] at hd
    rw [hb0] at hd g0
    rw [hb1] at hd
    apply call_for (by exact rfl : T 1000053 = some _) (by simp)
    intro fr hfr hsl
    have s0 := hsl 0 _ rfl
    have s1 := hsl 1 _ rfl
    have s2 := hsl 2 _ rfl
    simp only [Tm.av, Tm.cells_mk] at s0
    have g0' : ∀ m, (o2 ++ m)[o.length]? = some (Obj.arr 27 4 [[.int .i64 a, .str s, .int .i64 b, .sl 4 (l.map Tm.cells)]]) := fun m => getO_push g0 m
    simp -implicitDefEqProofs [hfr, s0, s1, s2, hd, g0', hro2, get_base0, get_base, set_base0, set_base, -getElem?_pos, List.getElem?_cons_zero, List.getElem?_cons_succ]
    apply lp _ _ (by simp [hfr]) (by simp [hfr, s1]) (by simp [hfr, s2]) (by simp [hfr]) (by simp [hfr]) (by simp [hfr]) (by simp [hfr]) (by simp [hfr])
    clear lp hfr s0 s1 s2 hsl hd
    intro fr w es o' v' hfr q6 q7 G Sx Kx g1' g2
    have hone := gx_one G
    have l1 : o.length + 1 < o'.length := by have := Kx.le; omega
    rw [hb1] at g1'
    have h1w : AV.one (can1 w) = true := by
      rcases G.G with rfl | ⟨r, _, rfl, _⟩ <;> rfl
    simp -implicitDefEqProofs [hfr, q6, q7, g1', g2, hone, l1, hro1, getO_set, -getElem?_pos, List.getElem?_cons_zero]
    exact ⟨h1w, v', Sx.set (by omega) g1' (by decide) _, (K02.trans Kx).set (by omega) _⟩
termination_by t => SizeOf.sizeOf t
decreasing_by
  have := List.sizeOf_lt_of_mem (show t ∈ l by simp [e])
  simp
  omega

end Go.Proofs.Ytjmhkbnhfpgciaa.A
