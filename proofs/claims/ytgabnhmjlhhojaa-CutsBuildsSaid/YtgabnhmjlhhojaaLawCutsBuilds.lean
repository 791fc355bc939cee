/- CutsBuilds: for any such input the law's function answers true. No condition beyond the given statement's. -/
import Derived.Test.YtgabnhmjlhhojaaZ14
import Derived.Test.YtgabnhmjlhhojaaZ9
import Derived.Test.YtgabnhmjlhhojaaG
namespace Go.Proofs.Ytgabnhmjlhhojaa.A
open Go
set_option maxRecDepth 10000
set_option linter.unusedSimpArgs false
set_option linter.unusedVariables false
attribute [-simp] List.all_eq_true put slot_def ld idxA lenOf elems canA app hand slc List.map_map

theorem law_builds31_out (a b : Cu) (fs bs : List Int) (dv : Int) (l : Int × List (Int × Int)) (n : Int) (k0 : a.ok) (k1 : b.ok) (k2 : inL fs) (k3 : inL bs) (k4 : inI dv) (k5 : inI l.1 ∧ moL l.2) (k6 : inI n) (hg : ¬ (cw a 400 ≤ 400 ∧ cw b 400 ≤ 400 ∧ ¬ (400 : Int) < (fs.length : Int) + (bs.length : Int) + (l.2.length : Int))) :
    (D T).call 8 [a.av, b.av, .sl 1 (intA fs), .sl 1 (intA bs), .int .i64 dv, .agg [.int .i64 l.1, .sl 2 (moA l.2)], .int .i64 n] st0 = some (.bool true, st0) := by
  obtain ⟨k, ms⟩ := l
  simp only at k5 hg ⊢
  have w1 := fun o ro df => small31_eq a k0 o ro df
  have w2 := fun o ro df => small31_eq b k1 o ro df
  have al := fun o ro df => goes_any o ro df
  have x1 := cu_take a
  have x2 := cu_can a
  have x3 := culen a
  have x4 := cu_one a
  have y1 := cu_take b
  have y2 := cu_can b
  have y3 := culen b
  have y4 := cu_one b
  have m2 := k2.2
  have m3 := k3.2
  have m5 := k5.2.2
  unfold mxB at m2 m3 m5
  have r1 : IntKind.i64.wrap ((fs.length : Int) + (bs.length : Int)) = (fs.length : Int) + (bs.length : Int) := wrap_id (by omega) (by omega)
  have r2 : IntKind.i64.wrap ((fs.length : Int) + (bs.length : Int) + (ms.length : Int)) = (fs.length : Int) + (bs.length : Int) + (ms.length : Int) := wrap_id (by omega) (by omega)
  have hF := intA_len fs
  have hB := intA_len bs
  have hM := moA_len ms
  by_cases g1 : cw a 400 ≤ 400
  rotate_left
  · simp only [Cu.av] at w1 w2
    apply call_by (by exact rfl : T 8 = some _) (by simp)
    intro fr hfr hsl
    have s0 := hsl 0 _ rfl
    have s1 := hsl 1 _ rfl
    have s2 := hsl 2 _ rfl
    have s3 := hsl 3 _ rfl
    have s5 := hsl 5 _ rfl
    simp only [Cu.av] at s0 s1
    simp -implicitDefEqProofs [hfr, s0, s1, s2, s3, s5, st0, w1, al, g1, x1, x2, x3, x4, y1, y2, y3, y4, -getElem?_pos, List.getElem?_cons_zero, List.getElem?_cons_succ]
  by_cases g2 : cw b 400 ≤ 400
  rotate_left
  · simp only [Cu.av] at w1 w2
    apply call_by (by exact rfl : T 8 = some _) (by simp)
    intro fr hfr hsl
    have s0 := hsl 0 _ rfl
    have s1 := hsl 1 _ rfl
    have s2 := hsl 2 _ rfl
    have s3 := hsl 3 _ rfl
    have s5 := hsl 5 _ rfl
    simp only [Cu.av] at s0 s1
    simp -implicitDefEqProofs [hfr, s0, s1, s2, s3, s5, st0, w1, w2, al, g1, g2, x1, x2, x3, x4, y1, y2, y3, y4, -getElem?_pos, List.getElem?_cons_zero, List.getElem?_cons_succ]
  by_cases g3 : (400 : Int) < (fs.length : Int) + (bs.length : Int) + (ms.length : Int)
  · simp only [Cu.av] at w1 w2
    apply call_by (by exact rfl : T 8 = some _) (by simp)
    intro fr hfr hsl
    have s0 := hsl 0 _ rfl
    have s1 := hsl 1 _ rfl
    have s2 := hsl 2 _ rfl
    have s3 := hsl 3 _ rfl
    have s5 := hsl 5 _ rfl
    simp only [Cu.av] at s0 s1
    simp -implicitDefEqProofs [hfr, s0, s1, s2, s3, s5, st0, w1, w2, al, g1, g2, g3, r1, r2, hF, hB, hM, x1, x2, x3, x4, y1, y2, y3, y4, -getElem?_pos, List.getElem?_cons_zero, List.getElem?_cons_succ]
  exact absurd ⟨g1, g2, g3⟩ hg

set_option maxHeartbeats 1000000 in
theorem law_builds31_in (a b : Cu) (fs bs : List Int) (dv : Int) (l : Int × List (Int × Int)) (n : Int) (k0 : a.ok) (k1 : b.ok) (k2 : inL fs) (k3 : inL bs) (k4 : inI dv) (k5 : inI l.1 ∧ moL l.2) (k6 : inI n) (g1 : cw a 400 ≤ 400) (g2 : cw b 400 ≤ 400) (g3 : ¬ (400 : Int) < (fs.length : Int) + (bs.length : Int) + (l.2.length : Int)) :
    (D T).call 8 [a.av, b.av, .sl 1 (intA fs), .sl 1 (intA bs), .int .i64 dv, .agg [.int .i64 l.1, .sl 2 (moA l.2)], .int .i64 n] st0 = some (.bool true, st0) := by
  obtain ⟨k, ms⟩ := l
  simp only at k5 g3 ⊢
  have w1 := fun o ro df => small31_eq a k0 o ro df
  have w2 := fun o ro df => small31_eq b k1 o ro df
  have al := fun o ro df => goes_any o ro df
  have x1 := cu_take a
  have x2 := cu_can a
  have x3 := culen a
  have x4 := cu_one a
  have y1 := cu_take b
  have y2 := cu_can b
  have y3 := culen b
  have y4 := cu_one b
  have m2 := k2.2
  have m3 := k3.2
  have m5 := k5.2.2
  unfold mxB at m2 m3 m5
  have r1 : IntKind.i64.wrap ((fs.length : Int) + (bs.length : Int)) = (fs.length : Int) + (bs.length : Int) := wrap_id (by omega) (by omega)
  have r2 : IntKind.i64.wrap ((fs.length : Int) + (bs.length : Int) + (ms.length : Int)) = (fs.length : Int) + (bs.length : Int) + (ms.length : Int) := wrap_id (by omega) (by omega)
  have hF := intA_len fs
  have hB := intA_len bs
  have hM := moA_len ms
  -- what is put together, and that it is right
  have za : cw a 400 ≤ 400 := g1
  have zs := cw_sm a 400 (by omega) g1
  have zt := cw_sm b 400 (by omega) g2
  have ca := cw_csz a 400 g1
  have cb := cw_csz b 400 g2
  have da := cdp_csz a
  have db := cdp_csz b
  have fa := cw_cfr a 400 g1
  have fb := cw_cfr b 400 g2
  have i0 : inI 0 := ⟨by omega, by omega⟩
  have i1 : inI 1 := ⟨by omega, by omega⟩
  have i2 : inI 2 := ⟨by omega, by omega⟩
  have i3 : inI 3 := ⟨by omega, by omega⟩
  have oS : (Cu.mk 2 fs bs dv 0 [] [a]).ok := by
    simp only [Cu.ok]
    exact ⟨i2, k2, k3, k4, i0, ⟨by simp, by simp⟩, by simp [mxB], by simp only [okCu]; exact ⟨k0, trivial⟩⟩
  have oP : (Cu.mk 3 [] [] 0 k ms [a, b]).ok := by
    simp only [Cu.ok]
    exact ⟨i3, ⟨by simp, by simp⟩, ⟨by simp, by simp⟩, i0, k5.1, k5.2, by simp [mxB], by simp only [okCu]; exact ⟨k0, k1, trivial⟩⟩
  have oE : (Cu.mk 1 [n] [] 0 0 [] []).ok := by
    simp only [Cu.ok]
    exact ⟨i1, ⟨by simpa using k6, by simp [mxB]⟩, ⟨by simp, by simp⟩, i0, i0, ⟨by simp, by simp⟩, by simp, by simp [okCu]⟩
  have mS : (Cu.mk 2 fs bs dv 0 [] [a]).sm := by
    simp only [Cu.sm]
    exact ⟨by omega, by omega, by simp, by simp, by simp only [smCu]; exact ⟨zs, trivial⟩⟩
  have dP : cdp (Cu.mk 3 [] [] 0 k ms [a, b]) ≤ 1000000 := by
    have := cdp_csz (Cu.mk 3 [] [] 0 k ms [a, b])
    have e : csz (Cu.mk 3 [] [] 0 k ms [a, b]) = 1 + (csz a + (csz b + 0)) := rfl
    omega
  have fP : cfr (Cu.mk 3 [] [] 0 k ms [a, b]) ≤ 4294967296 := by
    have e : cfr (Cu.mk 3 [] [] 0 k ms [a, b]) = 0 + (cfr a + (cfr b + 0)) := rfl
    omega
  obtain ⟨M, hM5⟩ : ∃ M, M = if (500 : Int) < n then 500 else n := ⟨_, rfl⟩
  have hM6 : M ≤ 500 := by rw [hM5]; split <;> omega
  have cS : (Cu.mk 2 fs bs dv 0 [] [a]).cells = [.int .i64 2, .sl 1 (intA fs), .sl 1 (intA bs), .int .i64 dv, .int .i64 0, .sl 2 [], .sl 7 [a.cells]] := Cu.cells_mk ..
  have cP : (Cu.mk 3 [] [] 0 k ms [a, b]).cells = [.int .i64 3, .sl 1 [], .sl 1 [], .int .i64 0, .int .i64 k, .sl 2 (moA ms), .sl 7 [a.cells, b.cells]] := Cu.cells_mk ..
  have cE : (Cu.mk 1 [n] [] 0 0 [] []).cells = [.int .i64 1, .sl 1 [[.int .i64 n]], .sl 1 [], .int .i64 0, .int .i64 0, .sl 2 [], .sl 7 []] := Cu.cells_mk ..
  have hse := fun o ro df => csum_eq fs bs dv a (by omega) (by omega) o ro df
  have hpe := fun o ro df => csplit_eq k ms a b (by omega) o ro df
  have hee := fun o ro df => cend_eq n o ro df
  have qS : ∀ st, (D T).call 28 [.agg (Cu.mk 2 fs bs dv 0 [] [a]).cells, .agg [.int .i64 2, .sl 1 (intA fs), .sl 1 (intA bs), .int .i64 dv, .int .i64 0, .sl 2 [], .sl 7 [a.cells]]] st = some (.bool true, st) := fun st => by
    rw [← cS]; have := bcut_eq _ oS _ oS st; rw [cu_self] at this; exact this
  have qP : ∀ st, (D T).call 28 [.agg (Cu.mk 3 [] [] 0 k ms [a, b]).cells, .agg [.int .i64 3, .sl 1 [], .sl 1 [], .int .i64 0, .int .i64 k, .sl 2 (moA ms), .sl 7 [a.cells, b.cells]]] st = some (.bool true, st) := fun st => by
    rw [← cP]; have := bcut_eq _ oP _ oP st; rw [cu_self] at this; exact this
  have qE : ∀ st, (D T).call 28 [.agg (Cu.mk 1 [n] [] 0 0 [] []).cells, .agg [.int .i64 1, .sl 1 [[.int .i64 n]], .sl 1 [], .int .i64 0, .int .i64 0, .sl 2 [], .sl 7 []]] st = some (.bool true, st) := fun st => by
    rw [← cE]; have := bcut_eq _ oE _ oE st; rw [cu_self] at this; exact this
  have oU := upC_ok n dv _ oS
  have qU : ∀ st, (D T).call 28 [.agg (upC n dv (Cu.mk 2 fs bs dv 0 [] [a])).cells, .agg (upC n dv (Cu.mk 2 fs bs dv 0 [] [a])).cells] st = some (.bool true, st) := fun st => by
    have := bcut_eq _ oU _ oU st; rw [cu_self] at this; exact this
  have u1 := fun o ro df => cShift_eq n dv _ mS o ro df
  have u2 := fun o ro df => rShift31_eq n dv _ mS o ro df
  have v1 := fun o ro df => cUses_eq _ M oP dP fP o ro df
  have v2 := fun o ro df => rUses_eq _ M oP (by omega) o ro df
  rw [uses_law] at v1
  have hul := usR_len (Cu.mk 3 [] [] 0 k ms [a, b]) M.toNat
  have v3 := fun st => bints_eq (usR (Cu.mk 3 [] [] 0 k ms [a, b]) M.toNat) (usR (Cu.mk 3 [] [] 0 k ms [a, b]) M.toNat) (by unfold mxB; omega) st
  have lr : ∀ l : List Int, leq ieq l l = true := leq_refl (fun x => by simp [ieq])
  simp only [lr, beq_self_eq_true, Bool.and_self] at v3
  have z1 := cu_take (upC n dv (Cu.mk 2 fs bs dv 0 [] [a]))
  have z2 := cu_can (upC n dv (Cu.mk 2 fs bs dv 0 [] [a]))
  have z3 := culen (upC n dv (Cu.mk 2 fs bs dv 0 [] [a]))
  have a1 := cu_take (Cu.mk 2 fs bs dv 0 [] [a])
  have a5 := cu_one (Cu.mk 2 fs bs dv 0 [] [a])
  have a2 := cu_can (Cu.mk 2 fs bs dv 0 [] [a])
  have a3 := culen (Cu.mk 2 fs bs dv 0 [] [a])
  have a4 : ∀ cs : List AV, cs.length = 7 → setMany cs 0 (Cu.mk 2 fs bs dv 0 [] [a]).cells = (Cu.mk 2 fs bs dv 0 [] [a]).cells := fun cs h => set_all _ _ (by rw [h, culen])
  have b1 := cu_take (Cu.mk 3 [] [] 0 k ms [a, b])
  have b5 := cu_one (Cu.mk 3 [] [] 0 k ms [a, b])
  have b2 := cu_can (Cu.mk 3 [] [] 0 k ms [a, b])
  have b3 := culen (Cu.mk 3 [] [] 0 k ms [a, b])
  have b4 : ∀ cs : List AV, cs.length = 7 → setMany cs 0 (Cu.mk 3 [] [] 0 k ms [a, b]).cells = (Cu.mk 3 [] [] 0 k ms [a, b]).cells := fun cs h => set_all _ _ (by rw [h, culen])
  have c1 := cu_take (Cu.mk 1 [n] [] 0 0 [] [])
  have c5 := cu_one (Cu.mk 1 [n] [] 0 0 [] [])
  have c2 := cu_can (Cu.mk 1 [n] [] 0 0 [] [])
  have c3 := culen (Cu.mk 1 [n] [] 0 0 [] [])
  have c4 : ∀ cs : List AV, cs.length = 7 → setMany cs 0 (Cu.mk 1 [n] [] 0 0 [] []).cells = (Cu.mk 1 [n] [] 0 0 [] []).cells := fun cs h => set_all _ _ (by rw [h, culen])
  simp only [Cu.av] at w1 w2 hse hpe hee v1 v2 ⊢
  clear oU oS oP oE mS dP fP cS cP cE hul lr
  generalize (upC n dv (Cu.mk 2 fs bs dv 0 [] [a])).cells = U at *
  generalize usR (Cu.mk 3 [] [] 0 k ms [a, b]) M.toNat = V at *
  generalize (Cu.mk 2 fs bs dv 0 [] [a]).cells = S1 at *
  generalize (Cu.mk 3 [] [] 0 k ms [a, b]).cells = P1 at *
  generalize (Cu.mk 1 [n] [] 0 0 [] []).cells = E1 at *
  have fF := intA_flat fs
  have fB := intA_flat bs
  have fM := moA_flat ms
  generalize intA V = W at *
  generalize intA fs = F at *
  generalize intA bs = B at *
  generalize moA ms = Mo at *
  generalize a.cells = A1 at *
  generalize b.cells = B1 at *
  apply call_by (by exact rfl : T 8 = some _) (by simp)
  intro fr hfr hsl
  have s0 := hsl 0 _ rfl
  have s1 := hsl 1 _ rfl
  have s2 := hsl 2 _ rfl
  have s3 := hsl 3 _ rfl
  have s4 := hsl 4 _ rfl
  have s5 := hsl 5 _ rfl
  have s6 := hsl 6 _ rfl
  simp -implicitDefEqProofs [hfr, s0, s1, s2, s3, s4, s5, s6, st0, w1, w2, al, g1, g2, g3, r1, r2, hF, hB, hM, hse, hpe, hee, qS, qP, qE, qU, u1, u2, ← hM5, v1, v2, v3, z1, z2, z3, a1, a2, a3, a4, a5, b1, b2, b3, b4, b5, c1, c2, c3, c4, c5, x1, x2, x3, x4, y1, y2, y3, y4, -getElem?_pos, List.getElem?_cons_zero, List.getElem?_cons_succ]

theorem law_builds31 (a b : Cu) (fs bs : List Int) (dv : Int) (l : Int × List (Int × Int)) (n : Int) (k0 : a.ok) (k1 : b.ok) (k2 : inL fs) (k3 : inL bs) (k4 : inI dv) (k5 : inI l.1 ∧ moL l.2) (k6 : inI n) :
    (D T).call 8 [a.av, b.av, .sl 1 (intA fs), .sl 1 (intA bs), .int .i64 dv, .agg [.int .i64 l.1, .sl 2 (moA l.2)], .int .i64 n] st0 = some (.bool true, st0) := by
  by_cases g1 : cw a 400 ≤ 400
  · by_cases g2 : cw b 400 ≤ 400
    · by_cases g3 : (400 : Int) < (fs.length : Int) + (bs.length : Int) + (l.2.length : Int)
      · exact law_builds31_out a b fs bs dv l n k0 k1 k2 k3 k4 k5 k6 fun h => h.2.2 g3
      · exact law_builds31_in a b fs bs dv l n k0 k1 k2 k3 k4 k5 k6 g1 g2 g3
    · exact law_builds31_out a b fs bs dv l n k0 k1 k2 k3 k4 k5 k6 fun h => g2 h.2.1
  · exact law_builds31_out a b fs bs dv l n k0 k1 k2 k3 k4 k5 k6 fun h => g1 h.1

end Go.Proofs.Ytgabnhmjlhhojaa.A
