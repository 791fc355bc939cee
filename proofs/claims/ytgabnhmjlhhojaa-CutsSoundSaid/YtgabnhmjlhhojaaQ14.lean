/- facts.check: the loop over the parts, and the whole. -/
import Derived.Test.YtgabnhmjlhhojaaQ13
import Derived.Test.YtgabnhmjlhhojaaZ5
namespace Go.Proofs.Ytgabnhmjlhhojaa.A
open Go
set_option maxRecDepth 10000
set_option linter.unusedSimpArgs false
set_option linter.unusedVariables false
attribute [-simp] List.all_eq_true put slot_def ld idxA lenOf elems canA app hand slc add64A

def askA (l : List Iq) : Cu → List Iq × Int
  | .mk kd fr b dv k ms _ => if kd = 2 then sumA l fr b dv else if kd = 3 then splitA l k ms else ([], endE l fr)
mutual
/-- the first error of a cut, by what is known, with its way -/
def ckC : Cu → List Iq → List Int → List Int × Int
  | .mk kd fr b dv k ms cs, l, w => if (askA l (.mk kd fr b dv k ms cs)).2 ≠ 0 then (w, (askA l (.mk kd fr b dv k ms cs)).2) else ckL cs l (askA l (.mk kd fr b dv k ms cs)).1 0 w
def ckL : List Cu → List Iq → List Iq → Nat → List Int → List Int × Int
  | [], _, _, _, _ => ([], 0)
  | c :: cs, l, more, i, w => if (ckC c (l ++ [more.getD i iz]) (w ++ [(i : Int)])).2 ≠ 0 then ckC c (l ++ [more.getD i iz]) (w ++ [(i : Int)]) else ckL cs l more (i + 1) w
end

theorem chk_l0 (cs : List Cu) (hcs : cs.length ≤ 1000000) (l more : List Iq) (hl : l.length ≤ 1000000) (hml : cs.length ≤ more.length) (v vw : AV) (w : List Int) (o o1 : List Obj) (hv : Fs o1 v (l.map iqA)) (n : Nat) (hon : o.length = n) (hwl : w.length ≤ 1000000)
    (ih : ∀ x ∈ cs, ∀ (i : Nat), i < more.length → ∀ (vw' : AV) (w' : List Int) (o' : List Obj) (ro : Nat) (df : List Nat), w'.length = w.length + 1 → Wy o' vw' w' →
      ∃ v', (D T).call 37 [.sl 3 ((l ++ [more.getD i iz]).map iqA), .agg x.cells, vw'] ⟨o', ro, df⟩ = some (.tup [v', .int .i64 (ckC x (l ++ [more.getD i iz]) w').2], ⟨o', ro, df⟩) ∧ Wr vw' w' v' (ckC x (l ++ [more.getD i iz]) w').1)
    (R : List Int × Int) (hR : R = ckL cs l more 0 w) (Q : AE → List AV → St → Prop) (fr : List AV) (hfr : fr.length = 70)
    (q0 : slot fr 0 = v) (q2 : slot fr 2 = vw) (q9 : slot fr 9 = .sl 3 (more.map iqA)) (q38 : slot fr 38 = .sl 7 (cs.map Cu.cells)) (q39 : slot fr 39 = .int .i64 (cs.length : Int)) (q40 : slot fr 40 = .int .i64 0)
    (hlo : n ≤ o1.length) (hw : Wy o1 vw w)
    (kk : ∀ (fr' : List AV) (o2 : List Obj), fr'.length = 70 → R = ([], 0) → Q (.exit 1) fr' ⟨o2, n, []⟩)
    (kr : ∀ (fr' : List AV) (o2 : List Obj) (v' : AV), fr'.length = 70 → slot fr' 6 = v' → slot fr' 7 = .int .i64 R.2 → hand1 n o2 v' = some (.sl 1 (intA R.1)) → Q .ret fr' ⟨o2, n, []⟩) :
    ∃ e fr' st', (D T).loop false L37_0 fr ⟨o1, n, []⟩ = some (e, fr', st') ∧ Q e fr' st' := by
  have mx : cs.length ≤ 9223372036854775807 := by omega
  have hcan := hw.can
  apply loop_inv L37_0.eq_1 List.length (fun (rest : List Cu) fr st => ∃ pre o2, cs = pre ++ rest ∧ fr.length = 70 ∧ slot fr 0 = v ∧ slot fr 2 = vw ∧ slot fr 9 = .sl 3 (more.map iqA) ∧ slot fr 38 = .sl 7 (cs.map Cu.cells) ∧ slot fr 39 = .int .i64 (cs.length : Int) ∧ slot fr 40 = .int .i64 (pre.length : Int) ∧
      st = ⟨o2, n, []⟩ ∧ n ≤ o2.length ∧ Wy o2 vw w ∧ Fs o2 v (l.map iqA) ∧ R = ckL rest l more pre.length w) ?_ cs
      ⟨[], o1, rfl, hfr, q0, q2, q9, q38, q39, q40, rfl, hlo, hw, hv, hR⟩
  clear hR hfr q0 q2 q9 q38 q39 q40 hlo hw hv
  clear fr
  rintro rest fr _ ⟨pre, o2, e, hfr, q0, q2, q9, q38, q39, q40, rfl, hlo, hv2, hvf, hn⟩
  cases rest with
  | nil =>
    have hlt := idx_end e
    simp only [ckL] at hn
    simp -implicitDefEqProofs [hfr, q0, q2, q9, q38, q39, q40, hlt]
    exact kk _ o2 (by simp [hfr]) hn
  | cons x rest =>
    obtain ⟨hlt, hg, hpl⟩ := idx_at e
    have hw := idx_next e mx
    have hx : x ∈ cs := by simp [e]
    have y1 := cu_take x
    have y2 := cu_can x
    have y3 := culen x
    have y4 := cu_one x
    have hpm : pre.length < more.length := by omega
    obtain ⟨Y, hY⟩ : ∃ Y, Y = Obj.arr 29 7 [x.cells] := ⟨_, rfl⟩
    obtain ⟨sv, a1, a2⟩ := hv2.more2 hwl Y (pre.length : Int) n
    have hlen2 := hv2.len
    obtain ⟨q, hq⟩ : ∃ q, more[pre.length]? = some q := ⟨more[pre.length]'hpm, by simp [hpm]⟩
    have hqg : more.getD pre.length iz = q := by rw [List.getD_eq_getElem?_getD, hq]; rfl
    have hq2 : (more.map iqA)[pre.length]? = some (iqA q) := by simp [hq]
    have hwi := with_eq' l hl q v (o2 ++ [Y]) (hvf.push _) n []
    obtain ⟨v', e3, hr⟩ := ih x hx pre.length hpm (.own (o2.length + 1) 0 (w.length + 1) false) (w ++ [(pre.length : Int)]) (o2 ++ [Y, .arr 3 1 (intA (w ++ [(pre.length : Int)]))]) n [] (by simp) (.inr ⟨o2.length + 1, by simp, by simp⟩)
    rw [hqg] at e3 hr
    simp only [ckL, hqg] at hn
    have gY2 : (o2 ++ [Y])[o2.length]? = some Y := by simp
    have gY3 : (o2 ++ [Y, .arr 3 1 (intA (w ++ [(pre.length : Int)]))])[o2.length]? = some Y := by simp
    have gI : (o2 ++ [Y, .arr 3 1 (intA (w ++ [(pre.length : Int)]))])[o2.length + 1]? = some (.arr 3 1 (intA (w ++ [(pre.length : Int)]))) := by simp
    have hv3 := hv2.push [Y, .arr 3 1 (intA (w ++ [(pre.length : Int)]))]
    have hcv : canA v = v := hvf.ls.can
    have hvf3 := hvf.push [Y, .arr 3 1 (intA (w ++ [(pre.length : Int)]))]
    have hQ : iqA q = [.int .i64 q.1.1, .sl 2 (moA q.1.2), .bool q.2] := rfl
    have hml2 : (more.map iqA).length = more.length := by simp
    have hinb : ((pre.length : Int) < (more.length : Int)) := by omega
    generalize ckC x (l ++ [q]) (w ++ [(pre.length : Int)]) = W at *
    generalize (l ++ [q]).map iqA = L2 at *
    rw [hQ] at hq2 hwi
    generalize moA q.1.2 = M2 at *
    generalize more.map iqA = MA at *
    have hli := intA_len (w ++ [(pre.length : Int)])
    simp only [List.length_append, List.length_cons, List.length_nil, Nat.zero_add] at hli
    have hfi := intA_flat (w ++ [(pre.length : Int)])
    have hII : Wr (.own (o2.length + 1) 0 (w.length + 1) false) (w ++ [(pre.length : Int)]) v' W.1 → ∀ Z, Z = o2 ++ [Y, .arr 3 1 (intA (w ++ [(pre.length : Int)]))] → hand1 n Z v' = some (.sl 1 (intA W.1)) := by
      rintro (rfl | ⟨rfl, h⟩) Z rfl
      · have hf := intA_flat W.1
        simp [hf]
      · rw [← h]
        have htk : (intA (w ++ [(pre.length : Int)])).take (w.length + 1) = intA (w ++ [(pre.length : Int)]) := List.take_of_length_le (by omega)
        simp [show ¬ o2.length + 1 < n by omega, gI, hfi, hli, htk]
    have hIZ := hII hr _ rfl
    generalize intA (w ++ [(pre.length : Int)]) = IW at *
    clear hII
    subst hY
    by_cases hz2 : W.2 = 0
    · rw [if_neg (by simpa using hz2)] at hn
      rw [hz2] at e3
      simp -implicitDefEqProofs [hfr, q0, q2, q9, q38, q39, q40, hlt, hg, hpl, hw, y1, y2, y3, y4, cset, hlo, hcan, hcv, hlen2, hpm, hq2, hml2, hinb, hwi, a1, a2, e3, gY2, gY3, setO_last, getO_last, List.getElem?_append_left, -List.getElem_map, -getElem?_pos, List.getElem?_cons_zero, List.getElem?_cons_succ]
      exact ⟨rest, by simp, pre ++ [x], by simp [e], by simp, by omega, hv3, hvf3, by simpa using hn⟩
    · rw [if_pos hz2] at hn
      have hzb : (W.2 != 0) = true := bne_iff_ne.2 hz2
      subst hn
      simp -implicitDefEqProofs [hfr, q0, q2, q9, q38, q39, q40, hlt, hg, hpl, hw, y1, y2, y3, y4, cset, hlo, hcan, hcv, hlen2, hpm, hq2, hml2, hinb, hwi, a1, a2, e3, gY2, gY3, hzb, setO_last, getO_last, List.getElem?_append_left, -List.getElem_map, -getElem?_pos, List.getElem?_cons_zero, List.getElem?_cons_succ]
      exact kr _ _ v' (by simp [hfr]) (by simp [hfr]) (by simp [hfr]) hIZ

end Go.Proofs.Ytgabnhmjlhhojaa.A
