/- Cuts: small ones; End, Sum and Split of the program. -/
import Derived.Test.YtgabnhmjlhhojaaZ6
namespace Go.Proofs.Ytgabnhmjlhhojaa.A
open Go
set_option maxRecDepth 10000
set_option linter.unusedSimpArgs false
set_option linter.unusedVariables false
attribute [-simp] List.all_eq_true put slot_def ld idxA lenOf elems canA app hand

theorem exClone_sl {ty sz bytes : Nat} (es : List (List AV)) (hf : AV.flatLL es = true) (hr : room es.length bytes = true) (st : St) : exClone ty sz bytes false [.sl sz es] st = some (.sl sz es, st) := by
  cases es with
  | nil => rfl
  | cons e l =>
    simp only [List.length_cons] at hr
    simp only [exClone, elems, hf, hr, and_self, if_true, cond_false]

theorem cloneI_eq (l : List Int) (hl : l.length ≤ 1000000) (st : St) : (D T).call 41 [.sl 1 (intA l)] st = some (.sl 1 (intA l), st) := by
  rw [D_ext _ _ (by rfl)]
  exact exClone_sl _ (intA_flat l) (by simp [room, intA_len]; omega) st
theorem cloneJ_eq (l : List Int) (hl : l.length ≤ 1000000) (st : St) : (D T).call 42 [.sl 1 (intA l)] st = some (.sl 1 (intA l), st) := by
  rw [D_ext _ _ (by rfl)]
  exact exClone_sl _ (intA_flat l) (by simp [room, intA_len]; omega) st
theorem cloneM_eq (l : List (Int × Int)) (hl : l.length ≤ 1000000) (st : St) : (D T).call 44 [.sl 2 (moA l)] st = some (.sl 2 (moA l), st) := by
  rw [D_ext _ _ (by rfl)]
  exact exClone_sl _ (moA_flat l) (by simp [room, moA_len]; omega) st

theorem small31_eq (c : Cu) (hok : c.ok) (o : List Obj) (ro : Nat) (df : List Nat) : (D T).call 17 [c.av] ⟨o, ro, df⟩ = some (.bool (decide (cw c 400 ≤ 400)), ⟨o, ro, df⟩) := by
  have f1 := fun st => weigh_eq c hok 400 st (by omega) (by omega)
  have x1 := cu_take c
  have x2 := cu_can c
  have x3 := culen c
  have x4 := cu_one c
  simp only [Cu.av] at f1
  apply call_by (by exact rfl : T 17 = some _) (by simp)
  intro fr hfr hsl
  have s0 := hsl 0 _ rfl
  simp only [Cu.av] at s0
  simp -implicitDefEqProofs [hfr, s0, f1, x1, x2, x3, x4, get_base0, -getElem?_pos, List.getElem?_cons_zero]

theorem cend_eq (n : Int) (o : List Obj) (ro : Nat) (df : List Nat) : (D T).call 22 [.int .i64 n] ⟨o, ro, df⟩ = some ((Cu.mk 1 [n] [] 0 0 [] []).av, ⟨o, ro, df⟩) := by
  apply call_by (by exact rfl : T 22 = some _) (by simp)
  intro fr hfr hsl
  have s0 := hsl 0 _ rfl
  simp -implicitDefEqProofs [hfr, s0, get_base0, set_base0, Cu.av, Cu.cells_mk, intA, moA, -getElem?_pos, List.getElem?_cons_zero]

theorem csum_eq (fs bs : List Int) (dv : Int) (c : Cu) (hf : fs.length ≤ 1000000) (hb : bs.length ≤ 1000000) (o : List Obj) (ro : Nat) (df : List Nat) :
    (D T).call 23 [.sl 1 (intA fs), .sl 1 (intA bs), .int .i64 dv, c.av] ⟨o, ro, df⟩ = some ((Cu.mk 2 fs bs dv 0 [] [c]).av, ⟨o, ro, df⟩) := by
  have c1 := fun st => cloneI_eq fs hf st
  have c2 := fun st => cloneJ_eq bs hb st
  have f1 := intA_flat fs
  have f2 := intA_flat bs
  have f3 := cuflat c
  have x1 := cu_take c
  have x2 := cu_can c
  have x3 := culen c
  have x4 := cu_one c
  apply call_by (by exact rfl : T 23 = some _) (by simp)
  intro fr hfr hsl
  have s0 := hsl 0 _ rfl
  have s1 := hsl 1 _ rfl
  have s2 := hsl 2 _ rfl
  have s3 := hsl 3 _ rfl
  simp only [Cu.av] at s3
  have em : moA [] = [] := rfl
  have g1 : AV.stillL [AV.sl 1 (intA fs)] = true := by simp [AV.stillL, AV.still, AV.flat, f1]
  have g2 : AV.stillL [AV.sl 1 (intA bs)] = true := by simp [AV.stillL, AV.still, AV.flat, f2]
  generalize hF : intA fs = F at *
  generalize hB : intA bs = B at *
  simp -implicitDefEqProofs [hfr, s0, s1, s2, s3, g1, g2, c1, c2, f1, f2, f3, x1, x2, x3, x4, get_base0, get_base, set_base0, set_base, Cu.av, Cu.cells_mk, em, hF, hB, -getElem?_pos, List.getElem?_cons_zero, List.getElem?_cons_succ]

theorem csplit_eq (k : Int) (ms : List (Int × Int)) (c d : Cu) (hm : ms.length ≤ 1000000) (o : List Obj) (ro : Nat) (df : List Nat) :
    (D T).call 27 [.agg [.int .i64 k, .sl 2 (moA ms)], c.av, d.av] ⟨o, ro, df⟩ = some ((Cu.mk 3 [] [] 0 k ms [c, d]).av, ⟨o, ro, df⟩) := by
  have c1 := fun st => cloneM_eq ms hm st
  have f1 := moA_flat ms
  have f3 := cuflat c
  have f4 := cuflat d
  have x1 := cu_take c
  have x2 := cu_can c
  have x3 := culen c
  have x4 := cu_one c
  have y1 := cu_take d
  have y2 := cu_can d
  have y3 := culen d
  have y4 := cu_one d
  apply call_by (by exact rfl : T 27 = some _) (by simp)
  intro fr hfr hsl
  have s0 := hsl 0 _ rfl
  have s1 := hsl 1 _ rfl
  have s2 := hsl 2 _ rfl
  simp only [Cu.av] at s1 s2
  have em : intA [] = [] := rfl
  have g1 : AV.stillL [AV.sl 2 (moA ms)] = true := by simp [AV.stillL, AV.still, AV.flat, f1]
  generalize hF : moA ms = F at *
  simp -implicitDefEqProofs [hfr, s0, s1, s2, g1, c1, f1, f3, f4, x1, x2, x3, x4, y1, y2, y3, y4, get_base0, get_base, set_base0, set_base, Cu.av, Cu.cells_mk, em, hF, -getElem?_pos, List.getElem?_cons_zero, List.getElem?_cons_succ]

mutual
/-- no list is long -/
def Cu.sm : Cu → Prop
  | .mk _ fr by' _ _ ms cs => fr.length ≤ 1000000 ∧ by'.length ≤ 1000000 ∧ ms.length ≤ 1000000 ∧ cs.length ≤ 1000000 ∧ smCu cs
def smCu : List Cu → Prop
  | [] => True
  | c :: l => c.sm ∧ smCu l
end
theorem smCu_iff : ∀ {l : List Cu}, smCu l ↔ ∀ t ∈ l, t.sm
  | [] => by simp [smCu]
  | t :: l => by simp [smCu, smCu_iff (l := l)]

mutual
theorem cw_pos : ∀ (c : Cu) (m : Int), 1 ≤ cw c m
  | .mk _ fr b _ _ ms cs, m => by
    have := cwL_ge cs m (1 + fr.length + b.length + ms.length)
    simp only [cw]; omega
theorem cwL_ge : ∀ (l : List Cu) (m n : Int), n ≤ cwL l m n
  | [], m, n => by simp [cwL]
  | c :: l, m, n => by
    simp only [cwL]
    split
    · have := cw_pos c (m - n)
      have := cwL_ge l m (n + cw c (m - n))
      omega
    · omega
end
mutual
theorem cw_sm : ∀ (c : Cu) (m : Int), m ≤ 1000000 → cw c m ≤ m → c.sm
  | .mk _ fr b _ _ ms cs, m, hm, h => by
    simp only [cw] at h
    have h1 := cwL_ge cs m (1 + fr.length + b.length + ms.length)
    have h2 := cwL_sm cs m _ (by omega) hm h
    simp only [Cu.sm]
    exact ⟨by omega, by omega, by omega, by omega, h2.1⟩
theorem cwL_sm : ∀ (l : List Cu) (m n : Int), 0 ≤ n → m ≤ 1000000 → cwL l m n ≤ m → smCu l ∧ n + l.length ≤ m
  | [], m, n, h0, hm, h => by simp [smCu]; simpa [cwL] using h
  | c :: l, m, n, h0, hm, h => by
    simp only [cwL] at h
    by_cases hn : n ≤ m
    · rw [if_pos hn] at h
      have h1 := cwL_ge l m (n + cw c (m - n))
      have h3 := cw_pos c (m - n)
      have h2 := cw_sm c (m - n) (by omega) (by omega)
      have h4 := cwL_sm l m _ (by omega) hm h
      simp only [smCu, List.length_cons]
      exact ⟨⟨h2, h4.1⟩, by omega⟩
    · rw [if_neg hn] at h
      omega
end

end Go.Proofs.Ytgabnhmjlhhojaa.A
