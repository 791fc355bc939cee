/- ClaimGathers: for any claims the law's function answers true, and its argument reads as before. No condition beyond the given statement's. -/
import Derived.Test.YtpenaaljaahanaaE10
import Derived.Test.YtpenaaljaahanaaP8
import Derived.Test.YtpenaaljaahanaaStrs
import Derived.Test.YtpenaaljaahanaaG22
import Derived.Test.YtpenaaljaahanaaLawClaimBuilds
namespace Go.Proofs.Ytpenaaljaahanaa.A
open Go
set_option maxRecDepth 10000
set_option linter.unusedSimpArgs false
attribute [-simp] List.all_eq_true put slot_def ld idxA lenOf elems canA app hand

theorem law_cgathers (l : List Cl) (hl : ∀ t ∈ l, t.ok) (hm : l.length ≤ maxLen) :
    (D T).call 8 [.sl 5 (l.map Cl.cells)] st0 = some (.bool true, st0) := by
  apply call_by (by exact rfl : T 8 = some _) (by simp)
  intro fr hfr hsl
  have s0 := hsl 0 _ rfl
  have al := alive_box [] (by simp)
  simp only [List.map_nil] at al
  by_cases k0 : 20 < (l.length : Int)
  · simp -implicitDefEqProofs [hfr, s0, st0, k0, al]
  · have sf := fun o ro df => few_eq l hm hl 200 (by omega) (by omega) (by omega) o ro df
    cases kf : few l 200 with
    | false => simp -implicitDefEqProofs [hfr, s0, st0, k0, sf, kf, al]
    | true =>
      have hmx : l.length ≤ 9223372036854775807 := Nat.le_trans hm (by decide)
      have hn := few_sum (m := 200) (by simpa using kf)
      have hn2 : l.length * 200 ≤ 4000 := by omega
      have lp : ∀ (fr : List AV) (Q : AE → List AV → St → Prop), fr.length = 42 → slot fr 0 = .sl 5 (l.map Cl.cells) → slot fr 14 = .sl 5 (l.map Cl.cells) → slot fr 15 = .int .i64 (l.length : Int) → slot fr 16 = .int .i64 0 →
          (∀ (fr' : List AV), fr'.length = 42 → slot fr' 0 = .sl 5 (l.map Cl.cells) → Q (.exit 0) fr' ⟨(l.map Cl.cells).map fun c => Obj.arr 25 5 [c], 0, []⟩) →
          ∃ e fr' st', (D T).loop false L8_0 fr ⟨[], 0, []⟩ = some (e, fr', st') ∧ Q e fr' st' := by
        intro fr Q hfr q0 q14 q15 q16 k
        apply loop_inv L8_0.eq_1 List.length (fun (rest : List Cl) fr st => ∃ pre o', l = pre ++ rest ∧ fr.length = 42 ∧ slot fr 0 = .sl 5 (l.map Cl.cells) ∧ slot fr 14 = .sl 5 (l.map Cl.cells) ∧ slot fr 15 = .int .i64 (l.length : Int) ∧ slot fr 16 = .int .i64 (pre.length : Int) ∧
          st = ⟨o', 0, []⟩ ∧ o' = (pre.map Cl.cells).map fun c => Obj.arr 25 5 [c]) ?_ l ⟨[], [], rfl, hfr, q0, q14, q15, q16, rfl, rfl⟩
        clear hfr q0 q14 q15 q16
        rintro rest fr _ ⟨pre, o', e, hfr, q0, q14, q15, q16, rfl, ho⟩
        cases rest with
        | nil =>
          have hlt := idx_end e
          simp -implicitDefEqProofs [hfr, q0, q14, q15, q16, hlt]
          have k' := k (put fr (some 17) (.bool false)) (by simp [hfr]) (by simp [hfr, q0])
          have e' : l = pre := by simpa using e
          rw [ho, ← e']; exact k'
        | cons x rest =>
          obtain ⟨hlt, hg, _⟩ := idx_at e
          have hw := idx_next e hmx
          have hx := hl x (by simp [e])
          have hsz := few_all (m := 200) (by simpa using kf) (show x ∈ l by simp [e])
          have hle := le_allL (partTs x)
          have h1 := fun o ro df => cterms_eq x hx (by rw [← partTs_all]; omega) o ro df
          have h2 := fun o ro df => rTerms_eq x hx (by rw [← partTs_all]; omega) o ro df
          obtain ⟨W, hW⟩ : ∃ W, W = (allTs [x]).foldl addT [] := ⟨_, rfl⟩
          have hWok : ∀ t ∈ W, t.ok := fun t ht => by
            rw [hW, ← partTs_all] at ht
            rcases add_mem addT_or _ _ t ht with h | h
            · cases h
            · exact partTs_ok hx t h
          have hWl : W.length ≤ maxLen := by
            have := add_len addT_or (partTs x) []
            rw [hW, ← partTs_all]
            simp only [maxLen]
            simp at this
            omega
          rw [← hW] at h1 h2
          have h3 := fun st => ts_eq W W hWl (fun t ht u hu st => tm_eq t (hWok t ht) u (hWok u hu) st) st
          simp only [tsE_self, beq_self_eq_true, Bool.and_self] at h3
          simp only [Cl.av] at h1 h2
          simp -implicitDefEqProofs [hfr, q0, q14, q15, q16, hlt, hg, hw, h1, h2, h3, setO_last, getO_last, -getElem?_pos, List.getElem?_cons_zero, -List.map_map]
          exact ⟨rest, by simp, pre ++ [x], by simp [e], by simp, by rw [ho]; simp⟩
      have hlen : l.length ≤ 4294967296 := by omega
      have hcl := atomsL_cnt l
      have n1 := fun o ro df => cnames_eq l hl (by rw [← partTsL_all]; exact fun t ht => partTsL_oks l hl t ht) (by rw [← partTsL_all]; omega) hlen o ro df _ (Lz.ls (ls_sl _))
      have n2 := fun o ro df => rNames8_eq l hl hlen (by omega) o ro df
      rw [← partTsL_all, rising_putF] at n1
      obtain ⟨V, hV⟩ : ∃ V, V = (varsOf (allL (partTsL l))).foldl putF [] := ⟨_, rfl⟩
      have hVl : V.length ≤ 4294967296 := by
        have h1 := putF_len (varsOf (allL (partTsL l))) []
        have h2 := varsOf_len (allL (partTsL l))
        rw [hV]
        simp at h1
        omega
      rw [← hV] at n1 n2
      have n3 := fun st => strings_eq V V hVl st
      rw [strsEq_refl] at n3
      have a1 := fun o ro df => catoms_eq l hl hlen (by omega) o ro df
      have a2 := fun o ro df => rAtoms_eq l hl hlen (by omega) o ro df
      obtain ⟨A, hA⟩ : ∃ A, A = (atomsL l).foldl addC [] := ⟨_, rfl⟩
      have hAok : ∀ t ∈ A, t.ok := fun t ht => by
        rw [hA] at ht
        rcases add_mem addC_or _ _ t ht with h | h
        · cases h
        · exact atomsL_ok l hl t h
      have hAl : A.length ≤ maxLen := by
        have := add_len addC_or (atomsL l) []
        rw [hA]
        simp only [maxLen]
        simp at this
        omega
      rw [← hA] at a1 a2
      have a3 := fun (o : List Obj) (ro : Nat) (df : List Nat) => rexsv_eq A A (o := o) (ls_sl _) (ls_sl _) hAl (fun t ht u hu st => ex_eq t (hAok t ht) u (hAok u hu) st) ro df
      simp only [exs_self, beq_self_eq_true, Bool.and_self] at a3
      have al2 := alive_box (l.map Cl.cells) (by simp; omega)
      simp -implicitDefEqProofs [hfr, s0, st0, k0, sf, kf]
      apply lp _ _ (by simp [hfr]) (by simp [hfr, s0]) (by simp [hfr]) (by simp [hfr]) (by simp [hfr])
      intro fr' g g0
      simp -implicitDefEqProofs [g, g0, n1, n2, n3, a1, a2, a3, al2, -List.map_map]

end Go.Proofs.Ytpenaaljaahanaa.A
