/- ClaimFlat: for any claims the law's function answers true, and its argument reads as before. No condition beyond the given statement's. -/
import Derived.Test.YtpenaaljaahanaaLawClaimGathers
import Derived.Test.YtpenaaljaahanaaE6F
namespace Go.Proofs.Ytpenaaljaahanaa.A
open Go
set_option maxRecDepth 10000
set_option linter.unusedSimpArgs false
attribute [-simp] List.all_eq_true put slot_def ld idxA lenOf elems canA app hand

def Cl.op : Cl → Int
  | .mk a _ _ _ _ => a

theorem flat_one (op : Int) (c : Cl) (h : c.op ≠ op) : flatC op c = [c] := by
  obtain ⟨a, s, u, ts, cs⟩ := c
  simp only [Cl.op] at h
  simp [flatC, h]

theorem flat_join (op none : Int) (hop : op = 7 ∨ op = 8) : ∀ l : List Cl, l ≠ [] → (∀ c ∈ l, c.op ≠ op) → flatC op (joinL op none l) = l
  | [], h, _ => (h rfl).elim
  | [c], _, h => by rw [joinL]; exact flat_one op c (h c (by simp))
  | c :: d :: l, _, h => by
    have ih := flat_join op none hop (d :: l) (by simp) fun x hx => h x (List.mem_cons_of_mem _ hx)
    have h1 := flat_one op c (h c (by simp))
    rw [joinL_cons op none c (by simp)]
    rcases hop with rfl | rfl
    · simp [flatC, flatCs, h1, ih]
    · simp [flatC, flatCs, h1, ih]

theorem atoms_join (op none : Int) (hop : op = 7 ∨ op = 8) : ∀ l : List Cl, l ≠ [] → atomsC (joinL op none l) = atomsL l
  | [], h => (h rfl).elim
  | [c], _ => by simp [joinL, atomsL]
  | c :: d :: l, _ => by
    have ih := atoms_join op none hop (d :: l) (by simp)
    rw [joinL_cons op none c (by simp)]
    rcases hop with rfl | rfl
    · simp [atomsC, atomsL, ih]
    · simp [atomsC, atomsL, ih]

theorem partTs_join (op none : Int) : ∀ l : List Cl, l ≠ [] → partTs (joinL op none l) = partTsL l
  | [], h => (h rfl).elim
  | [c], _ => by simp [joinL, partTsL]
  | c :: d :: l, _ => by
    have ih := partTs_join op none (d :: l) (by simp)
    rw [joinL_cons op none c (by simp)]
    simp [partTs, partTsL, ih]

theorem cnt_join (op none : Int) : ∀ l : List Cl, cnt (joinL op none l) ≤ cntL l + l.length + 1
  | [] => by simp [joinL, cnt, cntL]
  | [c] => by simp only [joinL, cntL, List.length_cons]; omega
  | c :: d :: l => by
    have ih := cnt_join op none (d :: l)
    rw [joinL_cons op none c (by simp)]
    simp only [cnt, cntL, List.length_cons] at *
    omega

mutual
theorem cl_self : ∀ c : Cl, clEq c c = true
  | .mk a s u ts cs => by simp [clEq, bytesEq_self, tsE_self ts, cls_self cs]
theorem cls_self : ∀ l : List Cl, clsEq l l = true
  | [] => by simp [clsEq]
  | c :: l => by simp [clsEq, cl_self c, cls_self l]
end

def hasOp (k : Int) (l : List Cl) : Bool := l.any fun c => c.op == k
theorem hasOp_app (k : Int) (l : List Cl) (c : Cl) : hasOp k (l ++ [c]) = (hasOp k l || c.op == k) := by simp [hasOp]

theorem law_cflat (l : List Cl) (hl : ∀ t ∈ l, t.ok) (hm : l.length ≤ maxLen) :
    (D T).call 7 [.sl 5 (l.map Cl.cells)] st0 = some (.bool true, st0) := by
  apply call_by (by exact rfl : T 7 = some _) (by simp)
  intro fr hfr hsl
  have s0 := hsl 0 _ rfl
  have al := alive_box [] (by simp)
  simp only [List.map_nil] at al
  by_cases kn : l = []
  · subst kn
    simp -implicitDefEqProofs [hfr, s0, st0, al]
  have hpos : 0 < l.length := List.length_pos_iff.2 kn
  have k1 : ¬ (l.length : Int) = 0 := by omega
  have k1b : ((l.length : Int) == 0) = false := by simpa using k1
  have k1n : ¬ l.length = 0 := by omega
  by_cases k0 : 20 < (l.length : Int)
  · simp -implicitDefEqProofs [hfr, s0, st0, k0, k1, k1b, k1n, kn, al]
  · have sf := fun o ro df => few_eq l hm hl 200 (by omega) (by omega) (by omega) o ro df
    cases kf : few l 200 with
    | false => simp -implicitDefEqProofs [hfr, s0, st0, k0, k1, k1b, k1n, kn, sf, kf, al]
    | true =>
      have hmx : l.length ≤ 9223372036854775807 := Nat.le_trans hm (by decide)
      have hn := few_sum (m := 200) (by simpa using kf)
      have hn2 : l.length * 200 ≤ 4000 := by omega
      have lp : ∀ (fr : List AV) (Q : AE → List AV → St → Prop), fr.length = 83 → slot fr 0 = .sl 5 (l.map Cl.cells) → slot fr 3 = .bool false → slot fr 4 = .bool false → slot fr 23 = .sl 5 (l.map Cl.cells) → slot fr 24 = .int .i64 (l.length : Int) → slot fr 25 = .int .i64 0 →
          (∀ (fr' : List AV), fr'.length = 83 → slot fr' 0 = .sl 5 (l.map Cl.cells) → slot fr' 3 = .bool (hasOp 7 l) → slot fr' 4 = .bool (hasOp 8 l) → Q (.exit 0) fr' ⟨(l.map Cl.cells).map fun c => Obj.arr 25 5 [c], 0, []⟩) →
          ∃ e fr' st', (D T).loop false L7_0 fr ⟨[], 0, []⟩ = some (e, fr', st') ∧ Q e fr' st' := by
        intro fr Q hfr q0 q3 q4 q23 q24 q25 k
        apply loop_inv L7_0.eq_1 List.length (fun (rest : List Cl) fr st => ∃ pre o', l = pre ++ rest ∧ fr.length = 83 ∧ slot fr 0 = .sl 5 (l.map Cl.cells) ∧ slot fr 3 = .bool (hasOp 7 pre) ∧ slot fr 4 = .bool (hasOp 8 pre) ∧ slot fr 23 = .sl 5 (l.map Cl.cells) ∧ slot fr 24 = .int .i64 (l.length : Int) ∧ slot fr 25 = .int .i64 (pre.length : Int) ∧
          st = ⟨o', 0, []⟩ ∧ o' = ((pre.map Cl.cells).map fun c => Obj.arr 25 5 [c])) ?_ l ⟨[], [], rfl, hfr, q0, q3, q4, q23, q24, q25, rfl, rfl⟩
        clear hfr q0 q3 q4 q23 q24 q25
        rintro rest fr _ ⟨pre, o', e, hfr, q0, q3, q4, q23, q24, q25, rfl, ho⟩
        cases rest with
        | nil =>
          have hlt := idx_end e
          simp -implicitDefEqProofs [hfr, q0, q23, q24, q25, hlt]
          have e' : l = pre := by simpa using e
          have k' := k (put fr (some 26) (.bool false)) (by simp [hfr]) (by simp [hfr, q0]) (by rw [e']; simp [hfr, q3]) (by rw [e']; simp [hfr, q4])
          rw [ho, ← e']; exact k'
        | cons c rest =>
          obtain ⟨hlt, hg, _⟩ := idx_at e
          have hw := idx_next e hmx
          obtain ⟨a, s, u, ts, cs⟩ := c
          have h7 := hasOp_app 7 pre (.mk a s u ts cs)
          have h8 := hasOp_app 8 pre (.mk a s u ts cs)
          simp only [Cl.op] at h7 h8
          cases hx : hasOp 7 pre <;> cases hy : hasOp 8 pre
          all_goals
            rw [hx] at q3 h7
            rw [hy] at q4 h8
            simp only [Bool.true_or, Bool.false_or] at h7 h8
            simp -implicitDefEqProofs [-Bool.exists_bool, hfr, q0, q3, q4, q23, q24, q25, hlt, hg, hw, Cl.cells_mk, setO_last, getO_last, -getElem?_pos, List.getElem?_cons_zero, -List.map_map]
            exact ⟨rest, by simp, pre ++ [.mk a s u ts cs], by simp [e], by rw [h7], by rw [h8], by simp, by rw [ho]; simp [Cl.cells_mk]⟩
      have hlen : l.length ≤ 4294967296 := by omega
      have hcl := atomsL_cnt l
      have j1 := fun o ro df => and_eq l hm o ro df
      have j2 := fun o ro df => or8_eq l hm o ro df
      have aok := joinL_ok 7 1 (by omega) (by omega) l hl
      have ook := joinL_ok 8 2 (by omega) (by omega) l hl
      have ac := cnt_join 7 1 l
      have oc := cnt_join 8 2 l
      have f1 := fun o ro df => cflat_eq 7 (joinL 7 1 l) aok (by omega) o ro df
      have f2 := fun o ro df => cflat_eq 8 (joinL 8 2 l) ook (by omega) o ro df
      have fl1 : (hasOp 7 l) = false → flatC 7 (joinL 7 1 l) = l := fun h => flat_join 7 1 (.inl rfl) l kn fun c hc e => by
        rw [hasOp, List.any_eq_false] at h
        exact h c hc (by simpa using e)
      have fl2 : hasOp 8 l = false → flatC 8 (joinL 8 2 l) = l := fun h => flat_join 8 2 (.inr rfl) l kn fun c hc e => by
        rw [hasOp, List.any_eq_false] at h
        exact h c hc (by simpa using e)
      have f3 := fun (o : List Obj) (ro : Nat) (df : List Nat) => clsv_eq l l (o := o) (ls_sl _) (ls_sl _) hm (fun t ht u hu st => clm_eq t (hl t ht) u (hl u hu) st) ro df
      simp only [cls_self, beq_self_eq_true, Bool.and_self] at f3
      have a1 := fun o ro df => catoms_eq l hl hlen (by omega) o ro df
      have a2 := fun o ro df => catomsf_eq [joinL 7 1 l] (by simpa using aok) (by simp) (by simp only [atomsL, List.append_nil]; rw [atoms_join 7 1 (.inl rfl) l kn]; omega) o ro df
      simp only [atomsL, List.append_nil] at a2
      rw [atoms_join 7 1 (.inl rfl) l kn] at a2
      obtain ⟨A, hA⟩ : ∃ A, A = (atomsL l).foldl addC [] := ⟨_, rfl⟩
      have hAok : ∀ t ∈ A, t.ok := fun t ht => by
        rw [hA] at ht
        rcases add_mem addC_or _ _ t ht with h | h
        · cases h
        · exact atomsL_ok l hl t h
      have hAl : A.length ≤ maxLen := by
        have := add_len addC_or (atomsL l) []
        rw [hA]
        simp only [maxLen]
        simp at this
        omega
      rw [← hA] at a1 a2
      have a3 := fun (o : List Obj) (ro : Nat) (df : List Nat) => clsv_eq A A (o := o) (ls_sl _) (ls_sl _) hAl (fun t ht u hu st => clm_eq t (hAok t ht) u (hAok u hu) st) ro df
      simp only [cls_self, beq_self_eq_true, Bool.and_self] at a3
      have n1 := fun o ro df => cnames_eq l hl (by rw [← partTsL_all]; exact fun t ht => partTsL_oks l hl t ht) (by rw [← partTsL_all]; omega) hlen o ro df _ (Lz.ls (ls_sl _))
      have n2 := fun o ro df => cnames_eq [joinL 8 2 l] (by simpa using ook) (by rw [← partTsL_all]; exact fun t ht => partTsL_oks _ (by simpa using ook) t ht) (by rw [← partTsL_all]; simp only [partTsL, List.append_nil]; rw [partTs_join 8 2 l kn]; omega) (by simp) o ro df _ (Lz.ls (ls_fsl _))
      rw [← partTsL_all] at n1 n2
      simp only [partTsL, List.append_nil] at n2
      rw [partTs_join 8 2 l kn] at n2
      obtain ⟨V, hV⟩ : ∃ V, V = rising (varsOf (allL (partTsL l))) := ⟨_, rfl⟩
      have hVl : V.length ≤ 4294967296 := by
        have h1 := putF_len (varsOf (allL (partTsL l))) []
        have h2 := varsOf_len (allL (partTsL l))
        rw [hV, rising_putF]
        simp at h1
        omega
      rw [← hV] at n1 n2
      have n3 := fun st => strings_eq V V hVl st
      rw [strsEq_refl] at n3
      have al2 := alive_box (l.map Cl.cells ++ [(joinL 7 1 l).cells, (joinL 8 2 l).cells]) (by simp; omega)
      rw [List.map_append] at al2
      obtain ⟨O, hO⟩ : ∃ O, O = (l.map Cl.cells).map fun c => Obj.arr 25 5 [c] := ⟨_, rfl⟩
      rw [← hO] at al2 lp
      simp only [List.map_cons, List.map_nil] at al2 a2 n2
      simp only [Cl.av] at j1 j2 f1 f2
      simp -implicitDefEqProofs [hfr, s0, st0, k0, k1, k1b, k1n, kn, sf, kf]
      apply lp _ _ (by simp [hfr]) (by simp [hfr, s0]) (by simp [hfr]) (by simp [hfr]) (by simp [hfr]) (by simp [hfr]) (by simp [hfr])
      intro fr' g g0 g3 g4
      cases h7 : hasOp 7 l with
      | true =>
        rw [h7] at g3
        cases h8 : hasOp 8 l with
        | true =>
          rw [h8] at g4
          simp -implicitDefEqProofs [g, g0, g3, g4, j1, j2, a1, a2, a3, n1, n2, n3, al2, get_base0, get_base, set_base0, set_base, -getElem?_pos, List.getElem?_cons_zero, List.getElem?_cons_succ]
        | false =>
          rw [h8] at g4
          rw [fl2 h8] at f2
          simp -implicitDefEqProofs [g, g0, g3, g4, j1, j2, f2, f3, a1, a2, a3, n1, n2, n3, al2, get_base0, get_base, set_base0, set_base, -getElem?_pos, List.getElem?_cons_zero, List.getElem?_cons_succ]
      | false =>
        rw [h7] at g3
        rw [fl1 h7] at f1
        cases h8 : hasOp 8 l with
        | true =>
          rw [h8] at g4
          simp -implicitDefEqProofs [g, g0, g3, g4, j1, j2, f1, f3, a1, a2, a3, n1, n2, n3, al2, get_base0, get_base, set_base0, set_base, -getElem?_pos, List.getElem?_cons_zero, List.getElem?_cons_succ]
        | false =>
          rw [h8] at g4
          rw [fl2 h8] at f2
          simp -implicitDefEqProofs [g, g0, g3, g4, j1, j2, f1, f2, f3, a1, a2, a3, n1, n2, n3, al2, get_base0, get_base, set_base0, set_base, -getElem?_pos, List.getElem?_cons_zero, List.getElem?_cons_succ]

end Go.Proofs.Ytpenaaljaahanaa.A
