/- Claims: the names of variables: the document's, and that they are the program's. -/
import Derived.Test.YtjmhkbnhfpgciaaE9
import Derived.Test.YtjmhkbnhfpgciaaPT
namespace Go.Proofs.Ytjmhkbnhfpgciaa.A
open Go
set_option maxRecDepth 10000
set_option linter.unusedSimpArgs false
attribute [-simp] List.all_eq_true put slot_def ld idxA lenOf elems canA app hand

theorem names8_eq : ∀ (c : Cl), c.ok → ∀ (v : AV) (l : List ByteArray) (st : St), Sv v l → l.length + (allL (partTs c)).length ≤ 4294967295 →
    (D T).call 47 [v, c.av] st = some (.sl 1 (strA ((varsOf (allL (partTs c))).foldl putF l)), st)
  | .mk a s u ts cs, hok, v, l, ⟨o, ro, df⟩, hv, hl => by
    simp only [Cl.ok] at hok
    have hcs := okC_iff.1 hok.2.2.2.2.2.2
    have hts := okL_iff.1 hok.2.2.2.2.1
    have hm1 : ts.length ≤ 9223372036854775807 := Nat.le_trans hok.2.2.2.1 (by decide)
    have hm2 : cs.length ≤ 9223372036854775807 := Nat.le_trans hok.2.2.2.2.2.1 (by decide)
    have ih := fun t (ht : t ∈ cs) => names8_eq t (hcs t ht)
    have allL_app : ∀ (l k : List Tm), allL (l ++ k) = allL l ++ allL k := by
      intro l k
      induction l with
      | nil => rfl
      | cons t l ih => simp [allL, ih]
    simp only [partTs, allL_app, List.length_append] at hl
    simp only [partTs, allL_app, varsOf, List.flatMap_append, List.foldl_append]
    obtain ⟨st1, hst1⟩ : ∃ st1 : St, st1 = ⟨o ++ [Obj.arr 25 5 [[.int .i64 a, .str s, .str u, .sl 4 (ts.map Tm.cells), .sl 5 (cs.map Cl.cells)]]], o.length, []⟩ := ⟨_, rfl⟩
    have lp0 : ∀ (fr : List AV) (Q : AE → List AV → St → Prop), fr.length = 36 → slot fr 0 = v → slot fr 3 = .ptr o.length 0 0 → slot fr 5 = .int .i64 0 →
        (∀ (fr' : List AV) v1, fr'.length = 36 → slot fr' 0 = v1 → slot fr' 3 = .ptr o.length 0 0 → Sv v1 ((varsOf (allL ts)).foldl putF l) → Q (.exit 0) fr' st1) →
        ∃ e fr' st', (D T).loop false L47_0 fr st1 = some (e, fr', st') ∧ Q e fr' st' := by
      intro fr Q hfr q0 q3 q5 k
      apply loop_inv L47_0.eq_1 List.length (fun (rest : List Tm) fr st => ∃ pre v2 l2, ts = pre ++ rest ∧ fr.length = 36 ∧ slot fr 0 = v2 ∧ slot fr 3 = .ptr o.length 0 0 ∧ slot fr 5 = .int .i64 (pre.length : Int) ∧ st = st1 ∧
        Sv v2 l2 ∧ (varsOf (allL ts)).foldl putF l = (varsOf (allL rest)).foldl putF l2 ∧ l2.length + (allL rest).length + (allL (partTsL cs)).length ≤ 4294967295) ?_ ts ⟨[], v, l, rfl, hfr, q0, q3, q5, rfl, hv, rfl, by omega⟩
      clear q0 q3 q5 hfr
      rintro rest fr _ ⟨pre, v1, l1, e, hfr, q0, q3, q5, rfl, hv1, hp, hl1⟩
      have hcan := hv1.can
      cases rest with
      | nil =>
        have hlt := idx_end e
        simp only [allL, varsOf, List.flatMap_nil, List.foldl_nil] at hp
        subst hst1
        simp -implicitDefEqProofs [hfr, q0, q3, q5, hlt, get_base0, -getElem?_pos, List.getElem?_cons_zero]
        exact k _ v1 (by simp [hfr]) (by simp [hfr, q0]) (by simp [hfr, q3]) (by simp only [varsOf]; rw [hp]; exact hv1)
      | cons x rest =>
        obtain ⟨hlt, hg, _⟩ := idx_at e
        have hw := idx_next e hm1
        simp only [allL, varsOf, List.flatMap_append, List.foldl_append, List.length_append] at hp hl1
        have hcall := fun st => termNames_eq x (hts x (by simp [e])) v1 l1 st hv1 (by omega)
        simp only [Tm.av] at hcall
        subst hst1
        simp -implicitDefEqProofs [hfr, q0, q3, q5, hlt, hg, hw, hcan, hcall, get_base0, -getElem?_pos, List.getElem?_cons_zero]
        refine ⟨rest, by simp, pre ++ [x], by simp [e], by simp, _, sv_sl _, by simpa [varsOf] using hp, ?_⟩
        have h1 := putF_len (varsOf x.all) l1
        have h2 := varsOf_len x.all
        omega
    have lp1 : ∀ (fr : List AV) (v1 : AV) (Q : AE → List AV → St → Prop), fr.length = 36 → slot fr 0 = v1 → slot fr 3 = .ptr o.length 0 0 → slot fr 6 = .int .i64 0 → Sv v1 ((varsOf (allL ts)).foldl putF l) →
        (∀ (fr' : List AV) v2, fr'.length = 36 → slot fr' 0 = v2 → Sv v2 ((varsOf (allL (partTsL cs))).foldl putF ((varsOf (allL ts)).foldl putF l)) → Q (.exit 2) fr' st1) →
        ∃ e fr' st', (D T).loop false L47_1 fr st1 = some (e, fr', st') ∧ Q e fr' st' := by
      intro fr v1 Q hfr q0 q3 q6 hv k
      have hb1 := putF_len (varsOf (allL ts)) l
      have hb2 := varsOf_len (allL ts)
      apply loop_inv L47_1.eq_1 List.length (fun (rest : List Cl) fr st => ∃ pre v2 l2, cs = pre ++ rest ∧ fr.length = 36 ∧ slot fr 0 = v2 ∧ slot fr 3 = .ptr o.length 0 0 ∧ slot fr 6 = .int .i64 (pre.length : Int) ∧ st = st1 ∧
        Sv v2 l2 ∧ (varsOf (allL (partTsL cs))).foldl putF ((varsOf (allL ts)).foldl putF l) = (varsOf (allL (partTsL rest))).foldl putF l2 ∧ l2.length + (allL (partTsL rest)).length ≤ 4294967295) ?_ cs ⟨[], v1, _, rfl, hfr, q0, q3, q6, rfl, hv, rfl, by omega⟩
      clear q0 q3 q6 hfr hv hb1 hb2
      rintro rest fr _ ⟨pre, v1, l1, e, hfr, q0, q3, q6, rfl, hv1, hp, hl1⟩
      have hcan := hv1.can
      cases rest with
      | nil =>
        have hlt := idx_end e
        simp only [partTsL, allL, varsOf, List.flatMap_nil, List.foldl_nil] at hp
        subst hst1
        simp -implicitDefEqProofs [hfr, q0, q3, q6, hlt, get_base0, -getElem?_pos, List.getElem?_cons_zero]
        exact k _ v1 (by simp [hfr]) (by simp [hfr, q0]) (by simp only [varsOf]; rw [hp]; exact hv1)
      | cons x rest =>
        obtain ⟨hlt, hg, _⟩ := idx_at e
        have hw := idx_next e hm2
        simp only [partTsL, allL_app, varsOf, List.flatMap_append, List.foldl_append, List.length_append] at hp hl1
        have hcall := fun st => ih x (by simp [e]) v1 l1 st hv1 (by omega)
        simp only [Cl.av] at hcall
        subst hst1
        simp -implicitDefEqProofs [hfr, q0, q3, q6, hlt, hg, hw, hcan, hcall, get_base0, -getElem?_pos, List.getElem?_cons_zero]
        refine ⟨rest, by simp, pre ++ [x], by simp [e], by simp, _, sv_sl _, by simpa [varsOf] using hp, ?_⟩
        have h1 := putF_len (varsOf (allL (partTs x))) l1
        have h2 := varsOf_len (allL (partTs x))
        omega
    apply call_by (by exact rfl : T 47 = some _) (by simp)
    intro fr hfr hsl
    have s0 := hsl 0 _ rfl
    have s1 := hsl 1 _ rfl
    simp only [Cl.av, Cl.cells_mk] at s1
    simp -implicitDefEqProofs [hfr, s0, s1]
    rw [← hst1]
    apply lp0 _ _ (by simp [hfr]) (by simp [hfr, s0]) (by simp [hfr]) (by simp [hfr])
    intro fr' v1 g g0 g3 hs
    simp -implicitDefEqProofs [g, g0, g3]
    apply lp1 _ v1 _ (by simp [g]) (by simp [g, g0]) (by simp [g, g3]) (by simp [g]) hs
    intro fr' v2 g g0 hs
    have hh := hs.hand
    subst hst1
    simp -implicitDefEqProofs [g, g0, hh]
    simp [varsOf]
termination_by c => SizeOf.sizeOf c
decreasing_by
  have := List.sizeOf_lt_of_mem ht
  simp
  omega

theorem rNames8_eq (l : List Cl) (hl : ∀ t ∈ l, t.ok) (hlen : l.length ≤ 4294967296) (hn : (allL (partTsL l)).length ≤ 4294967295) (o0 : List Obj) (ro : Nat) (df : List Nat) :
    (D T).call 19 [.sl 5 (l.map Cl.cells)] ⟨o0, ro, df⟩ = some (.sl 1 (strA ((varsOf (allL (partTsL l))).foldl putF [])), ⟨o0, ro, df⟩) := by
  have hmx : l.length ≤ 9223372036854775807 := by omega
  have allL_app : ∀ (l k : List Tm), allL (l ++ k) = allL l ++ allL k := by
    intro l k
    induction l with
    | nil => rfl
    | cons t l ih => simp [allL, ih]
  apply call_by (by exact rfl : T 19 = some _) (by simp)
  intro fr hfr hsl
  have s0 := hsl 0 _ rfl
  simp -implicitDefEqProofs [hfr, s0]
  apply loop_inv L19_0.eq_1 List.length (fun (rest : List Cl) fr st => ∃ pre v out, l = pre ++ rest ∧ fr.length = 18 ∧ slot fr 0 = .sl 5 (l.map Cl.cells) ∧ slot fr 3 = v ∧ slot fr 4 = .int .i64 (pre.length : Int) ∧ st = ⟨o0, o0.length, []⟩ ∧
    Sv v out ∧ (varsOf (allL (partTsL l))).foldl putF [] = (varsOf (allL (partTsL rest))).foldl putF out ∧ out.length + (allL (partTsL rest)).length ≤ 4294967295) ?_ l
    ⟨[], .fsl 1 [], [], rfl, by simp [hfr], by simp [hfr, s0], by simp [hfr], by simp [hfr], rfl, .inr ⟨rfl, rfl⟩, rfl, by simpa using hn⟩
  rintro rest fr _ ⟨pre, v, out, e, hfr, q0, q3, q4, rfl, hv, hp, hl1⟩
  have hcan := hv.can
  cases rest with
  | nil =>
    have hlt := idx_end e
    have hh := hv.hand
    simp only [partTsL, allL, varsOf, List.flatMap_nil, List.foldl_nil] at hp
    simp -implicitDefEqProofs [hfr, q0, q3, q4, hlt, hh]
    simp only [varsOf]; rw [hp]
  | cons x rest =>
    obtain ⟨hlt, hg, _⟩ := idx_at e
    have hw := idx_next e hmx
    simp only [partTsL, allL_app, varsOf, List.flatMap_append, List.foldl_append, List.length_append] at hp hl1
    have hcall := fun st => names8_eq x (hl x (by simp [e])) v out st hv (by omega)
    simp only [Cl.av] at hcall
    simp -implicitDefEqProofs [hfr, q0, q3, q4, hlt, hg, hw, hcan, hcall]
    refine ⟨rest, by simp, pre ++ [x], by simp [e], by simp, _, sv_sl _, by simpa [varsOf] using hp, ?_⟩
    have h1 := putF_len (varsOf (allL (partTs x))) out
    have h2 := varsOf_len (allL (partTs x))
    omega


theorem putX_mem (s : ByteArray) : ∀ (l : List ByteArray) (x : ByteArray), x ∈ putX s l ↔ x = s ∨ x ∈ l
  | [], x => by simp [putX]
  | y :: l, x => by
    have ih := putX_mem s l x
    simp only [putX]
    cases bytesLt y s with
    | true =>
      simp only [cond_true, List.mem_cons, ih]
      constructor
      · rintro (h | h | h)
        · exact .inr (.inl h)
        · exact .inl h
        · exact .inr (.inr h)
      · rintro (h | h | h)
        · exact .inr (.inl h)
        · exact .inl h
        · exact .inr (.inr h)
    | false =>
      cases h : bytesEq y s with
      | true =>
        obtain rfl := beq_eq.1 h
        simp
      | false => simp

end Go.Proofs.Ytjmhkbnhfpgciaa.A
