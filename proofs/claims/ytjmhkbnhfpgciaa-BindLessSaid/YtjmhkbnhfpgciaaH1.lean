/- Small numbers, and whether a name is among names: the document's. -/
import Derived.Test.YtjmhkbnhfpgciaaB14
import Derived.Test.YtjmhkbnhfpgciaaN0
namespace Go.Proofs.Ytjmhkbnhfpgciaa.A
open Go
set_option maxRecDepth 10000
set_option linter.unusedSimpArgs false
attribute [-simp] List.all_eq_true put slot_def ld idxA lenOf elems canA app hand

mutual
def smT : Tm → Bool
  | .mk a _ b l => smTL l && (a != 2 || decide (b < 4611686018427387904))
def smTL : List Tm → Bool
  | [] => true
  | t :: l => smT t && smTL l
end
mutual
def smC : Cl → Bool
  | .mk _ _ _ ts cs => smTL ts && smCL cs
def smCL : List Cl → Bool
  | [] => true
  | c :: l => smC c && smCL l
end

theorem smallTerm_eq : ∀ (t : Tm), t.ok → ∀ (o : List Obj) (ro : Nat) (df : List Nat), (D T).call 45 [t.av] ⟨o, ro, df⟩ = some (.bool (smT t), ⟨o, ro, df⟩)
  | .mk a s b l, hok, o, ro, df => by
    simp only [Tm.ok] at hok
    have hl := okL_iff.1 hok.2.2.2.2
    have hmx : l.length ≤ 9223372036854775807 := Nat.le_trans hok.2.2.2.1 (by decide)
    have ih := fun t (ht : t ∈ l) o ro df => smallTerm_eq t (hl t ht) o ro df
    obtain ⟨st1, hst1⟩ : ∃ st1 : St, st1 = ⟨o ++ [Obj.arr 27 4 [[.int .i64 a, .str s, .int .i64 b, .sl 4 (l.map Tm.cells)]]], o.length, []⟩ := ⟨_, rfl⟩
    have lp : ∀ (fr : List AV) (Q : AE → List AV → St → Prop), fr.length = 26 → slot fr 1 = .ptr o.length 0 0 → slot fr 3 = .int .i64 0 →
        (∀ (fr' : List AV), fr'.length = 26 → slot fr' 1 = .ptr o.length 0 0 → smTL l = true → Q (.exit 0) fr' st1) →
        (∀ (fr' : List AV), fr'.length = 26 → slot fr' 2 = .bool false → smTL l = false → Q .ret fr' st1) →
        ∃ e fr' st', (D T).loop false L45_0 fr st1 = some (e, fr', st') ∧ Q e fr' st' := by
      intro fr Q hfr q1 q3 k1 k2
      apply loop_inv L45_0.eq_1 List.length (fun (rest : List Tm) fr st => ∃ pre, l = pre ++ rest ∧ fr.length = 26 ∧ slot fr 1 = .ptr o.length 0 0 ∧ slot fr 3 = .int .i64 (pre.length : Int) ∧ st = st1 ∧ smTL l = smTL rest) ?_ l ⟨[], rfl, hfr, q1, q3, rfl, rfl⟩
      clear hfr q1 q3
      rintro rest fr _ ⟨pre, e, hfr, q1, q3, rfl, hp⟩
      cases rest with
      | nil =>
        have hlt := idx_end e
        subst hst1
        simp -implicitDefEqProofs [hfr, q1, q3, hlt, get_base0, -getElem?_pos, List.getElem?_cons_zero]
        exact k1 _ (by simp [hfr]) (by simp [hfr, q1]) (by rw [hp]; rfl)
      | cons x rest =>
        obtain ⟨hlt, hg, _⟩ := idx_at e
        have hw := idx_next e hmx
        have hc := fun o ro df => ih x (by simp [e]) o ro df
        simp only [smTL] at hp
        simp only [Tm.av] at hc
        subst hst1
        cases h : smT x with
        | true =>
          simp only [h] at hc
          simp -implicitDefEqProofs [hfr, q1, q3, hlt, hg, hw, hc, get_base0, -getElem?_pos, List.getElem?_cons_zero]
          exact ⟨rest, by simp, pre ++ [x], by simp [e], by simp, by rw [hp, h, Bool.true_and]⟩
        | false =>
          simp only [h] at hc
          simp -implicitDefEqProofs [hfr, q1, q3, hlt, hg, hw, hc, get_base0, -getElem?_pos, List.getElem?_cons_zero]
          exact k2 _ (by simp [hfr]) (by simp [hfr]) (by rw [hp, h, Bool.false_and])
    apply call_by (by exact rfl : T 45 = some _) (by simp)
    intro fr hfr hsl
    have s0 := hsl 0 _ rfl
    simp only [Tm.av, Tm.cells_mk] at s0
    simp -implicitDefEqProofs [hfr, s0]
    rw [← hst1]
    apply lp _ _ (by simp [hfr]) (by simp [hfr]) (by simp [hfr])
    · clear hfr s0 hsl
      intro fr hfr q1 h
      subst hst1
      by_cases h2 : a = 2
      · by_cases h3 : b < 4611686018427387904
        · simp -implicitDefEqProofs [hfr, q1, h, h2, h3, smT, get_base0, -getElem?_pos, List.getElem?_cons_zero]
        · simp -implicitDefEqProofs [hfr, q1, h, h2, h3, smT, get_base0, -getElem?_pos, List.getElem?_cons_zero]
      · have h2' : (a != 2) = true := by simp [bne, h2]
        simp -implicitDefEqProofs [hfr, q1, h, h2, h2', smT, get_base0, -getElem?_pos, List.getElem?_cons_zero]
    · clear hfr s0 hsl
      intro fr hfr q2 h
      subst hst1
      simp -implicitDefEqProofs [hfr, q2, h, smT]
termination_by t => SizeOf.sizeOf t
decreasing_by
  have := List.sizeOf_lt_of_mem ht
  simp
  omega

theorem small_eq : ∀ (c : Cl), c.ok → ∀ (o : List Obj) (ro : Nat) (df : List Nat), (D T).call 16 [c.av] ⟨o, ro, df⟩ = some (.bool (smC c), ⟨o, ro, df⟩)
  | .mk a s u ts cs, hok, o, ro, df => by
    simp only [Cl.ok] at hok
    have hcs := okC_iff.1 hok.2.2.2.2.2.2
    have hts := okL_iff.1 hok.2.2.2.2.1
    have hm1 : ts.length ≤ 9223372036854775807 := Nat.le_trans hok.2.2.2.1 (by decide)
    have hm2 : cs.length ≤ 9223372036854775807 := Nat.le_trans hok.2.2.2.2.2.1 (by decide)
    have ih := fun t (ht : t ∈ cs) o ro df => small_eq t (hcs t ht) o ro df
    obtain ⟨st1, hst1⟩ : ∃ st1 : St, st1 = ⟨o ++ [Obj.arr 25 5 [[.int .i64 a, .str s, .str u, .sl 4 (ts.map Tm.cells), .sl 5 (cs.map Cl.cells)]]], o.length, []⟩ := ⟨_, rfl⟩
    have lp0 : ∀ (fr : List AV) (Q : AE → List AV → St → Prop), fr.length = 33 → slot fr 1 = .ptr o.length 0 0 → slot fr 3 = .int .i64 0 →
        (∀ (fr' : List AV), fr'.length = 33 → slot fr' 1 = .ptr o.length 0 0 → smTL ts = true → Q (.exit 0) fr' st1) →
        (∀ (fr' : List AV), fr'.length = 33 → slot fr' 2 = .bool false → smTL ts = false → Q .ret fr' st1) →
        ∃ e fr' st', (D T).loop false L16_0 fr st1 = some (e, fr', st') ∧ Q e fr' st' := by
      intro fr Q hfr q1 q3 k1 k2
      apply loop_inv L16_0.eq_1 List.length (fun (rest : List Tm) fr st => ∃ pre, ts = pre ++ rest ∧ fr.length = 33 ∧ slot fr 1 = .ptr o.length 0 0 ∧ slot fr 3 = .int .i64 (pre.length : Int) ∧ st = st1 ∧ smTL ts = smTL rest) ?_ ts ⟨[], rfl, hfr, q1, q3, rfl, rfl⟩
      clear hfr q1 q3
      rintro rest fr _ ⟨pre, e, hfr, q1, q3, rfl, hp⟩
      cases rest with
      | nil =>
        have hlt := idx_end e
        subst hst1
        simp -implicitDefEqProofs [hfr, q1, q3, hlt, get_base0, -getElem?_pos, List.getElem?_cons_zero]
        exact k1 _ (by simp [hfr]) (by simp [hfr, q1]) (by rw [hp]; rfl)
      | cons x rest =>
        obtain ⟨hlt, hg, _⟩ := idx_at e
        have hw := idx_next e hm1
        have hc := fun o ro df => smallTerm_eq x (hts x (by simp [e])) o ro df
        simp only [smTL] at hp
        simp only [Tm.av] at hc
        subst hst1
        cases h : smT x with
        | true =>
          simp only [h] at hc
          simp -implicitDefEqProofs [hfr, q1, q3, hlt, hg, hw, hc, get_base0, -getElem?_pos, List.getElem?_cons_zero]
          exact ⟨rest, by simp, pre ++ [x], by simp [e], by simp, by rw [hp, h, Bool.true_and]⟩
        | false =>
          simp only [h] at hc
          simp -implicitDefEqProofs [hfr, q1, q3, hlt, hg, hw, hc, get_base0, -getElem?_pos, List.getElem?_cons_zero]
          exact k2 _ (by simp [hfr]) (by simp [hfr]) (by rw [hp, h, Bool.false_and])
    have lp1 : ∀ (fr : List AV) (Q : AE → List AV → St → Prop), fr.length = 33 → slot fr 1 = .ptr o.length 0 0 → slot fr 4 = .int .i64 0 →
        (∀ (fr' : List AV), fr'.length = 33 → smCL cs = true → Q (.exit 2) fr' st1) →
        (∀ (fr' : List AV), fr'.length = 33 → slot fr' 2 = .bool false → smCL cs = false → Q .ret fr' st1) →
        ∃ e fr' st', (D T).loop false L16_1 fr st1 = some (e, fr', st') ∧ Q e fr' st' := by
      intro fr Q hfr q1 q4 k1 k2
      apply loop_inv L16_1.eq_1 List.length (fun (rest : List Cl) fr st => ∃ pre, cs = pre ++ rest ∧ fr.length = 33 ∧ slot fr 1 = .ptr o.length 0 0 ∧ slot fr 4 = .int .i64 (pre.length : Int) ∧ st = st1 ∧ smCL cs = smCL rest) ?_ cs ⟨[], rfl, hfr, q1, q4, rfl, rfl⟩
      clear hfr q1 q4
      rintro rest fr _ ⟨pre, e, hfr, q1, q4, rfl, hp⟩
      cases rest with
      | nil =>
        have hlt := idx_end e
        subst hst1
        simp -implicitDefEqProofs [hfr, q1, q4, hlt, get_base0, -getElem?_pos, List.getElem?_cons_zero]
        exact k1 _ (by simp [hfr]) (by rw [hp]; rfl)
      | cons x rest =>
        obtain ⟨hlt, hg, _⟩ := idx_at e
        have hw := idx_next e hm2
        have hc := fun o ro df => ih x (by simp [e]) o ro df
        simp only [smCL] at hp
        simp only [Cl.av] at hc
        subst hst1
        cases h : smC x with
        | true =>
          simp only [h] at hc
          simp -implicitDefEqProofs [hfr, q1, q4, hlt, hg, hw, hc, get_base0, -getElem?_pos, List.getElem?_cons_zero]
          exact ⟨rest, by simp, pre ++ [x], by simp [e], by simp, by rw [hp, h, Bool.true_and]⟩
        | false =>
          simp only [h] at hc
          simp -implicitDefEqProofs [hfr, q1, q4, hlt, hg, hw, hc, get_base0, -getElem?_pos, List.getElem?_cons_zero]
          exact k2 _ (by simp [hfr]) (by simp [hfr]) (by rw [hp, h, Bool.false_and])
    apply call_by (by exact rfl : T 16 = some _) (by simp)
    intro fr hfr hsl
    have s0 := hsl 0 _ rfl
    simp only [Cl.av, Cl.cells_mk] at s0
    simp -implicitDefEqProofs [hfr, s0]
    rw [← hst1]
    apply lp0 _ _ (by simp [hfr]) (by simp [hfr]) (by simp [hfr])
    · clear hfr s0 hsl
      intro fr hfr q1 h
      simp -implicitDefEqProofs [hfr, q1]
      apply lp1 _ _ (by simp [hfr]) (by simp [hfr, q1]) (by simp [hfr])
      · clear hfr q1
        intro fr hfr h2
        subst hst1
        simp -implicitDefEqProofs [hfr, h, h2, smC]
      · clear hfr q1
        intro fr hfr q2 h2
        subst hst1
        simp -implicitDefEqProofs [hfr, q2, h, h2, smC]
    · clear hfr s0 hsl
      intro fr hfr q2 h
      subst hst1
      simp -implicitDefEqProofs [hfr, q2, h, smC]
termination_by c => SizeOf.sizeOf c
decreasing_by
  have := List.sizeOf_lt_of_mem ht
  simp
  omega

def hasS (l : List ByteArray) (s : ByteArray) : Bool := l.any fun x => bytesEq x s

theorem has_eq (l : List ByteArray) (s : ByteArray) (hl : l.length ≤ 4294967296) (st : St) : (D T).call 18 [.sl 1 (strA l), .str s] st = some (.bool (hasS l s), st) := by
  have hmx : l.length ≤ 9223372036854775807 := by omega
  obtain ⟨o, ro, df⟩ := st
  apply call_by (by exact rfl : T 18 = some _) (by simp)
  intro fr hfr hsl
  have s0 := hsl 0 _ rfl
  have s1 := hsl 1 _ rfl
  simp -implicitDefEqProofs [hfr, s0, s1]
  apply loop_inv L18_0.eq_1 List.length (fun (rest : List ByteArray) fr st => ∃ pre, l = pre ++ rest ∧ fr.length = 18 ∧ slot fr 0 = .sl 1 (strA l) ∧ slot fr 1 = .str s ∧ slot fr 5 = .int .i64 (pre.length : Int) ∧ st = ⟨o, o.length, []⟩ ∧ hasS l s = hasS rest s) ?_ l ⟨[], rfl, by simp [hfr], by simp [hfr, s0], by simp [hfr, s1], by simp [hfr], rfl, rfl⟩
  clear hfr s0 s1 hsl
  rintro rest fr _ ⟨pre, e, hfr, q0, q1, q5, rfl, hp⟩
  cases rest with
  | nil =>
    have hlt := idx_end e
    simp -implicitDefEqProofs [hfr, q0, q1, q5, hlt, hp]
    rfl
  | cons x rest =>
    obtain ⟨hlt, hg, _⟩ := idx_at e
    have hw := idx_next e hmx
    have hg' := strA_get hg
    cases h : bytesEq x s with
    | true =>
      simp -implicitDefEqProofs [hfr, q0, q1, q5, hlt, hw, hg', h]
      rw [hp]
      simp [hasS, h]
    | false =>
      simp -implicitDefEqProofs [hfr, q0, q1, q5, hlt, hw, hg', h]
      exact ⟨rest, by simp, pre ++ [x], by simp [e], by simp, by rw [hp]; simp [hasS, h]⟩

end Go.Proofs.Ytjmhkbnhfpgciaa.A
