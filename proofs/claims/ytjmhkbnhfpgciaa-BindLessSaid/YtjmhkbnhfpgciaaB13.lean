/- The loose numbers of a claim, put among rising ones: the document's. -/
import Derived.Test.YtjmhkbnhfpgciaaB12
namespace Go.Proofs.Ytjmhkbnhfpgciaa.A
open Go
set_option maxRecDepth 10000
set_option linter.unusedSimpArgs false
attribute [-simp] List.all_eq_true put slot_def ld idxA lenOf elems canA app hand

theorem looseIn_eq' (t : Tm) (h : t.ok) (v : AV) (l : List Int) (k : Nat) (hk : k ≤ 4294967296) (hv : Iv v l) (hl : l.length + t.all.length ≤ 4294967295) (st : St) : (D T).call 48 [v, t.av, .int .i64 (k : Int)] st = some (.sl 1 (intA ((lsT k t).foldl putI l)), st) := by
  obtain ⟨_, h, rfl⟩ := looseIn_eq t h v l k st hk hv hl
  exact h

theorem loose9_eq : ∀ (c : Cl), c.ok → ∀ (v : AV) (l : List Int) (d : Nat) (st : St), Iv v l → d + l.length + c.ct ≤ 4294967295 →
    ∃ v', (D T).call 49 [v, c.av, .int .i64 (d : Int)] st = some (v', st) ∧ v' = .sl 1 (intA ((lsC d c).foldl putI l))
  | .mk a s u ts cs, hok, v, l, d, ⟨o, ro, df⟩, hv, hl => by
    refine ⟨_, ?_, rfl⟩
    simp only [Cl.ok] at hok
    have hcs := okC_iff.1 hok.2.2.2.2.2.2
    have hts := okL_iff.1 hok.2.2.2.2.1
    have hm1 : ts.length ≤ 9223372036854775807 := Nat.le_trans hok.2.2.2.1 (by decide)
    have hm2 : cs.length ≤ 9223372036854775807 := Nat.le_trans hok.2.2.2.2.2.1 (by decide)
    simp only [Cl.ct] at hl
    have hinn : inn a d ≤ d + 1 := by unfold inn; cases binder a <;> simp
    have ih : ∀ c ∈ cs, ∀ (v : AV) (l : List Int) (st : St), Iv v l → inn a d + l.length + c.ct ≤ 4294967295 → (D T).call 49 [v, c.av, .int .i64 (inn a d : Int)] st = some (.sl 1 (intA ((lsC (inn a d) c).foldl putI l)), st) := fun c ht v l st hv hl => by
      obtain ⟨_, h, rfl⟩ := loose9_eq c (hcs c ht) v l (inn a d) st hv hl
      exact h
    have hwi := fun st => within_eq a s u ts cs d (by omega) st
    simp only [Cl.av, Cl.cells_mk] at hwi
    obtain ⟨st1, hst1⟩ : ∃ st1 : St, st1 = ⟨o ++ [Obj.arr 25 5 [[.int .i64 a, .str s, .str u, .sl 4 (ts.map Tm.cells), .sl 5 (cs.map Cl.cells)]]], o.length, []⟩ := ⟨_, rfl⟩
    have lp0 : ∀ (fr : List AV) (Q : AE → List AV → St → Prop), fr.length = 42 → slot fr 0 = v → slot fr 2 = .int .i64 (d : Int) → slot fr 4 = .ptr o.length 0 0 → slot fr 7 = .int .i64 0 →
        (∀ (fr' : List AV) v1, fr'.length = 42 → slot fr' 0 = v1 → slot fr' 2 = .int .i64 (d : Int) → slot fr' 4 = .ptr o.length 0 0 → Iv v1 ((lsTL d ts).foldl putI l) → Q (.exit 0) fr' st1) →
        ∃ e fr' st', (D T).loop false L49_0 fr st1 = some (e, fr', st') ∧ Q e fr' st' := by
      intro fr Q hfr q0 q2 q4 q7 kk
      apply loop_inv L49_0.eq_1 List.length (fun (rest : List Tm) fr st => ∃ pre v2 l2, ts = pre ++ rest ∧ fr.length = 42 ∧ slot fr 0 = v2 ∧ slot fr 2 = .int .i64 (d : Int) ∧ slot fr 4 = .ptr o.length 0 0 ∧ slot fr 7 = .int .i64 (pre.length : Int) ∧ st = st1 ∧
        Iv v2 l2 ∧ (lsTL d ts).foldl putI l = (lsTL d rest).foldl putI l2 ∧ l2.length + (allL rest).length ≤ 4294967295) ?_ ts ⟨[], v, l, rfl, hfr, q0, q2, q4, q7, rfl, hv, rfl, by omega⟩
      clear q0 q2 q4 q7 hfr
      rintro rest fr _ ⟨pre, v1, l1, e, hfr, q0, q2, q4, q7, rfl, hv1, hp, hl1⟩
      have hcan := hv1.can
      cases rest with
      | nil =>
        have hlt := idx_end e
        simp only [lsTL, List.foldl_nil] at hp
        subst hst1
        simp -implicitDefEqProofs [hfr, q0, q2, q4, q7, hlt, get_base0, -getElem?_pos, List.getElem?_cons_zero]
        exact kk _ v1 (by simp [hfr]) (by simp [hfr, q0]) (by simp [hfr, q2]) (by simp [hfr, q4]) (by rw [hp]; exact hv1)
      | cons x rest =>
        obtain ⟨hlt, hg, _⟩ := idx_at e
        have hw := idx_next e hm1
        simp only [allL, lsTL, List.foldl_append, List.length_append] at hp hl1
        have hcall := fun st => looseIn_eq' x (hts x (by simp [e])) v1 l1 d (by omega) hv1 (by omega) st
        simp only [Tm.av] at hcall
        subst hst1
        simp -implicitDefEqProofs [hfr, q0, q2, q4, q7, hlt, hg, hw, hcan, hcall, get_base0, -getElem?_pos, List.getElem?_cons_zero]
        refine ⟨rest, by simp, pre ++ [x], by simp [e], by simp, _, iv_sl _, hp, ?_⟩
        have h1 := foldI_len (lsT d x) l1
        have h2 := lsT_len d x
        omega
    have lp1 : ∀ (fr : List AV) (v1 : AV) (Q : AE → List AV → St → Prop), fr.length = 42 → slot fr 0 = v1 → slot fr 2 = .int .i64 (d : Int) → slot fr 4 = .ptr o.length 0 0 → slot fr 8 = .int .i64 0 → Iv v1 ((lsTL d ts).foldl putI l) →
        (∀ (fr' : List AV) v2, fr'.length = 42 → slot fr' 0 = v2 → Iv v2 ((lsCL (inn a d) cs).foldl putI ((lsTL d ts).foldl putI l)) → Q (.exit 2) fr' st1) →
        ∃ e fr' st', (D T).loop false L49_1 fr st1 = some (e, fr', st') ∧ Q e fr' st' := by
      intro fr v1 Q hfr q0 q2 q4 q8 hv kk
      have hb1 := foldI_len (lsTL d ts) l
      have hb2 := lsTL_len d ts
      obtain ⟨L, hL⟩ : ∃ L, L = (lsTL d ts).foldl putI l := ⟨_, rfl⟩
      rw [← hL] at hb1 hv kk
      apply loop_inv L49_1.eq_1 List.length (fun (rest : List Cl) fr st => ∃ pre v2 l2, cs = pre ++ rest ∧ fr.length = 42 ∧ slot fr 0 = v2 ∧ slot fr 2 = .int .i64 (d : Int) ∧ slot fr 4 = .ptr o.length 0 0 ∧ slot fr 8 = .int .i64 (pre.length : Int) ∧ st = st1 ∧
        Iv v2 l2 ∧ (lsCL (inn a d) cs).foldl putI L = (lsCL (inn a d) rest).foldl putI l2 ∧ d + 1 + l2.length + ctL rest ≤ 4294967295) ?_ cs ⟨[], v1, L, rfl, hfr, q0, q2, q4, q8, rfl, hv, rfl, by omega⟩
      clear q0 q2 q4 q8 hfr
      rintro rest fr _ ⟨pre, v1, l1, e, hfr, q0, q2, q4, q8, rfl, hv1, hp, hl1⟩
      have hcan := hv1.can
      cases rest with
      | nil =>
        have hlt := idx_end e
        simp only [lsCL, List.foldl_nil] at hp
        subst hst1
        simp -implicitDefEqProofs [hfr, q0, q2, q4, q8, hlt, get_base0, -getElem?_pos, List.getElem?_cons_zero]
        exact kk _ v1 (by simp [hfr]) (by simp [hfr, q0]) (by rw [hp]; exact hv1)
      | cons x rest =>
        obtain ⟨hlt, hg, _⟩ := idx_at e
        have hw := idx_next e hm2
        simp only [ctL, lsCL, List.foldl_append] at hp hl1
        have hcall := fun st => ih x (by simp [e]) v1 l1 st hv1 (by omega)
        simp only [Cl.av] at hcall
        subst hst1
        simp -implicitDefEqProofs [hfr, q0, q2, q4, q8, hlt, hg, hw, hcan, hwi, hcall, get_base0, -getElem?_pos, List.getElem?_cons_zero]
        refine ⟨rest, by simp, pre ++ [x], by simp [e], by simp, _, iv_sl _, hp, ?_⟩
        have h1 := foldI_len (lsC (inn a d) x) l1
        have h2 := lsC_len (inn a d) x
        omega
    apply call_by (by exact rfl : T 49 = some _) (by simp)
    intro fr hfr hsl
    have s0 := hsl 0 _ rfl
    have s1 := hsl 1 _ rfl
    have s2 := hsl 2 _ rfl
    simp only [Cl.av, Cl.cells_mk] at s1
    simp -implicitDefEqProofs [hfr, s0, s1, s2, get_base0, -getElem?_pos, List.getElem?_cons_zero]
    rw [← hst1]
    apply lp0 _ _ (by simp [hfr]) (by simp [hfr, s0]) (by simp [hfr, s2]) (by simp [hfr]) (by simp [hfr])
    clear lp0 hfr s0 s1 s2 hsl
    intro fr v1 hfr q0 q2 q4 hv1
    have hcan := hv1.can
    simp -implicitDefEqProofs [hfr, q0, q2, q4, hcan]
    apply lp1 _ v1 _ (by simp [hfr]) (by simp [hfr, q0]) (by simp [hfr, q2]) (by simp [hfr, q4]) (by simp [hfr]) hv1
    clear lp1 hfr q0 q2 q4 hv1
    intro fr v2 hfr q0 hv2
    have hh := hv2.hand
    have hcan := hv2.can
    subst hst1
    simp -implicitDefEqProofs [hfr, q0, hh, hcan, lsC]
termination_by c => SizeOf.sizeOf c
decreasing_by
  have := List.sizeOf_lt_of_mem ht
  simp
  omega

theorem rLooseTerm_eq (t : Tm) (ht : t.ok) (hn : t.all.length ≤ 4294967295) (o : List Obj) (ro : Nat) (df : List Nat) : (D T).call 20 [t.av] ⟨o, ro, df⟩ = some (.sl 1 (intA ((lsT 0 t).foldl putI [])), ⟨o, ro, df⟩) := by
  have h1 := fun st => looseIn_eq' t ht (.fsl 1 []) [] 0 (by omega) (.inr ⟨rfl, rfl⟩) (by simpa using hn) st
  obtain ⟨a, s, b, l⟩ := t
  simp only [Tm.av, Tm.cells_mk, Int.natCast_zero] at h1
  apply call_by (by exact rfl : T 20 = some _) (by simp)
  intro fr hfr hsl
  have s0 := hsl 0 _ rfl
  simp only [Tm.av, Tm.cells_mk] at s0
  simp -implicitDefEqProofs [hfr, s0, h1, get_base0, get_base, -getElem?_pos, List.getElem?_cons_zero, List.getElem?_cons_succ]

theorem rLoose_eq (c : Cl) (hc : c.ok) (hn : c.ct ≤ 4294967295) (o : List Obj) (ro : Nat) (df : List Nat) : (D T).call 21 [c.av] ⟨o, ro, df⟩ = some (.sl 1 (intA ((lsC 0 c).foldl putI [])), ⟨o, ro, df⟩) := by
  have h1 : ∀ st, (D T).call 49 [.fsl 1 [], c.av, .int .i64 ((0 : Nat) : Int)] st = some (.sl 1 (intA ((lsC 0 c).foldl putI [])), st) := fun st => by
    obtain ⟨_, h, rfl⟩ := loose9_eq c hc (.fsl 1 []) [] 0 st (.inr ⟨rfl, rfl⟩) (by simpa using hn)
    exact h
  obtain ⟨a, s, u, ts, cs⟩ := c
  simp only [Cl.av, Cl.cells_mk, Int.natCast_zero] at h1
  apply call_by (by exact rfl : T 21 = some _) (by simp)
  intro fr hfr hsl
  have s0 := hsl 0 _ rfl
  simp only [Cl.av, Cl.cells_mk] at s0
  simp -implicitDefEqProofs [hfr, s0, h1, get_base0, get_base, -getElem?_pos, List.getElem?_cons_zero, List.getElem?_cons_succ]

end Go.Proofs.Ytjmhkbnhfpgciaa.A
