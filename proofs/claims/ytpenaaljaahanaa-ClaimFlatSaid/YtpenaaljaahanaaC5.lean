/- Claims put together and taken apart: what the functions give. -/
import Derived.Test.YtpenaaljaahanaaP6
namespace Go.Proofs.Ytpenaaljaahanaa.A
open Go
set_option maxRecDepth 10000
set_option linter.unusedSimpArgs false
attribute [-simp] List.all_eq_true put slot_def ld idxA lenOf elems canA app hand

def few (l : List Cl) (m : Int) : Bool := l.all fun c => !decide (m < wt c m)

theorem few_eq (l : List Cl) (hl : l.length ≤ maxLen) (hok : ∀ t ∈ l, t.ok) (m : Int) (h0 : 0 ≤ m) (h1 : m ≤ 4611686018427387904) (hlm : (l.length : Int) ≤ m) (o : List Obj) (ro : Nat) (df : List Nat) :
    (D T).call 15 [.sl 5 (l.map Cl.cells), .int .i64 m] ⟨o, ro, df⟩ = some (.bool (few l m), ⟨o, ro, df⟩) := by
  have hmx : l.length ≤ 9223372036854775807 := Nat.le_trans hl (by decide)
  have hb := fun c (hc : c ∈ l) st => big_eq c (hok c hc) m h0 h1 st
  simp only [Cl.av] at hb
  apply call_by (by exact rfl : T 15 = some _) (by simp)
  intro fr hfr hsl
  have s0 := hsl 0 _ rfl
  have s1 := hsl 1 _ rfl
  have hgt : ¬ m < (l.length : Int) := by omega
  simp -implicitDefEqProofs [hfr, s0, s1, hgt]
  apply loop_inv L15_0.eq_1 List.length (fun (rest : List Cl) fr st => ∃ pre o', l = pre ++ rest ∧ fr.length = 21 ∧ slot fr 1 = .int .i64 m ∧ slot fr 11 = .sl 5 (l.map Cl.cells) ∧ slot fr 12 = .int .i64 (l.length : Int) ∧ slot fr 13 = .int .i64 (pre.length : Int) ∧
    st = ⟨o', o.length, []⟩ ∧ o.length ≤ o'.length ∧ few l m = few rest m) ?_ l ⟨[], o, rfl, by simp [hfr], by simp [hfr, s1], by simp [hfr], by simp [hfr], by simp [hfr], rfl, Nat.le_refl _, rfl⟩
  rintro rest fr _ ⟨pre, o', e, hfr, q1, q11, q12, q13, rfl, ho, hin⟩
  cases rest with
  | nil =>
    have hlt := idx_end e
    simp -implicitDefEqProofs [hfr, q1, q11, q12, q13, hlt, hin]
    rfl
  | cons c rest =>
    obtain ⟨hlt, hg, _⟩ := idx_at e
    have hw := idx_next e hmx
    have hc := hb c (by simp [e])
    simp only [few, List.all_cons] at hin
    by_cases hbig : m < wt c m
    · simp -implicitDefEqProofs [hfr, q1, q11, q12, q13, hlt, hg, setO_last, getO_last, ho, -getElem?_pos, List.getElem?_cons_zero, hc, hbig]
      simp [few, hin, hbig]
    · simp -implicitDefEqProofs [hfr, q1, q11, q12, q13, hlt, hg, setO_last, getO_last, ho, -getElem?_pos, List.getElem?_cons_zero, hc, hbig, hw]
      exact ⟨rest, by simp, pre ++ [c], by simp [e], by simp, by omega, by simpa [few, hbig] using hin⟩

def noS : ByteArray := ⟨#[]⟩
def notC (c : Cl) : Cl := .mk 6 ⟨#[]⟩ ⟨#[]⟩ [] [c]

theorem not_eq (c : Cl) (o : List Obj) (ro : Nat) (df : List Nat) : (D T).call 17 [c.av] ⟨o, ro, df⟩ = some ((notC c).av, ⟨o, ro, df⟩) := by
  apply call_by (by exact rfl : T 17 = some _) (by simp)
  intro fr hfr hsl
  have s0 := hsl 0 _ rfl
  simp only [Cl.av] at s0
  simp -implicitDefEqProofs [hfr, s0, get_base0, get_base, set_base0, set_base, notC, Cl.av, Cl.cells_mk]

theorem rnot_eq (c : Cl) (o : List Obj) (ro : Nat) (df : List Nat) : (D T).call 18 [c.av] ⟨o, ro, df⟩ = some ((notC c).av, ⟨o, ro, df⟩) := by
  apply call_by (by exact rfl : T 18 = some _) (by simp)
  intro fr hfr hsl
  have s0 := hsl 0 _ rfl
  simp only [Cl.av] at s0
  simp -implicitDefEqProofs [hfr, s0, get_base0, get_base, set_base0, set_base, notC, Cl.av, Cl.cells_mk]

/-- put together from the right -/
def joinL (op none : Int) : List Cl → Cl
  | [] => .mk none ⟨#[]⟩ ⟨#[]⟩ [] []
  | [c] => c
  | c :: d :: l => .mk op ⟨#[]⟩ ⟨#[]⟩ [] [c, joinL op none (d :: l)]

theorem joinL_cons (op none : Int) (c : Cl) {l : List Cl} (h : l ≠ []) : joinL op none (c :: l) = .mk op ⟨#[]⟩ ⟨#[]⟩ [] [c, joinL op none l] := by
  cases l with
  | nil => exact absurd rfl h
  | cons d l => rw [joinL]

theorem rjoin_eq (op none : Int) (hop : (op = 7 ∧ none = 1) ∨ (op = 8 ∧ none = 2)) : ∀ (l : List Cl) (o : List Obj) (ro : Nat) (df : List Nat), (D T).call 20 [.int .i64 op, .sl 5 (l.map Cl.cells)] ⟨o, ro, df⟩ = some ((joinL op none l).av, ⟨o, ro, df⟩)
  | [], o, ro, df => by
    apply call_by (by exact rfl : T 20 = some _) (by simp)
    intro fr hfr hsl
    have s0 := hsl 0 _ rfl
    have s1 := hsl 1 _ rfl
    rcases hop with ⟨rfl, rfl⟩ | ⟨rfl, rfl⟩
    · simp -implicitDefEqProofs [hfr, s0, s1, get_base0, get_base, set_base0, set_base, joinL, Cl.av, Cl.cells_mk]
    · simp -implicitDefEqProofs [hfr, s0, s1, get_base0, get_base, set_base0, set_base, joinL, Cl.av, Cl.cells_mk]
  | [.mk a s u ts cs], o, ro, df => by
    apply call_by (by exact rfl : T 20 = some _) (by simp)
    intro fr hfr hsl
    have s0 := hsl 0 _ rfl
    have s1 := hsl 1 _ rfl
    have h1 := flat_list ts
    have h2 := cflat_list cs
    simp -implicitDefEqProofs [hfr, s0, s1, get_base0, get_base, set_base0, set_base, joinL, Cl.av, Cl.cells_mk, h1, h2]
  | c :: d :: l, o, ro, df => by
    have ih := fun o ro df => rjoin_eq op none hop (d :: l) o ro df
    have hT : (l.map Cl.cells).take l.length = l.map Cl.cells := by rw [List.take_of_length_le]; simp
    simp only [Cl.av, List.map_cons] at ih
    apply call_by (by exact rfl : T 20 = some _) (by simp)
    intro fr hfr hsl
    have s0 := hsl 0 _ rfl
    have s1 := hsl 1 _ rfl
    have n0 : ¬ ((l.length : Int) + 1 + 1 = 0) := by omega
    have n1 : ¬ ((l.length : Int) + 1 + 1 = 1) := by omega
    have n0b : ((l.length : Int) + 1 + 1 == 0) = false := by simpa using n0
    have n1b : ((l.length : Int) + 1 + 1 == 1) = false := by simpa using n1
    have n2 : (0 : Int) < (l.length : Int) + 1 + 1 := by omega
    have n3 : (1 : Int) ≤ (l.length : Int) + 1 + 1 := by omega
    simp -implicitDefEqProofs [hfr, s0, s1, get_base0, get_base, set_base0, set_base, joinL, Cl.av, Cl.cells_mk, n0, n1, n0b, n1b, n2, n3, hT, ih]

/-- how a joined claim lies in its box -/
def Box (op : Int) (D : List AV) (C : Cl) : Prop := D = C.cells ∨ ∃ x y : Cl, C = .mk op ⟨#[]⟩ ⟨#[]⟩ [] [x, y] ∧ D = [.int .i64 op, .str ⟨#[]⟩, .str ⟨#[]⟩, .fsl 4 [], .fsl 5 [x.cells, y.cells]]

theorem Box.facts {op : Int} {D : List AV} {C : Cl} (h : Box op D C) : canL D = C.cells ∧ D.length = 5 ∧ D.all AV.one = true ∧ D.take 5 = D ∧ (∀ n o, mapO (hand0 n o) D = some C.cells) ∧ ∀ a b c d e, setMany [a, b, c, d, e] 0 D = D := by
  rcases h with rfl | ⟨x, y, rfl, rfl⟩
  · obtain ⟨a, s, u, ts, cs⟩ := C
    have h1 := flat_list ts
    have h2 := cflat_list cs
    refine ⟨by simp, by simp, by simp, by simp, fun n o => by simp [Cl.cells_mk, h1, h2], fun _ _ _ _ _ => by simp⟩
  · refine ⟨by simp [Cl.cells_mk], rfl, by simp, rfl, fun n o => by simp [Cl.cells_mk], fun _ _ _ _ _ => by simp⟩

theorem join_eq (op none : Int) (l : List Cl) (hl : l.length ≤ maxLen) (o : List Obj) (ro : Nat) (df : List Nat) : (D T).call 49 [.int .i64 op, .int .i64 none, .sl 5 (l.map Cl.cells)] ⟨o, ro, df⟩ = some ((joinL op none l).av, ⟨o, ro, df⟩) := by
  have hmx : l.length ≤ 9223372036854775807 := Nat.le_trans hl (by decide)
  apply call_by (by exact rfl : T 49 = some _) (by simp)
  intro fr hfr hsl
  have s0 := hsl 0 _ rfl
  have s1 := hsl 1 _ rfl
  have s2 := hsl 2 _ rfl
  by_cases hn : l = []
  · subst hn
    simp only [List.map_nil] at s2
    simp -implicitDefEqProofs [hfr, s0, s1, s2, get_base0, get_base, set_base0, set_base, joinL, Cl.av, Cl.cells_mk]
  · obtain ⟨init, last, rfl⟩ : ∃ init last, l = init ++ [last] := ⟨l.dropLast, l.getLast hn, (List.dropLast_concat_getLast hn).symm⟩
    have n0b : (((init ++ [last]).length : Int) == 0) = false := by simp; omega
    have hg : (init ++ [last])[init.length]? = some last := by simp
    have hll : (init ++ [last]).length = init.length + 1 := by simp
    have w1 : IntKind.i64.wrap (((init ++ [last]).length : Int) - 1) = (init.length : Int) := by rw [wrap_id (by omega) (by omega)]; omega
    have w2 : IntKind.i64.wrap (((init ++ [last]).length : Int) - 2) = (init.length : Int) - 1 := by rw [wrap_id (by omega) (by omega)]; omega
    have hlt : (init.length : Int) < ((init ++ [last]).length : Int) := by simp; omega
    have hdl : (init ++ [last]).drop init.length = [last] := by simp
    generalize init ++ [last] = L at *
    simp -implicitDefEqProofs [hfr, s0, s1, s2, get_base0, get_base, set_base0, set_base, n0b, w1, w2, hg, hlt]
    apply loop_inv L49_0.eq_1 (fun k : Nat => k) (fun k fr st => ∃ D, fr.length = 36 ∧ slot fr 0 = .int .i64 op ∧ slot fr 2 = .sl 5 (L.map Cl.cells) ∧ slot fr 6 = .ptr o.length 0 0 ∧ slot fr 7 = .ptr (o.length + 1) 0 0 ∧ slot fr 8 = .int .i64 ((k : Int) - 1) ∧
      st = ⟨o ++ [.arr 25 5 [[.int .i64 0, .str ⟨#[]⟩, .str ⟨#[]⟩, .fsl 4 [], .fsl 5 []]], .arr 25 5 [D]], o.length, []⟩ ∧ k ≤ init.length ∧ Box op D (joinL op none (L.drop k))) ?_ init.length
      ⟨last.cells, by simp [hfr], by simp [hfr, s0], by simp [hfr, s2], by simp [hfr], by simp [hfr], by simp [hfr], rfl, Nat.le_refl _, by rw [hdl]; exact .inl rfl⟩
    rintro k fr _ ⟨D, hfr, q0, q2, q6, q7, q8, rfl, hk, hB⟩
    obtain ⟨d1, d2, d3, d4, d5, d6⟩ := hB.facts
    cases k with
    | zero =>
      simp only [List.drop_zero] at d5 d1
      simp -implicitDefEqProofs [hfr, q0, q2, q6, q7, q8, get_base0, get_base, set_base0, set_base, d2, d3, d4, d5, d6, Cl.av]
    | succ j =>
      have hj : j < L.length := by omega
      obtain ⟨c, hc⟩ : ∃ c, L[j]? = some c := ⟨_, List.getElem?_eq_getElem hj⟩
      have hlt' : (j : Int) < (L.length : Int) := by omega
      have w3 : IntKind.i64.wrap ((j : Int) - 1) = (j : Int) - 1 := wrap_id (by omega) (by omega)
      have hdr : L.drop j = c :: L.drop (j + 1) := by
        rw [List.drop_eq_getElem_cons hj]
        congr 1
        rw [List.getElem?_eq_getElem hj] at hc
        exact Option.some.inj hc
      have hne : L.drop (j + 1) ≠ [] := by
        intro h
        have := List.drop_eq_nil_iff.1 h
        omega
      have hge : (0 : Int) ≤ (j : Int) := by omega
      have hs : ((j + 1 : Nat) : Int) - 1 = (j : Int) := by omega
      rw [hs] at q8
      simp -implicitDefEqProofs [hfr, q0, q2, q6, q7, q8, get_base0, get_base, set_base0, set_base, d1, d2, d3, d4, d6, hc, hlt', hge, w3]
      refine ⟨j, by omega, rfl, by omega, ?_⟩
      rw [hdr, joinL_cons op none c hne]
      refine .inr ⟨_, _, rfl, ?_⟩
      match D, d2 with
      | [_, _, _, _, _], _ => rfl

theorem and_eq (l : List Cl) (hl : l.length ≤ maxLen) (o : List Obj) (ro : Nat) (df : List Nat) : (D T).call 19 [.sl 5 (l.map Cl.cells)] ⟨o, ro, df⟩ = some ((joinL 7 1 l).av, ⟨o, ro, df⟩) := by
  have hj := fun o ro df => join_eq 7 1 l hl o ro df
  obtain ⟨a, s, u, ts, cs, e⟩ : ∃ a s u ts cs, joinL 7 1 l = .mk a s u ts cs := by cases joinL 7 1 l; exact ⟨_, _, _, _, _, rfl⟩
  rw [e] at hj ⊢
  have h1 := flat_list ts
  have h2 := cflat_list cs
  simp only [Cl.av, Cl.cells_mk] at hj
  apply call_by (by exact rfl : T 19 = some _) (by simp)
  intro fr hfr hsl
  have s0 := hsl 0 _ rfl
  simp -implicitDefEqProofs [hfr, s0, get_base0, get_base, set_base0, set_base, hj, Cl.av, Cl.cells_mk, h1, h2]

theorem or8_eq (l : List Cl) (hl : l.length ≤ maxLen) (o : List Obj) (ro : Nat) (df : List Nat) : (D T).call 21 [.sl 5 (l.map Cl.cells)] ⟨o, ro, df⟩ = some ((joinL 8 2 l).av, ⟨o, ro, df⟩) := by
  have hj := fun o ro df => join_eq 8 2 l hl o ro df
  obtain ⟨a, s, u, ts, cs, e⟩ : ∃ a s u ts cs, joinL 8 2 l = .mk a s u ts cs := by cases joinL 8 2 l; exact ⟨_, _, _, _, _, rfl⟩
  rw [e] at hj ⊢
  have h1 := flat_list ts
  have h2 := cflat_list cs
  simp only [Cl.av, Cl.cells_mk] at hj
  apply call_by (by exact rfl : T 21 = some _) (by simp)
  intro fr hfr hsl
  have s0 := hsl 0 _ rfl
  simp -implicitDefEqProofs [hfr, s0, get_base0, get_base, set_base0, set_base, hj, Cl.av, Cl.cells_mk, h1, h2]

theorem rexsv_eq (l k : List Cl) {o : List Obj} {v w : AV} (L : Ls o 5 v (l.map Cl.cells)) (K : Ls o 5 w (k.map Cl.cells)) (hl : l.length ≤ maxLen)
    (ih : ∀ t ∈ l, ∀ u ∈ k, ∀ st, (D T).call 16 [t.av, u.av] st = some (.bool (exEq t u), st)) (ro : Nat) (df : List Nat) :
    (D T).call 22 [v, w] ⟨o, ro, df⟩ = some (.bool (l.length == k.length && exsEq l k), ⟨o, ro, df⟩) := by
  have hmx : l.length ≤ 9223372036854775807 := Nat.le_trans hl (by decide)
  have h1 := L.len
  have h2 := K.len
  have g1 := fun (i : Nat) u (h : l[i]? = some u) => L.get [] o.length [] i u.cells (by simp [h]) (ccells_length u)
  have g2 := fun (i : Nat) u (h : k[i]? = some u) => K.get [] o.length [] i u.cells (by simp [h]) (ccells_length u)
  simp only [Cl.av, List.length_map, List.append_nil] at h1 h2 g1 g2 ih
  apply call_by (by exact rfl : T 22 = some _) (by simp)
  intro fr hfr hsl
  have s0 := hsl 0 _ rfl
  have s1 := hsl 1 _ rfl
  by_cases hlk : l.length = k.length
  · simp -implicitDefEqProofs [hfr, s0, s1, h1, h2, hlk]
    apply loop_inv L22_0.eq_1 (fun s : List Cl × List Cl => s.1.length) (fun s fr st => ∃ pre pre', l = pre ++ s.1 ∧ k = pre' ++ s.2 ∧ pre.length = pre'.length ∧ fr.length = 27 ∧ slot fr 0 = v ∧ slot fr 1 = w ∧ slot fr 5 = .int .i64 (pre.length : Int) ∧
      st = ⟨o, o.length, []⟩ ∧ exsEq l k = exsEq s.1 s.2) ?_ (l, k) ⟨[], [], rfl, rfl, rfl, by simp [hfr], by simp [hfr, s0], by simp [hfr, s1], by simp [hfr], rfl, rfl⟩
    rintro ⟨rest, rest'⟩ fr _ ⟨pre, pre', e, e', hp, hfr, q0, q1, q5, rfl, hin⟩
    simp only at e e' hin
    cases rest with
    | nil =>
      have hlt := idx_end e
      cases rest' with
      | nil => simp -implicitDefEqProofs [hfr, q0, q1, q5, hlt, h1, h2, hin, exsEq]
      | cons u rest' => simp [e, e'] at hlk; omega
    | cons t rest =>
      cases rest' with
      | nil => simp [e, e'] at hlk; omega
      | cons u rest' =>
        obtain ⟨hlt, hg, _⟩ := idx_at e
        obtain ⟨hlt', hg', _⟩ := idx_at e'
        rw [← hp] at hlt' hg'
        have hw := idx_next e hmx
        obtain ⟨p, p1, p2⟩ := g1 _ _ hg
        obtain ⟨p', p3, p4⟩ := g2 _ _ hg'
        have hu := ih t (by simp [e]) u (by simp [e'])
        simp only [exsEq] at hin
        cases h : exEq t u with
        | true =>
          simp -implicitDefEqProofs [hfr, q0, q1, q5, hlt, hlt', h1, h2, p1, p2, p3, p4, hu, h, hw]
          exact ⟨rest, by simp, rest', pre ++ [t], by simp [e], pre' ++ [u], by simp [e'], by simp [hp], by simp, by simpa [h] using hin⟩
        | false =>
          simp -implicitDefEqProofs [hfr, q0, q1, q5, hlt, hlt', h1, h2, p1, p2, p3, p4, hu, h, hw]
          simp [hin, h]
  · have hne : ¬ ((l.length : Int) = (k.length : Int)) := by omega
    simp -implicitDefEqProofs [hfr, s0, s1, h1, h2, hlk, hne]

end Go.Proofs.Ytpenaaljaahanaa.A
