/- Claims: the terms that the program gathers, each once. -/
import Derived.Test.YtpenaaljaahanaaE3
namespace Go.Proofs.Ytpenaaljaahanaa.A
open Go
set_option maxRecDepth 10000
set_option linter.unusedSimpArgs false
attribute [-simp] List.all_eq_true put slot_def ld idxA lenOf elems canA app hand

def addT (out : List Tm) (x : Tm) : List Tm := if (out.any fun u => tmEq u x) = true then out else out ++ [x]

/-- the slice in the box b, while it grows -/
structure KT (b tot : Nat) (W : List Tm) (rest : List Tm) (o : List Obj) (bx : List (Nat × List AV)) (v : AV) (out : List Tm) : Prop where
  hp : W = rest.foldl addT out
  lb : b + 1 ≤ o.length
  c : o[b]? = some (.arr 22 1 [[v]])
  G : Gx 56 4 (b + 1) o v (out.map Tm.cells)
  hl : out.length + rest.length ≤ tot
  ok : ∀ u ∈ out, u.ok
  hb : ∀ i c, (i, c) ∈ bx → b + 1 ≤ i ∧ o[i]? = some (.arr 25 5 [c])

theorem KT.push {b tot : Nat} {W rest : List Tm} {o : List Obj} {bx : List (Nat × List AV)} {v : AV} {out : List Tm} (h : KT b tot W rest o bx v out) (m : List Obj) : KT b tot W rest (o ++ m) bx v out :=
  ⟨h.hp, by have := h.lb; simp; omega, getO_push h.c _, h.G.push _, h.hl, h.ok, fun i c hi => ⟨(h.hb i c hi).1, getO_push (h.hb i c hi).2 _⟩⟩

theorem KT.box {b tot : Nat} {W rest : List Tm} {o : List Obj} {bx : List (Nat × List AV)} {v : AV} {out : List Tm} (h : KT b tot W rest o bx v out) (c : List AV) : KT b tot W rest (o ++ [.arr 25 5 [c]]) ((o.length, c) :: bx) v out := by
  have k := h.push [.arr 25 5 [c]]
  refine ⟨k.hp, k.lb, k.c, k.G, k.hl, k.ok, fun i c' hi => ?_⟩
  rcases List.mem_cons.1 hi with hi | hi
  · simp only [Prod.mk.injEq] at hi
    obtain ⟨rfl, rfl⟩ := hi
    exact ⟨h.lb, by simp⟩
  · exact k.hb i c' hi

theorem KT.pop {b tot : Nat} {W rest : List Tm} {o : List Obj} {bx : List (Nat × List AV)} {v : AV} {out : List Tm} {p : Nat × List AV} (h : KT b tot W rest o (p :: bx) v out) : KT b tot W rest o bx v out :=
  ⟨h.hp, h.lb, h.c, h.G, h.hl, h.ok, fun i c hi => h.hb i c (List.mem_cons_of_mem _ hi)⟩

theorem terms1_eq {n0 b tot : Nat} {W : List Tm} (hnb : n0 ≤ b) (htot : tot ≤ 4294967295) (t : Cl) (ht : t.ok) (later : List Tm) (o : List Obj) (bx : List (Nat × List AV)) (df : List Nat) (h : ∃ v out, KT b tot W (t.terms ++ later) o bx v out) :
    ∃ v o', (D T).call 60 [t.av, .ptr b 0 0] ⟨o, n0, df⟩ = some (v, ⟨o', n0, df⟩) ∧ ∃ v out, KT b tot W later o' bx v out := by
  obtain ⟨v, out, h⟩ := h
  obtain ⟨a, s, u, ts, cs⟩ := t
  simp only [Cl.terms] at h
  simp only [Cl.ok] at ht
  have hts := okL_iff.1 ht.2.2.2.2.1
  have hmx : ts.length ≤ 9223372036854775807 := Nat.le_trans ht.2.2.2.1 (by decide)
  suffices hh : ∃ v st', (D T).call 60 [(Cl.mk a s u ts cs).av, .ptr b 0 0] ⟨o, n0, df⟩ = some (v, st') ∧ (fun v st' => ∃ o', st' = ⟨o', n0, df⟩ ∧ ∃ v out, KT b tot W later o' bx v out) v st' by
    obtain ⟨v, _, h1, o', rfl, h2⟩ := hh
    exact ⟨v, o', h1, h2⟩
  apply call_for (by exact rfl : T 60 = some _) (by simp)
  intro fr hfr hsl
  have s0 := hsl 0 _ rfl
  have s1 := hsl 1 _ rfl
  simp only [Cl.av, Cl.cells_mk] at s0
  simp -implicitDefEqProofs [hfr, s0, s1, getO_last, -getElem?_pos, List.getElem?_cons_zero]
  apply loop_inv L60_0.eq_1 List.length (fun (rest : List Tm) fr st => ∃ pre o' v out, ts = pre ++ rest ∧ fr.length = 23 ∧ slot fr 1 = .ptr b 0 0 ∧ slot fr 6 = .sl 4 (ts.map Tm.cells) ∧ slot fr 7 = .int .i64 (ts.length : Int) ∧
    slot fr 8 = .int .i64 (pre.length : Int) ∧ st = ⟨o', n0, []⟩ ∧ KT b tot W (rest ++ later) o' bx v out) ?_ ts ⟨[], _, v, out, rfl, by simp [hfr], by simp [hfr, s1], by simp [hfr], by simp [hfr], by simp [hfr], rfl, h.push _⟩
  clear h
  rintro rest fr _ ⟨pre, o', v, out, e, hfr, q1, q6, q7, q8, rfl, h⟩
  cases rest with
  | nil =>
    have hlt := idx_end e
    simp -implicitDefEqProofs [hfr, q1, q6, q7, q8, hlt]
    exact ⟨v, out, h⟩
  | cons x rest =>
    obtain ⟨hlt, hg, _⟩ := idx_at e
    have hw := idx_next e hmx
    have hx := hts x (by simp [e])
    have lb := h.lb
    have hl := h.hl
    simp only [List.length_append, List.length_cons] at hl
    have hp := h.hp
    simp only [List.cons_append, List.foldl_cons] at hp
    have h' := h.push [Obj.arr 56 4 [x.cells]]
    have hc := h'.c
    have hbx : (o' ++ [Obj.arr 56 4 [x.cells]])[o'.length]? = some (.arr 56 4 [x.cells]) := by simp
    have L := gr_ls h'.G.G
    have hct := containsT (cells := Tm.cells) L (fun x => cells_length x) canL_cells (by omega) 62 [.ptr o'.length 0 0] (fun u => tmEq u x) (fun u hu => same1T x u hx (h.ok u hu) hbx []) n0 []
    have hcan := L.can
    have hlen := L.len
    simp only [List.length_map] at hlen
    have l1 : n0 ≤ o'.length := by omega
    cases hk : (out.any fun u => tmEq u x) with
    | true =>
      rw [addT, if_pos hk] at hp
      simp -implicitDefEqProofs [hfr, q1, q6, q7, q8, hlt, hg, hw, hk, hc, hct, hcan, setO_last, getO_last, l1, -getElem?_pos, List.getElem?_cons_zero]
      exact ⟨rest, by simp, pre ++ [x], by simp [e], by simp, v, out, ⟨by simpa using hp, h'.lb, h'.c, h'.G, by simp; omega, h'.ok, h'.hb⟩⟩
    | false =>
      rw [addT, if_neg (by simp [hk])] at hp
      obtain ⟨o3, a1, a2, G3, a4, a5, a6⟩ := h'.G.app (ro := n0) (bytes := 56) (df := []) (by omega) (by simp; omega) (x := .fsl 4 [[.int .i64 0, .str ⟨#[]⟩, .int .i64 0, .sl 0 []]]) (elems_fsl _ _ _) (room_ofN (by simp; omega) (by simp; omega))
      have b1 := a4 _ _ hc (by simp)
      simp only [List.length_append, List.length_cons, List.length_nil, Nat.zero_add, List.length_map] at a1 a2 a6 G3
      have l2 : b < o3.length := by omega
      have l3 : o'.length + 1 < o3.length := by omega
      have l4 : ¬ (b = o'.length + 1) := by omega
      have l5 : ¬ (o'.length + 1 = b) := by omega
      have l6 : (out.length : Int) < (out.length : Int) + 1 := by omega
      have l7 : n0 ≤ o'.length + 1 := by omega
      simp -implicitDefEqProofs [hfr, q1, q6, q7, q8, hlt, hg, hw, hk, hc, hct, hcan, hlen, setO_last, getO_last, getO_set, l1, l2, l3, l4, l5, l6, l7, hnb, a1, a2, a6, b1, -getElem?_pos, List.getElem?_cons_zero]
      refine ⟨rest, by simp, pre ++ [x], by simp [e], by simp, _, out ++ [x], ⟨by simpa using hp, by simp; omega, getO_set (by simp; omega), ⟨.inr ⟨o'.length + 1, by omega, by simp, ?_⟩, by simp⟩, by simp; omega, ?_, fun i c hi => ⟨(h.hb i c hi).1, ?_⟩⟩⟩
      · rw [List.getElem?_set_ne l4, getO_set l3]; simp
      · intro u hu
        rcases List.mem_append.1 hu with hu | hu
        · exact h.ok u hu
        · obtain rfl := List.mem_singleton.1 hu
          exact hx
      · have k1 := (h.hb i c hi).1
        have k2 := lt_of_getO (h.hb i c hi).2
        rw [List.getElem?_set_ne (by omega), List.getElem?_set_ne (by omega)]
        exact a4 _ _ (h'.hb i c hi).2 (by simp)

theorem cterms_eq (t : Cl) (ht : t.ok) (hn : (allTs [t]).length ≤ 4294967295) (o0 : List Obj) (ro : Nat) (df : List Nat) :
    (D T).call 33 [t.av] ⟨o0, ro, df⟩ = some (.sl 4 (((allTs [t]).foldl addT []).map Tm.cells), ⟨o0, ro, df⟩) := by
  apply call_by (by exact rfl : T 33 = some _) (by simp)
  intro fr hfr hsl
  have s0 := hsl 0 _ rfl
  simp only [Cl.av] at s0
  obtain ⟨o2, hwk, v2, out2, Y2⟩ := cwalk_eq (ro := o0.length) (g := 60) (cap := [.ptr (o0.length + 1) 0 0]) (fun rest2 o2 bx => ∃ v out, KT (o0.length + 1) (allTs [t]).length ((allTs [t]).foldl addT []) (rest2.flatMap Cl.terms) o2 bx v out)
    (fun l o x h => by obtain ⟨_, _, h⟩ := h; have := h.lb; omega)
    (fun l o x c h => by obtain ⟨v, out, h⟩ := h; exact ⟨v, out, h.box c⟩)
    (fun l o x i c h hi => by obtain ⟨_, _, h⟩ := h; exact (h.hb i c hi).2)
    (fun l o x p h => by obtain ⟨v, out, h⟩ := h; exact ⟨v, out, h.pop⟩)
    (fun t l o bx df hok h => by simp only [List.flatMap_cons] at h; exact terms1_eq (by omega) (by omega) t hok (l.flatMap Cl.terms) o bx df h)
    t ht [] (o0 ++ [.arr 25 5 [t.cells], .arr 22 1 [[.fsl 4 []]]]) [] []
    ⟨.fsl 4 [], [], by simp [allTs, partsL], by simp, by simp [get_base], ⟨.inl rfl, by simp⟩, by simp [allTs, partsL], by simp, by simp⟩
  simp only [Cl.av] at hwk
  have hp := Y2.hp
  simp only [List.flatMap_nil, List.foldl_nil] at hp
  have hc := Y2.c
  have lb := Y2.lb
  have hh := gr_hand Y2.G.G (show o0.length ≤ _ by omega) (flat_list out2)
  simp -implicitDefEqProofs [hfr, s0, hwk, hp, hc, hh, get_base0, get_base, -getElem?_pos, List.getElem?_cons_zero]

end Go.Proofs.Ytpenaaljaahanaa.A
