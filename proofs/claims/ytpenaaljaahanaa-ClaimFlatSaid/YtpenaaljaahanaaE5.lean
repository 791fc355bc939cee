/- Claims: the atoms, gathered each once, by the program and by the document. -/
import Derived.Test.YtpenaaljaahanaaE4
namespace Go.Proofs.Ytpenaaljaahanaa.A
open Go
set_option maxRecDepth 10000
set_option linter.unusedSimpArgs false
attribute [-simp] List.all_eq_true put slot_def ld idxA lenOf elems canA app hand

mutual
def atomsC : Cl → List Cl
  | .mk a s u ts cs => bif a == 1 || a == 2 then [] else bif a == 6 || a == 7 || a == 8 || a == 9 || a == 10 then atomsL cs else [.mk a s u ts cs]
def atomsL : List Cl → List Cl
  | [] => []
  | c :: l => atomsC c ++ atomsL l
end

def addC (out : List Cl) (x : Cl) : List Cl := if (out.any fun u => clEq u x) = true then out else out ++ [x]

theorem atomsL_app : ∀ (l k : List Cl), atomsL (l ++ k) = atomsL l ++ atomsL k
  | [], k => rfl
  | t :: l, k => by simp [atomsL, atomsL_app l k]

mutual
theorem atoms_cnt : ∀ c : Cl, (atomsC c).length ≤ cnt c
  | .mk a s u ts cs => by
    have := atomsL_cnt cs
    simp only [atomsC, cnt]
    cases a == 1 || a == 2
    · cases a == 6 || a == 7 || a == 8 || a == 9 || a == 10
      · simp
      · simp; omega
    · simp
theorem atomsL_cnt : ∀ l : List Cl, (atomsL l).length ≤ cntL l
  | [] => by simp [atomsL, cntL]
  | c :: l => by
    have h1 := atoms_cnt c
    have h2 := atomsL_cnt l
    simp only [atomsL, cntL, List.length_append]
    omega
end

mutual
theorem atoms_ok : ∀ c : Cl, c.ok → ∀ x ∈ atomsC c, x.ok
  | .mk a s u ts cs, h, x, hx => by
    simp only [atomsC] at hx
    cases h1 : a == 1 || a == 2
    · rw [h1] at hx
      cases h2 : a == 6 || a == 7 || a == 8 || a == 9 || a == 10
      · rw [h2] at hx
        simp only [cond_false, List.mem_singleton] at hx
        subst hx; exact h
      · rw [h2] at hx
        simp only [Cl.ok] at h
        exact atomsL_ok cs (okC_iff.1 h.2.2.2.2.2.2) x hx
    · rw [h1] at hx
      simp at hx
theorem atomsL_ok : ∀ l : List Cl, (∀ t ∈ l, t.ok) → ∀ x ∈ atomsL l, x.ok
  | [], _, x, hx => by simp [atomsL] at hx
  | t :: l, h, x, hx => by
    simp only [atomsL, List.mem_append] at hx
    rcases hx with hx | hx
    · exact atoms_ok t (h t (List.mem_cons_self ..)) x hx
    · exact atomsL_ok l (fun u hu => h u (List.mem_cons_of_mem _ hu)) x hx
end

/-- the slice in the box bo, while it grows; the function in the box bf -/
structure KA (bo bf tot : Nat) (W : List Cl) (rest : List Cl) (o : List Obj) (v : AV) (out : List Cl) : Prop where
  hp : W = rest.foldl addC out
  lb : bf + 1 ≤ o.length
  co : o[bo]? = some (.arr 23 1 [[v]])
  cf : o[bf]? = some (.arr 38 1 [[.fn (.func 53) [] [.ptr bf 0 0, .ptr bo 0 0]]])
  G : Gx 25 5 (bf + 1) o v (out.map Cl.cells)
  hl : out.length + rest.length ≤ tot
  ok : ∀ u ∈ out, u.ok

theorem KA.push {bo bf tot : Nat} {W rest : List Cl} {o : List Obj} {v : AV} {out : List Cl} (h : KA bo bf tot W rest o v out) (m : List Obj) : KA bo bf tot W rest (o ++ m) v out :=
  ⟨h.hp, by have := h.lb; simp; omega, getO_push h.co _, getO_push h.cf _, h.G.push _, h.hl, h.ok⟩

theorem atoms1_eq {n0 bo bf tot : Nat} {W : List Cl} (hn : n0 ≤ bo) (hb : bo < bf) (htot : tot ≤ 4294967295) : ∀ (t : Cl), t.ok → ∀ (later : List Cl) (o : List Obj) (df : List Nat) (v : AV) (out : List Cl), KA bo bf tot W (atomsC t ++ later) o v out →
    ∃ o', (D T).call 53 [t.av, .ptr bf 0 0, .ptr bo 0 0] ⟨o, n0, df⟩ = some (.tup [], ⟨o', n0, df⟩) ∧ ∃ v out, KA bo bf tot W later o' v out
  | .mk a s u ts cs, ht, later, o, df, v, out, h => by
    have ht' := ht
    simp only [Cl.ok] at ht
    have hcs := okC_iff.1 ht.2.2.2.2.2.2
    have hmx : cs.length ≤ 9223372036854775807 := Nat.le_trans ht.2.2.2.2.2.1 (by decide)
    have ih := fun t (ht : t ∈ cs) => atoms1_eq (W := W) hn hb htot t (hcs t ht)
    suffices hh : ∃ v st', (D T).call 53 [(Cl.mk a s u ts cs).av, .ptr bf 0 0, .ptr bo 0 0] ⟨o, n0, df⟩ = some (v, st') ∧ (fun v st' => ∃ o', v = .tup [] ∧ st' = ⟨o', n0, df⟩ ∧ ∃ v out, KA bo bf tot W later o' v out) v st' by
      obtain ⟨v, _, h1, o', rfl, rfl, h2⟩ := hh
      exact ⟨o', h1, h2⟩
    apply call_for (by exact rfl : T 53 = some _) (by simp)
    intro fr hfr hsl
    have s0 := hsl 0 _ rfl
    have s1 := hsl 1 _ rfl
    have s2 := hsl 2 _ rfl
    simp only [Cl.av, Cl.cells_mk] at s0
    have lp : ∀ (fr : List AV) (Q : AE → List AV → St → Prop), fr.length = 38 → slot fr 1 = .ptr bf 0 0 → slot fr 28 = .sl 5 (cs.map Cl.cells) → slot fr 29 = .int .i64 (cs.length : Int) → slot fr 30 = .int .i64 0 → KA bo bf tot W (atomsL cs ++ later) o v out →
        (∀ (fr' : List AV) o', (∃ v out, KA bo bf tot W later o' v out) → Q (.exit 1) fr' ⟨o', n0, []⟩) →
        ∃ e fr' st', (D T).loop false L53_0 fr ⟨o ++ [.arr 25 5 [(Cl.mk a s u ts cs).cells]], n0, []⟩ = some (e, fr', st') ∧ Q e fr' st' := by
      intro fr Q hfr q1 q28 q29 q30 h k
      apply loop_inv L53_0.eq_1 List.length (fun (rest : List Cl) fr st => ∃ pre o' v out, cs = pre ++ rest ∧ fr.length = 38 ∧ slot fr 1 = .ptr bf 0 0 ∧ slot fr 28 = .sl 5 (cs.map Cl.cells) ∧ slot fr 29 = .int .i64 (cs.length : Int) ∧
        slot fr 30 = .int .i64 (pre.length : Int) ∧ st = ⟨o', n0, []⟩ ∧ KA bo bf tot W (atomsL rest ++ later) o' v out) ?_ cs ⟨[], _, v, out, rfl, hfr, q1, q28, q29, q30, rfl, h.push _⟩
      clear q1 q28 q29 q30 h
      rintro rest fr _ ⟨pre, o', v, out, e, hfr, q1, q28, q29, q30, rfl, h⟩
      cases rest with
      | nil =>
        have hlt := idx_end e
        simp -implicitDefEqProofs [hfr, q1, q28, q29, q30, hlt]
        exact k _ _ ⟨v, out, h⟩
      | cons x rest =>
        obtain ⟨hlt, hg, _⟩ := idx_at e
        have hw := idx_next e hmx
        simp only [atomsL, List.append_assoc] at h
        have lb := h.lb
        have h' := h.push [Obj.arr 25 5 [x.cells]]
        have hcf := h'.cf
        obtain ⟨o2, hcall, v2, out2, h2⟩ := ih x (by simp [e]) (atomsL rest ++ later) (o' ++ [Obj.arr 25 5 [x.cells]]) [] v out h'
        simp only [Cl.av] at hcall
        have l1 : n0 ≤ o'.length := by omega
        simp -implicitDefEqProofs [hfr, q1, q28, q29, q30, hlt, hg, hw, hcf, hcall, setO_last, getO_last, l1, -getElem?_pos, List.getElem?_cons_zero]
        exact ⟨rest, by simp, pre ++ [x], by simp [e], by simp, v2, out2, h2⟩
    by_cases h12 : a = 1 ∨ a = 2
    · have e12 : atomsC (.mk a s u ts cs) = [] := by rcases h12 with rfl | rfl <;> simp [atomsC]
      rw [e12] at h
      have h' := h.push [.arr 25 5 [(Cl.mk a s u ts cs).cells]]
      rw [Cl.cells_mk] at h'
      rcases h12 with rfl | rfl
      · simp -implicitDefEqProofs [hfr, s0, s1, s2, getO_last, -getElem?_pos, List.getElem?_cons_zero]
        exact ⟨v, out, h'⟩
      · simp -implicitDefEqProofs [hfr, s0, s1, s2, getO_last, -getElem?_pos, List.getElem?_cons_zero]
        exact ⟨v, out, h'⟩
    · by_cases h6 : 6 ≤ a ∧ a ≤ 10
      · have e6 : atomsC (.mk a s u ts cs) = atomsL cs := by
          have : a = 6 ∨ a = 7 ∨ a = 8 ∨ a = 9 ∨ a = 10 := by omega
          rcases this with rfl | rfl | rfl | rfl | rfl <;> simp [atomsC]
        rw [e6] at h
        have : a = 6 ∨ a = 7 ∨ a = 8 ∨ a = 9 ∨ a = 10 := by omega
        rcases this with rfl | rfl | rfl | rfl | rfl
        all_goals
          simp -implicitDefEqProofs [hfr, s0, s1, s2, getO_last, -getElem?_pos, List.getElem?_cons_zero]
          rw [Cl.cells_mk] at lp
          apply lp _ _ (by simp [hfr]) (by simp [hfr, s1]) (by simp [hfr]) (by simp [hfr]) (by simp [hfr]) h
          intro fr' o' hk
          simp -implicitDefEqProofs
          exact hk
      · have n1 : ¬ a = 1 := by omega
        have n2 : ¬ a = 2 := by omega
        have n6 : ¬ a = 6 := by omega
        have n7 : ¬ a = 7 := by omega
        have n8 : ¬ a = 8 := by omega
        have n9 : ¬ a = 9 := by omega
        have n10 : ¬ a = 10 := by omega
        have b1 : (a == 1) = false := by simpa using n1
        have b2 : (a == 2) = false := by simpa using n2
        have b6 : (a == 6) = false := by simpa using n6
        have b7 : (a == 7) = false := by simpa using n7
        have b8 : (a == 8) = false := by simpa using n8
        have b9 : (a == 9) = false := by simpa using n9
        have b10 : (a == 10) = false := by simpa using n10
        have e0 : atomsC (.mk a s u ts cs) = [.mk a s u ts cs] := by simp [atomsC, b1, b2, b6, b7, b8, b9, b10]
        rw [e0] at h
        have lb := h.lb
        have hl := h.hl
        simp only [List.length_append, List.length_cons, List.length_nil] at hl
        have hp := h.hp
        simp only [List.cons_append, List.nil_append, List.foldl_cons] at hp
        have h' := h.push [Obj.arr 25 5 [(Cl.mk a s u ts cs).cells]]
        have hc := h'.co
        have hbx : (o ++ [Obj.arr 25 5 [(Cl.mk a s u ts cs).cells]])[o.length]? = some (.arr 25 5 [(Cl.mk a s u ts cs).cells]) := by simp
        have L := gr_ls h'.G.G
        have hct := containsC (cells := Cl.cells) L (fun x => ccells_length x) ccanL_cells (by omega) 55 [.ptr o.length 0 0] (fun w => clEq w (.mk a s u ts cs)) (fun w hw => same1C _ w ht' (h.ok w hw) hbx []) n0 []
        have hcan := L.can
        have hlen := L.len
        simp only [List.length_map] at hlen
        simp only [Cl.cells_mk] at hct hc hbx h'
        have l1 : n0 ≤ o.length := by omega
        cases hk : (out.any fun w => clEq w (.mk a s u ts cs)) with
        | true =>
          rw [addC, if_pos hk] at hp
          simp -implicitDefEqProofs [hfr, s0, s1, s2, b1, b2, b6, b7, b8, b9, b10, n1, n2, n6, n7, n8, n9, n10, hk, hc, hct, hcan, setO_last, getO_last, l1, -getElem?_pos, List.getElem?_cons_zero]
          exact ⟨v, out, ⟨by simpa using hp, h'.lb, h'.co, h'.cf, h'.G, by omega, h'.ok⟩⟩
        | false =>
          rw [addC, if_neg (by simp [hk])] at hp
          obtain ⟨o3, a1, a2, G3, a4, a5, a6⟩ := h'.G.app (ro := n0) (bytes := 88) (df := []) (by omega) (by simp; omega) (x := .fsl 5 [[.int .i64 0, .str ⟨#[]⟩, .str ⟨#[]⟩, .sl 0 [], .sl 0 []]]) (elems_fsl _ _ _) (room_ofN (by simp; omega) (by simp; omega))
          have c1 := a4 _ _ hc (by simp)
          have c2 := a4 _ _ h'.cf (by simp)
          have c3 := a4
          simp only [List.length_append, List.length_cons, List.length_nil, Nat.zero_add, List.length_map] at a1 a2 a6 G3
          have l2 : bo < o3.length := by omega
          have l3 : o.length + 1 < o3.length := by omega
          have l4 : ¬ (bo = o.length + 1) := by omega
          have l5 : ¬ (o.length + 1 = bo) := by omega
          have l6 : (out.length : Int) < (out.length : Int) + 1 := by omega
          have l7 : n0 ≤ o.length + 1 := by omega
          simp -implicitDefEqProofs [hfr, s0, s1, s2, b1, b2, b6, b7, b8, b9, b10, n1, n2, n6, n7, n8, n9, n10, hk, hc, hct, hcan, hlen, setO_last, getO_last, getO_set, l1, l2, l3, l4, l5, l6, l7, hn, a1, a2, a6, c1, -getElem?_pos, List.getElem?_cons_zero]
          refine ⟨_, out ++ [.mk a s u ts cs], ⟨by simpa using hp, by simp; omega, getO_set (by simp; omega), ?_, ⟨.inr ⟨o.length + 1, by omega, by simp, ?_⟩, by simp⟩, by simp; omega, ?_⟩⟩
          · rw [List.getElem?_set_ne (by omega), List.getElem?_set_ne (by omega)]; exact c2
          · rw [List.getElem?_set_ne l4, getO_set l3]; simp [Cl.cells_mk]
          · intro w hw
            rcases List.mem_append.1 hw with hw | hw
            · exact h.ok w hw
            · obtain rfl := List.mem_singleton.1 hw
              exact ht'
termination_by t => SizeOf.sizeOf t
decreasing_by
  have := List.sizeOf_lt_of_mem ht
  simp
  omega

end Go.Proofs.Ytpenaaljaahanaa.A
