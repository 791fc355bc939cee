/- Claims: the terms and the atoms, gathered each once: the document's. -/
import Derived.Test.YtpenaaljaahanaaE6
namespace Go.Proofs.Ytpenaaljaahanaa.A
open Go
set_option maxRecDepth 10000
set_option linter.unusedSimpArgs false
attribute [-simp] List.all_eq_true put slot_def ld idxA lenOf elems canA app hand

mutual
def partTs : Cl → List Tm
  | .mk _ _ _ ts cs => ts ++ partTsL cs
def partTsL : List Cl → List Tm
  | [] => []
  | c :: l => partTs c ++ partTsL l
end

mutual
theorem partTs_all : ∀ c : Cl, partTs c = allTs [c]
  | .mk a s u ts cs => by
    have := partTsL_all cs
    simp only [allTs] at this
    simp [partTs, allTs, partsL, Cl.parts, Cl.terms, this]
theorem partTsL_all : ∀ l : List Cl, partTsL l = allTs l
  | [] => by simp [partTsL, allTs, partsL]
  | c :: l => by
    have h1 := partTs_all c
    have h2 := partTsL_all l
    simp only [allTs, partsL, List.append_nil] at h1 h2
    simp [partTsL, allTs, partsL, h1, h2]
end

mutual
theorem partTs_oks : ∀ c : Cl, c.ok → ∀ x ∈ partTs c, x.ok
  | .mk a s u ts cs, h, x, hx => by
    simp only [Cl.ok] at h
    simp only [partTs, List.mem_append] at hx
    rcases hx with hx | hx
    · exact okL_iff.1 h.2.2.2.2.1 x hx
    · exact partTsL_oks cs (okC_iff.1 h.2.2.2.2.2.2) x hx
theorem partTsL_oks : ∀ l : List Cl, (∀ t ∈ l, t.ok) → ∀ x ∈ partTsL l, x.ok
  | [], _, x, hx => by simp [partTsL] at hx
  | c :: l, h, x, hx => by
    simp only [partTsL, List.mem_append] at hx
    rcases hx with hx | hx
    · exact partTs_oks c (h c (List.mem_cons_self ..)) x hx
    · exact partTsL_oks l (fun t ht => h t (List.mem_cons_of_mem _ ht)) x hx
end
theorem partTs_ok {c : Cl} (h : c.ok) : ∀ x ∈ partTs c, x.ok := partTs_oks c h

theorem canA_of {o : List Obj} {sz : Nat} {v : AV} {es : List (List AV)} (h : Ls o sz v es) : canA v = v := h.can

theorem rterms_eq {lo : Nat} : ∀ (c : Cl), c.ok → ∀ (o : List Obj) (v : AV) (out : List Tm) (ro : Nat) (df : List Nat), Gx 56 4 lo o v (out.map Tm.cells) → ro ≤ lo → lo ≤ o.length → (∀ u ∈ out, u.ok) → out.length + (partTs c).length ≤ 4294967295 →
    ∃ v' o', (D T).call 64 [v, c.av] ⟨o, ro, df⟩ = some (v', ⟨o', ro, df⟩) ∧ Gw 56 4 lo o v o' v' (((partTs c).foldl addT out).map Tm.cells)
  | .mk a s u ts cs, hok, o, v, out, ro, df, G, hro, hlo, hout, hlen => by
    have hok' := hok
    simp only [Cl.ok] at hok
    have hcs := okC_iff.1 hok.2.2.2.2.2.2
    have hts := okL_iff.1 hok.2.2.2.2.1
    have hm1 : ts.length ≤ 9223372036854775807 := Nat.le_trans hok.2.2.2.1 (by decide)
    have hm2 : cs.length ≤ 9223372036854775807 := Nat.le_trans hok.2.2.2.2.2.1 (by decide)
    have ih := fun t (ht : t ∈ cs) => rterms_eq (lo := lo) t (hcs t ht)
    simp only [partTs, List.length_append] at hlen
    suffices hh : ∃ v1 st', (D T).call 64 [v, (Cl.mk a s u ts cs).av] ⟨o, ro, df⟩ = some (v1, st') ∧ (fun v1 st' => ∃ o', st' = ⟨o', ro, df⟩ ∧ Gw 56 4 lo o v o' v1 (((partTs (Cl.mk a s u ts cs)).foldl addT out).map Tm.cells)) v1 st' by
      obtain ⟨v1, _, h1, o', rfl, h2⟩ := hh
      exact ⟨v1, o', h1, h2⟩
    simp only [partTs, List.foldl_append]
    apply call_for (by exact rfl : T 64 = some _) (by simp)
    intro fr hfr hsl
    have s0 := hsl 0 _ rfl
    have s1 := hsl 1 _ rfl
    simp only [Cl.av, Cl.cells_mk] at s1
    have hv0 : ∀ n f, v ≠ .own o.length 0 n f := fun n f => G.G.lt (Nat.le_refl _) n f
    obtain ⟨B, hB⟩ : ∃ B, B = Obj.arr 25 5 [[.int .i64 a, .str s, .str u, .sl 4 (ts.map Tm.cells), .sl 5 (cs.map Cl.cells)]] := ⟨_, rfl⟩
    have hbx0 : (o ++ [B])[o.length]? = some B := by simp
    simp -implicitDefEqProofs [hfr, s0, s1]
    rw [← hB]
    apply loop_inv L64_0.eq_1 List.length (fun (rest : List Tm) fr st => ∃ pre o1 v1 out1, ts = pre ++ rest ∧ fr.length = 60 ∧ slot fr 0 = v1 ∧ slot fr 3 = .ptr o.length 0 0 ∧ slot fr 5 = .int .i64 (pre.length : Int) ∧ st = ⟨o1, ro, []⟩ ∧
      Gw 56 4 lo o v o1 v1 (out1.map Tm.cells) ∧ o1[o.length]? = some B ∧ (∀ n f, v1 ≠ .own o.length 0 n f) ∧ o.length < o1.length ∧ (∀ u ∈ out1, u.ok) ∧ ts.foldl addT out = rest.foldl addT out1 ∧ out1.length + rest.length + (partTsL cs).length ≤ 4294967295) ?_ ts
      ⟨[], _, v, out, rfl, by simp [hfr], by simp [hfr, s0], by simp [hfr], by simp [hfr], rfl, G.ref _, hbx0, hv0, by simp, hout, rfl, by omega⟩
    rintro rest fr _ ⟨pre, o1, v1, out1, e, hfr, q0, q3, q5, rfl, W, hbx, hv, hlt1, hout1, hp, hl1⟩
    have L := gr_ls W.G.G
    have hcan := L.can
    have hln := L.len
    simp only [List.length_map] at hln
    cases rest with
    | nil =>
      have hlt := idx_end e
      simp only [List.foldl_nil] at hp
      have hbx' := hbx
      rw [hB] at hbx'
      simp -implicitDefEqProofs [hfr, q0, q3, q5, hlt, hbx', -getElem?_pos, List.getElem?_cons_zero]
      generalize hF : put _ _ _ = F
      have f0 : slot F 0 = v1 := by subst hF; simp [hfr, q0]
      have f3 : slot F 3 = .ptr o.length 0 0 := by subst hF; simp [hfr, q3]
      have f8 : slot F 8 = .int .i64 0 := by subst hF; simp [hfr]
      have fl : F.length = 60 := by subst hF; simp [hfr]
      clear hF
      apply loop_inv L64_2.eq_1 List.length (fun (rest : List Cl) fr st => ∃ pre o2 v2 out2, cs = pre ++ rest ∧ fr.length = 60 ∧ slot fr 0 = v2 ∧ slot fr 3 = .ptr o.length 0 0 ∧ slot fr 8 = .int .i64 (pre.length : Int) ∧ st = ⟨o2, ro, []⟩ ∧
        Gw 56 4 lo o v o2 v2 (out2.map Tm.cells) ∧ o2[o.length]? = some B ∧ (∀ n f, v2 ≠ .own o.length 0 n f) ∧ o.length < o2.length ∧ (∀ u ∈ out2, u.ok) ∧ (partTsL cs).foldl addT (ts.foldl addT out) = (partTsL rest).foldl addT out2 ∧ out2.length + (partTsL rest).length ≤ 4294967295) ?_ cs
        ⟨[], o1, v1, out1, rfl, fl, f0, f3, f8, rfl, W, hbx, hv, hlt1, hout1, by rw [hp], by simp only [List.length_nil] at hl1; omega⟩
      clear f0 f3 f8 fl
      rintro rest fr _ ⟨pre, o2, v2, out2, e, hfr, q0, q3, q8, rfl, W, hbx, hv, hlt1, hout2, hp, hl1⟩
      have L := gr_ls W.G.G
      have hcan := L.can
      have hbx' := hbx
      rw [hB] at hbx'
      cases rest with
      | nil =>
        have hlt := idx_end e
        simp only [partTsL, List.foldl_nil] at hp
        simp -implicitDefEqProofs [hfr, q0, q3, q8, hlt, hbx', -getElem?_pos, List.getElem?_cons_zero]
        rw [hp]; exact W
      | cons x rest =>
        obtain ⟨hlt, hg, _⟩ := idx_at e
        have hw := idx_next e hm2
        simp only [partTsL, List.foldl_append, List.length_append] at hp hl1
        obtain ⟨v3, o3, hcall, W3⟩ := ih x (by simp [e]) o2 v2 out2 ro [] W.G hro (by have := W.le; omega) hout2 (by omega)
        simp only [Cl.av] at hcall
        obtain ⟨k1, k2⟩ := W3.keep o.length hlt1 hv
        simp -implicitDefEqProofs [hfr, q0, q3, q8, hlt, hg, hw, hcan, hcall, hbx', -getElem?_pos, List.getElem?_cons_zero]
        refine ⟨rest, by simp, pre ++ [x], by simp [e], by simp, _, W.trans W3, by rw [k1, hbx], fun n => ⟨k2 n false, k2 n true⟩, Nat.lt_of_lt_of_le hlt1 W3.le, fun w hw => ?_, hp, ?_⟩
        · rcases add_mem addT_or _ _ w hw with h | h
          · exact hout2 w h
          · exact partTs_ok (hcs x (by simp [e])) w h
        · have := add_len addT_or (partTs x) out2
          omega
    | cons x rest =>
      obtain ⟨hlt, hg, _⟩ := idx_at e
      have hw := idx_next e hm1
      have hx := hts x (by simp [e])
      have hl1' := hl1
      simp only [List.length_cons] at hl1'
      have htm := fun w (hw : w ∈ out1) st => tm_eq w (hout1 w hw) x hx st
      have get := fun (i : Nat) w (h : out1[i]? = some w) => L.get [] ro [] i w.cells (by simp [h]) (cells_length w)
      simp only [Tm.av, List.append_nil] at htm get
      have hbx' := hbx
      rw [hB] at hbx'
      simp only [List.foldl_cons] at hp
      obtain ⟨A, hA⟩ : ∃ A, A = out1.any fun w => tmEq w x := ⟨_, rfl⟩
      simp -implicitDefEqProofs [hfr, q0, q3, q5, hlt, hbx', -getElem?_pos, List.getElem?_cons_zero]
      generalize hF : put _ _ _ = F
      have f0 : slot F 0 = v1 := by subst hF; simp [hfr, q0]
      have f3 : slot F 3 = .ptr o.length 0 0 := by subst hF; simp [hfr, q3]
      have f5 : slot F 5 = .int .i64 (pre.length : Int) := by subst hF; simp [hfr, q5]
      have f6 : slot F 6 = .bool false := by subst hF; simp [hfr]
      have f7 : slot F 7 = .int .i64 0 := by subst hF; simp [hfr]
      have fl : F.length = 60 := by subst hF; simp [hfr]
      clear hF
      apply loop_inv L64_1.eq_1 List.length (fun (rest2 : List Tm) fr st => ∃ pre2 d, out1 = pre2 ++ rest2 ∧ fr.length = 60 ∧ slot fr 0 = v1 ∧ slot fr 3 = .ptr o.length 0 0 ∧ slot fr 5 = .int .i64 (pre.length : Int) ∧ slot fr 6 = .bool d ∧ slot fr 7 = .int .i64 (pre2.length : Int) ∧ st = ⟨o1, ro, []⟩ ∧
        A = (d || rest2.any fun w => tmEq w x)) ?_ out1 ⟨[], false, rfl, fl, f0, f3, f5, f6, f7, rfl, by rw [hA]; simp⟩
      clear f0 f3 f5 f6 f7 fl
      rintro rest2 fr _ ⟨pre2, d, e2, hfr, q0, q3, q5, q6, q7, rfl, hd⟩
      cases rest2 with
      | nil =>
        have hlt2 := idx_end e2
        simp only [List.any_nil, Bool.or_false] at hd
        rw [hA] at hd
        subst hd
        have hlt2' : ¬ ((pre2.length : Int) < (out1.length : Int)) := hlt2
        cases hk : (out1.any fun w => tmEq w x) with
        | true =>
          rw [addT, if_pos hk] at hp
          rw [hk] at q6
          simp -implicitDefEqProofs [hfr, q0, q3, q5, q6, q7, hln, hlt2', hlt, hw, hbx', -getElem?_pos, List.getElem?_cons_zero]
          exact ⟨rest, by simp, pre ++ [x], by simp [e], by simp, out1, W, hB.symm, fun n => ⟨hv n false, hv n true⟩, hlt1, hout1, hp, by omega⟩
        | false =>
          rw [addT, if_neg (by simp [hk])] at hp
          rw [hk] at q6
          obtain ⟨o2, a1, a2, W2⟩ := gx_appw W.G (ro := ro) (df := []) (bytes := 56) hro (by have := W.le; omega) (elems_fsl ⟨o1, ro, []⟩ 4 [x.cells]) (room_ofN (by simp; omega) (by simp; omega))
          simp only [List.length_map, List.length_cons, List.length_nil, Nat.zero_add] at a1 W2
          obtain ⟨k1, k2⟩ := W2.keep o.length hlt1 hv
          simp -implicitDefEqProofs [hfr, q0, q3, q5, q6, q7, hln, hlt2', hlt, hg, hw, hbx', a1, -getElem?_pos, List.getElem?_cons_zero]
          refine ⟨rest, by simp, pre ++ [x], by simp [e], by simp, out1 ++ [x], by simpa using W.trans W2, by rw [k1, hbx], by omega, by omega, fun w hw => ?_, hp, by simp; omega⟩
          rcases List.mem_append.1 hw with hw | hw
          · exact hout1 w hw
          · obtain rfl := List.mem_singleton.1 hw
            exact hx
      | cons w rest2 =>
        obtain ⟨hlt2, hg2, _⟩ := idx_at e2
        have hw2 := idx_next e2 (show out1.length ≤ 9223372036854775807 by omega)
        obtain ⟨p, g1, g2⟩ := get _ _ hg2
        have hu := fun st => htm w (by simp [e2]) st
        simp only [List.any_cons] at hd
        cases d with
        | true =>
          simp -implicitDefEqProofs [-Bool.exists_bool, hfr, q0, q3, q5, q6, q7, hln, hlt2, hlt, hg, hw2, hbx', -getElem?_pos, List.getElem?_cons_zero]
          exact ⟨rest2, by simp, pre2 ++ [w], by simp [e2], by simp, by simpa using hd⟩
        | false =>
          simp -implicitDefEqProofs [-Bool.exists_bool, hfr, q0, q3, q5, q6, q7, hln, hlt2, hlt, hg, hw2, hbx', g1, g2, hu, -getElem?_pos, List.getElem?_cons_zero]
          exact ⟨rest2, by simp, pre2 ++ [w], by simp [e2], by simp, by simpa using hd⟩
termination_by c => SizeOf.sizeOf c
decreasing_by
  have := List.sizeOf_lt_of_mem ht
  simp
  omega

end Go.Proofs.Ytpenaaljaahanaa.A
