/- Claims: the atoms, gathered each once: the document's. -/
import Derived.Test.YtpenaaljaahanaaE7
namespace Go.Proofs.Ytpenaaljaahanaa.A
open Go
set_option maxRecDepth 10000
set_option linter.unusedSimpArgs false
attribute [-simp] List.all_eq_true put slot_def ld idxA lenOf elems canA app hand

theorem rTerms_eq (t : Cl) (ht : t.ok) (hn : (allTs [t]).length ≤ 4294967295) (o0 : List Obj) (ro : Nat) (df : List Nat) :
    (D T).call 34 [t.av] ⟨o0, ro, df⟩ = some (.sl 4 (((allTs [t]).foldl addT []).map Tm.cells), ⟨o0, ro, df⟩) := by
  rw [← partTs_all] at hn ⊢
  apply call_by (by exact rfl : T 34 = some _) (by simp)
  intro fr hfr hsl
  have s0 := hsl 0 _ rfl
  simp only [Cl.av] at s0
  obtain ⟨v', o', hcall, W⟩ := rterms_eq (lo := o0.length) t ht (o0 ++ [.arr 25 5 [t.cells]]) (.fsl 4 []) [] o0.length [] ⟨.inl rfl, by simp⟩ (Nat.le_refl _) (by simp) (by simp) (by simpa using hn)
  simp only [Cl.av] at hcall
  have hh := gr_hand W.G.G (Nat.le_refl _) (flat_list _)
  simp -implicitDefEqProofs [hfr, s0, getO_last, hcall, hh, -getElem?_pos, List.getElem?_cons_zero]

theorem ratoms_eq {lo : Nat} : ∀ (c : Cl), c.ok → ∀ (o : List Obj) (v : AV) (out : List Cl) (ro : Nat) (df : List Nat), Gx 25 5 lo o v (out.map Cl.cells) → ro ≤ lo → lo ≤ o.length → (∀ u ∈ out, u.ok) → out.length + (atomsC c).length ≤ 4294967295 →
    ∃ v' o', (D T).call 66 [v, c.av] ⟨o, ro, df⟩ = some (v', ⟨o', ro, df⟩) ∧ Gw 25 5 lo o v o' v' (((atomsC c).foldl addC out).map Cl.cells)
  | .mk a s u ts cs, hok, o, v, out, ro, df, G, hro, hlo, hout, hlen => by
    have hok' := hok
    simp only [Cl.ok] at hok
    have hcs := okC_iff.1 hok.2.2.2.2.2.2
    have hm2 : cs.length ≤ 9223372036854775807 := Nat.le_trans hok.2.2.2.2.2.1 (by decide)
    have ih := fun t (ht : t ∈ cs) => ratoms_eq (lo := lo) t (hcs t ht)
    suffices hh : ∃ v1 st', (D T).call 66 [v, (Cl.mk a s u ts cs).av] ⟨o, ro, df⟩ = some (v1, st') ∧ (fun v1 st' => ∃ o', st' = ⟨o', ro, df⟩ ∧ Gw 25 5 lo o v o' v1 (((atomsC (Cl.mk a s u ts cs)).foldl addC out).map Cl.cells)) v1 st' by
      obtain ⟨v1, _, h1, o', rfl, h2⟩ := hh
      exact ⟨v1, o', h1, h2⟩
    apply call_for (by exact rfl : T 66 = some _) (by simp)
    intro fr hfr hsl
    have s0 := hsl 0 _ rfl
    have s1 := hsl 1 _ rfl
    simp only [Cl.av, Cl.cells_mk] at s1
    have hv0 : ∀ n f, v ≠ .own o.length 0 n f := fun n f => G.G.lt (Nat.le_refl _) n f
    obtain ⟨B, hB⟩ : ∃ B, B = Obj.arr 25 5 [[.int .i64 a, .str s, .str u, .sl 4 (ts.map Tm.cells), .sl 5 (cs.map Cl.cells)]] := ⟨_, rfl⟩
    have hbx0 : (o ++ [B])[o.length]? = some B := by simp
    have lp : ∀ (fr : List AV) (Q : AE → List AV → St → Prop), fr.length = 51 → slot fr 0 = v → slot fr 3 = .ptr o.length 0 0 → slot fr 5 = .int .i64 0 → out.length + (atomsL cs).length ≤ 4294967295 →
        (∀ (fr' : List AV) o' v', fr'.length = 51 → slot fr' 0 = v' → Gw 25 5 lo o v o' v' (((atomsL cs).foldl addC out).map Cl.cells) → Q (.exit 1) fr' ⟨o', ro, []⟩) →
        ∃ e fr' st', (D T).loop false L66_0 fr ⟨o ++ [B], ro, []⟩ = some (e, fr', st') ∧ Q e fr' st' := by
      intro fr Q hfr q0 q3 q5 hl1 k
      apply loop_inv L66_0.eq_1 List.length (fun (rest : List Cl) fr st => ∃ pre o2 v2 out2, cs = pre ++ rest ∧ fr.length = 51 ∧ slot fr 0 = v2 ∧ slot fr 3 = .ptr o.length 0 0 ∧ slot fr 5 = .int .i64 (pre.length : Int) ∧ st = ⟨o2, ro, []⟩ ∧
        Gw 25 5 lo o v o2 v2 (out2.map Cl.cells) ∧ o2[o.length]? = some B ∧ (∀ n f, v2 ≠ .own o.length 0 n f) ∧ o.length < o2.length ∧ (∀ u ∈ out2, u.ok) ∧ (atomsL cs).foldl addC out = (atomsL rest).foldl addC out2 ∧ out2.length + (atomsL rest).length ≤ 4294967295) ?_ cs
        ⟨[], _, v, out, rfl, hfr, q0, q3, q5, rfl, G.ref _, hbx0, hv0, by simp, hout, rfl, hl1⟩
      clear q0 q3 q5 hfr
      rintro rest fr _ ⟨pre, o2, v2, out2, e, hfr, q0, q3, q5, rfl, W, hbx, hv, hlt1, hout2, hp, hl1⟩
      have L := gr_ls W.G.G
      have hcan := L.can
      have hbx' := hbx
      rw [hB] at hbx'
      cases rest with
      | nil =>
        have hlt := idx_end e
        simp only [atomsL, List.foldl_nil] at hp
        simp -implicitDefEqProofs [hfr, q0, q3, q5, hlt, hbx', -getElem?_pos, List.getElem?_cons_zero]
        exact k _ _ v2 (by simp [hfr]) (by simp [hfr, q0]) (by rw [hp]; exact W)
      | cons x rest =>
        obtain ⟨hlt, hg, _⟩ := idx_at e
        have hw := idx_next e hm2
        simp only [atomsL, List.foldl_append, List.length_append] at hp hl1
        obtain ⟨v3, o3, hcall, W3⟩ := ih x (by simp [e]) o2 v2 out2 ro [] W.G hro (by have := W.le; omega) hout2 (by omega)
        simp only [Cl.av] at hcall
        obtain ⟨k1, k2⟩ := W3.keep o.length hlt1 hv
        simp -implicitDefEqProofs [hfr, q0, q3, q5, hlt, hg, hw, hcan, hcall, hbx', -getElem?_pos, List.getElem?_cons_zero]
        refine ⟨rest, by simp, pre ++ [x], by simp [e], by simp, _, W.trans W3, by rw [k1, hbx], fun n => ⟨k2 n false, k2 n true⟩, Nat.lt_of_lt_of_le hlt1 W3.le, fun w hw => ?_, hp, ?_⟩
        · rcases add_mem addC_or _ _ w hw with h | h
          · exact hout2 w h
          · exact atoms_ok x (hcs x (by simp [e])) w h
        · have := add_len addC_or (atomsC x) out2
          omega
    by_cases h12 : a = 1 ∨ a = 2
    · have e12 : atomsC (.mk a s u ts cs) = [] := by rcases h12 with rfl | rfl <;> simp [atomsC]
      rw [e12]
      rcases h12 with rfl | rfl
      · simp -implicitDefEqProofs [hfr, s0, s1, getO_last, -getElem?_pos, List.getElem?_cons_zero]
        rw [← hB]; exact G.ref _
      · simp -implicitDefEqProofs [hfr, s0, s1, getO_last, -getElem?_pos, List.getElem?_cons_zero]
        rw [← hB]; exact G.ref _
    · by_cases h6 : 6 ≤ a ∧ a ≤ 10
      · have e6 : atomsC (.mk a s u ts cs) = atomsL cs := by
          have : a = 6 ∨ a = 7 ∨ a = 8 ∨ a = 9 ∨ a = 10 := by omega
          rcases this with rfl | rfl | rfl | rfl | rfl <;> simp [atomsC]
        rw [e6] at hlen ⊢
        have : a = 6 ∨ a = 7 ∨ a = 8 ∨ a = 9 ∨ a = 10 := by omega
        rcases this with rfl | rfl | rfl | rfl | rfl
        all_goals
          simp -implicitDefEqProofs [hfr, s0, s1, getO_last, -getElem?_pos, List.getElem?_cons_zero]
          rw [← hB]
          apply lp _ _ (by simp [hfr]) (by simp [hfr, s0]) (by simp [hfr]) (by simp [hfr]) hlen
          intro fr' o' v' g1 g2 hk
          simp -implicitDefEqProofs [g1, g2]
          exact hk
      · have n1 : ¬ a = 1 := by omega
        have n2 : ¬ a = 2 := by omega
        have n6 : ¬ a = 6 := by omega
        have n7 : ¬ a = 7 := by omega
        have n8 : ¬ a = 8 := by omega
        have n9 : ¬ a = 9 := by omega
        have n10 : ¬ a = 10 := by omega
        have b1 : (a == 1) = false := by simpa using n1
        have b2 : (a == 2) = false := by simpa using n2
        have b6 : (a == 6) = false := by simpa using n6
        have b7 : (a == 7) = false := by simpa using n7
        have b8 : (a == 8) = false := by simpa using n8
        have b9 : (a == 9) = false := by simpa using n9
        have b10 : (a == 10) = false := by simpa using n10
        have e0 : atomsC (.mk a s u ts cs) = [.mk a s u ts cs] := by simp [atomsC, b1, b2, b6, b7, b8, b9, b10]
        rw [e0] at hlen ⊢
        simp only [List.foldl_cons, List.foldl_nil]
        have G1 := G.push [B]
        have L := gr_ls G1.G
        have hln := L.len
        have hcan := L.can
        simp only [List.length_map] at hln
        have get := fun (i : Nat) w (h : out[i]? = some w) => L.get [] ro [] i w.cells (by simp [h]) (ccells_length w)
        have htm := fun w (hw : w ∈ out) st => rsame_eq w (.mk a s u ts cs) (hout w hw) hok' st
        simp only [Cl.av, List.append_nil] at htm get
        rw [Cl.cells_mk] at htm
        have hbx' := hbx0
        simp only [List.length_cons, List.length_nil] at hlen
        obtain ⟨A, hA⟩ : ∃ A, A = out.any fun w => clEq w (.mk a s u ts cs) := ⟨_, rfl⟩
        simp -implicitDefEqProofs [hfr, s0, s1, getO_last, b1, b2, b6, b7, b8, b9, b10, n1, n2, n6, n7, n8, n9, n10, -getElem?_pos, List.getElem?_cons_zero]
        rw [← hB]
        generalize hF : put _ _ _ = F
        have f0 : slot F 0 = v := by subst hF; simp [hfr, s0]
        have f3 : slot F 3 = .ptr o.length 0 0 := by subst hF; simp [hfr]
        have f6 : slot F 6 = .int .i64 0 := by subst hF; simp [hfr]
        have fl : F.length = 51 := by subst hF; simp [hfr]
        clear hF
        apply loop_inv L66_1.eq_1 List.length (fun (rest2 : List Cl) fr st => ∃ pre2, out = pre2 ++ rest2 ∧ fr.length = 51 ∧ slot fr 0 = v ∧ slot fr 3 = .ptr o.length 0 0 ∧ slot fr 6 = .int .i64 (pre2.length : Int) ∧ st = ⟨o ++ [B], ro, []⟩ ∧
          A = (rest2.any fun w => clEq w (.mk a s u ts cs))) ?_ out ⟨[], rfl, fl, f0, f3, f6, rfl, by rw [hA]⟩
        clear f0 f3 f6 fl
        rintro rest2 fr _ ⟨pre2, e2, hfr, q0, q3, q6, rfl, hd⟩
        rw [hB] at hbx'
        cases rest2 with
        | nil =>
          have hlt2 := idx_end e2
          simp only [List.any_nil] at hd
          rw [hA] at hd
          rw [addC, if_neg (by simp [hd])]
          obtain ⟨o2, a1, a2, W2⟩ := gx_appw G1 (ro := ro) (df := []) (bytes := 88) hro (by simp; omega) (elems_fsl _ 5 [[.int .i64 a, .str s, .str u, .sl 4 (ts.map Tm.cells), .sl 5 (cs.map Cl.cells)]]) (room_ofN (by simp; omega) (by simp; omega))
          have W3 := (G.ref [B]).trans W2
          simp only [List.length_map, List.length_cons, List.length_nil, Nat.zero_add] at a1 W3
          rw [hB] at a1 W3 G1 ⊢
          simp -implicitDefEqProofs [hfr, q0, q3, q6, hln, hlt2, hbx', a1, -getElem?_pos, List.getElem?_cons_zero]
          simpa [Cl.cells_mk] using W3
        | cons w rest2 =>
          obtain ⟨hlt2, hg2, _⟩ := idx_at e2
          have hw2 := idx_next e2 (show out.length ≤ 9223372036854775807 by omega)
          obtain ⟨p, g1, g2⟩ := get _ _ hg2
          have hu := fun st => htm w (by simp [e2]) st
          simp only [List.any_cons] at hd
          have GR := G.ref [B]
          rw [hB] at g1 g2 GR ⊢
          cases hk : clEq w (.mk a s u ts cs) with
          | true =>
            simp only [hk, Bool.true_or] at hd
            rw [hA] at hd
            rw [addC, if_pos hd]
            simp -implicitDefEqProofs [hfr, q0, q3, q6, hln, hlt2, hw2, hbx', g1, g2, hu, hk, -getElem?_pos, List.getElem?_cons_zero]
            exact GR
          | false =>
            simp -implicitDefEqProofs [hfr, q0, q3, q6, hln, hlt2, hw2, hbx', g1, g2, hu, hk, -getElem?_pos, List.getElem?_cons_zero]
            exact ⟨rest2, by simp, pre2 ++ [w], by simp [e2], by simp, by simpa [hk] using hd⟩
termination_by c => SizeOf.sizeOf c
decreasing_by
  have := List.sizeOf_lt_of_mem ht
  simp
  omega

theorem rAtoms_eq (l : List Cl) (hl : ∀ t ∈ l, t.ok) (hlen : l.length ≤ 4294967296) (hn : (atomsL l).length ≤ 4294967295) (o0 : List Obj) (ro : Nat) (df : List Nat) :
    (D T).call 36 [.sl 5 (l.map Cl.cells)] ⟨o0, ro, df⟩ = some (.sl 5 (((atomsL l).foldl addC []).map Cl.cells), ⟨o0, ro, df⟩) := by
  have hmx : l.length ≤ 9223372036854775807 := by omega
  apply call_by (by exact rfl : T 36 = some _) (by simp)
  intro fr hfr hsl
  have s0 := hsl 0 _ rfl
  simp -implicitDefEqProofs [hfr, s0]
  apply loop_inv L36_0.eq_1 List.length (fun (rest : List Cl) fr st => ∃ pre o' v out, l = pre ++ rest ∧ fr.length = 18 ∧ slot fr 0 = .sl 5 (l.map Cl.cells) ∧ slot fr 3 = v ∧ slot fr 4 = .int .i64 (pre.length : Int) ∧ st = ⟨o', o0.length, []⟩ ∧
    Gx 25 5 o0.length o' v (out.map Cl.cells) ∧ o0.length ≤ o'.length ∧ (∀ u ∈ out, u.ok) ∧ (atomsL l).foldl addC [] = (atomsL rest).foldl addC out ∧ out.length + (atomsL rest).length ≤ 4294967295) ?_ l
    ⟨[], _, .fsl 5 [], [], rfl, by simp [hfr], by simp [hfr, s0], by simp [hfr], by simp [hfr], rfl, ⟨.inl rfl, by simp⟩, by simp, by simp, rfl, by simpa using hn⟩
  rintro rest fr _ ⟨pre, o', v, out, e, hfr, q0, q3, q4, rfl, G, hle, hout, hp, hl1⟩
  have hcan := (gr_ls G.G).can
  cases rest with
  | nil =>
    have hlt := idx_end e
    simp only [atomsL, List.foldl_nil] at hp
    have hh := gr_hand G.G (Nat.le_refl _) (cflat_list out)
    simp -implicitDefEqProofs [hfr, q0, q3, q4, hlt, hh, hp, -getElem?_pos, List.getElem?_cons_zero]
  | cons x rest =>
    obtain ⟨hlt, hg, _⟩ := idx_at e
    have hw := idx_next e hmx
    simp only [atomsL, List.foldl_append, List.length_append] at hp hl1
    obtain ⟨v3, o3, hcall, W3⟩ := ratoms_eq x (hl x (by simp [e])) o' v out o0.length [] G (Nat.le_refl _) hle hout (by omega)
    simp only [Cl.av] at hcall
    simp -implicitDefEqProofs [hfr, q0, q3, q4, hlt, hg, hw, hcan, hcall, -getElem?_pos, List.getElem?_cons_zero]
    refine ⟨rest, by simp, pre ++ [x], by simp [e], by simp, _, W3.G, Nat.le_trans hle W3.le, fun w hw => ?_, hp, ?_⟩
    · rcases add_mem addC_or _ _ w hw with h | h
      · exact hout w h
      · exact atoms_ok x (hl x (by simp [e])) w h
    · have := add_len addC_or (atomsC x) out
      omega

end Go.Proofs.Ytpenaaljaahanaa.A
