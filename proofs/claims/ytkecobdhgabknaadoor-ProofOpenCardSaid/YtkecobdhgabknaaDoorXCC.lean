/- A claim in new memory: the program's function gives what it was given. -/
import Derived.Test.YtkecobdhgabknaaDoorXT
namespace Go.Proofs.YtkecobdhgabknaaDoor.A
open Go
set_option maxRecDepth 10000
set_option linter.unusedSimpArgs false
set_option linter.unusedVariables false
attribute [-simp] List.all_eq_true put slot_def ld idxA lenOf elems canA app hand

mutual
def Cl.ct : Cl → Nat
  | .mk _ _ _ ts cs => 1 + (allL ts).length + ctL cs
def ctL : List Cl → Nat
  | [] => 0
  | c :: l => c.ct + ctL l
end
theorem mem_ct : ∀ {l : List Cl} {t : Cl}, t ∈ l → t.ct ≤ ctL l
  | u :: l, t, h => by
    simp only [ctL]
    rcases List.mem_cons.1 h with rfl | h
    · omega
    · have := mem_ct h
      omega
theorem le_ct : ∀ l : List Cl, l.length ≤ ctL l
  | [] => Nat.le_refl _
  | .mk a s u ts cs :: l => by
    have := le_ct l
    simp only [ctL, Cl.ct, List.length_cons]
    omega
theorem gx_one {ty sz lo : Nat} {o : List Obj} {v : AV} {es : List (List AV)} (G : Gx ty sz lo o v es) : AV.one v = true := by rcases G.G with rfl | ⟨r, r1, rfl, r2⟩ <;> rfl
theorem gx_set {ty sz lo : Nat} {o : List Obj} {v : AV} {es : List (List AV)} (G : Gx ty sz lo o v es) {i : Nat} (hi : i < lo) (X : Obj) : Gx ty sz lo (o.set i X) v es := by
  refine ⟨?_, G.nil⟩
  rcases G.G with hv | ⟨r, r1, hv, r2⟩
  · exact .inl hv
  · exact .inr ⟨r, r1, hv, by rw [List.getElem?_set_ne (by omega)]; exact r2⟩

theorem ccopy_eq : ∀ (c : Cl), c.ok → c.ct ≤ 4294967296 → ∀ (o : List Obj) (ro : Nat) (df : List Nat), (D T).call 43 [c.av] ⟨o, ro, df⟩ = some (c.av, ⟨o, ro, df⟩)
  | .mk a s u ts cs, hok, hn, o, ro, df => by
    simp only [Cl.ok] at hok
    have hts := okL_iff.1 hok.2.2.2.2.1
    have hcs := okC_iff.1 hok.2.2.2.2.2.2
    have hle1 := le_all ts
    have hle2 := le_ct cs
    simp only [Cl.ct] at hn
    have hm1 : ts.length ≤ 9223372036854775807 := by omega
    have hm2 : cs.length ≤ 9223372036854775807 := by omega
    have iht := fun t (ht : t ∈ ts) o ro df => copy_eq t (hts t ht) (by have := mem_all ht; omega) o ro df
    have ihc := fun c (hc : c ∈ cs) o ro df => ccopy_eq c (hcs c hc) (by have := mem_ct hc; omega) o ro df
    simp only [Tm.av, Cl.av] at iht ihc
    obtain ⟨b0, hb0⟩ : ∃ b0, b0 = Obj.arr 27 5 [[.int .i64 a, .str s, .str u, .sl 4 (ts.map Tm.cells), .sl 5 (cs.map Cl.cells)]] := ⟨_, rfl⟩
    obtain ⟨b1, hb1⟩ : ∃ b1, b1 = Obj.arr 27 5 [[.int .i64 0, .str ⟨#[]⟩, .str ⟨#[]⟩, .fsl 4 [], .fsl 5 []]] := ⟨_, rfl⟩
    have lp0 : ∀ (fr : List AV) (Q : AE → List AV → St → Prop), fr.length = 46 → slot fr 1 = .ptr o.length 0 0 → slot fr 2 = .ptr (o.length + 1) 0 0 → slot fr 3 = .ptr (o.length + 2) 0 0 → slot fr 16 = .sl 4 (ts.map Tm.cells) → slot fr 17 = .int .i64 (ts.length : Int) → slot fr 18 = .int .i64 0 →
        (∀ (fr' : List AV) v o', fr'.length = 46 → slot fr' 1 = .ptr o.length 0 0 → slot fr' 2 = .ptr (o.length + 1) 0 0 → slot fr' 3 = .ptr (o.length + 2) 0 0 → Gx 24 4 (o.length + 3) o' v (ts.map Tm.cells) → o.length + 3 ≤ o'.length →
          o'[o.length]? = some b0 → o'[o.length + 1]? = some b1 → o'[o.length + 2]? = some (Obj.arr 27 5 [[.int .i64 a, .str s, .str u, v, .fsl 5 []]]) → (∀ (i : Nat) y, o[i]? = some y → o'[i]? = some y) → Q (.exit 0) fr' ⟨o', o.length, []⟩) →
        ∃ e fr' st', (D T).loop false L43_0 fr ⟨o ++ [b0, b1, Obj.arr 27 5 [[.int .i64 a, .str s, .str u, .fsl 4 [], .fsl 5 []]]], o.length, []⟩ = some (e, fr', st') ∧ Q e fr' st' := by
      intro fr Q hfr q3 q6 q7 q20 q21 q22 kk
      apply loop_inv L43_0.eq_1 List.length (fun (rest : List Tm) fr st => ∃ pre v o', ts = pre ++ rest ∧ fr.length = 46 ∧ slot fr 1 = .ptr o.length 0 0 ∧ slot fr 2 = .ptr (o.length + 1) 0 0 ∧ slot fr 3 = .ptr (o.length + 2) 0 0 ∧ slot fr 16 = .sl 4 (ts.map Tm.cells) ∧ slot fr 17 = .int .i64 (ts.length : Int) ∧ slot fr 18 = .int .i64 (pre.length : Int) ∧
          st = ⟨o', o.length, []⟩ ∧ Gx 24 4 (o.length + 3) o' v (pre.map Tm.cells) ∧ o.length + 3 ≤ o'.length ∧ o'[o.length]? = some b0 ∧ o'[o.length + 1]? = some b1 ∧ o'[o.length + 2]? = some (Obj.arr 27 5 [[.int .i64 a, .str s, .str u, v, .fsl 5 []]]) ∧ (∀ (i : Nat) y, o[i]? = some y → o'[i]? = some y)) ?_ ts
          ⟨[], .fsl 4 [], _, rfl, hfr, q3, q6, q7, q20, q21, q22, rfl, ⟨.inl rfl, fun _ => rfl⟩, by simp, by simp [get_base0], by simp [get_base], by simp [get_base], fun i y h => getO_push h _⟩
      clear hfr q3 q6 q7 q20 q21 q22
      rintro rest fr _ ⟨pre, v, o', e, hfr, q3, q6, q7, q20, q21, q22, rfl, G, hlo, g0, g1, g2, low⟩
      cases rest with
      | nil =>
        have hlt := idx_end e
        have ee : ts = pre := by simpa using e
        simp -implicitDefEqProofs [hfr, q3, q6, q7, q20, q21, q22, hlt]
        exact kk _ v o' (by simp [hfr]) (by simp [hfr, q3]) (by simp [hfr, q6]) (by simp [hfr, q7]) (by rw [ee]; exact G) hlo g0 g1 g2 low
      | cons t rest =>
        obtain ⟨hlt, hg, hpl⟩ := idx_at e
        have hw := idx_next e hm1
        have G1 := G.push [Obj.arr 24 4 [t.cells]]
        have g0' : (o' ++ [Obj.arr 24 4 [t.cells]])[o.length]? = some b0 := getO_push g0 _
        have g1' : (o' ++ [Obj.arr 24 4 [t.cells]])[o.length + 1]? = some b1 := getO_push g1 _
        have g2' : (o' ++ [Obj.arr 24 4 [t.cells]])[o.length + 2]? = some (Obj.arr 27 5 [[.int .i64 a, .str s, .str u, v, .fsl 5 []]]) := getO_push g2 _
        have hc := iht t (by simp [e]) (o' ++ [Obj.arr 24 4 [t.cells]]) o.length [] 
        obtain ⟨o3, a1, a2, W⟩ := gx_appw G1 (ro := o.length) (df := []) (bytes := 56) (by omega) (by simp; omega) (elems_fsl _ 4 [t.cells]) (room_of0 (by simp; omega) (by simp; omega))
        simp only [List.length_cons, List.length_nil, Nat.zero_add, List.length_map, List.length_append] at a1 a2 W
        have k0 := (W.keep o.length (by simp; omega) (fun n f => G.not (by omega) n f)).1
        have k1 := (W.keep (o.length + 1) (by simp; omega) (fun n f => G.not (by omega) n f)).1
        have k2 := (W.keep (o.length + 2) (by simp; omega) (fun n f => G.not (by omega) n f)).1
        rw [g0'] at k0
        rw [g1'] at k1
        rw [g2'] at k2
        have l1 : o.length + 2 < o3.length := by omega
        have l2 : o.length ≤ o'.length := by omega
        simp -implicitDefEqProofs [hfr, q3, q6, q7, q20, q21, q22, hlt, hg, hw, hc, g2', k2, a1, l1, l2, setO_last, getO_last, getO_set, -getElem?_pos, List.getElem?_cons_zero]
        refine ⟨rest, by simp, pre ++ [t], by simp [e], by simp, .own (o'.length + 1) 0 (pre.length + 1) false, ⟨?_, by simp⟩, by omega, k0, k1, rfl, fun i y hy => ?_⟩
        · refine .inr ⟨o'.length + 1, by omega, by simp, ?_⟩
          rcases W.G.G with hv | ⟨r, r1, hv, r2⟩
          · cases hv
          · obtain rfl : o'.length + 1 = r := by simpa using hv
            rw [List.getElem?_set_ne (by omega), r2]; simp
        · have hi := lt_of_getO hy
          rw [List.getElem?_set_ne (by omega), (W.keep i (by simp; omega) (fun n f => G.not (by omega) n f)).1]
          exact getO_push (low i y hy) _
    have lp1 : ∀ (fr : List AV) (o1 : List Obj) (w : AV) (Q : AE → List AV → St → Prop), fr.length = 46 → slot fr 2 = .ptr (o.length + 1) 0 0 → slot fr 3 = .ptr (o.length + 2) 0 0 → slot fr 31 = .sl 5 (cs.map Cl.cells) → slot fr 32 = .int .i64 (cs.length : Int) → slot fr 33 = .int .i64 0 →
        Gx 24 4 (o.length + 3) o1 w (ts.map Tm.cells) → o.length + 3 ≤ o1.length → o1[o.length + 1]? = some b1 → o1[o.length + 2]? = some (Obj.arr 27 5 [[.int .i64 a, .str s, .str u, w, .fsl 5 []]]) → (∀ (i : Nat) y, o[i]? = some y → o1[i]? = some y) →
        (∀ (fr' : List AV) v o', fr'.length = 46 → slot fr' 2 = .ptr (o.length + 1) 0 0 → slot fr' 3 = .ptr (o.length + 2) 0 0 → Gx 24 4 (o.length + 3) o' w (ts.map Tm.cells) → Gx 27 5 (o.length + 3) o' v (cs.map Cl.cells) → o.length + 3 ≤ o'.length →
          o'[o.length + 1]? = some b1 → o'[o.length + 2]? = some (Obj.arr 27 5 [[.int .i64 a, .str s, .str u, w, v]]) → Q (.exit 2) fr' ⟨o', o.length, []⟩) →
        ∃ e fr' st', (D T).loop false L43_1 fr ⟨o1, o.length, []⟩ = some (e, fr', st') ∧ Q e fr' st' := by
      intro fr o1 w Q hfr q6 q7 q47 q48 q49 Gw hlo g1 g2 low kk
      apply loop_inv L43_1.eq_1 List.length (fun (rest : List Cl) fr st => ∃ pre v o', cs = pre ++ rest ∧ fr.length = 46 ∧ slot fr 2 = .ptr (o.length + 1) 0 0 ∧ slot fr 3 = .ptr (o.length + 2) 0 0 ∧ slot fr 31 = .sl 5 (cs.map Cl.cells) ∧ slot fr 32 = .int .i64 (cs.length : Int) ∧ slot fr 33 = .int .i64 (pre.length : Int) ∧
          st = ⟨o', o.length, []⟩ ∧ Gx 24 4 (o.length + 3) o' w (ts.map Tm.cells) ∧ Gx 27 5 (o.length + 3) o' v (pre.map Cl.cells) ∧ o.length + 3 ≤ o'.length ∧ o'[o.length + 1]? = some b1 ∧ o'[o.length + 2]? = some (Obj.arr 27 5 [[.int .i64 a, .str s, .str u, w, v]]) ∧ (∀ (i : Nat) y, o[i]? = some y → o'[i]? = some y)) ?_ cs
          ⟨[], .fsl 5 [], _, rfl, hfr, q6, q7, q47, q48, q49, rfl, Gw, ⟨.inl rfl, fun _ => rfl⟩, hlo, g1, g2, low⟩
      clear hfr q6 q7 q47 q48 q49 Gw hlo g1 g2 low
      rintro rest fr _ ⟨pre, v, o', e, hfr, q6, q7, q47, q48, q49, rfl, Gt, G, hlo, g1, g2, low⟩
      cases rest with
      | nil =>
        have hlt := idx_end e
        have ee : cs = pre := by simpa using e
        simp -implicitDefEqProofs [hfr, q6, q7, q47, q48, q49, hlt]
        exact kk _ v o' (by simp [hfr]) (by simp [hfr, q6]) (by simp [hfr, q7]) Gt (by rw [ee]; exact G) hlo g1 g2
      | cons t rest =>
        obtain ⟨hlt, hg, hpl⟩ := idx_at e
        have hw := idx_next e hm2
        have G1 := G.push [Obj.arr 27 5 [t.cells]]
        have g1' : (o' ++ [Obj.arr 27 5 [t.cells]])[o.length + 1]? = some b1 := getO_push g1 _
        have g2' : (o' ++ [Obj.arr 27 5 [t.cells]])[o.length + 2]? = some (Obj.arr 27 5 [[.int .i64 a, .str s, .str u, w, v]]) := getO_push g2 _
        have hc := ihc t (by simp [e]) (o' ++ [Obj.arr 27 5 [t.cells]]) o.length [] 
        obtain ⟨o3, a1, a2, W⟩ := gx_appw G1 (ro := o.length) (df := []) (bytes := 88) (by omega) (by simp; omega) (elems_fsl _ 5 [t.cells]) (room_of0 (by simp; omega) (by simp; omega))
        simp only [List.length_cons, List.length_nil, Nat.zero_add, List.length_map, List.length_append] at a1 a2 W
        have k1 := (W.keep (o.length + 1) (by simp; omega) (fun n f => G.not (by omega) n f)).1
        have k2 := (W.keep (o.length + 2) (by simp; omega) (fun n f => G.not (by omega) n f)).1
        rw [g1'] at k1
        rw [g2'] at k2
        have l1 : o.length + 2 < o3.length := by omega
        have l2 : o.length ≤ o'.length := by omega
        simp -implicitDefEqProofs [-List.map_map, hfr, q6, q7, q47, q48, q49, hlt, hg, hw, hc, g2', k2, a1, l1, l2, setO_last, getO_last, getO_set, -getElem?_pos, List.getElem?_cons_zero]
        refine ⟨rest, by simp, pre ++ [t], by simp [e], by simp, gx_beside (Gt.push _) G1 (by decide) W (by omega) _, .own (o'.length + 1) 0 (pre.length + 1) false, ⟨?_, by simp⟩, by omega, k1, rfl, fun i y hy => ?_⟩
        · refine .inr ⟨o'.length + 1, by omega, by simp, ?_⟩
          rcases W.G.G with hv | ⟨r, r1, hv, r2⟩
          · cases hv
          · obtain rfl : o'.length + 1 = r := by simpa using hv
            rw [List.getElem?_set_ne (by omega), r2]; simp
        · have hi := lt_of_getO hy
          rw [List.getElem?_set_ne (by omega), (W.keep i (by simp; omega) (fun n f => G.not (by omega) n f)).1]
          exact getO_push (low i y hy) _
    apply call_by (by exact rfl : T 43 = some _) (by simp)
    intro fr hfr hsl
    have s0 := hsl 0 _ rfl
    simp only [Cl.av, Cl.cells_mk] at s0
    simp -implicitDefEqProofs [hfr, s0, get_base0, get_base, set_base0, set_base, -getElem?_pos, List.getElem?_cons_zero, List.getElem?_cons_succ]
    rw [← hb0, ← hb1]
    apply lp0 _ _ (by simp [hfr]) (by simp [hfr]) (by simp [hfr]) (by simp [hfr]) (by simp [hfr]) (by simp [hfr]) (by simp [hfr])
    clear lp0 hfr s0 hsl
    intro fr w o1 hfr q3 q6 q7 Gt hlo g0 g1 g2 low
    rw [hb0] at g0
    have fin : ∀ (fr' : List AV) v o', fr'.length = 46 → slot fr' 2 = .ptr (o.length + 1) 0 0 → slot fr' 3 = .ptr (o.length + 2) 0 0 → Gx 24 4 (o.length + 3) o' w (ts.map Tm.cells) → Gx 27 5 (o.length + 3) o' v (cs.map Cl.cells) → o.length + 3 ≤ o'.length →
          o'[o.length + 1]? = some b1 → o'[o.length + 2]? = some (Obj.arr 27 5 [[.int .i64 a, .str s, .str u, w, v]]) →
          run (D T) false (fin [ARes.cell 2 true 5] true ⟨o, ro, df⟩ (fun v' s' => v' = (Cl.mk a s u ts cs).av ∧ s' = ⟨o, ro, df⟩)) [It.blk 2, It.c ((AC.ops [⟨some 45, AO.load true 5 (Opd.t 3), none⟩, ⟨none, AO.store 5 (Opd.t 2) (Opd.t 45), none⟩] false).seq AC.ret)] (.exit 2) fr' ⟨o', o.length, []⟩ := by
      intro fr v o' hfr q6 q7 Gt G hlo g1 g2
      have hone := gx_one G
      have hone2 := gx_one Gt
      have l1 : o.length + 1 < o'.length := by omega
      have h1 := gx_hand0 (gx_set Gt (show o.length + 1 < o.length + 3 by omega) (Obj.arr 27 5 [[.int .i64 a, .str s, .str u, w, v]])) (show o.length ≤ _ by omega) (flat_list _)
      have h2 := gx_hand0 (gx_set G (show o.length + 1 < o.length + 3 by omega) (Obj.arr 27 5 [[.int .i64 a, .str s, .str u, w, v]])) (show o.length ≤ _ by omega) (cflat_list _)
      rw [hb1] at g1
      simp -implicitDefEqProofs [-hand0, hfr, q6, q7, g1, g2, hone, hone2, l1, getO_set, h1, h2, hand0_int, hand0_str, Cl.av, Cl.cells_mk, -getElem?_pos, List.getElem?_cons_zero, -List.map_map]
    simp -implicitDefEqProofs [hfr, q3, q6, q7, g0, -getElem?_pos, List.getElem?_cons_zero]
    exact lp1 _ _ w _ (by simp [hfr]) (by simp [hfr, q6]) (by simp [hfr, q7]) (by simp [hfr]) (by simp [hfr]) (by simp [hfr]) Gt hlo g1 g2 low fin
termination_by t => SizeOf.sizeOf t
decreasing_by
  have := List.sizeOf_lt_of_mem hc
  simp
  omega

end Go.Proofs.YtkecobdhgabknaaDoor.A
