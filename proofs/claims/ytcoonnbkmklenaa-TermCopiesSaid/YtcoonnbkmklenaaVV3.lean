/- A copy by the document, and a writer into what is in memory of its own. -/
import Derived.Test.YtcoonnbkmklenaaVV2
namespace Go.Proofs.Ytcoonnbkmklenaa.A
open Go
set_option maxRecDepth 10000
set_option linter.unusedSimpArgs false
attribute [-simp] List.all_eq_true put slot_def ld idxA lenOf elems canA app hand

theorem twin_eq : ∀ (t : Tm), t.ok → t.all.length ≤ 4294967296 → ∀ (o0 : List Obj) (ro : Nat) (df : List Nat), (D T).call 22 [t.av] ⟨o0, ro, df⟩ = some (t.av, ⟨o0, ro, df⟩)
  | .mk a s b l, hok, hn, o0, ro, df => by
    simp only [Tm.ok] at hok
    have hl := okL_iff.1 hok.2.2.2.2
    have hle := le_allV l
    simp only [Tm.all, List.length_cons] at hn
    have hmx : l.length ≤ 9223372036854775807 := by omega
    have ih := fun u (hu : u ∈ l) o ro df => twin_eq u (hl u hu) (by have := mem_allV hu; omega) o ro df
    simp only [Tm.av] at ih
    obtain ⟨B, hB⟩ : ∃ B, B = [Obj.arr 24 4 [[.int .i64 a, .str s, .int .i64 b, .sl 4 (l.map Tm.cells)]], Obj.arr 24 4 [[.int .i64 0, .str ⟨#[]⟩, .int .i64 0, .fsl 4 []]], Obj.arr 24 4 [[.int .i64 a, .str s, .int .i64 b, .fsl 4 []]]] := ⟨_, rfl⟩
    have lp : ∀ (fr : List AV) (Q : AE → List AV → St → Prop), fr.length = 31 → slot fr 1 = .ptr o0.length 0 0 → slot fr 2 = .ptr (o0.length + 1) 0 0 → slot fr 3 = .ptr (o0.length + 2) 0 0 → slot fr 4 = .int .i64 0 →
        (∀ (fr' : List AV) v o', fr'.length = 31 → slot fr' 2 = .ptr (o0.length + 1) 0 0 → slot fr' 3 = .ptr (o0.length + 2) 0 0 → Gx 24 4 (o0.length + 3) o' v (l.map Tm.cells) → o0.length + 3 ≤ o'.length →
          o'[o0.length + 1]? = some (Obj.arr 24 4 [[.int .i64 0, .str ⟨#[]⟩, .int .i64 0, .fsl 4 []]]) → o'[o0.length + 2]? = some (Obj.arr 24 4 [[.int .i64 a, .str s, .int .i64 b, v]]) → Q (.exit 0) fr' ⟨o', o0.length, []⟩) →
        ∃ e fr' st', (D T).loop false L22_0 fr ⟨o0 ++ B, o0.length, []⟩ = some (e, fr', st') ∧ Q e fr' st' := by
      intro fr Q hfr q1 q2 q3 q4 k
      apply loop_inv L22_0.eq_1 List.length (fun (rest : List Tm) fr st => ∃ pre v o, l = pre ++ rest ∧ fr.length = 31 ∧ slot fr 1 = .ptr o0.length 0 0 ∧ slot fr 2 = .ptr (o0.length + 1) 0 0 ∧ slot fr 3 = .ptr (o0.length + 2) 0 0 ∧ slot fr 4 = .int .i64 (pre.length : Int) ∧
          st = ⟨o, o0.length, []⟩ ∧ Gx 24 4 (o0.length + 3) o v (pre.map Tm.cells) ∧ o0.length + 3 ≤ o.length ∧ o[o0.length]? = some (.arr 24 4 [[.int .i64 a, .str s, .int .i64 b, .sl 4 (l.map Tm.cells)]]) ∧
          o[o0.length + 1]? = some (Obj.arr 24 4 [[.int .i64 0, .str ⟨#[]⟩, .int .i64 0, .fsl 4 []]]) ∧ o[o0.length + 2]? = some (Obj.arr 24 4 [[.int .i64 a, .str s, .int .i64 b, v]])) ?_ l
          ⟨[], .fsl 4 [], _, rfl, hfr, q1, q2, q3, q4, rfl, ⟨.inl rfl, fun _ => rfl⟩, by rw [hB]; simp, by rw [hB]; simp [get_base0], by rw [hB]; simp [get_base], by rw [hB]; simp [get_base]⟩
      clear hfr q1 q2 q3 q4
      rintro rest fr _ ⟨pre, v, o, e, hfr, q1, q2, q3, q4, rfl, G, hlo, g0, g1, g2⟩
      cases rest with
      | nil =>
        have hlt := idx_end e
        have ee : l = pre := by simpa using e
        simp -implicitDefEqProofs [hfr, q1, q2, q3, q4, hlt, g0, -getElem?_pos, List.getElem?_cons_zero]
        exact k _ v o (by simp [hfr]) (by simp [hfr, q2]) (by simp [hfr, q3]) (by rw [ee]; exact G) hlo g1 g2
      | cons t rest =>
        obtain ⟨hlt, hg, hpl⟩ := idx_at e
        have hw := idx_next e hmx
        have hc := fun st => (ih t (by simp [e]) · st)
        have hc := fun o ro df => ih t (by simp [e]) o ro df
        obtain ⟨o3, a1, a2, W⟩ := gx_appw G (ro := o0.length) (df := []) (bytes := 56) (by omega) (by omega) (elems_fsl _ 4 [t.cells]) (room_of0 (by simp; omega) (by simp; omega))
        simp only [List.length_cons, List.length_nil, Nat.zero_add, List.length_map] at a1 W
        have k0 := (W.keep o0.length (by omega) (fun n f => G.not (by omega) n f)).1
        have k1 := (W.keep (o0.length + 1) (by omega) (fun n f => G.not (by omega) n f)).1
        have k2 := (W.keep (o0.length + 2) (by omega) (fun n f => G.not (by omega) n f)).1
        rw [g0] at k0
        rw [g1] at k1
        rw [g2] at k2
        have l1 : o0.length + 2 < o3.length := by omega
        simp -implicitDefEqProofs [hfr, q1, q2, q3, q4, hlt, hg, hw, hc, g0, g2, k2, a1, l1, getO_set, -getElem?_pos, List.getElem?_cons_zero]
        refine ⟨rest, by simp, pre ++ [t], by simp [e], by simp, .own o.length 0 (pre.length + 1) false, ⟨?_, by simp⟩, by omega, k0, k1, rfl⟩
        refine .inr ⟨o.length, by omega, by simp, ?_⟩
        rcases W.G.G with hv | ⟨r, r1, hv, r2⟩
        · cases hv
        · obtain rfl : o.length = r := by simpa using hv
          rw [List.getElem?_set_ne (by omega), r2]; simp
    apply call_by (by exact rfl : T 22 = some _) (by simp)
    intro fr hfr hsl
    have s0 := hsl 0 _ rfl
    simp only [Tm.av, Tm.cells_mk] at s0
    simp -implicitDefEqProofs [hfr, s0, get_base0, get_base, set_base0, set_base, -getElem?_pos, List.getElem?_cons_zero, List.getElem?_cons_succ]
    rw [← hB]
    apply lp _ _ (by simp [hfr]) (by simp [hfr]) (by simp [hfr]) (by simp [hfr]) (by simp [hfr])
    clear lp hfr s0 hsl
    intro fr v o hfr q2 q3 G hlo g1 g2
    have hone : AV.one v = true := by rcases G.G with rfl | ⟨r, r1, rfl, r2⟩ <;> rfl
    have l1 : o0.length + 1 < o.length := by omega
    have G2 : Gx 24 4 (o0.length + 3) (o.set (o0.length + 1) (Obj.arr 24 4 [[.int .i64 a, .str s, .int .i64 b, v]])) v (l.map Tm.cells) := by
      refine ⟨?_, G.nil⟩
      rcases G.G with hv | ⟨r, r1, hv, r2⟩
      · exact .inl hv
      · exact .inr ⟨r, r1, hv, by rw [List.getElem?_set_ne (by omega)]; exact r2⟩
    have hh := gx_hand0 G2 (show o0.length ≤ _ by omega) (flat_list l)
    have hcv : hand0 o0.length (o.set (o0.length + 1) (Obj.arr 24 4 [[.int .i64 a, .str s, .int .i64 b, v]])) v = some (.sl 4 (l.map Tm.cells)) := hh
    simp -implicitDefEqProofs [-hand0, hfr, q2, q3, g1, g2, hone, l1, getO_set, hcv, hand0_int, hand0_str, Tm.av, Tm.cells_mk, -getElem?_pos, List.getElem?_cons_zero]
termination_by t => SizeOf.sizeOf t
decreasing_by
  have := List.sizeOf_lt_of_mem hu
  simp
  omega

/-! a writer -/

/-- cells whose Args, so deep, lie between b and B -/
def WfC (o : List Obj) (b B : Nat) : Nat → List AV → Prop
  | 0, e => ∃ x y z w, e = [x, y, z, w] ∧ AV.one x = true ∧ AV.one y = true ∧ AV.one z = true ∧ (w = .fsl 4 [] ∨ w = .sl 4 [])
  | d + 1, e => ∃ x y z w, e = [x, y, z, w] ∧ AV.one x = true ∧ AV.one y = true ∧ AV.one z = true ∧ ((w = .fsl 4 [] ∨ w = .sl 4 []) ∨
      ∃ r es, b ≤ r ∧ r < B ∧ w = .own r 0 es.length false ∧ o[r]? = some (.arr 24 4 es) ∧ es.length ≤ 4294967296 ∧ ∀ e' ∈ es, WfC o b B d e')

def leaf : List AV := [.int .i64 (-1), .str ⟨#[115, 112, 111, 105, 108, 116]⟩, .int .i64 0, .fsl 4 []]

/-- only arrays between b and B were written to, and leaves alone -/
structure Pres (b B : Nat) (o o' : List Obj) : Prop where
  le : o.length ≤ o'.length
  out : ∀ i, i < o.length → ¬ (b ≤ i ∧ i < B) → o'[i]? = o[i]?
  arr : ∀ r es, b ≤ r → r < B → o[r]? = some (.arr 24 4 es) → ∃ es', o'[r]? = some (.arr 24 4 es') ∧ es'.length = es.length ∧ ∀ e ∈ es', e ∈ es ∨ e = leaf

theorem Pres.push (b B : Nat) (o : List Obj) (m : List Obj) : Pres b B o (o ++ m) :=
  ⟨by simp, fun i hi _ => List.getElem?_append_left hi, fun r es _ _ h => ⟨es, getO_push h _, rfl, fun e he => .inl he⟩⟩

theorem Pres.trans {b B : Nat} {o o1 o2 : List Obj} (h : Pres b B o o1) (k : Pres b B o1 o2) : Pres b B o o2 :=
  ⟨Nat.le_trans h.le k.le, fun i hi hb => by rw [k.out i (Nat.lt_of_lt_of_le hi h.le) hb, h.out i hi hb], fun r es h1 h2 h3 => by
    obtain ⟨es1, a1, a2, a3⟩ := h.arr r es h1 h2 h3
    obtain ⟨es2, b1, b2, b3⟩ := k.arr r es1 h1 h2 a1
    refine ⟨es2, b1, by omega, fun e he => ?_⟩
    rcases b3 e he with he | he
    · exact a3 e he
    · exact .inr he⟩

theorem Pres.set {b B r : Nat} {o : List Obj} {es : List (List AV)} (h1 : b ≤ r) (h2 : r < B) (h : o[r]? = some (.arr 24 4 es)) (i : Nat) : Pres b B o (o.set r (.arr 24 4 (es.set i leaf))) := by
  refine ⟨by simp, fun j hj hb => by rw [List.getElem?_set_ne (by omega)], fun r' es' k1 k2 k3 => ?_⟩
  by_cases e : r = r'
  · subst e
    rw [h] at k3
    simp only [Option.some.injEq, Obj.arr.injEq, true_and] at k3
    subst k3
    refine ⟨_, getO_set (lt_of_getO h), by simp, fun e he => ?_⟩
    rcases List.mem_or_eq_of_mem_set he with he | he
    · exact .inl he
    · exact .inr he
  · exact ⟨es', by rw [List.getElem?_set_ne e]; exact k3, rfl, fun e he => .inl he⟩

theorem leaf_wf (o : List Obj) (b B : Nat) (d : Nat) : WfC o b B d leaf := by
  cases d with
  | zero => simp only [WfC]; exact ⟨_, _, _, _, rfl, rfl, rfl, rfl, .inl rfl⟩
  | succ d => simp only [WfC]; exact ⟨_, _, _, _, rfl, rfl, rfl, rfl, .inl (.inl rfl)⟩

theorem WfC.pres {b B : Nat} {o o' : List Obj} (P : Pres b B o o') : ∀ (d : Nat) (e : List AV), WfC o b B d e → WfC o' b B d e
  | 0, e, h => by simpa only [WfC] using h
  | d + 1, e, h => by
    simp only [WfC] at h ⊢
    obtain ⟨x, y, z, w, h1, h2, h3, h4, h5⟩ := h
    refine ⟨x, y, z, w, h1, h2, h3, h4, ?_⟩
    rcases h5 with h5 | ⟨r, es, k1, k2, k3, k4, k6, k5⟩
    · exact .inl h5
    · obtain ⟨es', a1, a2, a3⟩ := P.arr r es k1 k2 k4
      refine .inr ⟨r, es', k1, k2, by rw [k3, a2], a1, by omega, fun e' he => ?_⟩
      rcases a3 e' he with he | he
      · exact WfC.pres P d e' (k5 e' he)
      · rw [he]; exact leaf_wf _ _ _ _

theorem WfC.can {o : List Obj} {b B d : Nat} {e : List AV} (h : WfC o b B d e) : WfC o b B d (canL e) := by
  have one1 : ∀ x : AV, AV.one x = true → AV.one (can1 x) = true := fun x hx => by cases x <;> first | rfl | exact hx
  cases d with
  | zero =>
    simp only [WfC] at h ⊢
    obtain ⟨x, y, z, w, rfl, h2, h3, h4, h5⟩ := h
    exact ⟨_, _, _, _, rfl, one1 x h2, one1 y h3, one1 z h4, by rcases h5 with rfl | rfl <;> exact .inr rfl⟩
  | succ d =>
    simp only [WfC] at h ⊢
    obtain ⟨x, y, z, w, rfl, h2, h3, h4, h5⟩ := h
    refine ⟨_, _, _, _, rfl, one1 x h2, one1 y h3, one1 z h4, ?_⟩
    rcases h5 with (rfl | rfl) | ⟨r, es, k1, k2, rfl, k4, k6, k5⟩
    · exact .inl (.inr rfl)
    · exact .inl (.inr rfl)
    · exact .inr ⟨r, es, k1, k2, rfl, k4, k6, k5⟩

theorem spoil_nil (b B ro : Nat) (x y z w : AV) (hx : AV.one x = true) (hy : AV.one y = true) (hz : AV.one z = true) (hw : w = .fsl 4 [] ∨ w = .sl 4 []) (o : List Obj) (df : List Nat) :
    ∃ o', (D T).call 24 [.agg [x, y, z, w]] ⟨o, ro, df⟩ = some (.tup [], ⟨o', ro, df⟩) ∧ Pres b B o o' := by
  suffices hh : ∃ v st', (D T).call 24 [.agg [x, y, z, w]] ⟨o, ro, df⟩ = some (v, st') ∧ (fun v st' => ∃ o', v = .tup [] ∧ st' = ⟨o', ro, df⟩ ∧ Pres b B o o') v st' by
    obtain ⟨_, _, h1, o', rfl, rfl, h2⟩ := hh
    exact ⟨o', h1, h2⟩
  have hwo : AV.one w = true := by rcases hw with rfl | rfl <;> rfl
  have hlw : lenOf w = some 0 := by rcases hw with rfl | rfl <;> rfl
  apply call_for (by exact rfl : T 24 = some _) (by simp)
  intro fr hfr hsl
  have s0 := hsl 0 _ rfl
  simp -implicitDefEqProofs [hfr, s0, hx, hy, hz, hwo]
  apply loop_inv L24_0.eq_1 (fun _ => 0) (fun (_ : Unit) fr st => fr.length = 21 ∧ slot fr 1 = .ptr o.length 0 0 ∧ slot fr 2 = .int .i64 0 ∧ st = ⟨o ++ [.arr 24 4 [[x, y, z, w]]], ro, []⟩) ?_ () ⟨by simp [hfr], by simp [hfr], by simp [hfr], rfl⟩
  rintro _ fr _ ⟨hfr, q1, q2, rfl⟩
  simp -implicitDefEqProofs [hfr, q1, q2, hlw, get_base0, -getElem?_pos, List.getElem?_cons_zero]
  exact Pres.push _ _ _ _

theorem spoil_eq (b B ro : Nat) (hb : ro ≤ b) : ∀ (d : Nat) (e : List AV) (o : List Obj) (df : List Nat), WfC o b B d e → B ≤ o.length → ro ≤ o.length →
    ∃ o', (D T).call 24 [.agg e] ⟨o, ro, df⟩ = some (.tup [], ⟨o', ro, df⟩) ∧ Pres b B o o' := by
  intro d
  induction d with
  | zero =>
    intro e o df h hB hro
    simp only [WfC] at h
    obtain ⟨x, y, z, w, rfl, hx, hy, hz, hw⟩ := h
    exact spoil_nil b B ro x y z w hx hy hz hw o df
  | succ d ih =>
    intro e o df h hB hro
    simp only [WfC] at h
    obtain ⟨x, y, z, w, rfl, hx, hy, hz, hw | ⟨r, es, k1, k2, rfl, k4, k6, k5⟩⟩ := h
    · exact spoil_nil b B ro x y z w hx hy hz hw o df
    suffices hh : ∃ v st', (D T).call 24 [.agg [x, y, z, .own r 0 es.length false]] ⟨o, ro, df⟩ = some (v, st') ∧ (fun v st' => ∃ o', v = .tup [] ∧ st' = ⟨o', ro, df⟩ ∧ Pres b B o o') v st' by
      obtain ⟨_, _, h1, o', rfl, rfl, h2⟩ := hh
      exact ⟨o', h1, h2⟩
    apply call_for (by exact rfl : T 24 = some _) (by simp)
    intro fr hfr hsl
    have s0 := hsl 0 _ rfl
    obtain ⟨X, hX⟩ : ∃ X, X = Obj.arr 24 4 [[x, y, z, .own r 0 es.length false]] := ⟨_, rfl⟩
    simp -implicitDefEqProofs [hfr, s0, hx, hy, hz]
    rw [← hX]
    apply loop_inv L24_0.eq_1 (fun i => es.length - i) (fun (i : Nat) fr st => ∃ o', fr.length = 21 ∧ slot fr 1 = .ptr o.length 0 0 ∧ slot fr 2 = .int .i64 (i : Int) ∧ st = ⟨o', ro, []⟩ ∧ Pres b B (o ++ [X]) o') ?_ 0 ⟨_, by simp [hfr], by simp [hfr], by simp [hfr], rfl, by
      have := Pres.push b B (o ++ [X]) []
      simpa using this⟩
    clear hfr s0 hsl
    rintro i fr _ ⟨o1, hfr, q1, q2, rfl, P⟩
    have le1 := P.le
    simp only [List.length_append, List.length_cons, List.length_nil, Nat.zero_add] at le1
    have g0 := P.out o.length (by simp) (by omega)
    simp only [List.getElem?_concat_length] at g0
    rw [hX] at g0
    by_cases hi : i < es.length
    · obtain ⟨es1, a1, a2, a3⟩ := P.arr r es k1 k2 (getO_push k4 _)
      have W0 : ∀ e' ∈ es1, WfC o1 b B d e' := fun e' he => by
        rcases a3 e' he with h | h
        · exact WfC.pres ((Pres.push b B o [X]).trans P) d e' (k5 e' h)
        · rw [h]; exact leaf_wf _ _ _ _
      obtain ⟨ei, hei⟩ : ∃ ei, es1[i]? = some ei := ⟨_, List.getElem?_eq_getElem (by omega)⟩
      have Wi := W0 ei (List.mem_of_getElem? hei)
      have hl4 : ei.length = 4 := by
        cases d with
        | zero => simp only [WfC] at Wi; obtain ⟨_, _, _, _, rfl, _⟩ := Wi; rfl
        | succ d => simp only [WfC] at Wi; obtain ⟨_, _, _, _, rfl, _⟩ := Wi; rfl
      obtain ⟨o2, hc, P2⟩ := ih (canL ei) o1 [] Wi.can (by omega) (by omega)
      obtain ⟨es2, b1, b2, b3⟩ := P2.arr r es1 k1 k2 a1
      have g2 := P2.out o.length (by omega) (by omega)
      rw [g0] at g2
      have hlt : (i : Int) < (es.length : Int) := by omega
      have hle : es.length ≤ es1.length := by omega
      have hle2 : es.length ≤ es2.length := by omega
      have hw : IntKind.i64.wrap ((i : Int) + 1) = ((i + 1 : Nat) : Int) := by
        rw [wrap_id] <;> omega
      have hrl : ro ≤ r := by omega
      have htk : ei.take 4 = ei := by rw [← hl4]; simp
      obtain ⟨fi, hfi⟩ : ∃ fi, es2[i]? = some fi := ⟨_, List.getElem?_eq_getElem (by omega)⟩
      have Wf2 : WfC o2 b B d fi := by
        rcases b3 fi (List.mem_of_getElem? hfi) with h | h
        · exact WfC.pres P2 d fi (W0 fi h)
        · rw [h]; exact leaf_wf _ _ _ _
      obtain ⟨f0, f1, f2, f3, rfl⟩ : ∃ f0 f1 f2 f3, fi = [f0, f1, f2, f3] := by
        cases d with
        | zero => simp only [WfC] at Wf2; obtain ⟨_, _, _, _, rfl, _⟩ := Wf2; exact ⟨_, _, _, _, rfl⟩
        | succ d => simp only [WfC] at Wf2; obtain ⟨_, _, _, _, rfl, _⟩ := Wf2; exact ⟨_, _, _, _, rfl⟩
      simp -implicitDefEqProofs [hfr, q1, q2, g0, g2, a1, b1, hei, hfi, hlt, hle, hle2, hl4, htk, hi, hc, hw, hrl, -getElem?_pos, List.getElem?_cons_zero]
      exact ⟨i + 1, by omega, by omega, (P.trans P2).trans (Pres.set k1 k2 b1 i)⟩
    · have hlt : ¬ ((i : Int) < (es.length : Int)) := by omega
      simp -implicitDefEqProofs [hfr, q1, q2, g0, hlt, hi, -getElem?_pos, List.getElem?_cons_zero]
      exact (Pres.push b B o [X]).trans P

/-! terms in memory of their own are such -/

mutual
def Tm.dep : Tm → Nat
  | .mk _ _ _ l => depL l + 1
def depL : List Tm → Nat
  | [] => 0
  | t :: l => max t.dep (depL l)
end

mutual
theorem RT.wf {o : List Obj} {b B : Nat} : ∀ (t : Tm) (cs : List AV) (d : Nat), t.all.length ≤ 4294967296 → RT o (fun r => b ≤ r ∧ r < B) t cs → t.dep ≤ d → WfC o b B d cs
  | .mk a s n l, cs, 0, hn, h, hd => by simp [Tm.dep] at hd
  | .mk a s n l, cs, d + 1, hn, h, hd => by
    simp only [RT] at h
    simp only [Tm.dep] at hd
    simp only [Tm.all, List.length_cons] at hn
    obtain ⟨v, es, rfl, h2, h3⟩ := h
    have hle := le_allV l
    have hlen := h3.len
    simp only [WfC]
    refine ⟨_, _, _, _, rfl, rfl, rfl, rfl, ?_⟩
    rcases h2 with ⟨h2, _⟩ | ⟨r, h4, h5, h6⟩
    · exact .inl h2
    · exact .inr ⟨r, es, h4.1, h4.2, h5, h6, by omega, RE.wf l es d (by omega) h3 (by omega)⟩
theorem RE.wf {o : List Obj} {b B : Nat} : ∀ (l : List Tm) (es : List (List AV)) (d : Nat), (allL l).length ≤ 4294967296 → RE o (fun r => b ≤ r ∧ r < B) l es → depL l ≤ d → ∀ e ∈ es, WfC o b B d e
  | [], es, d, _, h, _, e, he => by
    simp only [RE] at h
    subst h
    simp at he
  | t :: l, es, d, hn, h, hd, e, he => by
    simp only [RE] at h
    simp only [depL] at hd
    simp only [allL, List.length_append] at hn
    obtain ⟨e1, es', rfl, h2, h3⟩ := h
    rcases List.mem_cons.1 he with rfl | he
    · exact RT.wf t e d (by omega) h2 (by omega)
    · exact RE.wf l es' d (by omega) h3 (by omega) e he
end

end Go.Proofs.Ytcoonnbkmklenaa.A
