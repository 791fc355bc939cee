/- The loose numbers, put among rising ones: the document's. -/
import Derived.Test.YtjmhkbnhfpgciaaB11
import Derived.Test.YtjmhkbnhfpgciaaB5
namespace Go.Proofs.Ytjmhkbnhfpgciaa.A
open Go
set_option maxRecDepth 10000
set_option linter.unusedSimpArgs false
attribute [-simp] List.all_eq_true put slot_def ld idxA lenOf elems canA app hand

def goI (n : Int) : Bool → List Int → List Int
  | b, [] => bif b then [] else [n]
  | b, x :: l => bif !b && decide (n < x) then n :: x :: goI n true l else x :: goI n b l
def hasI (n : Int) (l : List Int) : Bool := l.any fun x => x == n
/-- a number put among rising ones -/
def putI (l : List Int) (n : Int) : List Int := bif hasI n l then l else goI n false l

theorem goI_len (n : Int) : ∀ (l : List Int) (b : Bool), (goI n b l).length ≤ l.length + 1
  | [], b => by cases b <;> simp [goI]
  | x :: l, b => by
    have h1 := goI_len n l b
    have h2 : ∀ l, (goI n true l).length = l.length := by
      intro l
      induction l with
      | nil => rfl
      | cons y l ih => simp [goI, ih]
    simp only [goI]
    cases (!b && decide (n < x)) <;> simp [h2] <;> omega
theorem putI_len (n : Int) (l : List Int) : (putI l n).length ≤ l.length + 1 := by
  unfold putI
  cases hasI n l
  · exact goI_len n l false
  · simp

/-- a list of numbers by value, or the literal while it is empty -/
def Iv (v : AV) (l : List Int) : Prop := v = .sl 1 (intA l) ∨ (v = .fsl 1 [] ∧ l = [])
theorem Iv.hand {v : AV} {l : List Int} (h : Iv v l) (n : Nat) (o : List Obj) : hand n o v = some (.sl 1 (intA l)) := by
  rcases h with rfl | ⟨rfl, rfl⟩
  · simp
  · simp [intA]
theorem Iv.can {v : AV} {l : List Int} (h : Iv v l) : canA v = v := by
  rcases h with rfl | ⟨rfl, rfl⟩ <;> rfl
theorem Iv.len {v : AV} {l : List Int} (h : Iv v l) : lenOf v = some l.length := by
  rcases h with rfl | ⟨rfl, rfl⟩ <;> simp [lenOf, intA]
theorem iv_sl (l : List Int) : Iv (.sl 1 (intA l)) l := .inl rfl

theorem put_loop {v : AV} {l : List Int} (hv : Iv v l) (n : Int) (hl : l.length ≤ 4294967296) (o0 : List Obj) (fr : List AV) (Q : AE → List AV → St → Prop) (hfr : fr.length = 49) (q0 : slot fr 0 = v) (q1 : slot fr 1 = .int .i64 n) (q5 : slot fr 5 = .fsl 1 []) (q6 : slot fr 6 = .bool false) (q7 : slot fr 7 = .int .i64 0)
    (k1 : ∀ (fr' : List AV) v' out b o', fr'.length = 49 → slot fr' 1 = .int .i64 n → slot fr' 5 = v' → slot fr' 6 = .bool b → hasI n l = false → goI n false l = out ++ (bif b then [] else [n]) → Gx 3 1 o0.length o' v' (intA out) → out.length ≤ l.length + 1 → o0.length ≤ o'.length → Q (.exit 0) fr' ⟨o', o0.length, []⟩)
    (k2 : ∀ (fr' : List AV) o', fr'.length = 49 → slot fr' 4 = v → hasI n l = true → Q .ret fr' ⟨o', o0.length, []⟩) :
    ∃ e fr' st', (D T).loop false L63_0 fr ⟨o0, o0.length, []⟩ = some (e, fr', st') ∧ Q e fr' st' := by
  have hlen := hv.len
  have hcan := hv.can
  apply loop_inv L63_0.eq_1 List.length (fun (rest : List Int) fr st => ∃ pre v' out b o', l = pre ++ rest ∧ fr.length = 49 ∧ slot fr 0 = v ∧ slot fr 1 = .int .i64 n ∧ slot fr 5 = v' ∧ slot fr 6 = .bool b ∧ slot fr 7 = .int .i64 (pre.length : Int) ∧
      st = ⟨o', o0.length, []⟩ ∧ hasI n l = hasI n rest ∧ goI n false l = out ++ goI n b rest ∧ Gx 3 1 o0.length o' v' (intA out) ∧ out.length = pre.length + b.toNat ∧ o0.length ≤ o'.length) ?_ l
      ⟨[], .fsl 1 [], [], false, o0, rfl, hfr, q0, q1, q5, q6, q7, rfl, rfl, rfl, ⟨.inl rfl, fun _ => rfl⟩, by simp, Nat.le_refl _⟩
  clear hfr q0 q1 q5 q6 q7
  rintro rest fr _ ⟨pre, v', out, b, o', e, hfr, q0, q1, q5, q6, q7, rfl, hh, hg, G, hol, hlo⟩
  have hgc := gx_canA G
  cases rest with
  | nil =>
    have hlt := idx_end e
    have ee : l = pre := by simpa using e
    simp -implicitDefEqProofs [hfr, q0, q1, q5, q6, q7, hlen, hcan, hlt]
    exact k1 _ v' out b o' (by simp [hfr]) (by simp [hfr, q1]) (by simp [hfr, q5]) (by simp [hfr, q6]) (by rw [hh]; rfl) hg G (by rw [ee]; cases b <;> simp at hol <;> omega) hlo
  | cons x rest =>
    obtain ⟨hlt, hgx, hpl⟩ := idx_at e
    have hg' := intA_get hgx
    have hw := idx_next e (show l.length ≤ 9223372036854775807 by omega)
    have hol2 : out.length ≤ pre.length + 1 := by cases b <;> simp at hol <;> omega
    have hvs : v = .sl 1 (intA l) := by
      rcases hv with h | ⟨_, h⟩
      · exact h
      · rw [h] at e; simp at e
    subst hvs
    by_cases hx : x = n
    · simp -implicitDefEqProofs [hfr, q0, q1, q5, q6, q7, hlt, hg', hx]
      exact k2 _ o' (by simp [hfr]) (by simp [hfr]) (by rw [hh]; simp [hasI, hx])
    · have hxb : (x == n) = false := by simpa using hx
      have hh' : hasI n l = hasI n rest := by rw [hh]; simp [hasI, hxb]
      by_cases hb : (!b && decide (n < x)) = true
      · have hb1 : b = false := by cases b <;> simp at hb ⊢
        have hb2 : n < x := by cases b <;> simp at hb; exact hb
        subst hb1
        obtain ⟨o1, a1, c1, W1⟩ := gx_appw G (ro := o0.length) (df := []) (bytes := 8) (Nat.le_refl _) hlo (elems_fsl _ 1 [[.int .i64 n]]) (room_of0 (by simp; omega) (by simp; omega))
        obtain ⟨o2, a2, c2, W2⟩ := gx_appw W1.G (ro := o0.length) (df := []) (bytes := 8) (Nat.le_refl _) (by omega) (elems_fsl _ 1 [[.int .i64 x]]) (room_of0 (by simp; omega) (by simp; omega))
        simp only [intA_len, List.length_cons, List.length_nil, Nat.zero_add, List.length_append] at a1 a2 W1 W2
        simp -implicitDefEqProofs [hfr, q0, q1, q5, q6, q7, hlt, hg', hx, hxb, hw, hb2, hgc, a1, a2]
        refine ⟨rest, by simp, pre ++ [x], by simp [e], by simp, hh', out ++ [n, x], by rw [hg]; simp [goI, hb2], ?_, by simp at hol; simp [hol], by omega⟩
        have := W2.G
        simpa [intA] using this
      · obtain ⟨o1, a1, c1, W1⟩ := gx_appw G (ro := o0.length) (df := []) (bytes := 8) (Nat.le_refl _) hlo (elems_fsl _ 1 [[.int .i64 x]]) (room_of0 (by simp; omega) (by simp; omega))
        simp only [intA_len, List.length_cons, List.length_nil, Nat.zero_add, List.length_append] at a1 W1
        have hgo : goI n b (x :: rest) = x :: goI n b rest := by
          simp only [goI]
          cases h : (!b && decide (n < x)) with
          | true => exact absurd h hb
          | false => rfl
        cases b with
        | true =>
          simp -implicitDefEqProofs [hfr, q0, q1, q5, q6, q7, hlt, hg', hx, hxb, hw, hgc, a1]
          refine ⟨rest, by simp, pre ++ [x], by simp [e], by simp, hh', out ++ [x], by rw [hg, hgo]; simp, ?_, by simp at hol; simp [hol], by omega⟩
          have := W1.G
          simpa [intA] using this
        | false =>
          have hb2 : ¬ n < x := by simpa using hb
          simp -implicitDefEqProofs [hfr, q0, q1, q5, q6, q7, hlt, hg', hx, hxb, hw, hb2, hgc, a1]
          refine ⟨rest, by simp, pre ++ [x], by simp [e], by simp, hh', out ++ [x], by rw [hg, hgo]; simp, ?_, by simp at hol; simp [hol], by omega⟩
          have := W1.G
          simpa [intA] using this

theorem puti_eq {v : AV} {l : List Int} (hv : Iv v l) (n : Int) (hl : l.length ≤ 4294967296) (st : St) : (D T).call 63 [v, .int .i64 n] st = some (.sl 1 (intA (putI l n)), st) := by
  obtain ⟨o0, ro, df⟩ := st
  apply call_by (by exact rfl : T 63 = some _) (by simp)
  intro fr hfr hsl
  have s0 := hsl 0 _ rfl
  have s1 := hsl 1 _ rfl
  simp -implicitDefEqProofs [hfr, s0, s1]
  apply put_loop hv n hl o0 _ _ (by simp [hfr]) (by simp [hfr, s0]) (by simp [hfr, s1]) (by simp [hfr]) (by simp [hfr]) (by simp [hfr])
  · clear hfr s0 s1 hsl
    intro fr v' out b o' hfr q1 q5 q6 hh hg G hol hlo
    have hgc := gx_canA G
    have hp : putI l n = out ++ (bif b then [] else [n]) := by rw [putI, hh, cond_false, hg]
    rw [hp]
    cases b with
    | true =>
      have hd := gr_hand G.G (Nat.le_refl _) (intA_flat _)
      simp -implicitDefEqProofs [hfr, q1, q5, q6, hgc, hd]
    | false =>
      obtain ⟨o1, a1, c1, W1⟩ := gx_appw G (ro := o0.length) (df := []) (bytes := 8) (Nat.le_refl _) hlo (elems_fsl _ 1 [[.int .i64 n]]) (room_of0 (by simp; omega) (by simp; omega))
      simp only [intA_len, List.length_cons, List.length_nil, Nat.zero_add, List.length_append] at a1 W1
      have hd := gr_hand W1.G.G (Nat.le_refl _) (by have := intA_flat (out ++ [n]); simpa [intA] using this)
      simp -implicitDefEqProofs [hfr, q1, q5, q6, hgc, a1, hd]
      simp [intA]
  · clear hfr s0 s1 hsl
    intro fr o' hfr q4 hh
    have hd := hv.hand
    rw [putI, hh, cond_true]
    simp -implicitDefEqProofs [hfr, q4, hd]

theorem foldI_len : ∀ (V l : List Int), (V.foldl putI l).length ≤ l.length + V.length
  | [], l => Nat.le_refl _
  | s :: V, l => by
    have h1 := foldI_len V (putI l s)
    have h2 := putI_len s l
    simp only [List.foldl_cons, List.length_cons] at *
    omega

theorem looseIn_eq : ∀ (t : Tm), t.ok → ∀ (v : AV) (l : List Int) (k : Nat) (st : St), k ≤ 4294967296 → Iv v l → l.length + t.all.length ≤ 4294967295 →
    ∃ v', (D T).call 48 [v, t.av, .int .i64 (k : Int)] st = some (v', st) ∧ v' = .sl 1 (intA ((lsT k t).foldl putI l))
  | .mk a s b ts, hok, v, l, k, ⟨o, ro, df⟩, hk, hv, hl => by
    refine ⟨_, ?_, rfl⟩
    simp only [Tm.ok] at hok
    have hts := okL_iff.1 hok.2.2.2.2
    have hmx : ts.length ≤ 9223372036854775807 := Nat.le_trans hok.2.2.2.1 (by decide)
    have ih := fun t (ht : t ∈ ts) v l st => looseIn_eq t (hts t ht) v l k st hk
    simp only [Tm.all, List.length_cons] at hl
    obtain ⟨st1, hst1⟩ : ∃ st1 : St, st1 = ⟨o ++ [Obj.arr 27 4 [[.int .i64 a, .str s, .int .i64 b, .sl 4 (ts.map Tm.cells)]]], o.length, []⟩ := ⟨_, rfl⟩
    have lp : ∀ (fr : List AV) (v1 : AV) (l1 : List Int), fr.length = 39 → slot fr 0 = v1 → slot fr 2 = .int .i64 (k : Int) → slot fr 4 = .ptr o.length 0 0 → slot fr 7 = .int .i64 0 → Iv v1 l1 → l1.length + (allL ts).length ≤ 4294967295 → (lsT k (.mk a s b ts)).foldl putI l = (lsTL k ts).foldl putI l1 → ∀ Q : AE → List AV → St → Prop,
        (∀ (fr' : List AV) v', fr'.length = 39 → slot fr' 0 = v' → Iv v' ((lsT k (.mk a s b ts)).foldl putI l) → Q (.exit 0) fr' st1) →
        ∃ e fr' st', (D T).loop false L48_0 fr st1 = some (e, fr', st') ∧ Q e fr' st' := by
      intro fr v1 l1 hfr q0 q2 q4 q7 hv1 hl1 hp0 Q kk
      apply loop_inv L48_0.eq_1 List.length (fun (rest : List Tm) fr st => ∃ pre v2 l2, ts = pre ++ rest ∧ fr.length = 39 ∧ slot fr 0 = v2 ∧ slot fr 2 = .int .i64 (k : Int) ∧ slot fr 4 = .ptr o.length 0 0 ∧ slot fr 7 = .int .i64 (pre.length : Int) ∧ st = st1 ∧
        Iv v2 l2 ∧ (lsT k (.mk a s b ts)).foldl putI l = (lsTL k rest).foldl putI l2 ∧ l2.length + (allL rest).length ≤ 4294967295) ?_ ts ⟨[], v1, l1, rfl, hfr, q0, q2, q4, q7, rfl, hv1, hp0, hl1⟩
      clear q0 q2 q4 q7 hfr hv1 hl1 hp0 v1 l1
      rintro rest fr _ ⟨pre, v1, l1, e, hfr, q0, q2, q4, q7, rfl, hv1, hp, hl1⟩
      have hcan := hv1.can
      cases rest with
      | nil =>
        have hlt := idx_end e
        simp only [lsTL, List.foldl_nil] at hp
        subst hst1
        simp -implicitDefEqProofs [hfr, q0, q2, q4, q7, hlt, get_base0, -getElem?_pos, List.getElem?_cons_zero]
        exact kk _ v1 (by simp [hfr]) (by simp [hfr, q0]) (by rw [hp]; exact hv1)
      | cons x rest =>
        obtain ⟨hlt, hg, _⟩ := idx_at e
        have hw := idx_next e hmx
        simp only [allL, lsTL, List.foldl_append, List.length_append] at hp hl1
        have hcall : ∀ st, (D T).call 48 [v1, x.av, .int .i64 (k : Int)] st = some (.sl 1 (intA ((lsT k x).foldl putI l1)), st) := fun st => by
          obtain ⟨_, h, rfl⟩ := ih x (by simp [e]) v1 l1 st hv1 (by omega)
          exact h
        simp only [Tm.av] at hcall
        subst hst1
        simp -implicitDefEqProofs [hfr, q0, q2, q4, q7, hlt, hg, hw, hcan, hcall, get_base0, -getElem?_pos, List.getElem?_cons_zero]
        refine ⟨rest, by simp, pre ++ [x], by simp [e], by simp, _, iv_sl _, hp, ?_⟩
        have h1 := foldI_len (lsT k x) l1
        have h2 := lsT_len k x
        omega
    apply call_by (by exact rfl : T 48 = some _) (by simp)
    intro fr hfr hsl
    have s0 := hsl 0 _ rfl
    have s1 := hsl 1 _ rfl
    have s2 := hsl 2 _ rfl
    simp only [Tm.av, Tm.cells_mk] at s1
    have hcan := hv.can
    have fin : ∀ (fr' : List AV) v', fr'.length = 39 → slot fr' 0 = v' → Iv v' ((lsT k (.mk a s b ts)).foldl putI l) → run (D T) false (fin [ARes.tmp 6] true ⟨o, ro, df⟩ (fun v' s' => v' = .sl 1 (intA ((lsT k (.mk a s b ts)).foldl putI l)) ∧ s' = ⟨o, ro, df⟩)) [It.blk 0, It.c ((AC.ops [⟨some 38, AO.move (Opd.t 0), none⟩, ⟨some 6, AO.move (Opd.t 38), none⟩] false).seq AC.ret)] (.exit 0) fr' st1 := by
      intro fr v' hfr q0 hv
      have hh := hv.hand
      have hcan := hv.can
      subst hst1
      simp -implicitDefEqProofs [hfr, q0, hh, hcan]
    by_cases h2 : a = 2
    · subst h2
      by_cases h3 : (k : Int) ≤ b
      · have h3' : ¬ (b < (k : Int)) := by omega
        have hput := fun st => puti_eq hv (nOf k b) (by omega) st
        simp only [nOf] at hput
        simp -implicitDefEqProofs [hfr, s0, s1, s2, hput, hcan, h3, get_base0, -getElem?_pos, List.getElem?_cons_zero]
        rw [← hst1]
        exact lp _ (.sl 1 (intA (putI l (nOf k b)))) (putI l (nOf k b)) (by simp [hfr]) (by simp [hfr, nOf]) (by simp [hfr, s2]) (by simp [hfr]) (by simp [hfr]) (iv_sl _) (by have := putI_len (nOf k b) l; omega) (by simp [lsT, lq, h3']) _ fin
      · have h3' : b < (k : Int) := by omega
        simp -implicitDefEqProofs [hfr, s0, s1, s2, hcan, h3, get_base0, -getElem?_pos, List.getElem?_cons_zero]
        rw [← hst1]
        exact lp _ v l (by simp [hfr]) (by simp [hfr, s0]) (by simp [hfr, s2]) (by simp [hfr]) (by simp [hfr]) hv (by omega) (by simp [lsT, lq, h3']) _ fin
    · have h2' : (a == 2) = false := by simpa using h2
      simp -implicitDefEqProofs [hfr, s0, s1, s2, hcan, h2, h2', get_base0, -getElem?_pos, List.getElem?_cons_zero]
      rw [← hst1]
      exact lp _ v l (by simp [hfr]) (by simp [hfr, s0]) (by simp [hfr, s2]) (by simp [hfr]) (by simp [hfr]) hv (by omega) (by simp [lsT, lq, h2']) _ fin
termination_by t => SizeOf.sizeOf t
decreasing_by
  have := List.sizeOf_lt_of_mem ht
  simp
  omega

end Go.Proofs.Ytjmhkbnhfpgciaa.A
