/- The facts that a proof takes in: the document's function, and that it gives what the program's gives. -/
import Derived.Test.YtkecobdhgabknaaGreatDoorXH
import Derived.Test.YtkecobdhgabknaaGreatDoorXQ
import Derived.Test.YtkecobdhgabknaaGreatDoorE10P
namespace Go.Proofs.YtkecobdhgabknaaGreatDoor.A
open Go
set_option maxRecDepth 10000
set_option linter.unusedSimpArgs false
set_option linter.unusedVariables false
attribute [-simp] List.all_eq_true put slot_def ld idxA lenOf elems canA app hand slc

/-- a string put ahead of the first that is not less -/
def insX (s : ByteArray) : List ByteArray → List ByteArray
  | [] => [s]
  | x :: l => bif bytesLt x s then x :: insX s l else s :: x :: l
theorem insX_put (s : ByteArray) : ∀ l : List ByteArray, (l.any fun x => bytesEq x s) = false → insX s l = putX s l
  | [], _ => rfl
  | x :: l, h => by
    rw [List.any_cons, Bool.or_eq_false_iff] at h
    simp only [insX, putX, h.1, insX_put s l h.2, cond_false]
theorem put_has (s : ByteArray) : ∀ l : List ByteArray, Rise l → (l.any fun x => bytesEq x s) = true → putX s l = l
  | [], _, h => by cases h
  | x :: l, hr, h => by
    have hr' := List.pairwise_cons.1 hr
    simp only [putX]
    cases h1 : bytesLt x s with
    | true =>
      have h2 : bytesEq x s = false := by
        cases h2 : bytesEq x s with
        | false => rfl
        | true => rw [beq_eq.1 h2, bt_irr] at h1; cases h1
      rw [List.any_cons, h2, Bool.false_or] at h
      rw [cond_true, put_has s l hr'.2 h]
    | false =>
      cases h2 : bytesEq x s with
      | true => rfl
      | false =>
        rw [List.any_cons, h2, Bool.false_or] at h
        obtain ⟨y, hy, e⟩ := List.any_eq_true.1 h
        have := hr'.1 y hy
        rw [beq_eq.1 e, h1] at this; cases this

/-- a list of strings by value, the literal, or an own array -/
def Rl (b : Nat) (o : List Obj) (v : AV) (l : List ByteArray) : Prop := v = .sl 1 (strA l) ∨ (v = .fsl 1 [] ∧ l = []) ∨ ∃ q, v = .own q 0 l.length false ∧ o[q]? = some (.arr 9 1 (strA l)) ∧ b ≤ q
theorem Rl.ls {b : Nat} {o : List Obj} {v : AV} {l : List ByteArray} (h : Rl b o v l) : Ls o 1 v (strA l) := by
  rcases h with rfl | ⟨rfl, rfl⟩ | ⟨q, rfl, hq, hb⟩
  · exact ls_sl _
  · exact ls_fsl _
  · exact gr_ls (lo := 0) (ty := 9) (.inr ⟨q, Nat.zero_le _, by rw [strA_len], hq⟩)
theorem Rl.push {b : Nat} {o : List Obj} {v : AV} {l : List ByteArray} (h : Rl b o v l) (m : List Obj) : Rl b (o ++ m) v l := by
  rcases h with h | h | ⟨q, rfl, hq, hb⟩
  · exact .inl h
  · exact .inr (.inl h)
  · exact .inr (.inr ⟨q, rfl, getO_push hq _, hb⟩)
theorem Rl.agree {b : Nat} {o o' : List Obj} {v : AV} {l : List ByteArray} (h : Rl b o v l) (k : ∀ i, i < o.length → o'[i]? = o[i]?) : Rl b o' v l := by
  rcases h with h | h | ⟨q, rfl, hq, hb⟩
  · exact .inl h
  · exact .inr (.inl h)
  · exact .inr (.inr ⟨q, rfl, by rw [k q (lt_of_getO hq)]; exact hq, hb⟩)
theorem Rl.hand {b : Nat} {o o' : List Obj} {v : AV} {l : List ByteArray} (h : Rl b o' v l) (k : ∀ i, i < o.length → o'[i]? = o[i]?) : ∃ v', hand o.length o' v = some v' ∧ Rl b o v' l := by
  have hf := strA_flat l
  rcases h with rfl | ⟨rfl, rfl⟩ | ⟨q, rfl, hq, hb⟩
  · exact ⟨.sl 1 (strA l), by simp [Go.Proofs.YtkecobdhgabknaaGreatDoor.A.hand, hand1, hand0, AV.flat, hf], .inl rfl⟩
  · exact ⟨.sl 1 [], by simp [Go.Proofs.YtkecobdhgabknaaGreatDoor.A.hand, hand1, hand0, AV.flatLL], .inl rfl⟩
  · by_cases hlt : q < o.length
    · exact ⟨.own q 0 l.length false, by simp [Go.Proofs.YtkecobdhgabknaaGreatDoor.A.hand, hand1, hand0, hlt], .inr (.inr ⟨q, rfl, by rw [← k q hlt]; exact hq, hb⟩)⟩
    · have hn := strA_len l
      refine ⟨.sl 1 (strA l), ?_, .inl rfl⟩
      generalize strA l = I at *
      simp [Go.Proofs.YtkecobdhgabknaaGreatDoor.A.hand, hand1, hand0, hlt, hq, hf, ← hn]
theorem Rl.hi {b : Nat} {o : List Obj} {v : AV} {l : List ByteArray} (h : Rl b o v l) (n : Nat) (hn : n ≤ l.length) (ro : Nat) (df : List Nat) : ∃ w, slc ⟨o, ro, df⟩ 1 v none (some (.int .i64 (n : Int))) none = some w ∧ elems ⟨o, ro, df⟩ w = some (1, strA (l.take n)) := by
  rw [← strA_take]
  have hs := strA_len l
  rcases h with rfl | ⟨rfl, rfl⟩ | ⟨q, rfl, hq, hb⟩
  · exact ⟨_, slc_hi _ 1 (strA l) n (by rw [hs]; exact hn), rfl⟩
  · obtain rfl : n = 0 := by simpa using hn
    exact ⟨.fsl 1 [], by simp [slc, slcL, natB], rfl⟩
  · refine ⟨.own q 0 n false, by simp [slc, St.arr?, hq, natB, hn], ?_⟩
    generalize strA l = I at *
    simp [elems, St.arr?, hq]; omega
theorem Rl.lo {b : Nat} {o : List Obj} {v : AV} {l : List ByteArray} (h : Rl b o v l) (n : Nat) (hn : n ≤ l.length) (ro : Nat) (df : List Nat) : ∃ w, slc ⟨o, ro, df⟩ 1 v (some (.int .i64 (n : Int))) none none = some w ∧ elems ⟨o, ro, df⟩ w = some (1, strA (l.drop n)) := by
  rw [← strA_drop]
  have hs := strA_len l
  rcases h with rfl | ⟨rfl, rfl⟩ | ⟨q, rfl, hq, hb⟩
  · exact ⟨_, slc_lo _ 1 (strA l) n (by rw [hs]; exact hn), rfl⟩
  · obtain rfl : n = 0 := by simpa using hn
    exact ⟨.fsl 1 [], by simp [slc, slcL, natB], rfl⟩
  · refine ⟨.own q n (l.length - n) false, by simp [slc, St.arr?, hq, natB, hn], ?_⟩
    generalize strA l = I at *
    have e : (I.drop n).take (l.length - n) = I.drop n := List.take_of_length_le (by simp; omega)
    simp [elems, St.arr?, hq, e]; omega

theorem rfacts_eq {lo : Nat} : ∀ (p : Pf), p.ok → ∀ (o : List Obj) (V : AV) (l : List ByteArray), Rl lo o V l → lo ≤ o.length → Rise l → l.length + psz p ≤ 1000000 → ∀ (ro : Nat) (df : List Nat),
    ∃ v', (D T).call 33 [V, p.av] ⟨o, ro, df⟩ = some (v', ⟨o, ro, df⟩) ∧ Rl lo o v' ((fN p).foldl putF l)
  | .mk r h nw v b t c les chs cu ps, hok, o, V, l, hV, hlo, hrise, hn, ro, df => by
    simp only [Pf.ok] at hok
    obtain ⟨_, _, _, _, _, _, _, _, _, kps, ops⟩ := hok
    have hl := okPf_iff.1 ops
    unfold mxB at kps
    have mx : ps.length ≤ 9223372036854775807 := by omega
    simp only [psz] at hn
    have hp0 := pszL_pos ps
    have ml : l.length ≤ 9223372036854775807 := by omega
    have hlen0 : l.length ≤ 1000000 := by omega
    have ih := fun x (hx : x ∈ ps) o V l hV h0 hr hn => rfacts_eq (lo := lo) x (hl x hx) o V l hV h0 hr hn
    have hE : (fN (.mk r h nw v b t c les chs cu ps)).foldl putF l = (fNL ps).foldl putF (if r = 24 then putX h l else l) := by
      rw [fN, List.foldl_append]
      split <;> rfl
    generalize (fN (.mk r h nw v b t c les chs cu ps)).foldl putF l = R at hE ⊢
    obtain ⟨t0, t1, t2, t3⟩ := t
    obtain ⟨c0, c1, c2, c3, c4⟩ := c
    obtain ⟨kd, fr0, by0, dv, kk, ms, cs⟩ := cu
    simp only [Pf.av] at ih
    clear ops hl
    suffices hh : ∃ v1 st', (D T).call 33 [V, (Pf.mk r h nw v b (.mk t0 t1 t2 t3) (.mk c0 c1 c2 c3 c4) les chs (.mk kd fr0 by0 dv kk ms cs) ps).av] ⟨o, ro, df⟩ = some (v1, st') ∧ (fun v1 st' => st' = ⟨o, ro, df⟩ ∧ Rl lo o v1 R) v1 st' by
      obtain ⟨v1, _, h1, rfl, h2⟩ := hh
      exact ⟨v1, h1, h2⟩
    obtain ⟨B, hB⟩ : ∃ B, B = Obj.arr 42 24 [[.int .i64 r, .str h, .str nw, .str v, .bool b, .int .i64 t0, .str t1, .int .i64 t2, .sl 4 (t3.map Tm.cells), .int .i64 c0, .str c1, .str c2, .sl 4 (c3.map Tm.cells), .sl 5 (c4.map Cl.cells), .sl 8 (les.map Lm.cells), .sl 2 (chs.map Ch.cells),
      .int .i64 kd, .sl 1 (intA fr0), .sl 1 (intA by0), .int .i64 dv, .int .i64 kk, .sl 2 (moA ms), .sl 7 (cs.map Cu.cells), .sl 24 (ps.map Pf.cells)]] := ⟨_, rfl⟩
    -- the parts
    have lp : ∀ (fr : List AV) (o1 : List Obj) (V0 : AV) (l0 : List ByteArray) (Q : AE → List AV → St → Prop), fr.length = 63 → slot fr 0 = V0 → slot fr 3 = .ptr o.length 0 0 → slot fr 7 = .int .i64 0 →
        o1[o.length]? = some B → lo ≤ o1.length → Rl lo o1 V0 l0 → Rise l0 → l0.length + pszL ps ≤ 1000000 → R = (fNL ps).foldl putF l0 →
        (∀ (fr' : List AV) v', fr'.length = 63 → slot fr' 0 = v' → Rl lo o1 v' R → Q (.exit 2) fr' ⟨o1, o.length, []⟩) →
        ∃ e fr' st', (D T).loop false L33_1 fr ⟨o1, o.length, []⟩ = some (e, fr', st') ∧ Q e fr' st' := by
      intro fr o1 V0 l0 Q hfr q0 q3 q7 hbx hlo1 hV0 hr0 hn0 hR k
      apply loop_inv L33_1.eq_1 List.length (fun (rest : List Pf) fr st => ∃ pre V1 l1, ps = pre ++ rest ∧ fr.length = 63 ∧ slot fr 0 = V1 ∧ slot fr 3 = .ptr o.length 0 0 ∧ slot fr 7 = .int .i64 (pre.length : Int) ∧ st = ⟨o1, o.length, []⟩ ∧
        Rl lo o1 V1 l1 ∧ Rise l1 ∧ l1.length + pszL rest ≤ 1000000 ∧ R = (fNL rest).foldl putF l1) ?_ ps
        ⟨[], V0, l0, rfl, hfr, q0, q3, q7, rfl, hV0, hr0, hn0, hR⟩
      clear hfr q0 q3 q7 hV0 hr0 hn0 hR
      clear fr V0 l0
      rintro rest fr _ ⟨pre, V1, l1, e, hfr, q0, q3, q7, rfl, hV1, hr1, hsum, hR⟩
      have hcan1 := hV1.ls.can
      have hbx' := hbx
      rw [hB] at hbx'
      cases rest with
      | nil =>
        have hlt := idx_end e
        simp only [fNL, List.foldl_nil] at hR
        simp -implicitDefEqProofs [hfr, q0, q3, q7, hlt, hbx', -getElem?_pos, List.getElem?_cons_zero]
        exact k _ V1 (by simp [hfr]) (by simp [hfr, q0]) (by rw [hR]; exact hV1)
      | cons x rest =>
        obtain ⟨hlt, hg, hpl⟩ := idx_at e
        have hw := idx_next e mx
        have hx : x ∈ ps := by simp [e]
        have x1 := p_take x
        have x2 := p_can x
        have x3 := plen x
        have hr0 := pszL_pos rest
        have hx0 := psz_pos x
        simp only [pszL] at hsum
        rw [fNL, List.foldl_append] at hR
        obtain ⟨V2, hcall, hV2⟩ := ih x hx o1 V1 l1 hV1 hlo1 hr1 (by omega) o.length []
        have hl2 := putF_len (fN x) l1
        have hl3 := fN_len x
        have hr2 := (putF_spec (fN x) l1 hr1).1
        simp -implicitDefEqProofs [hfr, q0, q3, q7, hlt, hg, hpl, hw, hcan1, hcall, hbx', x1, x2, x3, -List.getElem_map, -getElem?_pos, List.getElem?_cons_zero]
        exact ⟨rest, by simp, pre ++ [x], by simp [e], by simp, _, hV2, hr2, by omega, hR⟩
    -- ahead of the first that is not less
    have lp0 : ∀ (fr : List AV) (Q : AE → List AV → St → Prop), fr.length = 63 → slot fr 0 = V → slot fr 3 = .ptr o.length 0 0 → slot fr 5 = .int .i64 0 →
        (∀ (fr' : List AV) pre rest, l = pre ++ rest → fr'.length = 63 → slot fr' 0 = V → slot fr' 3 = .ptr o.length 0 0 → slot fr' 5 = .int .i64 (pre.length : Int) → insX h l = pre ++ h :: rest → Q (.exit 0) fr' ⟨o ++ [B], o.length, []⟩) →
        ∃ e fr' st', (D T).loop false L33_0 fr ⟨o ++ [B], o.length, []⟩ = some (e, fr', st') ∧ Q e fr' st' := by
      intro fr Q hfr q0 q3 q5 k
      have L := hV.ls
      have hln := L.len
      rw [strA_len] at hln
      have g1 := fun (i : Nat) x (h : l[i]? = some x) => L.get [B] o.length [] i [.str x] (strA_get h) rfl
      clear L
      apply loop_inv L33_0.eq_1 List.length (fun (rest : List ByteArray) fr st => ∃ pre, l = pre ++ rest ∧ fr.length = 63 ∧ slot fr 0 = V ∧ slot fr 3 = .ptr o.length 0 0 ∧ slot fr 5 = .int .i64 (pre.length : Int) ∧ st = ⟨o ++ [B], o.length, []⟩ ∧ insX h l = pre ++ insX h rest) ?_ l
        ⟨[], rfl, hfr, q0, q3, q5, rfl, rfl⟩
      clear hfr q0 q3 q5
      rintro rest fr _ ⟨pre, e, hfr, q0, q3, q5, rfl, hp⟩
      rw [hB] at g1 ⊢
      cases rest with
      | nil =>
        have hlt := idx_end e
        simp -implicitDefEqProofs [hfr, q0, q3, q5, hln, hlt, get_base0, -getElem?_pos, List.getElem?_cons_zero]
        rw [← hB]
        exact k _ pre [] e (by simp [hfr]) (by simp [hfr, q0]) (by simp [hfr, q3]) (by simp [hfr, q5]) hp
      | cons x rest =>
        obtain ⟨hlt, hg, _⟩ := idx_at e
        obtain ⟨p, p1, p2⟩ := g1 _ _ hg
        have hw := idx_next e ml
        cases h1 : bytesLt x h with
        | true =>
          simp only [insX, h1, cond_true] at hp
          simp -implicitDefEqProofs [hfr, q0, q3, q5, hln, hlt, p1, p2, hw, h1, get_base0, -getElem?_pos, List.getElem?_cons_zero]
          exact ⟨rest, by simp, pre ++ [x], by simp [e], by simp, by simpa using hp⟩
        | false =>
          simp only [insX, h1, cond_false] at hp
          simp -implicitDefEqProofs [hfr, q0, q3, q5, hln, hlt, p1, p2, hw, h1, get_base0, -getElem?_pos, List.getElem?_cons_zero]
          rw [← hB]
          exact k _ pre (x :: rest) e (by simp [hfr]) (by simp [hfr, q0]) (by simp [hfr, q3]) (by simp [hfr, q5]) hp
    have fin : ∀ (o1 : List Obj) v', Rl lo o1 v' R → (∀ i, i < o.length → o1[i]? = o[i]?) → ∃ v1, hand o.length o1 v' = some v1 ∧ Rl lo o v1 R := fun o1 v' h k => h.hand k
    have hhas := fun ro df => bhas_eq (hV.push [B]).ls (by omega) h ro df
    have hcan := hV.ls.can
    have hbx0 : (o ++ [B])[o.length]? = some B := by simp
    apply call_for (by exact rfl : T 33 = some _) (by simp)
    intro fr hfr hsl
    have s0 := hsl 0 _ rfl
    have s1 := hsl 1 _ rfl
    simp only [Pf.av, Pf.cells_all] at s1
    by_cases z : r = 24
    rotate_left
    · rw [if_neg z] at hE
      have z' : (r == 24) = false := by simpa using z
      simp -implicitDefEqProofs [hfr, s0, s1, hcan, z, z', get_base0, -getElem?_pos, List.getElem?_cons_zero]
      rw [← hB]
      apply lp _ (o ++ [B]) V l _ (by simp [hfr]) (by simp [hfr, s0]) (by simp [hfr]) (by simp [hfr]) hbx0 (by simp; omega) (hV.push _) hrise (by omega) hE
      intro fr' v' g1 g2 g3
      obtain ⟨v1, e1, e2⟩ := fin _ _ g3 (fun i hi => List.getElem?_append_left hi)
      simp -implicitDefEqProofs [g1, g2, e1]
      exact e2
    rw [if_pos z] at hE
    cases hA : (l.any fun x => bytesEq x h) with
    | true =>
      rw [put_has h l hrise hA] at hE
      rw [hA] at hhas
      rw [hB] at hhas
      subst z
      simp -implicitDefEqProofs [hfr, s0, s1, hcan, hhas, get_base0, -getElem?_pos, List.getElem?_cons_zero]
      rw [← hB]
      apply lp _ (o ++ [B]) V l _ (by simp [hfr]) (by simp [hfr, s0]) (by simp [hfr]) (by simp [hfr]) hbx0 (by simp; omega) (hV.push _) hrise (by omega) hE
      intro fr' v' g1 g2 g3
      obtain ⟨v1, e1, e2⟩ := fin _ _ g3 (fun i hi => List.getElem?_append_left hi)
      simp -implicitDefEqProofs [g1, g2, e1]
      exact e2
    | false =>
      rw [← insX_put h l hA] at hE
      have hins : Rise (insX h l) := by rw [insX_put h l hA]; exact putX_rise h l hrise
      rw [hA] at hhas
      rw [hB] at hhas
      subst z
      simp -implicitDefEqProofs [hfr, s0, s1, hcan, hhas, get_base0, -getElem?_pos, List.getElem?_cons_zero]
      rw [← hB]
      apply lp0 _ _ (by simp [hfr]) (by simp [hfr, s0]) (by simp [hfr]) (by simp [hfr])
      clear hfr s0 s1 hsl lp0
      intro fr pre rest e hfr q0 q3 q5 hp
      rw [hp] at hE hins
      have hpl : pre.length ≤ l.length := by rw [e]; simp
      have tk : l.take pre.length = pre := by rw [e]; simp
      have dr : l.drop pre.length = rest := by rw [e]; simp
      have hlr : l.length = pre.length + rest.length := by rw [e]; simp
      obtain ⟨w1, c1, d1⟩ := (hV.push [B]).hi pre.length hpl o.length []
      rw [tk] at d1
      obtain ⟨o1, a1, b1, W1⟩ := gx_appw (ty := 9) (sz := 1) (lo := o.length + 1) (ro := o.length) (o := o ++ [B]) (v := .fsl 1 []) (es := []) (bytes := 16) (df := []) ⟨.inl rfl, by simp⟩ (by omega) (by simp) d1 (room_ofN (by simp; omega) (by simp; omega))
      obtain ⟨o2, a2, b2, W2⟩ := gx_appw (bytes := 16) (df := []) (ro := o.length) W1.G (by omega) (by simp at b1; omega) (elems_fsl _ 1 [[.str h]]) (room_ofN (by simp; omega) (by simp; omega))
      have ag : ∀ i, i < (o ++ [B]).length → o2[i]? = (o ++ [B])[i]? := fun i hi => by
        obtain ⟨u1, u2⟩ := W1.keep i hi (fun n f => by simp)
        rw [(W2.keep i (by simp at hi b1; omega) u2).1, u1]
      obtain ⟨w3, c3', d3⟩ := ((hV.push [B]).agree ag).lo pre.length hpl o.length []
      rw [dr] at d3
      obtain ⟨o3, a3, b3, W3⟩ := gx_appw (bytes := 16) (df := []) (ro := o.length) W2.G (by omega) (by simp at b1; omega) d3 (room_ofN (by simp; omega) (by simp; omega))
      have ag3 : ∀ i, i < (o ++ [B]).length → o3[i]? = (o ++ [B])[i]? := fun i hi => by
        obtain ⟨u1, u2⟩ := W1.keep i hi (fun n f => by simp)
        obtain ⟨u3, u4⟩ := W2.keep i (by simp at hi b1; omega) u2
        rw [(W3.keep i (by simp at hi b1; omega) u4).1, u3, u1]
      have hb1 : o1[o.length]? = some B := by rw [(W1.keep o.length (by simp) (fun n f => by simp)).1]; exact hbx0
      have hb3 : o3[o.length]? = some B := by rw [ag3 _ (by simp)]; exact hbx0
      have hnew := gr_ls W3.G.G
      have G3 := W3.G.G
      simp only [List.length_nil, Nat.zero_add, strA_len, List.length_cons, List.length_append, List.nil_append] at a1 a2 a3 G3
      rw [hB] at hb1
      have hR3 : Rl lo o3 (.own o2.length 0 (pre.length + 1 + rest.length) false) (pre ++ h :: rest) := by
        refine .inr (.inr ⟨o2.length, by simp; omega, ?_, by simp at b1; omega⟩)
        rcases G3 with G3 | ⟨q, _, e1, e2⟩
        · cases G3
        · simp only [AV.own.injEq] at e1
          rw [e1.1, e2]
          simp [strA]
      simp -implicitDefEqProofs [hfr, q0, q3, q5, c1, a1, a2, c3', a3, hb1, -getElem?_pos, List.getElem?_cons_zero]
      apply lp _ o3 _ (pre ++ h :: rest) _ (by simp [hfr]) (by simp [hfr]) (by simp [hfr, q3]) (by simp [hfr]) hb3 (by simp at b1; omega) hR3 hins (by simp; omega) hE
      intro fr' v' g1 g2 g3
      obtain ⟨v1, e1, e2⟩ := fin _ _ g3 (fun i hi => by rw [ag3 i (by simp; omega)]; exact List.getElem?_append_left hi)
      simp -implicitDefEqProofs [g1, g2, e1]
      exact e2
termination_by t => SizeOf.sizeOf t
decreasing_by
  have := List.sizeOf_lt_of_mem hx
  simp
  omega

theorem rFacts_eq (p : Pf) (hp : p.ok) (hs : psz p ≤ 100000) (o : List Obj) (ro : Nat) (df : List Nat) : (D T).call 16 [p.av] ⟨o, ro, df⟩ = some (.sl 1 (strA (rising (fN p))), ⟨o, ro, df⟩) := by
  have x1 := p_take p
  have x2 := p_can p
  have x3 := plen p
  have x4 := p_one p
  obtain ⟨v', hc, hv⟩ := rfacts_eq (lo := o.length + 1) p hp (o ++ [Obj.arr 42 24 [p.cells]]) (.fsl 1 []) [] (.inr (.inl ⟨rfl, rfl⟩)) (by simp) .nil (by simp; omega) o.length []
  rw [← rising_putF] at hv
  have hh : hand o.length (o ++ [Obj.arr 42 24 [p.cells]]) v' = some (.sl 1 (strA (rising (fN p)))) := by
    have hf := strA_flat (rising (fN p))
    have hn := strA_len (rising (fN p))
    rcases hv with rfl | ⟨rfl, h0⟩ | ⟨q, rfl, hq, hb⟩
    · simp [Go.Proofs.YtkecobdhgabknaaGreatDoor.A.hand, hand1, hand0, AV.flat, hf]
    · rw [h0]; rfl
    · have := lt_of_getO hq
      simp at this
      omega
  simp only [Pf.av] at hc
  apply call_by (by exact rfl : T 16 = some _) (by simp)
  intro fr hfr hsl
  have s0 := hsl 0 _ rfl
  simp only [Pf.av] at s0
  simp -implicitDefEqProofs [hfr, s0, get_base0, hc, hh, x1, x2, x3, x4, -getElem?_pos, List.getElem?_cons_zero, List.getElem?_cons_succ]

end Go.Proofs.YtkecobdhgabknaaGreatDoor.A
