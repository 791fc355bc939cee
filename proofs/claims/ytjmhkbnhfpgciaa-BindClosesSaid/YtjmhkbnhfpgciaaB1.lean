/- Terms and claims with something done to each part of their terms: what the program's two walks give. -/
import Derived.Test.YtjmhkbnhfpgciaaC1
import Derived.Test.YtjmhkbnhfpgciaaGx0
import Derived.Test.YtjmhkbnhfpgciaaPT
namespace Go.Proofs.Ytjmhkbnhfpgciaa.A
open Go
set_option maxRecDepth 10000
set_option linter.unusedSimpArgs false
attribute [-simp] List.all_eq_true put slot_def ld idxA lenOf elems canA app hand

mutual
/-- a term with something done to each part: what it is then, and whether that is all -/
def tmap (f : Tm → Tm × Bool) : Tm → Tm
  | .mk a s b l => match f (.mk a s b l) with
    | (o, true) => o
    | (.mk a' s' b' _, false) => .mk a' s' b' (tmapL f l)
def tmapL (f : Tm → Tm × Bool) : List Tm → List Tm
  | [] => []
  | t :: l => tmap f t :: tmapL f l
end

theorem tmapL_map (f : Tm → Tm × Bool) : ∀ l, tmapL f l = l.map (tmap f)
  | [] => rfl
  | t :: l => by simp [tmapL, tmapL_map f l]

theorem gx_one {ty sz lo : Nat} {o : List Obj} {v : AV} {es : List (List AV)} (G : Gx ty sz lo o v es) : AV.one v = true := by rcases G.G with rfl | ⟨r, r1, rfl, r2⟩ <;> rfl

theorem gx_set {ty sz lo : Nat} {o : List Obj} {v : AV} {es : List (List AV)} (G : Gx ty sz lo o v es) {i : Nat} (hi : i < lo) (X : Obj) : Gx ty sz lo (o.set i X) v es := by
  refine ⟨?_, G.nil⟩
  rcases G.G with hv | ⟨r, r1, hv, r2⟩
  · exact .inl hv
  · exact .inr ⟨r, r1, hv, by rw [List.getElem?_set_ne (by omega)]; exact r2⟩

theorem term_eq {o0 : List Obj} {g : Nat} {cap : List AV} {k : Int} (f : Tm → Tm × Bool)
    (hdo : ∀ t, t.ok → ∀ o ro df, (∀ (i : Nat) y, o0[i]? = some y → o[i]? = some y) → (D T).call g (t.av :: .int .i64 k :: cap) ⟨o, ro, df⟩ = some (.tup [(f t).1.av, .bool (f t).2], ⟨o, ro, df⟩)) :
    ∀ t : Tm, t.ok → t.all.length ≤ 4294967296 → ∀ (o : List Obj) (ro : Nat) (df : List Nat), (∀ (i : Nat) y, o0[i]? = some y → o[i]? = some y) →
      (D T).call 53 [t.av, .int .i64 k, .fn (.func g) [] cap] ⟨o, ro, df⟩ = some ((tmap f t).av, ⟨o, ro, df⟩)
  | .mk a s b l, hok, hn, o, ro, df, K => by
    have hok0 := hok
    simp only [Tm.ok] at hok
    have hl := okL_iff.1 hok.2.2.2.2
    have hle := le_allV l
    simp only [Tm.all, List.length_cons] at hn
    have hmx : l.length ≤ 9223372036854775807 := by omega
    have ih := fun u (hu : u ∈ l) o ro df K => term_eq f hdo u (hl u hu) (by have := mem_allV hu; omega) o ro df K
    obtain ⟨b0, hb0⟩ : ∃ b0, b0 = Obj.arr 27 4 [[.int .i64 a, .str s, .int .i64 b, .sl 4 (l.map Tm.cells)]] := ⟨_, rfl⟩
    obtain ⟨b1, hb1⟩ : ∃ b1, b1 = Obj.arr 27 4 [[.int .i64 0, .str ⟨#[]⟩, .int .i64 0, .fsl 4 []]] := ⟨_, rfl⟩
    have hd := hdo _ hok0 (o ++ [b0, b1]) o.length [] (fun i y h => getO_push (K i y h) _)
    have hf : ∃ a' s' b' l' d, f (.mk a s b l) = (.mk a' s' b' l', d) := by
      obtain ⟨⟨a', s', b', l'⟩, d⟩ := f (.mk a s b l)
      exact ⟨a', s', b', l', d, rfl⟩
    obtain ⟨a', s', b', l', d, hf⟩ := hf
    rw [hf] at hd
    have htm : tmap f (.mk a s b l) = bif d then .mk a' s' b' l' else .mk a' s' b' (l.map (tmap f)) := by
      cases d
      · simp only [tmap, hf, cond_false]; rw [tmapL_map]
      · simp only [tmap, hf, cond_true]
    rw [htm]
    simp only [Tm.av, Tm.cells_mk] at hd ih
    have lp : ∀ (fr : List AV) (Q : AE → List AV → St → Prop), fr.length = 39 → slot fr 1 = .int .i64 k → slot fr 2 = .fn (.func g) [] cap → slot fr 6 = .ptr (o.length + 1) 0 0 → slot fr 7 = .ptr (o.length + 2) 0 0 → slot fr 22 = .sl 4 (l.map Tm.cells) → slot fr 23 = .int .i64 (l.length : Int) → slot fr 24 = .int .i64 0 →
        (∀ (fr' : List AV) v o', fr'.length = 39 → slot fr' 6 = .ptr (o.length + 1) 0 0 → slot fr' 7 = .ptr (o.length + 2) 0 0 → Gx 27 4 (o.length + 3) o' v ((l.map (tmap f)).map Tm.cells) → o.length + 3 ≤ o'.length →
          o'[o.length + 1]? = some b1 → o'[o.length + 2]? = some (Obj.arr 27 4 [[.int .i64 a', .str s', .int .i64 b', v]]) → Q (.exit 0) fr' ⟨o', o.length, []⟩) →
        ∃ e fr' st', (D T).loop false L53_0 fr ⟨o ++ [b0, b1, Obj.arr 27 4 [[.int .i64 a', .str s', .int .i64 b', .fsl 4 []]]], o.length, []⟩ = some (e, fr', st') ∧ Q e fr' st' := by
      intro fr Q hfr q1 q2 q6 q7 q22 q23 q24 kk
      apply loop_inv L53_0.eq_1 List.length (fun (rest : List Tm) fr st => ∃ pre v o', l = pre ++ rest ∧ fr.length = 39 ∧ slot fr 1 = .int .i64 k ∧ slot fr 2 = .fn (.func g) [] cap ∧ slot fr 6 = .ptr (o.length + 1) 0 0 ∧ slot fr 7 = .ptr (o.length + 2) 0 0 ∧ slot fr 22 = .sl 4 (l.map Tm.cells) ∧ slot fr 23 = .int .i64 (l.length : Int) ∧ slot fr 24 = .int .i64 (pre.length : Int) ∧
          st = ⟨o', o.length, []⟩ ∧ Gx 27 4 (o.length + 3) o' v ((pre.map (tmap f)).map Tm.cells) ∧ o.length + 3 ≤ o'.length ∧ o'[o.length + 1]? = some b1 ∧ o'[o.length + 2]? = some (Obj.arr 27 4 [[.int .i64 a', .str s', .int .i64 b', v]]) ∧ (∀ (i : Nat) y, o[i]? = some y → o'[i]? = some y)) ?_ l
          ⟨[], .fsl 4 [], _, rfl, hfr, q1, q2, q6, q7, q22, q23, q24, rfl, ⟨.inl rfl, fun _ => rfl⟩, by simp, by simp [get_base], by simp [get_base], fun i y h => getO_push h _⟩
      clear hfr q1 q2 q6 q7 q22 q23 q24
      rintro rest fr _ ⟨pre, v, o', e, hfr, q1, q2, q6, q7, q22, q23, q24, rfl, G, hlo, g1, g2, low⟩
      cases rest with
      | nil =>
        have hlt := idx_end e
        have ee : l = pre := by simpa using e
        simp -implicitDefEqProofs [hfr, q1, q2, q6, q7, q22, q23, q24, hlt]
        exact kk _ v o' (by simp [hfr]) (by simp [hfr, q6]) (by simp [hfr, q7]) (by rw [ee]; exact G) hlo g1 g2
      | cons t rest =>
        obtain ⟨hlt, hg, hpl⟩ := idx_at e
        have hw := idx_next e hmx
        have G1 := G.push [Obj.arr 27 4 [t.cells]]
        have g1' : (o' ++ [Obj.arr 27 4 [t.cells]])[o.length + 1]? = some b1 := getO_push g1 _
        have g2' : (o' ++ [Obj.arr 27 4 [t.cells]])[o.length + 2]? = some (Obj.arr 27 4 [[.int .i64 a', .str s', .int .i64 b', v]]) := getO_push g2 _
        have hc := ih t (by simp [e]) (o' ++ [Obj.arr 27 4 [t.cells]]) o.length [] (fun i y h => getO_push (low i y (K i y h)) _)
        obtain ⟨o3, a1, a2, W⟩ := gx_appw G1 (ro := o.length) (df := []) (bytes := 56) (by omega) (by simp; omega) (elems_fsl _ 4 [(tmap f t).cells]) (room_of0 (by simp; omega) (by simp; omega))
        simp only [List.length_cons, List.length_nil, Nat.zero_add, List.length_map, List.length_append] at a1 a2 W
        have k1 := (W.keep (o.length + 1) (by simp; omega) (fun n f => G.not (by omega) n f)).1
        have k2 := (W.keep (o.length + 2) (by simp; omega) (fun n f => G.not (by omega) n f)).1
        rw [g1'] at k1
        rw [g2'] at k2
        have l1 : o.length + 2 < o3.length := by omega
        have l2 : o.length ≤ o'.length := by omega
        simp -implicitDefEqProofs [hfr, q1, q2, q6, q7, q22, q23, q24, hlt, hg, hw, hc, g2', k2, a1, l1, l2, setO_last, getO_last, getO_set, -getElem?_pos, List.getElem?_cons_zero]
        refine ⟨rest, by simp, pre ++ [t], by simp [e], by simp, .own (o'.length + 1) 0 (pre.length + 1) false, ⟨?_, by simp⟩, by omega, k1, rfl, fun i y hy => ?_⟩
        · refine .inr ⟨o'.length + 1, by omega, by simp, ?_⟩
          rcases W.G.G with hv | ⟨r, r1, hv, r2⟩
          · cases hv
          · obtain rfl : o'.length + 1 = r := by simpa using hv
            rw [List.getElem?_set_ne (by omega), r2]; simp
        · have hi := lt_of_getO hy
          rw [List.getElem?_set_ne (by omega), (W.keep i (by simp; omega) (fun n f => G.not (by omega) n f)).1]
          exact getO_push (low i y hy) _
    apply call_by (by exact rfl : T 53 = some _) (by simp)
    intro fr hfr hsl
    have s0 := hsl 0 _ rfl
    have s1 := hsl 1 _ rfl
    have s2 := hsl 2 _ rfl
    simp only [Tm.av, Tm.cells_mk] at s0
    cases d with
    | true =>
      rw [hb0, hb1] at hd
      simp -implicitDefEqProofs [hfr, s0, s1, s2, hd, get_base0, get_base, set_base0, set_base, hand0_int, hand0_str, Tm.av, Tm.cells_mk, flat_list, -getElem?_pos, List.getElem?_cons_zero, List.getElem?_cons_succ]
    | false =>
      rw [hb0, hb1] at hd
      simp -implicitDefEqProofs [hfr, s0, s1, s2, hd, get_base0, get_base, set_base0, set_base, -getElem?_pos, List.getElem?_cons_zero, List.getElem?_cons_succ]
      rw [← hb0, ← hb1]
      apply lp _ _ (by simp [hfr]) (by simp [hfr, s1]) (by simp [hfr, s2]) (by simp [hfr]) (by simp [hfr]) (by simp [hfr]) (by simp [hfr]) (by simp [hfr])
      clear lp hfr s0 s1 s2 hsl hd
      intro fr v o' hfr q6 q7 G hlo g1 g2
      have hone := gx_one G
      have l1 : o.length + 1 < o'.length := by omega
      have hh := gx_hand0 (gx_set G (show o.length + 1 < o.length + 3 by omega) (Obj.arr 27 4 [[.int .i64 a', .str s', .int .i64 b', v]])) (show o.length ≤ _ by omega) (flat_list _)
      rw [hb1] at g1
      simp -implicitDefEqProofs [-hand0, hfr, q6, q7, g1, g2, hone, l1, getO_set, hh, hand0_int, hand0_str, Tm.av, Tm.cells_mk, -getElem?_pos, List.getElem?_cons_zero, -List.map_map]
termination_by t => SizeOf.sizeOf t
decreasing_by
  have := List.sizeOf_lt_of_mem hu
  simp
  omega

end Go.Proofs.Ytjmhkbnhfpgciaa.A
