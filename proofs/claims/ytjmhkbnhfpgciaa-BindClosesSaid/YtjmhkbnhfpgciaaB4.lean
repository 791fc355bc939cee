/- What is done to parts of terms, the document's. -/
import Derived.Test.YtjmhkbnhfpgciaaB3
namespace Go.Proofs.Ytjmhkbnhfpgciaa.A
open Go
set_option maxRecDepth 10000
set_option linter.unusedSimpArgs false
attribute [-simp] List.all_eq_true put slot_def ld idxA lenOf elems canA app hand

inductive Wk where
  | lift (by' from' : Int)
  | open' (x : Tm)
  | close (n : ByteArray)

def Wk.cells (z : AV) : Wk → List AV
  | .lift by' from' => [.int .i64 1, .int .i64 by', .int .i64 from', .int .i64 0, .str ⟨#[]⟩, .int .i64 0, z, .str ⟨#[]⟩]
  | .open' (.mk a s b l) => [.int .i64 2, .int .i64 0, .int .i64 0, .int .i64 a, .str s, .int .i64 b, .sl 4 (l.map Tm.cells), .str ⟨#[]⟩]
  | .close n => [.int .i64 3, .int .i64 0, .int .i64 0, .int .i64 0, .str ⟨#[]⟩, .int .i64 0, z, .str n]

theorem Wk.can {z : AV} (hz : z = .fsl 4 [] ∨ z = .sl 4 []) (w : Wk) : canL ((w.cells z).take 8) = w.cells (.sl 4 []) := by
  rcases w with ⟨b, c⟩ | ⟨a, s, b, l⟩ | n <;> rcases hz with rfl | rfl <;> simp [Wk.cells, canL, can1]

def Wk.f : Wk → Nat → Tm → Tm × Bool
  | .lift b c => fLift b c
  | .open' x => fOpen x
  | .close n => fClose n

theorem rlift_eq (n by' : Int) (st : St) : (D T).call 68 [.int .i64 n, .int .i64 by'] st = some (.int .i64 (mx0 (IntKind.i64.wrap (n + by'))), st) := by
  apply call_by (by exact rfl : T 68 = some _) (by simp)
  intro fr hfr hsl
  have s0 := hsl 0 _ rfl
  have s1 := hsl 1 _ rfl
  by_cases h : IntKind.i64.wrap (n + by') < 0
  · have h' : mx0 (IntKind.i64.wrap (n + by')) = 0 := by unfold mx0; rw [if_pos (by omega)]
    simp -implicitDefEqProofs [hfr, s0, s1, h, h']
  · have h' : mx0 (IntKind.i64.wrap (n + by')) = IntKind.i64.wrap (n + by') := by unfold mx0; rw [if_neg (by omega)]
    simp -implicitDefEqProofs [hfr, s0, s1, h, h']

theorem rterm_loop {wc wd : List AV} (hwc : wc.length = 8) (hcan : canL (wc.take 8) = wd) (k : Int) {f : Tm → Tm × Bool} {l : List Tm} (hmx : l.length ≤ 4294967296) (ih : ∀ u ∈ l, ∀ o ro df, (D T).call 54 [.agg wd, u.av, .int .i64 k] ⟨o, ro, df⟩ = some ((tmap f u).av, ⟨o, ro, df⟩))
    {a b a' b' : Int} {s s' : ByteArray} {o : List Obj} (fr : List AV) (Q : AE → List AV → St → Prop) (hfr : fr.length = 105) (q2 : slot fr 2 = .int .i64 k) (q3 : slot fr 3 = .ptr o.length 0 0) (q4 : slot fr 4 = .ptr (o.length + 1) 0 0) (q6 : slot fr 6 = .ptr (o.length + 2) 0 0) (q7 : slot fr 7 = .ptr (o.length + 3) 0 0) (q9 : slot fr 9 = .int .i64 0)
    (kk : ∀ (fr' : List AV) v o', fr'.length = 105 → slot fr' 6 = .ptr (o.length + 2) 0 0 → slot fr' 7 = .ptr (o.length + 3) 0 0 → Gx 27 4 (o.length + 4) o' v ((l.map (tmap f)).map Tm.cells) → o.length + 4 ≤ o'.length →
      o'[o.length + 2]? = some (Obj.arr 27 4 [[.int .i64 0, .str ⟨#[]⟩, .int .i64 0, .fsl 4 []]]) → o'[o.length + 3]? = some (Obj.arr 27 4 [[.int .i64 a', .str s', .int .i64 b', v]]) → Q (.exit 0) fr' ⟨o', o.length, []⟩) :
    ∃ e fr' st', (D T).loop false L54_0 fr ⟨o ++ [Obj.arr 62 8 [wc], Obj.arr 27 4 [[.int .i64 a, .str s, .int .i64 b, .sl 4 (l.map Tm.cells)]], Obj.arr 27 4 [[.int .i64 0, .str ⟨#[]⟩, .int .i64 0, .fsl 4 []]], Obj.arr 27 4 [[.int .i64 a', .str s', .int .i64 b', .fsl 4 []]]], o.length, []⟩ = some (e, fr', st') ∧ Q e fr' st' := by
  obtain ⟨b0, hb0⟩ : ∃ b0, b0 = Obj.arr 62 8 [wc] := ⟨_, rfl⟩
  obtain ⟨b2, hb2⟩ : ∃ b2, b2 = Obj.arr 27 4 [[.int .i64 0, .str ⟨#[]⟩, .int .i64 0, .fsl 4 []]] := ⟨_, rfl⟩
  rw [← hb2] at kk ⊢
  apply loop_inv L54_0.eq_1 List.length (fun (rest : List Tm) fr st => ∃ pre v o', l = pre ++ rest ∧ fr.length = 105 ∧ slot fr 2 = .int .i64 k ∧ slot fr 3 = .ptr o.length 0 0 ∧ slot fr 4 = .ptr (o.length + 1) 0 0 ∧ slot fr 6 = .ptr (o.length + 2) 0 0 ∧ slot fr 7 = .ptr (o.length + 3) 0 0 ∧ slot fr 9 = .int .i64 (pre.length : Int) ∧
      st = ⟨o', o.length, []⟩ ∧ Gx 27 4 (o.length + 4) o' v ((pre.map (tmap f)).map Tm.cells) ∧ o.length + 4 ≤ o'.length ∧ o'[o.length]? = some (Obj.arr 62 8 [wc]) ∧ o'[o.length + 1]? = some (Obj.arr 27 4 [[.int .i64 a, .str s, .int .i64 b, .sl 4 (l.map Tm.cells)]]) ∧ o'[o.length + 2]? = some b2 ∧ o'[o.length + 3]? = some (Obj.arr 27 4 [[.int .i64 a', .str s', .int .i64 b', v]])) ?_ l
      ⟨[], .fsl 4 [], _, rfl, hfr, q2, q3, q4, q6, q7, q9, rfl, ⟨.inl rfl, fun _ => rfl⟩, by simp, by simp [get_base0], by simp [get_base], by simp [get_base], by simp [get_base]⟩
  clear hfr q2 q3 q4 q6 q7 q9
  rintro rest fr _ ⟨pre, v, o', e, hfr, q2, q3, q4, q6, q7, q9, rfl, G, hlo, g0, g1, g2, g3⟩
  cases rest with
  | nil =>
    have hlt := idx_end e
    have ee : l = pre := by simpa using e
    simp -implicitDefEqProofs [hfr, q2, q3, q4, q6, q7, q9, g1, hlt, -getElem?_pos, List.getElem?_cons_zero]
    exact kk _ v o' (by simp [hfr]) (by simp [hfr, q6]) (by simp [hfr, q7]) (by rw [ee]; exact G) hlo g2 g3
  | cons t rest =>
    obtain ⟨hlt, hg, hpl⟩ := idx_at e
    have hw := idx_next e (show l.length ≤ 9223372036854775807 by omega)
    have hc := ih t (by simp [e]) o' o.length []
    simp only [Tm.av] at hc
    obtain ⟨o3, a1, a2, W⟩ := gx_appw G (ro := o.length) (df := []) (bytes := 56) (by omega) (by omega) (elems_fsl _ 4 [(tmap f t).cells]) (room_of0 (by simp; omega) (by simp; omega))
    simp only [List.length_cons, List.length_nil, Nat.zero_add, List.length_map, List.length_append] at a1 a2 W
    have k0 := (W.keep (o.length) (by omega) (fun n f => G.not (by omega) n f)).1
    have k1 := (W.keep (o.length + 1) (by omega) (fun n f => G.not (by omega) n f)).1
    have k2 := (W.keep (o.length + 2) (by omega) (fun n f => G.not (by omega) n f)).1
    have k3 := (W.keep (o.length + 3) (by omega) (fun n f => G.not (by omega) n f)).1
    rw [g0] at k0
    rw [g1] at k1
    rw [g2] at k2
    rw [g3] at k3
    have l1 : o.length + 3 < o3.length := by omega
    have l2 : o.length ≤ o'.length := by omega
    simp -implicitDefEqProofs [-List.map_map, hfr, q2, q3, q4, q6, q7, q9, hlt, hg, hw, hc, hwc, hcan, g0, g1, g3, k3, a1, l1, l2, setO_last, getO_last, getO_set, -getElem?_pos, List.getElem?_cons_zero]
    refine ⟨rest, by simp, pre ++ [t], by simp [e], by simp, .own o'.length 0 (pre.length + 1) false, ⟨?_, by simp⟩, by omega, k0, k1, k2, rfl⟩
    refine .inr ⟨o'.length, by omega, by simp, ?_⟩
    rcases W.G.G with hv | ⟨r, r1, hv, r2⟩
    · cases hv
    · obtain rfl : o'.length = r := by simpa using hv
      rw [List.getElem?_set_ne (by omega), r2]; simp

theorem rterm_eq (w : Wk) (hx : ∀ x, w = .open' x → ∀ (k : Nat) o ro df, (D T).call 54 [.agg ((Wk.lift (k : Int) 0).cells (.sl 4 [])), x.av, .int .i64 0] ⟨o, ro, df⟩ = some ((tmap (fLift (k : Int) 0 0) x).av, ⟨o, ro, df⟩)) :
    ∀ (t : Tm) {z : AV}, (z = .fsl 4 [] ∨ z = .sl 4 []) → ∀ (k : Nat), k ≤ 4294967296 → t.ok → t.all.length ≤ 4294967296 → ∀ (o : List Obj) (ro : Nat) (df : List Nat),
      (D T).call 54 [.agg (w.cells z), t.av, .int .i64 (k : Int)] ⟨o, ro, df⟩ = some ((tmap (w.f k) t).av, ⟨o, ro, df⟩)
  | .mk a s b l, z, hz, k, hk, hok, hn, o, ro, df => by
    have hok0 := hok
    simp only [Tm.ok] at hok
    have hl := okL_iff.1 hok.2.2.2.2
    have hle := le_allV l
    simp only [Tm.all, List.length_cons] at hn
    have ih := fun u (hu : u ∈ l) o ro df => rterm_eq w hx u (z := .sl 4 []) (.inr rfl) k hk (hl u hu) (by have := mem_allV hu; omega) o ro df
    have htm : ∀ A S B, w.f k (.mk a s b l) = (.mk A S B l, false) → tmap (w.f k) (.mk a s b l) = .mk A S B (l.map (tmap (w.f k))) := by
      intro A S B h
      simp only [tmap, h]; rw [tmapL_map]
    have htm1 : ∀ v, w.f k (.mk a s b l) = (v, true) → tmap (w.f k) (.mk a s b l) = v := by
      intro v h
      simp only [tmap, h]
    have hr := fun n b st => rlift_eq n b st
    have hcan := Wk.can hz w
    have hz1 : AV.one z = true := by rcases hz with rfl | rfl <;> rfl
    have hwl : (w.cells z).length = 8 := by
      rcases w with ⟨b, c⟩ | ⟨a, s, b, l⟩ | n <;> rfl
    have lp := fun a' b' s' fr Q => rterm_loop (a := a) (b := b) (s := s) (a' := a') (b' := b') (s' := s') (o := o) hwl hcan (k : Int) (f := w.f k) (l := l) (by omega) ih fr Q
    apply call_by (by exact rfl : T 54 = some _) (by simp)
    intro fr hfr hsl
    have s0 := hsl 0 _ rfl
    have s1 := hsl 1 _ rfl
    have s2 := hsl 2 _ rfl
    simp only [Tm.av, Tm.cells_mk] at s0 s1
    have fin : ∀ (A : Int) (S : ByteArray) (B : Int) (fr' : List AV) v o', w.f k (.mk a s b l) = (.mk A S B l, false) → fr'.length = 105 → slot fr' 6 = .ptr (o.length + 2) 0 0 → slot fr' 7 = .ptr (o.length + 3) 0 0 → Gx 27 4 (o.length + 4) o' v ((l.map (tmap (w.f k))).map Tm.cells) → o.length + 4 ≤ o'.length →
        o'[o.length + 2]? = some (Obj.arr 27 4 [[.int .i64 0, .str ⟨#[]⟩, .int .i64 0, .fsl 4 []]]) → o'[o.length + 3]? = some (Obj.arr 27 4 [[.int .i64 A, .str S, .int .i64 B, v]]) →
        run (D T) false (fin [ARes.cell 6 true 4] true ⟨o, ro, df⟩ (fun v' s' => v' = (tmap (w.f k) (.mk a s b l)).av ∧ s' = ⟨o, ro, df⟩)) [It.blk 0, It.c ((AC.ops [⟨some 104, AO.load true 4 (Opd.t 7), none⟩, ⟨none, AO.store 4 (Opd.t 6) (Opd.t 104), none⟩] false).seq AC.ret)] (.exit 0) fr' ⟨o', o.length, []⟩ := by
      intro A S B fr v o' hf hfr q6 q7 G hlo g1 g2
      rw [htm A S B hf]
      have hone := gx_one G
      have l1 : o.length + 2 < o'.length := by omega
      have h1 := gx_hand0 (gx_set G (show o.length + 2 < o.length + 4 by omega) (Obj.arr 27 4 [[.int .i64 A, .str S, .int .i64 B, v]])) (show o.length ≤ _ by omega) (flat_list _)
      simp -implicitDefEqProofs [-hand0, hfr, q6, q7, g1, g2, hone, l1, getO_set, h1, hand0_int, hand0_str, Tm.av, Tm.cells_mk, -getElem?_pos, List.getElem?_cons_zero, -List.map_map]
    rcases w with ⟨by', from'⟩ | ⟨x⟩ | nm
    · simp only [Wk.cells] at s0 lp
      by_cases h2 : a = 2
      · subst h2
        by_cases h3 : (k : Int) ≤ b
        · have h3' : ¬ (b < (k : Int)) := by omega
          by_cases h4 : from' ≤ nOf k b
          · have h5 := h4
            unfold nOf at h5
            simp -implicitDefEqProofs [hfr, s0, s1, s2, hz1, hr, h3, h5, get_base0, get_base, set_base0, set_base, -getElem?_pos, List.getElem?_cons_zero, List.getElem?_cons_succ]
            refine lp _ _ _ _ _ ?_ ?_ ?_ ?_ ?_ ?_ ?_ (fun fr' v o' => fin 2 s _ fr' v o' (by simp [Wk.f, fLift, lq, h3', h4, Int.add_comm]; rfl)) <;> simp [hfr, s2]
          · have h5 := h4
            unfold nOf at h5
            simp -implicitDefEqProofs [hfr, s0, s1, s2, hz1, h3, h5, get_base0, get_base, set_base0, set_base, -getElem?_pos, List.getElem?_cons_zero, List.getElem?_cons_succ]
            refine lp _ _ _ _ _ ?_ ?_ ?_ ?_ ?_ ?_ ?_ (fun fr' v o' => fin 2 s b fr' v o' (by simp [Wk.f, fLift, lq, h3', h4])) <;> simp [hfr, s2]
        · have h3' : b < (k : Int) := by omega
          simp -implicitDefEqProofs [hfr, s0, s1, s2, hz1, h3, get_base0, get_base, set_base0, set_base, -getElem?_pos, List.getElem?_cons_zero, List.getElem?_cons_succ]
          refine lp _ _ _ _ _ ?_ ?_ ?_ ?_ ?_ ?_ ?_ (fun fr' v o' => fin 2 s b fr' v o' (by simp [Wk.f, fLift, lq, h3'])) <;> simp [hfr, s2]
      · have h2' : (a == 2) = false := by simpa using h2
        simp -implicitDefEqProofs [hfr, s0, s1, s2, hz1, h2, h2', get_base0, get_base, set_base0, set_base, -getElem?_pos, List.getElem?_cons_zero, List.getElem?_cons_succ]
        refine lp _ _ _ _ _ ?_ ?_ ?_ ?_ ?_ ?_ ?_ (fun fr' v o' => fin a s b fr' v o' (by simp [Wk.f, fLift, lq, h2'])) <;> simp [hfr, s2]
    · have hL := fun o ro df => hx x rfl k o ro df
      obtain ⟨a', s', b', l', hr'⟩ : ∃ a' s' b' l', tmap (fLift (k : Int) 0 0) x = .mk a' s' b' l' := by
        cases tmap (fLift (k : Int) 0 0) x; exact ⟨_, _, _, _, rfl⟩
      rw [hr'] at hL
      obtain ⟨xa, xs, xb, xl⟩ := x
      simp only [Wk.cells] at s0 lp hL
      simp only [Tm.av, Tm.cells_mk] at hL
      by_cases h2 : a = 2
      · subst h2
        by_cases h3 : (k : Int) ≤ b
        · have h3' : ¬ (b < (k : Int)) := by omega
          by_cases h4 : nOf k b = 0
          · have h5 := h4
            unfold nOf at h5
            have h5' : (IntKind.i64.wrap (b - (k : Int)) == 0) = true := by simp [h5]
            rw [htm1 _ (by simp [Wk.f, fOpen, lq, h3', h4]; rfl), hr']
            simp -implicitDefEqProofs [hfr, s0, s1, s2, hL, h3, h5, get_base0, get_base, set_base0, set_base, hand0_int, hand0_str, Tm.av, Tm.cells_mk, flat_list, -getElem?_pos, List.getElem?_cons_zero, List.getElem?_cons_succ]
          · have h5 := h4
            unfold nOf at h5
            have h5' : (IntKind.i64.wrap (b - (k : Int)) == 0) = false := by simpa using h5
            have h4' : (nOf k b == 0) = false := by simpa using h4
            simp -implicitDefEqProofs [hfr, s0, s1, s2, h3, h5, h5', get_base0, get_base, set_base0, set_base, -getElem?_pos, List.getElem?_cons_zero, List.getElem?_cons_succ]
            refine lp _ _ _ _ _ ?_ ?_ ?_ ?_ ?_ ?_ ?_ (fun fr' v o' => fin 2 s _ fr' v o' (by simp [Wk.f, fOpen, lq, h3', h4, h4'])) <;> simp [hfr, s2]
        · have h3' : b < (k : Int) := by omega
          simp -implicitDefEqProofs [hfr, s0, s1, s2, h3, get_base0, get_base, set_base0, set_base, -getElem?_pos, List.getElem?_cons_zero, List.getElem?_cons_succ]
          refine lp _ _ _ _ _ ?_ ?_ ?_ ?_ ?_ ?_ ?_ (fun fr' v o' => fin 2 s b fr' v o' (by simp [Wk.f, fOpen, lq, h3'])) <;> simp [hfr, s2]
      · have h2' : (a == 2) = false := by simpa using h2
        simp -implicitDefEqProofs [hfr, s0, s1, s2, h2, h2', get_base0, get_base, set_base0, set_base, -getElem?_pos, List.getElem?_cons_zero, List.getElem?_cons_succ]
        refine lp _ _ _ _ _ ?_ ?_ ?_ ?_ ?_ ?_ ?_ (fun fr' v o' => fin a s b fr' v o' (by simp [Wk.f, fOpen, lq, h2'])) <;> simp [hfr, s2]
    · simp only [Wk.cells] at s0 lp
      by_cases h1 : a = 1
      · subst h1
        cases h5 : bytesEq s nm with
        | true =>
          rw [htm1 _ (by simp [Wk.f, fClose, h5]; rfl)]
          simp -implicitDefEqProofs [hfr, s0, s1, s2, hz1, h5, get_base0, get_base, set_base0, set_base, hand0_int, hand0_str, Tm.av, Tm.cells_mk, flat_list, -getElem?_pos, List.getElem?_cons_zero, List.getElem?_cons_succ]
        | false =>
          simp -implicitDefEqProofs [hfr, s0, s1, s2, hz1, h5, get_base0, get_base, set_base0, set_base, -getElem?_pos, List.getElem?_cons_zero, List.getElem?_cons_succ]
          refine lp _ _ _ _ _ ?_ ?_ ?_ ?_ ?_ ?_ ?_ (fun fr' v o' => fin 1 s b fr' v o' (by simp [Wk.f, fClose, lq, h5])) <;> simp [hfr, s2]
      · have h1' : (a == 1) = false := by simpa using h1
        by_cases h2 : a = 2
        · subst h2
          by_cases h3 : (k : Int) ≤ b
          · have h3' : ¬ (b < (k : Int)) := by omega
            simp -implicitDefEqProofs [hfr, s0, s1, s2, hz1, h3, get_base0, get_base, set_base0, set_base, -getElem?_pos, List.getElem?_cons_zero, List.getElem?_cons_succ]
            refine lp _ _ _ _ _ ?_ ?_ ?_ ?_ ?_ ?_ ?_ (fun fr' v o' => fin 2 s _ fr' v o' (by simp [Wk.f, fClose, lq, h3'])) <;> simp [hfr, s2]
          · have h3' : b < (k : Int) := by omega
            simp -implicitDefEqProofs [hfr, s0, s1, s2, hz1, h3, get_base0, get_base, set_base0, set_base, -getElem?_pos, List.getElem?_cons_zero, List.getElem?_cons_succ]
            refine lp _ _ _ _ _ ?_ ?_ ?_ ?_ ?_ ?_ ?_ (fun fr' v o' => fin 2 s b fr' v o' (by simp [Wk.f, fClose, lq, h3'])) <;> simp [hfr, s2]
        · have h2' : (a == 2) = false := by simpa using h2
          simp -implicitDefEqProofs [hfr, s0, s1, s2, hz1, h1, h1', h2, h2', get_base0, get_base, set_base0, set_base, -getElem?_pos, List.getElem?_cons_zero, List.getElem?_cons_succ]
          refine lp _ _ _ _ _ ?_ ?_ ?_ ?_ ?_ ?_ ?_ (fun fr' v o' => fin a s b fr' v o' (by simp [Wk.f, fClose, lq, h1', h2'])) <;> simp [hfr, s2]
termination_by t => SizeOf.sizeOf t
decreasing_by
  have := List.sizeOf_lt_of_mem hu
  simp
  omega


def Wk.ok : Wk → Prop
  | .open' x => x.ok ∧ x.all.length ≤ 4294967296
  | _ => True

theorem rTerm_eq (w : Wk) (hw : w.ok) (t : Tm) (k : Nat) (hk : k ≤ 4294967296) (ht : t.ok) (hn : t.all.length ≤ 4294967296) (o : List Obj) (ro : Nat) (df : List Nat) :
    (D T).call 54 [.agg (w.cells (.sl 4 [])), t.av, .int .i64 (k : Int)] ⟨o, ro, df⟩ = some ((tmap (w.f k) t).av, ⟨o, ro, df⟩) := by
  refine rterm_eq w ?_ t (.inr rfl) k hk ht hn o ro df
  rintro x rfl j o ro df
  exact rterm_eq (.lift (j : Int) 0) (fun x h => by cases h) x (.inr rfl) 0 (by omega) hw.1 hw.2 o ro df

end Go.Proofs.Ytjmhkbnhfpgciaa.A
