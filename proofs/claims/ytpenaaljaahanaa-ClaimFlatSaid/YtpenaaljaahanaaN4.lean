/- The names of variables: the program's gather, sort, and keep each once. -/
import Derived.Test.YtpenaaljaahanaaN3
namespace Go.Proofs.Ytpenaaljaahanaa.A
open Go
set_option maxRecDepth 10000
set_option linter.unusedSimpArgs false
attribute [-simp] List.all_eq_true put slot_def ld idxA lenOf elems canA app hand

structure NO (o0 : List Obj) (v0 : AV) (ts : List Tm) (rest : List Tm) (fr : List AV) (st : St) (pre : List Tm) (v : AV) (o : List Obj) (out : List ByteArray) (df : List Nat) : Prop where
  e : ts = pre ++ rest
  fl : fr.length = 29
  q3 : slot fr 3 = .ptr o0.length 0 0
  q7 : slot fr 7 = v0
  q8 : slot fr 8 = .int .i64 (ts.length : Int)
  q9 : slot fr 9 = .int .i64 (pre.length : Int)
  st_ : st = ⟨o, o0.length, df⟩
  lo : o0.length + 1 ≤ o.length
  c : o[o0.length]? = some (.arr 42 1 [[v]])
  G : Gs (o0.length + 1) o v out
  hp : varsOf (allL ts) = out ++ varsOf (allL rest)
  hl : out.length + (allL rest).length ≤ (allL ts).length
  hd : ∀ d ∈ df, o[d]? = some Obj.dfr
  nd : df.Nodup
  low : ∀ j, j < o0.length → o[j]? = o0[j]?

structure NY (o0 : List Obj) (n0 b tot : Nat) (F : List AV) (W : List ByteArray) (df : List Nat) (rest : List Tm) (o : List Obj) (bx : List (Nat × List AV)) (v : AV) (out : List ByteArray) : Prop where
  hp : W = out ++ varsOf rest
  lb : b + 3 ≤ o.length
  c : o[n0]? = some (.arr 42 1 [[v]])
  l : o[b + 2]? = some (.loop .ready none F [15] A58_1 B58_1)
  G : Gs (n0 + 1) o v out
  hl : out.length + rest.length ≤ tot
  hb : ∀ i c, (i, c) ∈ bx → b + 3 ≤ i ∧ o[i]? = some (.arr 56 4 [c])
  hd : ∀ d ∈ df, o[d]? = some Obj.dfr
  low : ∀ j, j < n0 → o[j]? = o0[j]?

theorem names_yield {o00 : List Obj} {n0 b tot : Nat} {F : List AV} {W : List ByteArray} {df0 : List Nat} (hF : slot F 3 = .ptr n0 0 0) (hFl : F.length = 29) (hb0 : n0 + 1 ≤ b) (htot : tot ≤ 4294967295)
    (x : Tm) (l : List Tm) (o : List Obj) (bx : List (Nat × List AV)) (df : List Nat) (h : ∃ v out, NY o00 n0 b tot F W df0 (x :: l) o bx v out) :
    ∃ v o', (D T).yield (b + 2) [x.av] ⟨o, n0, df⟩ = some (.bool v, ⟨o', n0, df⟩) ∧ (v = true → ∃ v out, NY o00 n0 b tot F W df0 l o' bx v out) ∧ (v = false → False) := by
  obtain ⟨v, out, h⟩ := h
  suffices h : ∃ v1 s, (D T).yield (b + 2) [x.av] ⟨o, n0, df⟩ = some (v1, s) ∧ (fun v1 s => ∃ o', v1 = .bool true ∧ s = ⟨o', n0, df⟩ ∧ ∃ v out, NY o00 n0 b tot F W df0 l o' bx v out) v1 s by
    obtain ⟨_, _, e, o', rfl, rfl, q1⟩ := h
    exact ⟨true, o', e, fun _ => q1, by simp⟩
  obtain ⟨a, s, b', ts⟩ := x
  apply yield_step A58_1.eq_1 B58_1.eq_1 h.l rfl (by simp; omega)
  have l0 := h.lb
  have l1 : n0 ≤ o.length := by omega
  have l2 : b + 2 < o.length := by omega
  have l3 : ¬ (b + 2 = o.length) := by omega
  have l4 : ¬ (o.length = b + 2) := by omega
  have l5 : n0 < o.length := by omega
  have l6 : ¬ (n0 = b + 2) := by omega
  have l7 : ¬ (b + 2 = n0) := by omega
  have l8 : ¬ (o.length = n0) := by omega
  have l9 : ¬ (n0 = o.length) := by omega
  have hp := h.hp
  have hl := h.hl
  obtain ⟨LB, hLB⟩ : ∃ LB, LB = Obj.loop .busy none F [15] A58_1 B58_1 := ⟨_, rfl⟩
  have G2 : Gs (n0 + 1) (o.set (b + 2) LB ++ [Obj.arr 56 4 [(Tm.mk a s b' ts).cells]]) v out := (h.G.set h.l (by simp)).push _
  have keep : ∀ (i : Nat) (y : Obj), i ≠ b + 2 → o[i]? = some y → (o.set (b + 2) LB ++ [Obj.arr 56 4 [(Tm.mk a s b' ts).cells]])[i]? = some y := fun i y hi hy => getO_push (by rw [List.getElem?_set_ne (Ne.symm hi)]; exact hy) _
  have k3 : (o.set (b + 2) LB ++ [Obj.arr 56 4 [(Tm.mk a s b' ts).cells]])[b + 2]? = some LB := getO_push (getO_set l2) _
  have hne : ∀ d ∈ df0, d ≠ b + 2 := fun d hd e => by have := h.hd d hd; rw [e, h.l] at this; cases this
  cases ha : a == 1 with
  | false =>
    simp only [varsOf, List.flatMap_cons, vn, ha, cond_false, List.nil_append] at hp
    rw [← hLB]; simp -implicitDefEqProofs [Tm.av, Tm.cells_mk, hF, hFl, List.getElem?_cons_zero, List.getElem?_cons_succ, setO_last, getO_last, getO_set, List.getElem?_append_left, -getElem?_pos, l1, l2, l3, l4, l5, l6, l7, l8, l9, h.l, h.c, ha, yend]
    subst hLB
    dsimp only
    rw [← Tm.cells_mk]
    have keep' : ∀ (i : Nat) (y : Obj), i ≠ b + 2 → o[i]? = some y → (o.set (b + 2) (Obj.loop .ready none F [15] A58_1 B58_1) ++ [Obj.arr 56 4 [(Tm.mk a s b' ts).cells]])[i]? = some y := fun i y hi hy => getO_push (by rw [List.getElem?_set_ne (Ne.symm hi)]; exact hy) _
    exact ⟨v, out, hp, by simp; omega, keep' _ _ l6 h.c, getO_push (getO_set l2) _, (h.G.set h.l (by simp)).push _, by simp at hl; omega, fun i c hi => ⟨(h.hb i c hi).1, keep' _ _ (by have := (h.hb i c hi).1; omega) (h.hb i c hi).2⟩, fun d hd => keep' _ _ (hne d hd) (h.hd d hd), fun j hj => by rw [List.getElem?_append_left (by simp; omega), List.getElem?_set_ne (by omega)]; exact h.low j hj⟩
  | true =>
    obtain rfl : a = 1 := by simpa using ha
    simp only [varsOf, List.flatMap_cons, vn, BEq.rfl, cond_true, List.singleton_append] at hp
    obtain ⟨o3, a1, a2, G3, a4, a5⟩ := G2.app (ro := n0) (by omega) (by simp; omega) s (by simp at hl; omega) []
    have b1 := a4 _ _ (keep _ _ l6 h.c) (by simp)
    have b3 := a4 _ _ k3 (by subst hLB; simp)
    simp only [Tm.cells_mk, List.length_append, List.length_set, List.length_cons, List.length_nil, Nat.zero_add] at a1 a2 G3
    have l10 : n0 < o3.length := by omega
    have l11 : b + 2 < o3.length := by omega
    rw [← hLB]; simp -implicitDefEqProofs [Tm.av, Tm.cells_mk, hF, hFl, List.getElem?_cons_zero, List.getElem?_cons_succ, setO_last, getO_last, getO_set, List.getElem?_append_left, -getElem?_pos, l1, l2, l3, l4, l5, l6, l7, l8, l9, l10, l11, h.l, h.c, a1, a2, b1, b3, yend]
    subst hLB
    dsimp only
    have keep' : ∀ (i : Nat) (y : Obj), i ≠ b + 2 → i ≠ n0 → o[i]? = some y → (∀ es, y ≠ .arr 9 1 es) →
        ((o3.set n0 (Obj.arr 42 1 [[.own (o.length + 1) 0 (out.length + 1) false]])).set (b + 2) (Obj.loop .ready none F [15] A58_1 B58_1))[i]? = some y := fun i y hi hi2 hy hne => by
      rw [List.getElem?_set_ne (Ne.symm hi), List.getElem?_set_ne (Ne.symm hi2)]
      exact a4 _ _ (keep _ _ hi hy) hne
    exact ⟨_, out ++ [s], by simpa [varsOf] using hp, by simp; omega, by rw [List.getElem?_set_ne l7, getO_set l10], getO_set (by simpa using l11), (G3.set b1 (by simp)).set (by rw [List.getElem?_set_ne l6]; exact b3) (by simp), by simp at hl ⊢; omega,
      fun i c hi => ⟨(h.hb i c hi).1, keep' _ _ (by have := (h.hb i c hi).1; omega) (by have := (h.hb i c hi).1; omega) (h.hb i c hi).2 (by simp)⟩,
      fun d hd => keep' _ _ (hne d hd) (fun e => by have := h.hd d hd; rw [e, h.c] at this; cases this) (h.hd d hd) (by simp),
      fun j hj => by rw [List.getElem?_set_ne (by omega), List.getElem?_set_ne (by omega), a5 j (by omega), List.getElem?_append_left (by simp; omega), List.getElem?_set_ne (by omega)]; exact h.low j hj⟩

theorem namesv_eq (ts : List Tm) (hts : ∀ t ∈ ts, t.ok) (hn : (allL ts).length ≤ 4294967295) (hlen : ts.length ≤ 4294967296) (o0 : List Obj) (ro : Nat) (df : List Nat) (v0 : AV) (L : Lz o0 4 v0 (ts.map Tm.cells)) :
    (D T).call 58 [v0] ⟨o0, ro, df⟩ = some (.sl 1 (strA (rising (varsOf (allL ts)))), ⟨o0, ro, df⟩) := by
  have hL := L.len
  simp only [List.length_map] at hL
  have hmx : ts.length ≤ 9223372036854775807 := by omega
  apply call_by (by exact rfl : T 58 = some _) (by simp)
  intro fr hfr hsl
  have s0 := hsl 0 _ rfl
  simp -implicitDefEqProofs [hfr, s0, hL]
  apply loop_inv L58_0.eq_1 List.length (fun (rest : List Tm) fr st => ∃ pre v o out df, NO o0 v0 ts rest fr st pre v o out df) ?_ ts
      ⟨[], .fsl 1 [], _, [], [], rfl, by simp [hfr], by simp [hfr], by simp [hfr, s0], by simp [hfr], by simp [hfr], rfl, by simp, by simp, ⟨.inl rfl, fun _ => rfl⟩, rfl, by simp, by simp, .nil, fun j hj => by rw [List.getElem?_append_left hj]⟩
  rintro rest fr _ ⟨pre, v, o, out, df, e, hfr, q3, q7, q8, q9, rfl, hlo, hc, G, hp, hol, hd, nd, low⟩
  have l0 : o0.length < o.length := by omega
  cases rest with
  | nil =>
    have hlt := idx_end e
    simp only [allL] at hp
    rw [show varsOf [] = [] from rfl, List.append_nil] at hp
    obtain ⟨o1, v2, o2, c1, c2, c3, c4⟩ := G.done (ro := o0.length) (by omega) (by simp [allL] at hol; omega) df hd
    have hc1 := c2 _ _ hc (by simp)
    have hcv : canA v = v := (gr_ls G.G).can
    simp -implicitDefEqProofs [hfr, q3, q7, q8, q9, hlt, hc, c1, c3, c4, hc1, hcv, hp, -getElem?_pos, List.getElem?_cons_zero]
  | cons t rest =>
    obtain ⟨hlt, hg, _⟩ := idx_at e
    have hw := idx_next e hmx
    have ht := hts t (by rw [e]; simp)
    have hall := fun st => all_eq t st
    simp only [Tm.av] at hall
    simp only [allL, List.length_append] at hol
    simp only [allL, varsOf, List.flatMap_append] at hp
    have l1 : o0.length ≤ o.length := by omega
    obtain ⟨p, g1, g2⟩ := L.get o o0.length df pre.length t.cells low (by simp [hg]) (by cases t; simp [Tm.cells_mk])
    have g3 := g2 true
    simp only [val, if_true] at g3
    simp -implicitDefEqProofs [hfr, q3, q7, q8, q9, hlt, g1, g3, hall, setO_last, getO_last, l1, -getElem?_pos, List.getElem?_cons_zero]
    generalize hF : put _ _ _ = F
    have f3 : slot F 3 = .ptr o0.length 0 0 := by subst hF; simp [hfr, q3]
    have f7 : slot F 7 = v0 := by subst hF; simp [hfr, q7]
    have f8 : slot F 8 = .int .i64 (ts.length : Int) := by subst hF; simp [hfr, q8]
    have f9 : slot F 9 = .int .i64 (pre.length : Int) := by subst hF; simp [hfr, q9]
    have fl : F.length = 29 := by subst hF; simp [hfr]
    clear hF
    rw [show o.length + 1 + 1 = o.length + 2 from rfl]
    have hne : ∀ d ∈ df, d < o.length := fun d hd' => lt_of_getO (hd d hd')
    obtain ⟨b, o', hwk, h1, h2⟩ := walk_eq (ro := o0.length) (r := o.length + 2)
      (fun rest2 o2 bx => ∃ v out2, NY o0 o0.length o.length 4294967295 F (out ++ varsOf t.all) ((o.length + 1) :: df) rest2 o2 bx v out2)
      (fun _ => False)
      (fun l o2 x h => by obtain ⟨_, _, h⟩ := h; have := h.lb; omega)
      (fun l o2 x c h => by
        obtain ⟨v2, out2, h⟩ := h
        have hlb := h.lb
        refine ⟨v2, out2, h.hp, by simp; omega, getO_push h.c _, getO_push h.l _, h.G.push _, h.hl, fun i c' hi => ?_, fun d hd => getO_push (h.hd d hd) _, fun j hj => by rw [List.getElem?_append_left (by omega)]; exact h.low j hj⟩
        rcases List.mem_cons.1 hi with hi | hi
        · simp only [Prod.mk.injEq] at hi
          obtain ⟨rfl, rfl⟩ := hi
          exact ⟨hlb, by simp⟩
        · exact ⟨(h.hb i c' hi).1, getO_push (h.hb i c' hi).2 _⟩)
      (fun l o2 x i c h hi => by obtain ⟨_, _, h⟩ := h; exact (h.hb i c hi).2)
      (fun l o2 x p h => by obtain ⟨v2, out2, h⟩ := h; exact ⟨v2, out2, h.hp, h.lb, h.c, h.l, h.G, h.hl, fun i c hi => h.hb i c (List.mem_cons_of_mem _ hi), h.hd, h.low⟩)
      (fun x l o2 bx df2 _ h => names_yield f3 fl hlo (by omega) x l o2 bx df2 h)
      t ht [] (o ++ [Obj.arr 56 4 [t.cells], Obj.dfr, Obj.loop LoopState.ready none F [15] A58_1 B58_1]) [] []
      ⟨v, out, by simp, by simp, getO_push hc _, by simp [get_base], G.push _, by simp; omega, by simp, fun d hd' => by
        rcases List.mem_cons.1 hd' with rfl | hd'
        · simp [get_base]
        · exact getO_push (hd d hd') _, fun j hj => by rw [List.getElem?_append_left (by omega)]; exact low j hj⟩
    have hcl := all1_eq hwk ((o.length + 1) :: df)
    refine ⟨_, _, hcl, ?_⟩
    cases b with
    | false => exact (h2 rfl).elim
    | true =>
      obtain ⟨v2, out2, h⟩ := h1 rfl
      have hlb := h.lb
      have hp2 := h.hp
      rw [show varsOf [] = [] from rfl, List.append_nil] at hp2
      have hl2 := congrArg List.length hp2
      have hvl := varsOf_len t.all
      simp only [List.length_append] at hl2
      have keep : ∀ (X : Obj) (i : Nat) (y : Obj), i ≠ o.length + 2 → o'[i]? = some y → (o'.set (o.length + 2) X)[i]? = some y := fun X i y hi hy => by rw [List.getElem?_set_ne (Ne.symm hi)]; exact hy
      simp -implicitDefEqProofs [kEnd, fl, f3, f7, f8, f9, h.l, hw, -getElem?_pos]
      refine ⟨rest, by omega, pre ++ [t], v2, _, out2, (o.length + 1) :: df, NO.mk (by simp [e]) (by simp [fl]) (by simp [fl, f3]) (by simp [fl, f7]) (by simp [fl, f8]) (by simp [fl, hw]) rfl (by simp; omega) (keep _ _ _ (by omega) h.c) (h.G.set h.l (by simp)) (by rw [← hp2]; simpa [varsOf] using hp) (by omega) (fun d hd' => keep _ _ _ ?_ (h.hd d hd')) (List.nodup_cons.2 ⟨fun hm => ?_, nd⟩) (fun j hj => by rw [List.getElem?_set_ne (by omega)]; exact h.low j hj)⟩
      · rcases List.mem_cons.1 hd' with rfl | hd'
        · omega
        · have := hne d hd'; omega
      · have := hne _ hm; omega

theorem names_eq (ts : List Tm) (hts : ∀ t ∈ ts, t.ok) (hn : (allL ts).length ≤ 4294967295) (hlen : ts.length ≤ 4294967296) (o0 : List Obj) (ro : Nat) (df : List Nat) :
    (D T).call 58 [.sl 4 (ts.map Tm.cells)] ⟨o0, ro, df⟩ = some (.sl 1 (strA (rising (varsOf (allL ts)))), ⟨o0, ro, df⟩) :=
  namesv_eq ts hts hn hlen o0 ro df _ (Lz.ls (ls_sl _))

end Go.Proofs.Ytpenaaljaahanaa.A
