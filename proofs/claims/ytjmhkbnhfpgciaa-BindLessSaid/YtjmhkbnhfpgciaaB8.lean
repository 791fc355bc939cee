/- The loose numbers gathered by the program. -/
import Derived.Test.YtjmhkbnhfpgciaaB3
namespace Go.Proofs.Ytjmhkbnhfpgciaa.A
open Go
set_option maxRecDepth 10000
set_option linter.unusedSimpArgs false
attribute [-simp] List.all_eq_true put slot_def ld idxA lenOf elems canA app hand

mutual
/-- a term's loose numbers, as they come -/
def lsT (k : Nat) : Tm → List Int
  | .mk a _ b l => (bif lq k a b then [nOf k b] else []) ++ lsTL k l
def lsTL (k : Nat) : List Tm → List Int
  | [] => []
  | t :: l => lsT k t ++ lsTL k l
end

theorem lsTL_ap (k : Nat) : ∀ l m, lsTL k (l ++ m) = lsTL k l ++ lsTL k m
  | [], m => rfl
  | t :: l, m => by simp [lsTL, lsTL_ap k l m]

theorem allL_ap' : ∀ l m, allL (l ++ m) = allL l ++ allL m
  | [], m => rfl
  | t :: l, m => by simp [allL, allL_ap' l m]

mutual
theorem lsT_len (k : Nat) : ∀ t, (lsT k t).length ≤ t.all.length
  | .mk a s b l => by
    have := lsTL_len k l
    simp only [lsT, Tm.all, List.length_append, List.length_cons]
    cases lq k a b <;> simp <;> omega
theorem lsTL_len (k : Nat) : ∀ l, (lsTL k l).length ≤ (allL l).length
  | [] => by simp [lsTL]
  | t :: l => by
    have := lsT_len k t
    have := lsTL_len k l
    simp only [lsTL, allL, List.length_append]
    omega
end

/-- where the numbers gathered so far are -/
structure Gi (lo pb lb : Nat) (o : List Obj) (v : AV) (ns : List Int) : Prop where
  p : o[pb]? = some (.arr 70 1 [[.ptr lb 0 0]])
  l : o[lb]? = some (.arr 42 1 [[v]])
  G : Gx 3 1 lo o v (ns.map fun n => [.int .i64 n])
  hp : pb < lo
  hl : lb < lo
  ne : pb ≠ lb

/-- what gathering keeps -/
structure Gk (lb : Nat) (o : List Obj) (v : AV) (o' : List Obj) (v' : AV) : Prop where
  le : o.length ≤ o'.length
  keep : ∀ i, i < o.length → i ≠ lb → (∀ n f, v ≠ .own i 0 n f) → o'[i]? = o[i]? ∧ ∀ n f, v' ≠ .own i 0 n f

theorem Gk.trans {lb : Nat} {o o1 o2 : List Obj} {v v1 v2 : AV} (h : Gk lb o v o1 v1) (k : Gk lb o1 v1 o2 v2) : Gk lb o v o2 v2 :=
  ⟨Nat.le_trans h.le k.le, fun i hi hl hv => by
    obtain ⟨a, b⟩ := h.keep i hi hl hv
    obtain ⟨c, d⟩ := k.keep i (Nat.lt_of_lt_of_le hi h.le) hl b
    exact ⟨by rw [c, a], d⟩⟩
theorem Gk.push {lb : Nat} {o o1 : List Obj} {v v1 : AV} (h : Gk lb o v o1 v1) (m : List Obj) : Gk lb o v (o1 ++ m) v1 :=
  ⟨by have := h.le; simp; omega, fun i hi hl hv => by
    obtain ⟨a, b⟩ := h.keep i hi hl hv
    have := h.le
    exact ⟨by rw [List.getElem?_append_left (by omega), a], b⟩⟩
theorem Gk.refl {lb : Nat} {o : List Obj} {v : AV} : Gk lb o v o v := ⟨Nat.le_refl _, fun _ _ _ h => ⟨rfl, h⟩⟩
theorem Gk.set {lb : Nat} {o o1 : List Obj} {v v1 : AV} (h : Gk lb o v o1 v1) {i : Nat} (hi : o.length ≤ i) (X : Obj) : Gk lb o v (o1.set i X) v1 :=
  ⟨by simpa using h.le, fun j hj hl hv => by
    obtain ⟨a, b⟩ := h.keep j hj hl hv
    exact ⟨by rw [List.getElem?_set_ne (by omega), a], b⟩⟩
theorem Gk.appw {lb ty sz L : Nat} {o o1 o2 : List Obj} {v v1 w w' : AV} {es es' : List (List AV)} (h : Gk lb o v o1 v1) (G : Gx ty sz L o1 w es) (W : Gw ty sz L o1 w o2 w' es') (hL : o.length ≤ L) : Gk lb o v o2 v1 :=
  ⟨Nat.le_trans h.le W.le, fun j hj hl hv => by
    obtain ⟨a, b⟩ := h.keep j hj hl hv
    have := h.le
    exact ⟨by rw [(W.keep j (by omega) (fun n f => G.not (by omega) n f)).1, a], b⟩⟩

theorem Gi.push {lo pb lb : Nat} {o : List Obj} {v : AV} {ns : List Int} (h : Gi lo pb lb o v ns) (m : List Obj) : Gi lo pb lb (o ++ m) v ns :=
  ⟨getO_push h.p m, getO_push h.l m, h.G.push m, h.hp, h.hl, h.ne⟩
/-- a box of a frame is set -/
theorem Gi.set {lo pb lb : Nat} {o : List Obj} {v : AV} {ns : List Int} (h : Gi lo pb lb o v ns) {i : Nat} {ty sz : Nat} {es : List (List AV)} (hi : lo ≤ i) (hx : o[i]? = some (.arr ty sz es)) (hty : ty ≠ 3) (X : Obj) : Gi lo pb lb (o.set i X) v ns :=
  ⟨by rw [List.getElem?_set_ne (by have := h.hp; omega)]; exact h.p, by rw [List.getElem?_set_ne (by have := h.hl; omega)]; exact h.l, h.G.set hx (fun es' e => hty (by cases e; rfl)), h.hp, h.hl, h.ne⟩
theorem Gi.appw {lo pb lb ty sz L : Nat} {o o2 : List Obj} {v w w' : AV} {ns : List Int} {es es' : List (List AV)} (h : Gi lo pb lb o v ns) (G : Gx ty sz L o w es) (W : Gw ty sz L o w o2 w' es') (hL : lo ≤ L) (hty : ty ≠ 3) : Gi lo pb lb o2 v ns := by
  have h1 := h.hp
  have h2 := h.hl
  refine ⟨by rw [(W.keep pb (lt_of_getO h.p) (fun n f => G.not (by omega) n f)).1]; exact h.p, by rw [(W.keep lb (lt_of_getO h.l) (fun n f => G.not (by omega) n f)).1]; exact h.l, ⟨?_, h.G.nil⟩, h1, h2, h.ne⟩
  rcases h.G.G with hv | ⟨r, r1, hv, r2⟩
  · exact .inl hv
  · exact .inr ⟨r, r1, hv, by rw [(W.keep r (lt_of_getO r2) (gx_apart G r2 hty)).1]; exact r2⟩

theorem gx_setne {ty sz lo : Nat} {o : List Obj} {v : AV} {es : List (List AV)} (G : Gx ty sz lo o v es) {i : Nat} (hv : ∀ n f, v ≠ .own i 0 n f) (X : Obj) : Gx ty sz lo (o.set i X) v es := by
  refine ⟨?_, G.nil⟩
  rcases G.G with rfl | ⟨r, r1, rfl, r2⟩
  · exact .inl rfl
  · exact .inr ⟨r, r1, rfl, by rw [List.getElem?_set_ne (by rintro rfl; exact hv _ _ rfl)]; exact r2⟩

theorem gather1_eq {lo pb lb : Nat} {v : AV} {ns : List Int} (t : Tm) (k : Nat) (o : List Obj) (ro : Nat) (df : List Nat) (S : Gi lo pb lb o v ns) (hlo : lo ≤ o.length) (hro : ro ≤ lb) (hn : ns.length ≤ 4294967296) :
    ∃ o' v', (D T).call 64 [t.av, .int .i64 (k : Int), .ptr pb 0 0] ⟨o, ro, df⟩ = some (.tup [t.av, .bool false], ⟨o', ro, df⟩) ∧ Gi lo pb lb o' v' (ns ++ (match t with | .mk a _ b _ => bif lq k a b then [nOf k b] else [])) ∧ Gk lb o v o' v' := by
  have hls := fun st => loose_eq t k st
  obtain ⟨a, s, b, l⟩ := t
  simp only [Tm.av, Tm.cells_mk] at hls
  suffices hh : ∃ u st', (D T).call 64 [(Tm.mk a s b l).av, .int .i64 (k : Int), .ptr pb 0 0] ⟨o, ro, df⟩ = some (u, st') ∧ (fun u st' => ∃ o' v', u = .tup [(Tm.mk a s b l).av, .bool false] ∧ st' = ⟨o', ro, df⟩ ∧ Gi lo pb lb o' v' (ns ++ (bif lq k a b then [nOf k b] else [])) ∧ Gk lb o v o' v') u st' by
    obtain ⟨_, _, h1, o', v', rfl, rfl, h2, h3⟩ := hh
    exact ⟨o', v', h1, h2, h3⟩
  have h1 := S.hp
  have h2 := S.hl
  obtain ⟨B, hB⟩ : ∃ B, B = [Obj.arr 27 4 [[.int .i64 a, .str s, .int .i64 b, .sl 4 (l.map Tm.cells)]], Obj.arr 27 4 [[.int .i64 0, .str ⟨#[]⟩, .int .i64 0, .fsl 4 []]]] := ⟨_, rfl⟩
  have S1 := S.push B
  have p1 := S1.p
  have p2 := S1.l
  have l1 : o.length + 1 < (o ++ B).length := by simp [hB]
  obtain ⟨o3, a1, a2, W⟩ := gx_appw S1.G (ro := ro) (df := []) (bytes := 8) (by omega) (by simp; omega) (elems_fsl _ 1 [[.int .i64 (nOf k b)]]) (room_of0 (by simp; omega) (by simp; omega))
  have k0 := (W.keep o.length (by omega) (fun n f => S.G.lt (by omega) n f)).1
  have k1 := (W.keep (o.length + 1) (by omega) (fun n f => S.G.lt (by omega) n f)).1
  have k2 := (W.keep pb (lt_of_getO p1) (fun n f => S.G.not (by omega) n f)).1
  have k3 := (W.keep lb (lt_of_getO p2) (fun n f => S.G.not (by omega) n f)).1
  rw [p1] at k2
  rw [p2] at k3
  rw [hB] at k0 k1
  simp only [get_base0, get_base, List.getElem?_cons_zero, List.getElem?_cons_succ] at k0 k1
  have l2 : o.length + 1 < o3.length := by omega
  have l3 : lb < o3.length := by omega
  have n1 : ¬ (lb = o.length + 1) := by omega
  have n2 : ¬ (o.length + 1 = lb) := by omega
  have n3 : ¬ (lb = o.length) := by omega
  have n4 : ¬ (o.length = lb) := by omega
  have Gk0 : Gk lb o v (o ++ B) v := Gk.refl.push B
  have hro1 : ro ≤ o.length + 1 := by omega
  have d0 : ∀ X, (o3.set lb X)[o.length]? = some (Obj.arr 27 4 [[.int .i64 a, .str s, .int .i64 b, .sl 4 (l.map Tm.cells)]]) := fun X => by rw [List.getElem?_set_ne n3]; exact k0
  have d1 : ∀ X, (o3.set lb X)[o.length + 1]? = some (Obj.arr 27 4 [[.int .i64 0, .str ⟨#[]⟩, .int .i64 0, .fsl 4 []]]) := fun X => by rw [List.getElem?_set_ne n1]; exact k1
  rw [hB] at p1 p2 a1
  apply call_for (by exact rfl : T 64 = some _) (by simp)
  intro fr hfr hsl
  have s0 := hsl 0 _ rfl
  have s1 := hsl 1 _ rfl
  have s2 := hsl 2 _ rfl
  simp only [Tm.av, Tm.cells_mk] at s0
  cases h : lq k a b with
  | false =>
    simp -implicitDefEqProofs [hfr, s0, s1, s2, hls, h, hro1, get_base0, get_base, set_base0, set_base, Tm.av, Tm.cells_mk, -getElem?_pos, List.getElem?_cons_zero, List.getElem?_cons_succ]
    exact ⟨v, S.push _, Gk.refl.push _⟩
  | true =>
    simp -implicitDefEqProofs [hfr, s0, s1, s2, hls, h, p1, p2, a1, k0, k1, k2, k3, l2, l3, hro, hro1, d0, d1, get_base0, get_base, set_base0, set_base, Tm.av, Tm.cells_mk, getO_set, -getElem?_pos, List.getElem?_cons_zero, List.getElem?_cons_succ]
    refine ⟨.own (o.length + 2) 0 (ns.length + 1) false, ⟨?_, ?_, ?_, h1, h2, S.ne⟩, ?_, fun i hi hl hv => ⟨?_, fun n f => by simp; omega⟩⟩
    · rw [List.getElem?_set_ne (by omega), List.getElem?_set_ne (Ne.symm S.ne)]; exact k2
    · rw [List.getElem?_set_ne (by omega), getO_set l3]
    · have hG := W.G
      simp only [hB, List.length_append, List.length_cons, List.length_nil, List.length_map] at hG
      rw [List.map_append]
      exact gx_setne (gx_setne hG (by simp; omega) _) (by simp) _
    · simp; omega
    · rw [List.getElem?_set_ne (by omega), List.getElem?_set_ne (Ne.symm hl), (W.keep i (by omega) hv).1, List.getElem?_append_left hi]
end Go.Proofs.Ytjmhkbnhfpgciaa.A
