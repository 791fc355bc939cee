/- Claims taken apart: what the functions give. -/
import Derived.Test.YtpenaaljaahanaaC5
namespace Go.Proofs.Ytpenaaljaahanaa.A
open Go
set_option maxRecDepth 10000
set_option linter.unusedSimpArgs false
attribute [-simp] List.all_eq_true put slot_def ld idxA lenOf elems canA app hand

theorem room_of8 {n b : Nat} (h : n * b ≤ 140737488355328) (h2 : n ≤ 4611686018427387904) : room n b = true := by simp [room, h, h2]

mutual
/-- taken apart -/
def flatC (op : Int) : Cl → List Cl
  | .mk a s u ts cs => if a = op ∧ (op = 7 ∨ op = 8) then flatCs op cs else [.mk a s u ts cs]
def flatCs (op : Int) : List Cl → List Cl
  | [] => []
  | c :: l => flatC op c ++ flatCs op l
end

theorem flatCs_app (op : Int) : ∀ (l k : List Cl), flatCs op (l ++ k) = flatCs op l ++ flatCs op k
  | [], k => rfl
  | t :: l, k => by simp [flatCs, flatCs_app op l k]

mutual
/-- how many claims -/
def cnt : Cl → Nat
  | .mk _ _ _ _ cs => 1 + cntL cs
def cntL : List Cl → Nat
  | [] => 0
  | c :: l => cnt c + cntL l
end

mutual
theorem flat_cnt (op : Int) : ∀ c : Cl, (flatC op c).length ≤ cnt c
  | .mk a s u ts cs => by
    have := flats_cnt op cs
    simp only [flatC, cnt]
    split
    · omega
    · simp
theorem flats_cnt (op : Int) : ∀ l : List Cl, (flatCs op l).length ≤ cntL l
  | [] => Nat.le_refl _
  | c :: l => by
    have := flat_cnt op c
    have := flats_cnt op l
    simp only [flatCs, cntL, List.length_append]
    omega
end

theorem mem_cnt : ∀ {l : List Cl} {t : Cl}, t ∈ l → cnt t ≤ cntL l
  | u :: l, t, h => by
    simp only [cntL]
    rcases List.mem_cons.1 h with rfl | h
    · omega
    · have := mem_cnt h
      omega

theorem szL_low : ∀ (l : List Tm) (m n : Int), n ≤ m + 1 → n ≤ szL l m n
  | [], _, _, _ => by simp [szL]
  | t :: l, m, n, h => by
    simp only [szL]
    split
    · have := sz_le t (m - n) (by omega)
      have := szL_low l m (n + sz t (m - n)) (by omega)
      omega
    · omega

mutual
theorem wt_cnt : ∀ (c : Cl) (m : Int), 0 ≤ m → wt c m ≤ m → (cnt c : Int) ≤ wt c m
  | .mk a s u ts cs, m, h0, h => by
    simp only [wt] at h ⊢
    have h1 := szL_low ts m 1 (by omega)
    have := wtL_cnt cs m _ h
    simp only [cnt]
    omega
theorem wtL_cnt : ∀ (l : List Cl) (m n : Int), wtL l m n ≤ m → n + (cntL l : Int) ≤ wtL l m n
  | [], m, n, h => by simp [wtL, cntL]
  | c :: l, m, n, h => by
    simp only [wtL] at h ⊢
    by_cases hn : n ≤ m
    · rw [if_pos hn] at h ⊢
      by_cases ht : wt c (m - n) ≤ m - n
      · have h1 := wt_cnt c (m - n) (by omega) ht
        have h2 := wtL_cnt l m _ h
        simp only [cntL]
        omega
      · rw [wtL_out _ _ _ (by omega)] at h
        omega
    · rw [if_neg hn] at h
      omega
end

mutual
theorem flat_ok (op : Int) : ∀ c : Cl, c.ok → ∀ x ∈ flatC op c, x.ok
  | .mk a s u ts cs, h, x, hx => by
    simp only [flatC] at hx
    split at hx
    · simp only [Cl.ok] at h
      exact flats_ok op cs (okC_iff.1 h.2.2.2.2.2.2) x hx
    · obtain rfl := List.mem_singleton.1 hx
      exact h
theorem flats_ok (op : Int) : ∀ l : List Cl, (∀ t ∈ l, t.ok) → ∀ x ∈ flatCs op l, x.ok
  | [], _, x, hx => by simp [flatCs] at hx
  | c :: l, h, x, hx => by
    simp only [flatCs, List.mem_append] at hx
    rcases hx with hx | hx
    · exact flat_ok op c (h c (List.mem_cons_self ..)) x hx
    · exact flats_ok op l (fun t ht => h t (List.mem_cons_of_mem _ ht)) x hx
end

theorem cflat_eq (op : Int) : ∀ (c : Cl), c.ok → cnt c ≤ 4294967296 → ∀ (o0 : List Obj) (ro : Nat) (df : List Nat),
    (D T).call 23 [c.av, .int .i64 op] ⟨o0, ro, df⟩ = some (.sl 5 ((flatC op c).map Cl.cells), ⟨o0, ro, df⟩)
  | .mk a s u ts cs, hok, hn, o0, ro, df => by
    have hok' := hok
    simp only [Cl.ok] at hok
    have hcs := okC_iff.1 hok.2.2.2.2.2.2
    have hmx : cs.length ≤ 9223372036854775807 := Nat.le_trans hok.2.2.2.2.2.1 (by decide)
    simp only [cnt] at hn
    have ih := fun x (hx : x ∈ cs) o ro df => cflat_eq op x (hcs x hx) (Nat.le_trans (mem_cnt hx) (by omega)) o ro df
    simp only [Cl.av] at ih
    apply call_by (by exact rfl : T 23 = some _) (by simp)
    intro fr hfr hsl
    have s0 := hsl 0 _ rfl
    have s1 := hsl 1 _ rfl
    simp only [Cl.av, Cl.cells_mk] at s0
    have h1 := flat_list ts
    have h2 := cflat_list cs
    by_cases e1 : a = op
    · subst e1
      by_cases e2 : a = 7 ∨ a = 8
      · have lp : ∀ (fr : List AV) (Q : AE → List AV → St → Prop), fr.length = 36 → slot fr 1 = .int .i64 a → slot fr 5 = .fsl 5 [] → slot fr 23 = .sl 5 (cs.map Cl.cells) → slot fr 24 = .int .i64 (cs.length : Int) → slot fr 25 = .int .i64 0 →
            (∀ (fr' : List AV) v o', fr'.length = 36 → slot fr' 5 = v → Gr (o0.length + 1) 25 5 o' v ((flatCs a cs).map Cl.cells) → Q (.exit 0) fr' ⟨o', o0.length, []⟩) →
            ∃ e fr' st', (D T).loop false L23_0 fr ⟨o0 ++ [.arr 25 5 [[.int .i64 a, .str s, .str u, .sl 4 (ts.map Tm.cells), .sl 5 (cs.map Cl.cells)]]], o0.length, []⟩ = some (e, fr', st') ∧ Q e fr' st' := by
          intro fr Q p p1 p5 p23 p24 p25 k
          apply loop_inv L23_0.eq_1 List.length (fun (rest : List Cl) fr st => ∃ pre v o', cs = pre ++ rest ∧ fr.length = 36 ∧ slot fr 1 = .int .i64 a ∧ slot fr 5 = v ∧ slot fr 23 = .sl 5 (cs.map Cl.cells) ∧ slot fr 24 = .int .i64 (cs.length : Int) ∧ slot fr 25 = .int .i64 (pre.length : Int) ∧
            st = ⟨o', o0.length, []⟩ ∧ o0.length + 1 ≤ o'.length ∧ Gr (o0.length + 1) 25 5 o' v ((flatCs a pre).map Cl.cells) ∧ (flatCs a pre = [] ∨ ∃ r n f, v = .own r 0 n f)) ?_ cs ⟨[], _, _, rfl, p, p1, p5, p23, p24, p25, rfl, by simp, .inl rfl, .inl rfl⟩
          rintro rest fr _ ⟨pre, v, o', e, hfr, q1, q5, q23, q24, q25, rfl, hlo, G, hv⟩
          cases rest with
          | nil =>
            have hlt := idx_end e
            have ee : pre = cs := by simpa using e.symm
            subst ee
            simp -implicitDefEqProofs [hfr, q1, q5, q23, q24, q25, hlt]
            exact k _ v o' (by simp [hfr]) (by simp [hfr, q5]) G
          | cons c rest =>
            obtain ⟨hlt, hg, _⟩ := idx_at e
            have hw := idx_next e hmx
            have hc := ih c (by simp [e]) (o' ++ [.arr 25 5 [c.cells]]) o0.length []
            have hal : (flatCs a cs).length = (flatCs a pre).length + ((flatC a c).length + (flatCs a rest).length) := by rw [e, flatCs_app]; simp [flatCs]
            have hfc := flats_cnt a cs
            obtain ⟨o2, a1, a2, a3, a4⟩ := app_get' (bytes := 88) (ro := o0.length) (df := []) (G.push [.arr 25 5 [c.cells]]) (Nat.le_succ _) (x := .sl 5 ((flatC a c).map Cl.cells)) rfl (fun h => by
              rcases hv with hv | ⟨r, n, f, hv⟩
              · exact .inl (by simp [hv])
              · rw [hv] at h; cases h) (room_of8 (by simp; omega) (by simp; omega))
            have l1 : o0.length ≤ o'.length := by omega
            simp -implicitDefEqProofs [hfr, q1, q5, q23, q24, q25, hlt, hg, hw, hc, setO_last, getO_last, l1, a1, -getElem?_pos, List.getElem?_cons_zero]
            simp only [List.length_append, List.length_cons, List.length_nil, Nat.zero_add] at a2 a3
            refine ⟨rest, by simp, pre ++ [c], by simp [e], by simp, by omega, ?_⟩
            exact .inr ⟨o'.length + 1, by omega, by simp [flatCs_app, flatCs], by rw [a3]; simp [flatCs_app, flatCs]⟩
        have fe : flatC a (.mk a s u ts cs) = flatCs a cs := by simp [flatC, e2]
        rw [fe]
        rcases e2 with rfl | rfl
        · simp -implicitDefEqProofs [hfr, s0, s1, get_base0, get_base]
          apply lp
          · simp [hfr]
          · simp [hfr, s1]
          · simp [hfr]
          · simp [hfr]
          · simp [hfr]
          · simp [hfr]
          · intro fr' v o' hf p5 G
            have hh := gr_hand G (Nat.le_succ _) (cflat_list _)
            simp -implicitDefEqProofs [hf, p5, hh]
        · simp -implicitDefEqProofs [hfr, s0, s1, get_base0, get_base]
          apply lp
          · simp [hfr]
          · simp [hfr, s1]
          · simp [hfr]
          · simp [hfr]
          · simp [hfr]
          · simp [hfr]
          · intro fr' v o' hf p5 G
            have hh := gr_hand G (Nat.le_succ _) (cflat_list _)
            simp -implicitDefEqProofs [hf, p5, hh]
      · have fe : flatC a (.mk a s u ts cs) = [.mk a s u ts cs] := by simp [flatC, e2]
        rw [fe]
        simp only [not_or] at e2
        have c1 : (a != 7) = true := by simpa using e2.1
        have c2 : (a != 8) = true := by simpa using e2.2
        simp -implicitDefEqProofs [hfr, s0, s1, get_base0, get_base, e2.1, e2.2, c1, c2, h1, h2, Cl.cells_mk]
    · have fe : flatC op (.mk a s u ts cs) = [.mk a s u ts cs] := by simp [flatC, e1]
      rw [fe]
      have c1 : (a != op) = true := by simpa using e1
      simp -implicitDefEqProofs [hfr, s0, s1, get_base0, get_base, e1, c1, h1, h2, Cl.cells_mk]
termination_by t => SizeOf.sizeOf t
decreasing_by
  have := List.sizeOf_lt_of_mem hx
  simp
  omega

theorem rflat_eq (op : Int) : ∀ (c : Cl), c.ok → cnt c ≤ 4294967296 → ∀ (o0 : List Obj) (ro : Nat) (df : List Nat),
    (D T).call 24 [c.av, .int .i64 op] ⟨o0, ro, df⟩ = some (.sl 5 ((flatC op c).map Cl.cells), ⟨o0, ro, df⟩)
  | .mk a s u ts cs, hok, hn, o0, ro, df => by
    have hok' := hok
    simp only [Cl.ok] at hok
    have hcs := okC_iff.1 hok.2.2.2.2.2.2
    have hmx : cs.length ≤ 9223372036854775807 := Nat.le_trans hok.2.2.2.2.2.1 (by decide)
    simp only [cnt] at hn
    have ih := fun x (hx : x ∈ cs) o ro df => rflat_eq op x (hcs x hx) (Nat.le_trans (mem_cnt hx) (by omega)) o ro df
    simp only [Cl.av] at ih
    apply call_by (by exact rfl : T 24 = some _) (by simp)
    intro fr hfr hsl
    have s0 := hsl 0 _ rfl
    have s1 := hsl 1 _ rfl
    simp only [Cl.av, Cl.cells_mk] at s0
    have h1 := flat_list ts
    have h2 := cflat_list cs
    by_cases e1 : a = op
    · subst e1
      by_cases e2 : a = 7 ∨ a = 8
      · have lp : ∀ (fr : List AV) (Q : AE → List AV → St → Prop), fr.length = 38 → slot fr 1 = .int .i64 a → slot fr 5 = .fsl 5 [] → slot fr 2 = .ptr o0.length 0 0 → slot fr 6 = .int .i64 0 →
            (∀ (fr' : List AV) v o', fr'.length = 38 → slot fr' 5 = v → Gr (o0.length + 1) 25 5 o' v ((flatCs a cs).map Cl.cells) → Q (.exit 0) fr' ⟨o', o0.length, []⟩) →
            ∃ e fr' st', (D T).loop false L24_0 fr ⟨o0 ++ [.arr 25 5 [[.int .i64 a, .str s, .str u, .sl 4 (ts.map Tm.cells), .sl 5 (cs.map Cl.cells)]]], o0.length, []⟩ = some (e, fr', st') ∧ Q e fr' st' := by
          intro fr Q p p1 p5 p2 p6 k
          apply loop_inv L24_0.eq_1 List.length (fun (rest : List Cl) fr st => ∃ pre v o', cs = pre ++ rest ∧ fr.length = 38 ∧ slot fr 1 = .int .i64 a ∧ slot fr 5 = v ∧ slot fr 2 = .ptr o0.length 0 0 ∧ slot fr 6 = .int .i64 (pre.length : Int) ∧ o'[o0.length]? = some (.arr 25 5 [[.int .i64 a, .str s, .str u, .sl 4 (ts.map Tm.cells), .sl 5 (cs.map Cl.cells)]]) ∧
            st = ⟨o', o0.length, []⟩ ∧ o0.length + 1 ≤ o'.length ∧ Gr (o0.length + 1) 25 5 o' v ((flatCs a pre).map Cl.cells) ∧ (flatCs a pre = [] ∨ ∃ r n f, v = .own r 0 n f)) ?_ cs ⟨[], _, _, rfl, p, p1, p5, p2, p6, by simp [get_base0], rfl, by simp, .inl rfl, .inl rfl⟩
          rintro rest fr _ ⟨pre, v, o', e, hfr, q1, q5, q2, q6, g0, rfl, hlo, G, hv⟩
          cases rest with
          | nil =>
            have hlt := idx_end e
            have ee : pre = cs := by simpa using e.symm
            subst ee
            simp -implicitDefEqProofs [hfr, q1, q5, q2, q6, g0, hlt]
            exact k _ v o' (by simp [hfr]) (by simp [hfr, q5]) G
          | cons c rest =>
            obtain ⟨hlt, hg, _⟩ := idx_at e
            have hw := idx_next e hmx
            have hc := ih c (by simp [e]) o' o0.length []
            have hal : (flatCs a cs).length = (flatCs a pre).length + ((flatC a c).length + (flatCs a rest).length) := by rw [e, flatCs_app]; simp [flatCs]
            have hfc := flats_cnt a cs
            obtain ⟨o2, a1, a2, a3, a4⟩ := app_get' (bytes := 88) (ro := o0.length) (df := []) G (Nat.le_succ _) (x := .sl 5 ((flatC a c).map Cl.cells)) rfl (fun h => by
              rcases hv with hv | ⟨r, n, f, hv⟩
              · exact .inl (by simp [hv])
              · rw [hv] at h; cases h) (room_of8 (by simp; omega) (by simp; omega))
            have l1 : o0.length ≤ o'.length := by omega
            simp -implicitDefEqProofs [hfr, q1, q5, q2, q6, g0, hlt, hg, hw, hc, a1, -getElem?_pos, List.getElem?_cons_zero]
            refine ⟨rest, by simp, pre ++ [c], by simp [e], by simp, o2, a4 _ _ g0 (G.not (Nat.lt_succ_self _)), rfl, by omega, ?_⟩
            exact .inr ⟨o'.length, by omega, by simp [flatCs_app, flatCs], by rw [a3]; simp [flatCs_app, flatCs]⟩
        have fe : flatC a (.mk a s u ts cs) = flatCs a cs := by simp [flatC, e2]
        rw [fe]
        rcases e2 with rfl | rfl
        · simp -implicitDefEqProofs [hfr, s0, s1, get_base0, get_base]
          apply lp
          · simp [hfr]
          · simp [hfr, s1]
          · simp [hfr]
          · simp [hfr]
          · simp [hfr]
          · intro fr' v o' hf p5 G
            have hh := gr_hand G (Nat.le_succ _) (cflat_list _)
            simp -implicitDefEqProofs [hf, p5, hh]
        · simp -implicitDefEqProofs [hfr, s0, s1, get_base0, get_base]
          apply lp
          · simp [hfr]
          · simp [hfr, s1]
          · simp [hfr]
          · simp [hfr]
          · simp [hfr]
          · intro fr' v o' hf p5 G
            have hh := gr_hand G (Nat.le_succ _) (cflat_list _)
            simp -implicitDefEqProofs [hf, p5, hh]
      · have fe : flatC a (.mk a s u ts cs) = [.mk a s u ts cs] := by simp [flatC, e2]
        rw [fe]
        simp only [not_or] at e2
        have c1 : (a != 7) = true := by simpa using e2.1
        have c2 : (a != 8) = true := by simpa using e2.2
        simp -implicitDefEqProofs [hfr, s0, s1, get_base0, get_base, e2.1, e2.2, c1, c2, h1, h2, Cl.cells_mk]
    · have fe : flatC op (.mk a s u ts cs) = [.mk a s u ts cs] := by simp [flatC, e1]
      rw [fe]
      have c1 : (a != op) = true := by simpa using e1
      simp -implicitDefEqProofs [hfr, s0, s1, get_base0, get_base, e1, c1, h1, h2, Cl.cells_mk]
termination_by t => SizeOf.sizeOf t
decreasing_by
  have := List.sizeOf_lt_of_mem hx
  simp
  omega

end Go.Proofs.Ytpenaaljaahanaa.A
