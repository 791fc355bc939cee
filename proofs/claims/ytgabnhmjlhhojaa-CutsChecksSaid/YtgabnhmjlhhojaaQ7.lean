/- lin.Sum, Scale and Add. -/
import Derived.Test.YtgabnhmjlhhojaaQ6
namespace Go.Proofs.Ytgabnhmjlhhojaa.A
open Go
set_option maxRecDepth 10000
set_option linter.unusedSimpArgs false
set_option linter.unusedVariables false
attribute [-simp] List.all_eq_true put slot_def ld idxA lenOf elems canA app hand add64A

theorem app_getP {o0 o : List Obj} {lo ty sz bytes ro : Nat} {df : List Nat} {v : AV} {es : List (List AV)} (hp : Pre o0 o) (h0 : o0.length ≤ lo) (h : Gr lo ty sz o v es) (hro : ro ≤ lo)
    {x : AV} {xs : List (List AV)} (hx : elems ⟨o, ro, df⟩ x = some (sz, xs)) (hne : es = [] ∨ xs ≠ []) (hr : room (es.length + xs.length) bytes = true) :
    ∃ o', app ⟨o, ro, df⟩ ty sz bytes v x = some (.own o.length 0 (es.length + xs.length) false, ⟨o', ro, df⟩) ∧ o'.length = o.length + 1 ∧ o'[o.length]? = some (.arr ty sz (es ++ xs)) ∧
      (∀ i y, o[i]? = some y → (∀ n f, v ≠ .own i 0 n f) → o'[i]? = some y) ∧ Pre o0 o' := by
  rcases h with rfl | ⟨r, h1, rfl, h3⟩
  · exact ⟨o ++ [.arr ty sz (es ++ xs)], by
      have hc : ¬ (xs = [] ∧ es ≠ []) := fun hh => by rcases hne with h | h; exact hh.2 h; exact h hh.1
      unfold app; rw [hx]
      simp only [true_or, not_true, if_false]
      rw [if_neg hc, if_pos ⟨hne.imp id fun h => ⟨trivial, h⟩, hr⟩]; rfl, by simp, by simp, fun i y hy _ => getO_push hy _, hp.push _⟩
  · exact ⟨o.set r .dead ++ [.arr ty sz (es ++ xs)], by unfold app; rw [hx]; simp [h3, hr, show ro ≤ r by omega, -elems], by simp, by rw [show o.length = (o.set r .dead).length by simp]; simp,
      fun i y hy hv => getO_push (by rw [List.getElem?_set_ne (fun e => hv es.length false (by rw [e]))]; exact hy) _, (hp.set (by omega) _).push _⟩

/-! bounds -/
def DD : Int := 85070591730234615865843651857942052864
theorem accM_bd (b : Int) (hb : inI64 b) : ∀ (l : List (Int × Int)) (xs : List Int) (B : Int), 0 ≤ B → (∀ m ∈ l, inI64 m.2) → (∀ x ∈ xs, -B ≤ x ∧ x ≤ B) → ∀ x ∈ accM b l xs, -(B + l.length * DD) ≤ x ∧ x ≤ B + l.length * DD
  | [], xs, B, h0, hm, h, x, hx => by have := h x hx; simp; omega
  | m :: l, xs, B, h0, hm, h, x, hx => by
    have hp := prod_rng (hm m (by simp)) hb
    have hd : DD = 85070591730234615865843651857942052864 := rfl
    have ih := accM_bd b hb l (xs.set m.1.toNat (xs.getD m.1.toNat 0 + m.2 * b)) (B + DD) (by omega) (fun k hk => hm k (by simp [hk])) (fun y hy => by
      rcases List.mem_or_eq_of_mem_set hy with hy | rfl
      · have := h y hy; omega
      · have hg : -B ≤ xs.getD m.1.toNat 0 ∧ xs.getD m.1.toNat 0 ≤ B := by
          rw [List.getD_eq_getElem?_getD]
          rcases hh : xs[m.1.toNat]? with _ | z
          · simp; omega
          · have := h z (List.mem_of_getElem? hh); simpa using this
        omega) x hx
    have e : ((m :: l).length : Int) * DD = DD + l.length * DD := by simp [Int.add_mul]; omega
    omega
theorem accF_bd : ∀ (fs : List (Li × Int)) (xs : List Int) (B : Int), 0 ≤ B → (∀ f ∈ fs, inI64 f.2 ∧ (∀ m ∈ f.1.2, inI64 m.2) ∧ f.1.2.length ≤ 1000000) → (∀ x ∈ xs, -B ≤ x ∧ x ≤ B) →
    ∀ x ∈ accF fs xs, -(B + fs.length * (1000000 * DD)) ≤ x ∧ x ≤ B + fs.length * (1000000 * DD)
  | [], xs, B, h0, hm, h, x, hx => by have := h x hx; simp; omega
  | f :: l, xs, B, h0, hm, h, x, hx => by
    have hf := hm f (by simp)
    have hd : DD = 85070591730234615865843651857942052864 := rfl
    have h1 := accM_bd f.2 hf.1 f.1.2 xs B h0 hf.2.1 h
    have h2 : (f.1.2.length : Int) * DD ≤ 1000000 * DD := Int.mul_le_mul_of_nonneg_right (by omega) (by omega)
    have ih := accF_bd l (accM f.2 f.1.2 xs) (B + 1000000 * DD) (by omega) (fun k hk => hm k (by simp [hk])) (fun y hy => by have := h1 y hy; omega) x hx
    have e : ((f :: l).length : Int) * (1000000 * DD) = 1000000 * DD + l.length * (1000000 * DD) := by simp [Int.add_mul]; omega
    omega
theorem accK_bd : ∀ (fs : List (Li × Int)) (x B : Int), (∀ f ∈ fs, inI64 f.1.1 ∧ inI64 f.2) → -B ≤ x ∧ x ≤ B → -(B + fs.length * DD) ≤ accK fs x ∧ accK fs x ≤ B + fs.length * DD
  | [], x, B, hm, h => by simpa [accK] using h
  | f :: l, x, B, hm, h => by
    have hf := hm f (by simp)
    have hp := prod_rng hf.1 hf.2
    have hd : DD = 85070591730234615865843651857942052864 := rfl
    have ih := accK_bd l (x + f.1.1 * f.2) (B + DD) (fun k hk => hm k (by simp [hk])) (by omega)
    have e : ((f :: l).length : Int) * DD = DD + l.length * DD := by simp [Int.add_mul]; omega
    simp only [accK]
    omega

/-- a form that lies in memory -/
def LiOk (l : Li) : Prop := inI64 l.1 ∧ (∀ m ∈ l.2, inI64 m.1 ∧ inI64 m.2) ∧ l.2.length ≤ 1000000
theorem lrt_rng : ∀ (l : List (Int × Int)) (n : Int), -1 ≤ n → lrt n l = true → ∀ m ∈ l, 0 ≤ m.1 ∧ m.1 < 64
  | m :: l, n, hn, h, k, hk => by
    simp only [lrt, Bool.and_eq_true, decide_eq_true_eq] at h
    rcases List.mem_cons.1 hk with rfl | hk
    · omega
    · exact lrt_rng l m.1 (by omega) h.2 k hk
theorem fi_of {q : Li} {b : Int} (h : LiOk q) (hl : lok q = true) (hb : inI64 b) : Fi (q, b) :=
  ⟨h.1, hb, fun m hm => ⟨lrt_rng _ _ (by omega) hl m hm, (h.2.1 m hm).2⟩, by have := h.2.2; show q.2.length ≤ _; omega⟩
theorem fsB_of {fs : List (Li × Int)} (h : ∀ f ∈ fs, LiOk f.1 ∧ inI64 f.2) (hl : fs.length ≤ 1000000) : FsB fs := by
  have hd : DD = 85070591730234615865843651857942052864 := rfl
  have h1 := accK_bd fs 0 0 (fun f hf => ⟨(h f hf).1.1, (h f hf).2⟩) (by omega)
  have h2 : (fs.length : Int) * DD ≤ 1000000 * DD := Int.mul_le_mul_of_nonneg_right (by omega) (by omega)
  have h3 : (fs.length : Int) * (1000000 * DD) ≤ 1000000 * (1000000 * DD) := Int.mul_le_mul_of_nonneg_right (by omega) (by omega)
  refine ⟨⟨by omega, by omega⟩, fun x hx => ?_⟩
  have h4 := accF_bd fs z64 0 (by omega) (fun f hf => ⟨(h f hf).2, fun m hm => ((h f hf).1.2.1 m hm).2, (h f hf).1.2.2⟩) (fun y hy => by
    have : y = 0 := List.eq_of_mem_replicate hy
    omega) x hx
  exact ⟨by omega, by omega⟩

def lSumP (l : List Li) (b : List Int) : Li × Int := if l.all lok = true ∧ l.length = b.length then lsumP (l.zip b) else ((0, []), 1)

theorem lSum_eq (l : List Li) (b : List Int) (hl : ∀ q ∈ l, LiOk q) (hb : ∀ x ∈ b, inI64 x) (hn : l.length ≤ 1000000) (hnb : b.length ≤ 1000000) (o : List Obj) (v w : AV) (hv : Ls o 2 v (l.map liA)) (hw : Ls o 1 w (intA b)) (ro : Nat) (df : List Nat) :
    (D T).call 89 [v, w] ⟨o, ro, df⟩ = some (.tup [.agg (liA (lSumP l b).1), .int .i64 (lSumP l b).2], ⟨o, ro, df⟩) := by
  have hlen : lenOf v = some l.length := by simpa using hv.len
  have hlenw : lenOf w = some b.length := by simpa [intA_len] using hw.len
  have hcan := hv.can
  have hcanw := hw.can
  have hr := fun o2 (hp : Pre o o2) ro df => lright_eq l (by omega) (fun q hq => by have := (hl q hq).2.2; omega) o2 v ro df (hv.pre hp)
  have hP : lSumP l b = if l.all lok = true ∧ l.length = b.length then lsumP (l.zip b) else ((0, []), 1) := rfl
  have hr1 := hr (o ++ [Obj.arr 26 2 [[.int .i64 0, .fsl 2 []]]]) ⟨_, rfl⟩ o.length []
  apply call_by (by exact rfl : T 89 = some _) (by simp)
  intro fr hfr hsl
  have s0 := hsl 0 _ rfl
  have s1 := hsl 1 _ rfl
  by_cases ha : l.all lok = true
  rotate_left
  · have ha2 : l.all lok = false := by simpa using ha
    rw [if_neg (fun h => ha h.1)] at hP
    rw [ha2] at hr1
    rw [hP]
    simp -implicitDefEqProofs [hfr, s0, s1, hlen, hlenw, hcan, hcanw, hr1, get_base0, set_base0, liA, moA, -getElem?_pos, List.getElem?_cons_zero]
  rw [ha] at hr1
  by_cases hE : l.length = b.length
  rotate_left
  · rw [if_neg (fun h => hE h.2)] at hP
    rw [hP]
    have hEb : ((l.length : Int) != (b.length : Int)) = true := bne_iff_ne.2 (fun h => hE (by omega))
    simp -implicitDefEqProofs [hfr, s0, s1, hlen, hlenw, hcan, hcanw, hr1, hEb, get_base0, set_base0, liA, moA, -getElem?_pos, List.getElem?_cons_zero]
  rw [if_pos ⟨ha, hE⟩] at hP
  have hEb : ((l.length : Int) != (b.length : Int)) = false := by simp [hE]
  have hall := fun q hq => (List.all_eq_true.1 ha) q hq
  have hmem : ∀ f ∈ l.zip b, f.1 ∈ l ∧ f.2 ∈ b := fun f hf => ⟨(List.of_mem_zip hf).1, (List.of_mem_zip hf).2⟩
  have hzl : (l.zip b).length = l.length := by simp [hE]
  have hS := fun o2 u (hu : Ls o2 3 u ((l.zip b).map fmA)) ro df => lsum_eq (l.zip b) (fun f hf => fi_of (hl _ (hmem f hf).1) (hall _ (hmem f hf).1) (hb _ (hmem f hf).2)) (by omega)
    (fsB_of (fun f hf => ⟨hl _ (hmem f hf).1, hb _ (hmem f hf).2⟩) (by omega)) o2 u hu ro df
  rw [hP]
  have lf := li_flat (lsumP (l.zip b)).1
  generalize lsumP (l.zip b) = R at *
  simp -implicitDefEqProofs [hfr, s0, s1, hlen, hlenw, hcan, hcanw, hr1, hEb, get_base0, set_base0, -getElem?_pos, List.getElem?_cons_zero]
  apply loop_inv L89_0.eq_1 List.length (fun (rest : List Li) fr st => ∃ pre o2 u, l = pre ++ rest ∧ fr.length = 41 ∧ slot fr 1 = w ∧ slot fr 4 = .ptr o.length 0 0 ∧ slot fr 6 = u ∧ slot fr 20 = v ∧ slot fr 21 = .int .i64 (l.length : Int) ∧ slot fr 22 = .int .i64 (pre.length : Int) ∧
    st = ⟨o2, o.length, []⟩ ∧ Pre o o2 ∧ o2[o.length]? = some (.arr 26 2 [[.int .i64 0, .fsl 2 []]]) ∧ Gr (o.length + 1) 150 3 o2 u (((l.zip b).take pre.length).map fmA)) ?_ l
    ⟨[], _, .fsl 3 [], rfl, by simp [hfr], by simp [hfr, s1], by simp [hfr], by simp [hfr], by simp [hfr, s0], by simp [hfr], by simp [hfr], rfl, ⟨_, rfl⟩, by simp, .inl (by simp)⟩
  clear hfr s0 s1 hsl hr1 hr
  clear fr
  rintro rest fr _ ⟨pre, o2, u, e, hfr, q1, q4, q6, q20, q21, q22, rfl, hpre, g0, gu⟩
  cases rest with
  | nil =>
    have hlt := idx_end e
    have ee : l = pre := by simpa using e
    have et : (l.zip b).take pre.length = l.zip b := by rw [← ee, ← hzl, List.take_length]
    rw [et] at gu
    have hS2 := hS o2 u (gr_ls gu) o.length []
    have hcu : canA u = u := (gr_ls gu).can
    have e1 : ∀ X, (o2.set o.length X)[o.length]? = some X := fun X => getO_set (lt_of_getO g0)
    have hL : liA R.1 = [.int .i64 R.1.1, .sl 2 (moA R.1.2)] := rfl
    have hfl := moA_flat R.1.2
    rw [hL] at hS2 ⊢
    generalize moA R.1.2 = M at *
    simp -implicitDefEqProofs [hfr, q1, q4, q6, q20, q21, q22, hlt, hcu, hS2, g0, e1, hfl, -getElem?_pos, List.getElem?_cons_zero]
  | cons x rest =>
    obtain ⟨hlt, hg, hpl⟩ := idx_at e
    have hwi := idx_next e (by omega)
    have hg2 : (l.map liA)[pre.length]? = some (liA x) := by simp [hg]
    obtain ⟨y, hy⟩ : ∃ y, b[pre.length]? = some y := ⟨b[pre.length]'(by omega), by simp [show pre.length < b.length by omega]⟩
    have hy2 : (intA b)[pre.length]? = some [.int .i64 y] := by simp [intA, hy]
    obtain ⟨p, p1, p2⟩ := hv.at hpre o.length [] hg2 rfl
    have p3 := p2 true
    simp only [val, if_true] at p3
    obtain ⟨Y, hY⟩ : ∃ Y, Y = Obj.arr 26 2 [liA x] := ⟨_, rfl⟩
    have hpre2 := hpre.push [Y]
    obtain ⟨p', r1, r2⟩ := hw.at hpre2 o.length [] hy2 rfl
    have r3 := r2 false
    simp only [val, Bool.false_eq_true, if_false] at r3
    have hz : (l.zip b)[pre.length]? = some (x, y) := by rw [List.getElem?_zip_eq_some]; exact ⟨hg, hy⟩
    have ht : (l.zip b).take (pre.length + 1) = (l.zip b).take pre.length ++ [(x, y)] := by rw [List.take_add_one, hz]; rfl
    have htl : (((l.zip b).take pre.length).map fmA).length = pre.length := by simp; omega
    have hpo := hpre.len
    have l0 := lt_of_getO g0
    have hF : fmA (x, y) = [.int .i64 x.1, .sl 2 (moA x.2), .int .i64 y] := rfl
    obtain ⟨o3, a1, a2, a3, a4, a5⟩ := app_getP (bytes := 40) (ro := o.length) (df := []) hpre2 (by omega) (gu.push [Y]) (by omega) (x := .fsl 3 [fmA (x, y)]) (xs := [fmA (x, y)]) rfl (.inr (by simp)) (by simp [room]; omega)
    have b0 := a4 _ _ (getO_push g0 _) ((gu.push [Y]).not (by omega))
    have gu2 := gr_new (lo := o.length + 1) a3 (by simp; omega) (n := pre.length + 1) (by simp; omega)
    have hm2 : ((l.zip b).take pre.length).map fmA ++ [fmA (x, y)] = ((l.zip b).take (pre.length + 1)).map fmA := by rw [ht]; simp
    rw [hm2] at gu2
    rw [htl] at a1
    simp only [List.length_append, List.length_cons, List.length_nil, Nat.zero_add] at a1 gu2
    have gY2 : (o2 ++ [Y])[o2.length]? = some Y := by simp
    have hL : liA x = [.int .i64 x.1, .sl 2 (moA x.2)] := rfl
    rw [hL] at p3 hY
    rw [hF] at a1
    generalize moA x.2 = M at *
    subst hY
    simp -implicitDefEqProofs [hfr, q1, q4, q6, q20, q21, q22, hlt, hpl, hwi, p1, p3, r1, r3, gY2, a1, hpo, setO_last, getO_last, -getElem?_pos, List.getElem?_cons_zero, List.getElem?_cons_succ]
    exact ⟨rest, by simp, pre ++ [x], by simp [e], by simp, a5, b0, by simpa using gu2⟩

theorem intA_ok {b : List Int} : ∀ e ∈ intA b, e.length = 1 := by intro e he; simp [intA] at he; obtain ⟨n, _, rfl⟩ := he; rfl

theorem lScale_eq (l : Li) (b : Int) (hl : LiOk l) (hb : inI64 b) (o : List Obj) (ro : Nat) (df : List Nat) :
    (D T).call 93 [.agg (liA l), .int .i64 b] ⟨o, ro, df⟩ = some (.tup [.agg (liA (lSumP [l] [b]).1), .int .i64 (lSumP [l] [b]).2], ⟨o, ro, df⟩) := by
  have h := fun o ro df => lSum_eq [l] [b] (by simpa using hl) (by simpa using hb) (by simp) (by simp) o (.fsl 2 [liA l]) (.fsl 1 [[.int .i64 b]]) (by simpa using ls_fsl _) (by simpa [intA] using ls_fsl _) ro df
  generalize lSumP [l] [b] = R at *
  have hL : liA R.1 = [.int .i64 R.1.1, .sl 2 (moA R.1.2)] := rfl
  have hfl := moA_flat R.1.2
  have hL2 : liA l = [.int .i64 l.1, .sl 2 (moA l.2)] := rfl
  rw [hL, hL2] at h
  rw [hL, hL2]
  generalize moA R.1.2 = M at *
  generalize moA l.2 = M2 at *
  apply call_by (by exact rfl : T 93 = some _) (by simp)
  intro fr hfr hsl
  have s0 := hsl 0 _ rfl
  have s1 := hsl 1 _ rfl
  simp -implicitDefEqProofs [hfr, s0, s1, h, hfl, get_base0, get_base, set_base0, set_base, -getElem?_pos, List.getElem?_cons_zero, List.getElem?_cons_succ]

theorem lAdd_eq (l k : Li) (hl : LiOk l) (hk : LiOk k) (o : List Obj) (ro : Nat) (df : List Nat) :
    (D T).call 94 [.agg (liA l), .agg (liA k)] ⟨o, ro, df⟩ = some (.tup [.agg (liA (lSumP [l, k] [1, 1]).1), .int .i64 (lSumP [l, k] [1, 1]).2], ⟨o, ro, df⟩) := by
  have h := fun o ro df => lSum_eq [l, k] [1, 1] (by simp; exact ⟨hl, hk⟩) (by simp [inI64]) (by simp) (by simp) o (.fsl 2 [liA l, liA k]) (.fsl 1 [[.int .i64 1], [.int .i64 1]]) (by simpa using ls_fsl _) (by simpa [intA] using ls_fsl _) ro df
  generalize lSumP [l, k] [1, 1] = R at *
  have hL : liA R.1 = [.int .i64 R.1.1, .sl 2 (moA R.1.2)] := rfl
  have hfl := moA_flat R.1.2
  have hL2 : liA l = [.int .i64 l.1, .sl 2 (moA l.2)] := rfl
  have hL3 : liA k = [.int .i64 k.1, .sl 2 (moA k.2)] := rfl
  rw [hL, hL2, hL3] at h
  rw [hL, hL2, hL3]
  generalize moA R.1.2 = M at *
  generalize moA l.2 = M2 at *
  generalize moA k.2 = M3 at *
  apply call_by (by exact rfl : T 94 = some _) (by simp)
  intro fr hfr hsl
  have s0 := hsl 0 _ rfl
  have s1 := hsl 1 _ rfl
  simp -implicitDefEqProofs [hfr, s0, s1, h, hfl, get_base0, get_base, set_base0, set_base, -getElem?_pos, List.getElem?_cons_zero, List.getElem?_cons_succ]

end Go.Proofs.Ytgabnhmjlhhojaa.A
