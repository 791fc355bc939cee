/- lin.sum: its three loops. -/
import Derived.Test.YtgabnhmjlhhojaaQ3
namespace Go.Proofs.Ytgabnhmjlhhojaa.A
open Go
set_option maxRecDepth 10000
set_option linter.unusedSimpArgs false
set_option linter.unusedVariables false
attribute [-simp] List.all_eq_true put slot_def ld idxA lenOf elems canA app hand add64A

/-- a store that begins as another one -/
def Pre (o o2 : List Obj) : Prop := ∃ m, o2 = o ++ m
theorem Pre.refl (o : List Obj) : Pre o o := ⟨[], by simp⟩
theorem Pre.push {o o2 : List Obj} (h : Pre o o2) (m : List Obj) : Pre o (o2 ++ m) := by
  obtain ⟨k, rfl⟩ := h; exact ⟨k ++ m, by simp⟩
theorem Pre.set {o o2 : List Obj} (h : Pre o o2) {i : Nat} (hi : o.length ≤ i) (x : Obj) : Pre o (o2.set i x) := by
  obtain ⟨k, rfl⟩ := h; exact ⟨k.set (i - o.length) x, by rw [List.set_append_right _ _ hi]⟩
theorem Pre.len {o o2 : List Obj} (h : Pre o o2) : o.length ≤ o2.length := by obtain ⟨k, rfl⟩ := h; simp
theorem Ls.at {o o2 : List Obj} {sz : Nat} {v : AV} {es : List (List AV)} (h : Ls o sz v es) (hp : Pre o o2) (ro : Nat) (df : List Nat) {i : Nat} {e : List AV} (he : es[i]? = some e) (hl : e.length = sz) :
    ∃ p, idxA ⟨o2, ro, df⟩ sz v (.int .i64 i) = some p ∧ ∀ agg, ld ⟨o2, ro, df⟩ agg sz p = val agg e := by
  obtain ⟨k, rfl⟩ := hp; exact h.get k ro df i e he hl
theorem Ls.pre {o o2 : List Obj} {sz : Nat} {v : AV} {es : List (List AV)} (h : Ls o sz v es) (hp : Pre o o2) : Ls o2 sz v es := by
  obtain ⟨k, rfl⟩ := hp
  exact ⟨h.len, h.can, fun m ro df i e he hl => by rw [List.append_assoc]; exact h.get _ ro df i e he hl⟩

/-! many sums, one behind the other -/
def sC : List Int → List AV
  | [] => []
  | x :: l => s3 x ++ sC l
theorem sC_app (a b : List Int) : sC (a ++ b) = sC a ++ sC b := by
  induction a with
  | nil => rfl
  | cons x a ih => simp [sC, ih]
theorem sC_len (a : List Int) : (sC a).length = a.length * 3 := by
  induction a with
  | nil => rfl
  | cons x a ih => simp [sC, ih, s3]; omega
theorem sC_split {xs : List Int} {j : Nat} (h : j < xs.length) : sC xs = sC (xs.take j) ++ (s3 (xs.getD j 0) ++ sC (xs.drop (j + 1))) := by
  have e : xs = xs.take j ++ (xs.getD j 0 :: xs.drop (j + 1)) := by
    conv => lhs; rw [← List.take_append_drop j xs]
    rw [List.drop_eq_getElem_cons h]; simp [List.getD_eq_getElem?_getD, h]
  conv => lhs; rw [e, sC_app]
  rfl
theorem sC_set {xs : List Int} {j : Nat} (h : j < xs.length) (y : Int) : sC (xs.set j y) = sC (xs.take j) ++ (s3 y ++ sC (xs.drop (j + 1))) := by
  have e : xs.set j y = xs.take j ++ (y :: xs.drop (j + 1)) := List.set_eq_take_append_cons_drop (l := xs) (i := j) (a := y) |>.trans (by simp [h])
  rw [e, sC_app]
  rfl
theorem addA_eq (o : List Obj) (r ty sz : Nat) (xs : List Int) (j : Nat) (hj : j < xs.length) (a b : Int) (ro : Nat) (df : List Nat) (hr : o[r]? = some (.arr ty sz [sC xs])) (hro : ro ≤ r) (ha : inI64 a) (hb : inI64 b) :
    (D T).call 75 [.ptr r 0 (j * 3), .int .i64 a, .int .i64 b] ⟨o, ro, df⟩ = some (.tup [], ⟨o.set r (.arr ty sz [sC (xs.set j (xs.getD j 0 + a * b))]), ro, df⟩) := by
  have hl : (sC (xs.take j)).length = j * 3 := by rw [sC_len, List.length_take, Nat.min_eq_left (by omega)]
  rw [sC_split hj] at hr
  rw [sC_set hj, ← hl]
  exact add_eq o r ty sz _ _ _ a b ro df hr hro ha hb
theorem fitsA_eq (o : List Obj) (r ty sz : Nat) (xs : List Int) (j : Nat) (hj : j < xs.length) (ro : Nat) (df : List Nat) (hr : o[r]? = some (.arr ty sz [sC xs]))
    (hx : -1569275433846670190958947355801916604025588861116008628224 ≤ xs.getD j 0 ∧ xs.getD j 0 < 1569275433846670190958947355801916604025588861116008628224) :
    (D T).call 76 [.ptr r 0 (j * 3)] ⟨o, ro, df⟩ = some (.tup [.int .i64 (if inI64 (xs.getD j 0) then xs.getD j 0 else 0), .bool (decide (inI64 (xs.getD j 0)))], ⟨o, ro, df⟩) := by
  have hl : (sC (xs.take j)).length = j * 3 := by rw [sC_len, List.length_take, Nat.min_eq_left (by omega)]
  rw [sC_split hj] at hr
  rw [← hl]
  exact fits_eq o r ty sz _ _ _ ro df hr hx

/-! what the loops add up -/
def accM (b : Int) : List (Int × Int) → List Int → List Int
  | [], xs => xs
  | m :: l, xs => accM b l (xs.set m.1.toNat (xs.getD m.1.toNat 0 + m.2 * b))
theorem accM_len (b : Int) : ∀ (l : List (Int × Int)) (xs : List Int), (accM b l xs).length = xs.length
  | [], _ => rfl
  | m :: l, xs => by rw [accM, accM_len b l]; simp
def fmA (f : Li × Int) : List AV := [.int .i64 f.1.1, .sl 2 (moA f.1.2), .int .i64 f.2]
def accF : List (Li × Int) → List Int → List Int
  | [], xs => xs
  | f :: l, xs => accF l (accM f.2 f.1.2 xs)
def accK : List (Li × Int) → Int → Int
  | [], x => x
  | f :: l, x => accK l (x + f.1.1 * f.2)
theorem accF_len : ∀ (l : List (Li × Int)) (xs : List Int), (accF l xs).length = xs.length
  | [], _ => rfl
  | f :: l, xs => by rw [accF, accF_len l, accM_len]
/-- a form whose numbers are numbers, and stand within -/
def Fi (f : Li × Int) : Prop := inI64 f.1.1 ∧ inI64 f.2 ∧ (∀ m ∈ f.1.2, (0 ≤ m.1 ∧ m.1 < 64) ∧ inI64 m.2) ∧ f.1.2.length ≤ 9223372036854775807

theorem lsum_l1 (f : Li × Int) (hf : Fi f) (o o1 : List Obj) (n p : Nat) (hn : o.length = n) (hp : n + 3 ≤ p) (K : Int) (xs : List Int) (hxs : xs.length = 64) (X0 : Obj) (v : AV) (N I : Int) (Q : AE → List AV → St → Prop) (fr : List AV) (hfr : fr.length = 80)
    (q2 : slot fr 2 = .ptr n 0 0) (q4 : slot fr 4 = .ptr (n + 1) 0 0) (q5 : slot fr 5 = .ptr (n + 2) 0 0) (q7 : slot fr 7 = .ptr p 0 0) (q16 : slot fr 16 = v) (q17 : slot fr 17 = .int .i64 N) (q18 : slot fr 18 = .int .i64 I)
    (q30 : slot fr 30 = .sl 2 (moA f.1.2)) (q31 : slot fr 31 = .int .i64 (f.1.2.length : Int)) (q32 : slot fr 32 = .int .i64 0)
    (hpre : Pre o o1) (g0 : o1[n]? = some X0) (g1 : o1[n + 1]? = some (.arr 108 3 [s3 K])) (g2 : o1[n + 2]? = some (.arr 162 192 [sC xs])) (gp : o1[p]? = some (.arr 150 3 [fmA f]))
    (kk : ∀ (fr' : List AV) (o2 : List Obj), fr'.length = 80 → slot fr' 2 = .ptr n 0 0 → slot fr' 4 = .ptr (n + 1) 0 0 → slot fr' 5 = .ptr (n + 2) 0 0 → slot fr' 16 = v → slot fr' 17 = .int .i64 N → slot fr' 18 = .int .i64 I →
      Pre o o2 → o2[n]? = some X0 → o2[n + 1]? = some (.arr 108 3 [s3 K]) → o2[n + 2]? = some (.arr 162 192 [sC (accM f.2 f.1.2 xs)]) → Q (.exit 2) fr' ⟨o2, n, []⟩) :
    ∃ e fr' st', (D T).loop false L110_1 fr ⟨o1, n, []⟩ = some (e, fr', st') ∧ Q e fr' st' := by
  obtain ⟨⟨k, ms⟩, b⟩ := f
  obtain ⟨hk, hb, hm, hl⟩ := hf
  simp only at *
  apply loop_inv L110_1.eq_1 List.length (fun (rest : List (Int × Int)) fr st => ∃ pre o2 ys, ms = pre ++ rest ∧ ys.length = 64 ∧ accM b ms xs = accM b rest ys ∧ fr.length = 80 ∧ slot fr 2 = .ptr n 0 0 ∧ slot fr 4 = .ptr (n + 1) 0 0 ∧ slot fr 5 = .ptr (n + 2) 0 0 ∧ slot fr 7 = .ptr p 0 0 ∧ slot fr 16 = v ∧ slot fr 17 = .int .i64 N ∧ slot fr 18 = .int .i64 I ∧
    slot fr 30 = .sl 2 (moA ms) ∧ slot fr 31 = .int .i64 (ms.length : Int) ∧ slot fr 32 = .int .i64 (pre.length : Int) ∧ st = ⟨o2, n, []⟩ ∧ Pre o o2 ∧ o2[n]? = some X0 ∧ o2[n + 1]? = some (.arr 108 3 [s3 K]) ∧ o2[n + 2]? = some (.arr 162 192 [sC ys]) ∧ o2[p]? = some (.arr 150 3 [fmA ((k, ms), b)])) ?_ ms
    ⟨[], o1, xs, rfl, hxs, rfl, hfr, q2, q4, q5, q7, q16, q17, q18, q30, q31, q32, rfl, hpre, g0, g1, g2, gp⟩
  clear hfr q2 q4 q5 q7 q16 q17 q18 q30 q31 q32 hpre g0 g1 g2 gp hxs
  clear fr o1
  rintro rest fr _ ⟨pre, o2, ys, e, hys, hE, hfr, q2, q4, q5, q7, q16, q17, q18, q30, q31, q32, rfl, hpre, g0, g1, g2, gp⟩
  rw [hE] at kk
  cases rest with
  | nil =>
    have hlt := idx_end e
    simp -implicitDefEqProofs [hfr, q2, q4, q5, q7, q16, q17, q18, q30, q31, q32, hlt]
    exact kk _ o2 (by simp [hfr]) (by simp [hfr, q2]) (by simp [hfr, q4]) (by simp [hfr, q5]) (by simp [hfr, q16]) (by simp [hfr, q17]) (by simp [hfr, q18]) hpre g0 g1 g2
  | cons x rest =>
    obtain ⟨hlt, hg, hpl⟩ := idx_at e
    have hw := idx_next e hl
    obtain ⟨⟨x0, x64⟩, xi⟩ := hm x (by simp [e])
    have hg2 : (moA ms)[pre.length]? = some [.int .i64 x.1, .int .i64 x.2] := by simp [moA, hg]
    have ml := moA_len ms
    obtain ⟨x1, x2⟩ := x
    simp only [accM] at kk hE hg2 x0 x64 xi
    have hj : x1.toNat < ys.length := by omega
    obtain ⟨Y, hY⟩ : ∃ Y, Y = Obj.arr 62 2 [[.int .i64 x1, .int .i64 x2]] := ⟨_, rfl⟩
    have hadd := addA_eq (o2 ++ [Y]) (n + 2) 162 192 ys x1.toNat hj x2 b n [] (getO_push g2 _) (by omega) xi hb
    have gY2 : (o2 ++ [Y])[o2.length]? = some Y := by simp
    have gp2 : (o2 ++ [Y])[p]? = some (.arr 150 3 [fmA ((k, ms), b)]) := getO_push gp _
    have hF : fmA ((k, ms), b) = [.int .i64 k, .sl 2 (moA ms), .int .i64 b] := rfl
    rw [hF] at gp gp2
    have hpo := hpre.len
    have i64 : (64 : Int) > x1 := by omega
    have i0 : ¬ x1 < 0 := by omega
    generalize moA ms = M at *
    generalize hZ : ys.set x1.toNat (ys.getD x1.toNat 0 + x2 * b) = zs at *
    have hzs : zs.length = 64 := by rw [← hZ]; simpa using hys
    subst hY
    simp -implicitDefEqProofs [hfr, q2, q4, q5, q7, q16, q17, q18, q30, q31, q32, hlt, hw, hpl, hg2, ml, x0, x64, hadd, gY2, gp, gp2, hn, hpo, show n ≤ o2.length by omega, setO_last, getO_last, -getElem?_pos, List.getElem?_cons_zero, List.getElem?_cons_succ]
    have np := lt_of_getO gp
    refine ⟨rest, by simp, pre ++ [(x1, x2)], by simp [e], _, zs, hzs, hE, by simp, rfl, (hpre.push _).set (by omega) _, ?_, ?_, ?_, ?_⟩
    · rw [List.getElem?_set_ne (by omega)]; exact getO_push g0 _
    · rw [List.getElem?_set_ne (by omega)]; exact getO_push g1 _
    · rw [getO_set (by simp; omega)]
    · rw [List.getElem?_set_ne (by omega), hF]; exact gp2

end Go.Proofs.Ytgabnhmjlhhojaa.A
