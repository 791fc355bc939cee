/- The names of variables: the document's and the program's. -/
import Derived.Test.YtcoonnbkmklenaaS10
namespace Go.Proofs.Ytcoonnbkmklenaa.A
open Go
set_option maxRecDepth 10000
set_option linter.unusedSimpArgs false
attribute [-simp] List.all_eq_true put slot_def ld idxA lenOf elems canA app hand

def strA (l : List ByteArray) : List (List AV) := l.map fun x => [.str x]
theorem strA_len (l : List ByteArray) : (strA l).length = l.length := by simp [strA]
theorem strA_flat : ∀ l : List ByteArray, AV.flatLL (strA l) = true
  | [] => rfl
  | x :: l => by have := strA_flat l; simp only [strA] at this; simp [strA, this]
theorem strA_app (l k : List ByteArray) : strA (l ++ k) = strA l ++ strA k := by simp [strA]
theorem strA_get {l : List ByteArray} {i : Nat} {x : ByteArray} (h : l[i]? = some x) : (strA l)[i]? = some [.str x] := by simp [strA, h]
attribute [simp] strA_flat strA_len

/-- a string put among rising ones -/
def putGo (s : ByteArray) : Bool → List ByteArray → List ByteArray
  | d, [] => bif d then [] else [s]
  | d, x :: l => (bif !(bytesLt x s) && !d then [s] else []) ++ ((bif bytesEq x s then [] else [x]) ++ putGo s (d || !(bytesLt x s)) l)
def putR (l : List ByteArray) (s : ByteArray) : List ByteArray := putGo s false l

structure PutI (o0 : List Obj) (l : List ByteArray) (s : ByteArray) (a0 : AV) (rest : List ByteArray) (fr : List AV) (st : St) (pre : List ByteArray) (v : AV) (o : List Obj) (out : List ByteArray) (d : Bool) : Prop where
  e : l = pre ++ rest
  fl : fr.length = 48
  q0 : slot fr 0 = a0
  q1 : slot fr 1 = .str s
  q5 : slot fr 5 = v
  q6 : slot fr 6 = .bool d
  q7 : slot fr 7 = .int .i64 (pre.length : Int)
  st_ : st = ⟨o, o0.length, []⟩
  lo : o0.length ≤ o.length
  G : Gr o0.length 9 1 o v (strA out)
  hp : putR l s = out ++ putGo s d rest
  h1 : d = false → out.length ≤ pre.length
  h2 : out.length ≤ pre.length + 1

theorem put_eq (l : List ByteArray) (s : ByteArray) (hl : l.length ≤ 4294967296) (o0 : List Obj) (ro : Nat) (df : List Nat) :
    (D T).call 47 [.sl 1 (strA l), .str s] ⟨o0, ro, df⟩ = some (.sl 1 (strA (putR l s)), ⟨o0, ro, df⟩) := by
  have hmx : l.length ≤ 9223372036854775807 := by omega
  apply call_by (by exact rfl : T 47 = some _) (by simp)
  intro fr hfr hsl
  have s0 := hsl 0 _ rfl
  have s1 := hsl 1 _ rfl
  simp -implicitDefEqProofs [hfr, s0, s1]
  apply loop_inv L47_0.eq_1 List.length (fun (rest : List ByteArray) fr st => ∃ pre v o out d, PutI o0 l s (.sl 1 (strA l)) rest fr st pre v o out d) ?_ l
      ⟨[], .fsl 1 [], _, [], false, rfl, by simp [hfr], by simp [hfr, s0], by simp [hfr, s1], by simp [hfr], by simp [hfr], by simp [hfr], rfl, by simp, .inl rfl, rfl, by simp, by simp⟩
  rintro rest fr _ ⟨pre, v, o, out, d, e, hfr, q0, q1, q5, q6, q7, rfl, hlo, G, hp, hol2, hol⟩
  have hpl : pre.length ≤ l.length := by rw [e]; simp
  cases rest with
  | nil =>
    have hlt := idx_end e
    cases d with
    | true =>
      have hh := gr_hand G (Nat.le_refl _) (strA_flat _)
      simp only [putGo, cond_true, List.append_nil] at hp
      simp -implicitDefEqProofs [hfr, q0, q1, q5, q6, q7, hlt, hh, hp]
    | false =>
      obtain ⟨o', a1, a2, a3, a4⟩ := app_get (bytes := 16) (df := []) G (Nat.le_refl _) (elems_fsl _ 1 [[.str s]]) (.inr (by simp)) (room_of (by simp; omega) (by simp; omega))
      have G' : Gr o0.length 9 1 o' (.own o.length 0 (out.length + 1) false) (strA (out ++ [s])) := gr_new (by rw [a3]; simp [strA]) hlo (by simp)
      have hh := gr_hand G' (Nat.le_refl _) (strA_flat _)
      simp only [putGo, cond_false] at hp
      simp -implicitDefEqProofs [hfr, q0, q1, q5, q6, q7, hlt, a1, hp, hh]
  | cons x rest =>
    obtain ⟨hlt, hg, hpl2⟩ := idx_at e
    have hg' := strA_get hg
    have hw := idx_next e hmx
    simp only [putGo] at hp
    cases h1 : bytesLt x s with
    | true =>
      simp only [h1, Bool.not_true, Bool.false_and, cond_false, List.nil_append, Bool.or_false] at hp
      cases h2 : bytesEq x s with
      | true =>
        simp only [h2, cond_true, List.nil_append] at hp
        simp -implicitDefEqProofs [-Bool.exists_bool, hfr, q0, q1, q5, q6, q7, hlt, hg', hw, h1, h2]
        refine ⟨rest, by simp, pre ++ [x], _, _, out, d, PutI.mk (by simp [e]) (by simp [hfr]) (by simp [hfr, q0]) (by simp [hfr, q1]) (by simp [hfr, q5]; try rfl) (by simp [hfr, q6]) (by simp [hfr, hw]) (rfl) (by omega) (G) (by simpa using hp) (by first | (intro h; cases h; done) | (intro h; have := hol2 h; simp; omega)) (by simp; omega)⟩
      | false =>
        simp only [h2, cond_false] at hp
        obtain ⟨o', a1, a2, a3, a4⟩ := app_get (bytes := 16) (df := []) G (Nat.le_refl _) (elems_fsl _ 1 [[.str x]]) (.inr (by simp)) (room_of (by simp; omega) (by simp; omega))
        simp -implicitDefEqProofs [-Bool.exists_bool, hfr, q0, q1, q5, q6, q7, hlt, hg', hw, h1, h2, a1]
        refine ⟨rest, by simp, pre ++ [x], _, _, out ++ [x], d, PutI.mk (by simp [e]) (by simp [hfr]) (by simp [hfr, q0]) (by simp [hfr, q1]) (by simp [hfr, q5]; try rfl) (by simp [hfr, q6]) (by simp [hfr, hw]) (rfl) (by omega) (gr_new (by rw [a3]; simp [strA]) hlo (by simp)) (by simpa using hp) (by first | (intro h; cases h; done) | (intro h; have := hol2 h; simp; omega)) (by simp; omega)⟩
    | false =>
      simp only [h1, Bool.not_false, Bool.true_and, Bool.or_true] at hp
      cases d with
      | true =>
        simp only [Bool.not_true, cond_false, List.nil_append] at hp
        cases h2 : bytesEq x s with
        | true =>
          simp only [h2, cond_true, List.nil_append] at hp
          simp -implicitDefEqProofs [-Bool.exists_bool, hfr, q0, q1, q5, q6, q7, hlt, hg', hw, h1, h2]
          refine ⟨rest, by simp, pre ++ [x], _, _, out, true, PutI.mk (by simp [e]) (by simp [hfr]) (by simp [hfr, q0]) (by simp [hfr, q1]) (by simp [hfr, q5]; try rfl) (by simp [hfr, q6]) (by simp [hfr, hw]) (rfl) (by omega) (G) (by simpa using hp) (by first | (intro h; cases h; done) | (intro h; have := hol2 h; simp; omega)) (by simp; omega)⟩
        | false =>
          simp only [h2, cond_false] at hp
          obtain ⟨o', a1, a2, a3, a4⟩ := app_get (bytes := 16) (df := []) G (Nat.le_refl _) (elems_fsl _ 1 [[.str x]]) (.inr (by simp)) (room_of (by simp; omega) (by simp; omega))
          simp -implicitDefEqProofs [-Bool.exists_bool, hfr, q0, q1, q5, q6, q7, hlt, hg', hw, h1, h2, a1]
          refine ⟨rest, by simp, pre ++ [x], _, _, out ++ [x], true, PutI.mk (by simp [e]) (by simp [hfr]) (by simp [hfr, q0]) (by simp [hfr, q1]) (by simp [hfr, q5]; try rfl) (by simp [hfr, q6]) (by simp [hfr, hw]) (rfl) (by omega) (gr_new (by rw [a3]; simp [strA]) hlo (by simp)) (by simpa using hp) (by first | (intro h; cases h; done) | (intro h; have := hol2 h; simp; omega)) (by simp; omega)⟩
      | false =>
        simp only [Bool.not_false, cond_true] at hp
        have hol2 := hol2 rfl
        obtain ⟨o', a1, a2, a3, a4⟩ := app_get (bytes := 16) (df := []) G (Nat.le_refl _) (elems_fsl _ 1 [[.str s]]) (.inr (by simp)) (room_of (by simp; omega) (by simp; omega))
        have G' : Gr o0.length 9 1 o' (.own o.length 0 (out.length + 1) false) (strA (out ++ [s])) := gr_new (by rw [a3]; simp [strA]) hlo (by simp)
        cases h2 : bytesEq x s with
        | true =>
          simp only [h2, cond_true, List.nil_append] at hp
          simp -implicitDefEqProofs [-Bool.exists_bool, hfr, q0, q1, q5, q6, q7, hlt, hg', hw, h1, h2, a1]
          refine ⟨rest, by simp, pre ++ [x], _, _, out ++ [s], true, PutI.mk (by simp [e]) (by simp [hfr]) (by simp [hfr, q0]) (by simp [hfr, q1]) (by simp [hfr, q5]; try rfl) (by simp [hfr, q6]) (by simp [hfr, hw]) (rfl) (by omega) (G') (by simpa using hp) (by first | (intro h; cases h; done) | (intro h; have := hol2 h; simp; omega)) (by simp; omega)⟩
        | false =>
          simp only [h2, cond_false] at hp
          obtain ⟨o2, b1, b2, b3, b4⟩ := app_get (bytes := 16) (df := []) G' (Nat.le_refl _) (elems_fsl _ 1 [[.str x]]) (.inr (by simp)) (room_of (by simp; omega) (by simp; omega))
          simp only [strA_len, List.length_append, List.length_cons, List.length_nil, Nat.zero_add] at b1
          simp -implicitDefEqProofs [-Bool.exists_bool, hfr, q0, q1, q5, q6, q7, hlt, hg', hw, h1, h2, a1, b1]
          refine ⟨rest, by simp, pre ++ [x], .own o'.length 0 (out.length + 1 + 1) false, o2, out ++ [s, x], true, PutI.mk (by simp [e]) (by simp [hfr]) (by simp [hfr, q0]) (by simp [hfr, q1]) (by simp [hfr, q5]; try rfl) (by simp [hfr, q6]) (by simp [hfr, hw]) (rfl) (by omega) (gr_new (by rw [b3]; simp [strA]) (by omega) (by simp)) (by simpa using hp) (by first | (intro h; cases h; done) | (intro h; have := hol2 h; simp; omega)) (by simp; omega)⟩

theorem put_eqf (l : List ByteArray) (s : ByteArray) (hl : l.length ≤ 4294967296) (o0 : List Obj) (ro : Nat) (df : List Nat) :
    (D T).call 47 [.fsl 1 (strA l), .str s] ⟨o0, ro, df⟩ = some (.sl 1 (strA (putR l s)), ⟨o0, ro, df⟩) := by
  have hmx : l.length ≤ 9223372036854775807 := by omega
  apply call_by (by exact rfl : T 47 = some _) (by simp)
  intro fr hfr hsl
  have s0 := hsl 0 _ rfl
  have s1 := hsl 1 _ rfl
  simp -implicitDefEqProofs [hfr, s0, s1]
  apply loop_inv L47_0.eq_1 List.length (fun (rest : List ByteArray) fr st => ∃ pre v o out d, PutI o0 l s (.fsl 1 (strA l)) rest fr st pre v o out d) ?_ l
      ⟨[], .fsl 1 [], _, [], false, rfl, by simp [hfr], by simp [hfr, s0], by simp [hfr, s1], by simp [hfr], by simp [hfr], by simp [hfr], rfl, by simp, .inl rfl, rfl, by simp, by simp⟩
  rintro rest fr _ ⟨pre, v, o, out, d, e, hfr, q0, q1, q5, q6, q7, rfl, hlo, G, hp, hol2, hol⟩
  have hpl : pre.length ≤ l.length := by rw [e]; simp
  cases rest with
  | nil =>
    have hlt := idx_end e
    cases d with
    | true =>
      have hh := gr_hand G (Nat.le_refl _) (strA_flat _)
      simp only [putGo, cond_true, List.append_nil] at hp
      simp -implicitDefEqProofs [hfr, q0, q1, q5, q6, q7, hlt, hh, hp]
    | false =>
      obtain ⟨o', a1, a2, a3, a4⟩ := app_get (bytes := 16) (df := []) G (Nat.le_refl _) (elems_fsl _ 1 [[.str s]]) (.inr (by simp)) (room_of (by simp; omega) (by simp; omega))
      have G' : Gr o0.length 9 1 o' (.own o.length 0 (out.length + 1) false) (strA (out ++ [s])) := gr_new (by rw [a3]; simp [strA]) hlo (by simp)
      have hh := gr_hand G' (Nat.le_refl _) (strA_flat _)
      simp only [putGo, cond_false] at hp
      simp -implicitDefEqProofs [hfr, q0, q1, q5, q6, q7, hlt, a1, hp, hh]
  | cons x rest =>
    obtain ⟨hlt, hg, hpl2⟩ := idx_at e
    have hg' := strA_get hg
    have hw := idx_next e hmx
    simp only [putGo] at hp
    cases h1 : bytesLt x s with
    | true =>
      simp only [h1, Bool.not_true, Bool.false_and, cond_false, List.nil_append, Bool.or_false] at hp
      cases h2 : bytesEq x s with
      | true =>
        simp only [h2, cond_true, List.nil_append] at hp
        simp -implicitDefEqProofs [-Bool.exists_bool, hfr, q0, q1, q5, q6, q7, hlt, hg', hw, h1, h2]
        refine ⟨rest, by simp, pre ++ [x], _, _, out, d, PutI.mk (by simp [e]) (by simp [hfr]) (by simp [hfr, q0]) (by simp [hfr, q1]) (by simp [hfr, q5]; try rfl) (by simp [hfr, q6]) (by simp [hfr, hw]) (rfl) (by omega) (G) (by simpa using hp) (by first | (intro h; cases h; done) | (intro h; have := hol2 h; simp; omega)) (by simp; omega)⟩
      | false =>
        simp only [h2, cond_false] at hp
        obtain ⟨o', a1, a2, a3, a4⟩ := app_get (bytes := 16) (df := []) G (Nat.le_refl _) (elems_fsl _ 1 [[.str x]]) (.inr (by simp)) (room_of (by simp; omega) (by simp; omega))
        simp -implicitDefEqProofs [-Bool.exists_bool, hfr, q0, q1, q5, q6, q7, hlt, hg', hw, h1, h2, a1]
        refine ⟨rest, by simp, pre ++ [x], _, _, out ++ [x], d, PutI.mk (by simp [e]) (by simp [hfr]) (by simp [hfr, q0]) (by simp [hfr, q1]) (by simp [hfr, q5]; try rfl) (by simp [hfr, q6]) (by simp [hfr, hw]) (rfl) (by omega) (gr_new (by rw [a3]; simp [strA]) hlo (by simp)) (by simpa using hp) (by first | (intro h; cases h; done) | (intro h; have := hol2 h; simp; omega)) (by simp; omega)⟩
    | false =>
      simp only [h1, Bool.not_false, Bool.true_and, Bool.or_true] at hp
      cases d with
      | true =>
        simp only [Bool.not_true, cond_false, List.nil_append] at hp
        cases h2 : bytesEq x s with
        | true =>
          simp only [h2, cond_true, List.nil_append] at hp
          simp -implicitDefEqProofs [-Bool.exists_bool, hfr, q0, q1, q5, q6, q7, hlt, hg', hw, h1, h2]
          refine ⟨rest, by simp, pre ++ [x], _, _, out, true, PutI.mk (by simp [e]) (by simp [hfr]) (by simp [hfr, q0]) (by simp [hfr, q1]) (by simp [hfr, q5]; try rfl) (by simp [hfr, q6]) (by simp [hfr, hw]) (rfl) (by omega) (G) (by simpa using hp) (by first | (intro h; cases h; done) | (intro h; have := hol2 h; simp; omega)) (by simp; omega)⟩
        | false =>
          simp only [h2, cond_false] at hp
          obtain ⟨o', a1, a2, a3, a4⟩ := app_get (bytes := 16) (df := []) G (Nat.le_refl _) (elems_fsl _ 1 [[.str x]]) (.inr (by simp)) (room_of (by simp; omega) (by simp; omega))
          simp -implicitDefEqProofs [-Bool.exists_bool, hfr, q0, q1, q5, q6, q7, hlt, hg', hw, h1, h2, a1]
          refine ⟨rest, by simp, pre ++ [x], _, _, out ++ [x], true, PutI.mk (by simp [e]) (by simp [hfr]) (by simp [hfr, q0]) (by simp [hfr, q1]) (by simp [hfr, q5]; try rfl) (by simp [hfr, q6]) (by simp [hfr, hw]) (rfl) (by omega) (gr_new (by rw [a3]; simp [strA]) hlo (by simp)) (by simpa using hp) (by first | (intro h; cases h; done) | (intro h; have := hol2 h; simp; omega)) (by simp; omega)⟩
      | false =>
        simp only [Bool.not_false, cond_true] at hp
        have hol2 := hol2 rfl
        obtain ⟨o', a1, a2, a3, a4⟩ := app_get (bytes := 16) (df := []) G (Nat.le_refl _) (elems_fsl _ 1 [[.str s]]) (.inr (by simp)) (room_of (by simp; omega) (by simp; omega))
        have G' : Gr o0.length 9 1 o' (.own o.length 0 (out.length + 1) false) (strA (out ++ [s])) := gr_new (by rw [a3]; simp [strA]) hlo (by simp)
        cases h2 : bytesEq x s with
        | true =>
          simp only [h2, cond_true, List.nil_append] at hp
          simp -implicitDefEqProofs [-Bool.exists_bool, hfr, q0, q1, q5, q6, q7, hlt, hg', hw, h1, h2, a1]
          refine ⟨rest, by simp, pre ++ [x], _, _, out ++ [s], true, PutI.mk (by simp [e]) (by simp [hfr]) (by simp [hfr, q0]) (by simp [hfr, q1]) (by simp [hfr, q5]; try rfl) (by simp [hfr, q6]) (by simp [hfr, hw]) (rfl) (by omega) (G') (by simpa using hp) (by first | (intro h; cases h; done) | (intro h; have := hol2 h; simp; omega)) (by simp; omega)⟩
        | false =>
          simp only [h2, cond_false] at hp
          obtain ⟨o2, b1, b2, b3, b4⟩ := app_get (bytes := 16) (df := []) G' (Nat.le_refl _) (elems_fsl _ 1 [[.str x]]) (.inr (by simp)) (room_of (by simp; omega) (by simp; omega))
          simp only [strA_len, List.length_append, List.length_cons, List.length_nil, Nat.zero_add] at b1
          simp -implicitDefEqProofs [-Bool.exists_bool, hfr, q0, q1, q5, q6, q7, hlt, hg', hw, h1, h2, a1, b1]
          refine ⟨rest, by simp, pre ++ [x], .own o'.length 0 (out.length + 1 + 1) false, o2, out ++ [s, x], true, PutI.mk (by simp [e]) (by simp [hfr]) (by simp [hfr, q0]) (by simp [hfr, q1]) (by simp [hfr, q5]; try rfl) (by simp [hfr, q6]) (by simp [hfr, hw]) (rfl) (by omega) (gr_new (by rw [b3]; simp [strA]) (by omega) (by simp)) (by simpa using hp) (by first | (intro h; cases h; done) | (intro h; have := hol2 h; simp; omega)) (by simp; omega)⟩

end Go.Proofs.Ytcoonnbkmklenaa.A
