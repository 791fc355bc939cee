/- The names of variables: the program's. -/
import Derived.Test.YtpenaaljaahanaaN0
import Derived.Test.YtpenaaljaahanaaExtS
namespace Go.Proofs.Ytpenaaljaahanaa.A
open Go
set_option maxRecDepth 10000
set_option linter.unusedSimpArgs false
attribute [-simp] List.all_eq_true put slot_def ld idxA lenOf elems canA app hand

theorem strs_get : ∀ l : List ByteArray, strsOf (strA l) = some l
  | [] => rfl
  | x :: l => by have := strs_get l; simp only [strA] at this; simp [strA, strsOf, this]

theorem sort_call {r ro ty : Nat} {o : List Obj} {df : List Nat} {l : List ByteArray} (h : o[r]? = some (.arr ty 1 (strA l))) (hro : ro ≤ r) (hl : l.length < 4611686018427387904) (f : Bool) :
    (D T).call 75 [.own r 0 l.length f] ⟨o, ro, df⟩ = some (.tup [], ⟨o.set r (.arr ty 1 (strA (isort bytesLt l))), ro, df⟩) := by
  rw [D_ext _ _ (by rfl)]
  simp only [ext, exSort, St.arr?, h, strA_len, hro, hl, and_self, if_true, strs_get]
  rfl

theorem comp_call {r ro ty : Nat} {o : List Obj} {df : List Nat} {l : List ByteArray} (h : o[r]? = some (.arr ty 1 (strA l))) (hro : ro ≤ r) (hl : l.length < 4611686018427387904) :
    (D T).call 76 [.own r 0 l.length false] ⟨o, ro, df⟩ =
      some (.own r 0 (dedup bytesEq l).length false, ⟨o.set r (.arr ty 1 (strA (dedup bytesEq l ++ List.replicate (l.length - (dedup bytesEq l).length) ⟨#[]⟩))), ro, df⟩) := by
  rw [D_ext _ _ (by rfl)]
  simp only [ext, exComp, St.arr?, h, strA_len, hro, hl, and_self, if_true, strs_get]
  rfl

theorem sort_nil (st : St) : (D T).call 75 [.fsl 1 []] st = some (.tup [], st) := by
  rw [D_ext _ _ (by rfl)]; rfl
theorem comp_nil (st : St) : (D T).call 76 [.fsl 1 []] st = some (.fsl 1 [], st) := by
  rw [D_ext _ _ (by rfl)]; rfl

theorem isort_len {α : Type} (lt : α → α → Bool) (l : List α) : (isort lt l).length = l.length := isort_length lt l

/-- sorted, each once -/
def rising (l : List ByteArray) : List ByteArray := dedup bytesEq (isort bytesLt l)

/-- a slice of strings that grows, and is the literal only while it is empty -/
structure Gs (lo : Nat) (o : List Obj) (v : AV) (l : List ByteArray) : Prop where
  G : Gr lo 9 1 o v (strA l)
  nil : v = .fsl 1 (strA l) → l = []

theorem Gs.off {lo : Nat} {o : List Obj} {v : AV} {l : List ByteArray} (h : Gs lo o v l) {i : Nat} {x : Obj} (hx : o[i]? = some x) (hne : ∀ es, x ≠ .arr 9 1 es) (n : Nat) (f : Bool) : v ≠ .own i 0 n f := by
  rcases h.G with rfl | ⟨r, h1, rfl, h3⟩
  · simp
  · rintro e
    obtain ⟨rfl, _⟩ : r = i ∧ _ := by simpa using e
    rw [h3] at hx
    exact hne _ (Option.some.inj hx).symm

theorem Gs.app {lo ro : Nat} {o : List Obj} {v : AV} {l : List ByteArray} (h : Gs lo o v l) (hro : ro ≤ lo) (hlo : lo ≤ o.length) (s : ByteArray) (hn : l.length + 1 ≤ 4294967296) (df : List Nat) :
    ∃ o', app ⟨o, ro, df⟩ 9 1 16 v (.fsl 1 [[.str s]]) = some (.own o.length 0 (l.length + 1) false, ⟨o', ro, df⟩) ∧ o'.length = o.length + 1 ∧
      Gs lo o' (.own o.length 0 (l.length + 1) false) (l ++ [s]) ∧ (∀ (i : Nat) (y : Obj), o[i]? = some y → (∀ es, y ≠ .arr 9 1 es) → o'[i]? = some y) ∧ ∀ i, i < lo → o'[i]? = o[i]? := by
  obtain ⟨o', a1, a2, a3, a4⟩ := app_get (bytes := 16) (df := df) h.G hro (elems_fsl _ 1 [[.str s]]) (.inr (by simp)) (room_ofN (by simp; omega) (by simp; omega))
  simp only [strA_len, List.length_cons, List.length_nil, Nat.zero_add] at a1
  refine ⟨o', a1, a2, ⟨gr_new (by rw [a3]; simp [strA]) hlo (by simp), by simp⟩, fun i y hy hne => a4 i y hy (h.off hy hne), fun i hi => by rw [a4 i _ (List.getElem?_eq_getElem (by omega)) (h.G.not hi), List.getElem?_eq_getElem]⟩

theorem Gs.push {lo : Nat} {o : List Obj} {v : AV} {l : List ByteArray} (h : Gs lo o v l) (m : List Obj) : Gs lo (o ++ m) v l := ⟨h.G.push m, h.nil⟩
theorem Gs.set {lo : Nat} {o : List Obj} {v : AV} {l : List ByteArray} (h : Gs lo o v l) {i : Nat} {x y : Obj} (hx : o[i]? = some x) (hne : ∀ es, x ≠ .arr 9 1 es) : Gs lo (o.set i y) v l := by
  refine ⟨?_, h.nil⟩
  rcases h.G with rfl | ⟨r, h1, rfl, h3⟩
  · exact .inl rfl
  · refine .inr ⟨r, h1, rfl, ?_⟩
    rw [List.getElem?_set_ne]
    · exact h3
    · rintro rfl
      exact h.off hx hne _ _ rfl

theorem Gs.kill {lo : Nat} {v : AV} {l : List ByteArray} : ∀ (df : List Nat) {o : List Obj}, Gs lo o v l → (∀ d ∈ df, o[d]? = some Obj.dfr) → df.Nodup → Gs lo (killAll df o) v l
  | [], _, h, _, _ => h
  | d :: df, o, h, hd, hn => by
    have hn' := List.nodup_cons.1 hn
    refine Gs.kill df (h.set (hd d (List.mem_cons_self ..)) (by simp)) (fun e he => ?_) hn'.2
    rw [List.getElem?_set_ne (by rintro rfl; exact hn'.1 he)]
    exact hd e (List.mem_cons_of_mem _ he)

/-- a slice whose elements lie in memory that does not change -/
structure Lz (o0 : List Obj) (sz : Nat) (v : AV) (es : List (List AV)) : Prop where
  len : lenOf v = some es.length
  can : canA v = v
  get : ∀ (o : List Obj) (ro : Nat) (df : List Nat) (i : Nat) e, (∀ j, j < o0.length → o[j]? = o0[j]?) → es[i]? = some e → e.length = sz → ∃ p, idxA ⟨o, ro, df⟩ sz v (.int .i64 i) = some p ∧ ∀ agg, ld ⟨o, ro, df⟩ agg sz p = val agg e

theorem Lz.ls {o0 : List Obj} {sz : Nat} {v : AV} {es : List (List AV)} (L : Ls o0 sz v es)   : Lz o0 sz v es := by
  refine ⟨L.len, L.can, fun o ro df i e hlow he hl => ?_⟩
  by_cases hlt : o0.length ≤ o.length
  · have : o = o0 ++ o.drop o0.length := by
      apply List.ext_getElem?
      intro j
      rcases Nat.lt_or_ge j o0.length with hj | hj
      · rw [List.getElem?_append_left hj, hlow j hj]
      · rw [List.getElem?_append_right hj, List.getElem?_drop]; congr 1; omega
    rw [this]
    exact L.get _ ro df i e he hl
  · exfalso
    have := hlow o.length (by omega)
    rw [List.getElem?_eq_none (Nat.le_refl _), List.getElem?_eq_getElem (by omega)] at this
    cases this

/-- the end of a function that sorts what it has gathered -/
theorem Gs.done {lo ro : Nat} {o : List Obj} {v : AV} {l : List ByteArray} (h : Gs lo o v l) (hro : ro ≤ lo) (hl : l.length ≤ 4294967296) (df : List Nat) (hd : ∀ d ∈ df, o[d]? = some Obj.dfr) :
    ∃ o1 v2 o2, (D T).call 75 [v] ⟨o, ro, df⟩ = some (.tup [], ⟨o1, ro, df⟩) ∧ (∀ (i : Nat) (y : Obj), o[i]? = some y → (∀ es, y ≠ .arr 9 1 es) → o1[i]? = some y) ∧
      (D T).call 76 [v] ⟨o1, ro, df⟩ = some (v2, ⟨o2, ro, df⟩) ∧ hand ro (killAll df o2) v2 = some (.sl 1 (strA (rising l))) := by
  rcases h.G with rfl | ⟨r, h1, rfl, h3⟩
  · obtain rfl := h.nil rfl
    exact ⟨o, _, o, sort_nil _, fun i y hy _ => hy, comp_nil _, by simp [strA, rising, isort, dedup, hand, hand1, hand0]⟩
  · have hr := lt_of_getO h3
    have hc := comp_call (ro := ro) (df := df) (l := isort bytesLt l) (getO_set (x := Obj.arr 9 1 (strA (isort bytesLt l))) hr) (by omega) (by rw [isort_len]; omega)
    have e0 : (strA l).length = (isort bytesLt l).length := by rw [strA_len, isort_len]
    refine ⟨_, _, _, by rw [strA_len]; exact sort_call h3 (by omega) (by omega) false, fun i y hy hne => ?_, by rw [e0]; exact hc, ?_⟩
    · rw [List.getElem?_set_ne]
      · exact hy
      · rintro rfl
        rw [h3] at hy
        exact hne _ (Option.some.inj hy).symm
    · have hk : r ∉ df := fun hm => by have := hd r hm; rw [h3] at this; cases this
      have e : (killAll df ((o.set r (.arr 9 1 (strA (isort bytesLt l)))).set r (.arr 9 1 (strA (dedup bytesEq (isort bytesLt l) ++ List.replicate ((isort bytesLt l).length - (dedup bytesEq (isort bytesLt l)).length) ⟨#[]⟩)))))[r]? =
          some (.arr 9 1 (strA (dedup bytesEq (isort bytesLt l) ++ List.replicate ((isort bytesLt l).length - (dedup bytesEq (isort bytesLt l)).length) ⟨#[]⟩))) := by
        rw [killAll_get _ _ _ hk, getO_set (by simpa using hr)]
      simp only [hand, hand1, hand0, if_neg (show ¬ r < ro by omega), e, strA_flat, List.drop_zero]
      rw [if_pos (by simp), strA_app, List.take_left' (by simp)]
      rfl

end Go.Proofs.Ytpenaaljaahanaa.A
