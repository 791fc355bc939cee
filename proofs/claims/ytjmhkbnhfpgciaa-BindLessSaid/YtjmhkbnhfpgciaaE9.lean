/- Claims: the names of variables: the document's. -/
import Derived.Test.YtjmhkbnhfpgciaaGx0
import Derived.Test.YtjmhkbnhfpgciaaN0
namespace Go.Proofs.Ytjmhkbnhfpgciaa.A
open Go
set_option maxRecDepth 10000
set_option linter.unusedSimpArgs false
attribute [-simp] List.all_eq_true put slot_def ld idxA lenOf elems canA app hand

/-- a string put among rising ones -/
def putX (s : ByteArray) : List ByteArray → List ByteArray
  | [] => [s]
  | x :: l => bif bytesLt x s then x :: putX s l else bif bytesEq x s then x :: l else s :: x :: l

theorem putX_len (s : ByteArray) : ∀ l : List ByteArray, (putX s l).length ≤ l.length + 1
  | [] => by simp [putX]
  | x :: l => by
    have := putX_len s l
    simp only [putX]
    cases bytesLt x s
    · cases bytesEq x s <;> simp
    · simp; omega

theorem strA_take (l : List ByteArray) (n : Nat) : (strA l).take n = strA (l.take n) := by simp [strA]
theorem strA_drop (l : List ByteArray) (n : Nat) : (strA l).drop n = strA (l.drop n) := by simp [strA]

theorem slc_hi (st : St) (sz : Nat) (es : List (List AV)) (n : Nat) (h : n ≤ es.length) : slc st sz (.sl sz es) none (some (.int .i64 (n : Int))) none = some (.sl sz (es.take n)) := by
  simp [slc, slcL, natB, h]
theorem slc_lo (st : St) (sz : Nat) (es : List (List AV)) (n : Nat) (h : n ≤ es.length) : slc st sz (.sl sz es) (some (.int .i64 (n : Int))) none none = some (.sl sz (es.drop n)) := by
  have h2 : es.take es.length = es := by simp
  simp [slc, slcL, natB, h]

section
attribute [-simp] slc
theorem put8_eq (l : List ByteArray) (s : ByteArray) (hl : l.length ≤ 4294967296) (o0 : List Obj) (ro : Nat) (df : List Nat) :
    (D T).call 73 [.sl 1 (strA l), .str s] ⟨o0, ro, df⟩ = some (.sl 1 (strA (putX s l)), ⟨o0, ro, df⟩) := by
  have hmx : l.length ≤ 9223372036854775807 := by omega
  have lp : ∀ (fr : List AV) (Q : AE → List AV → St → Prop), fr.length = 48 → slot fr 0 = .sl 1 (strA l) → slot fr 1 = .str s → slot fr 5 = .int .i64 0 →
      (∀ (fr' : List AV) pre rest, l = pre ++ rest → fr'.length = 48 → slot fr' 0 = .sl 1 (strA l) → slot fr' 1 = .str s → slot fr' 5 = .int .i64 (pre.length : Int) → putX s l = pre ++ putX s rest → (∀ x r, rest = x :: r → bytesLt x s = false) → Q (.exit 0) fr' ⟨o0, o0.length, []⟩) →
      ∃ e fr' st', (D T).loop false L73_0 fr ⟨o0, o0.length, []⟩ = some (e, fr', st') ∧ Q e fr' st' := by
    intro fr Q hfr q0 q1 q5 k
    apply loop_inv L73_0.eq_1 List.length (fun (rest : List ByteArray) fr st => ∃ pre, l = pre ++ rest ∧ fr.length = 48 ∧ slot fr 0 = .sl 1 (strA l) ∧ slot fr 1 = .str s ∧ slot fr 5 = .int .i64 (pre.length : Int) ∧ st = ⟨o0, o0.length, []⟩ ∧ putX s l = pre ++ putX s rest) ?_ l
      ⟨[], rfl, hfr, q0, q1, q5, rfl, rfl⟩
    clear hfr q0 q1 q5
    rintro rest fr _ ⟨pre, e, hfr, q0, q1, q5, rfl, hp⟩
    cases rest with
    | nil =>
      have hlt := idx_end e
      simp -implicitDefEqProofs [hfr, q0, q1, q5, hlt]
      exact k _ pre [] e (by simp [hfr]) (by simp [hfr, q0]) (by simp [hfr, q1]) (by simp [hfr, q5]) hp (fun _ _ h => by cases h)
    | cons x rest =>
      obtain ⟨hlt, hg, _⟩ := idx_at e
      have hg' := strA_get hg
      have hw := idx_next e hmx
      cases h1 : bytesLt x s with
      | true =>
        simp only [putX, h1, cond_true] at hp
        simp -implicitDefEqProofs [hfr, q0, q1, q5, hlt, hg', hw, h1]
        exact ⟨rest, by simp, pre ++ [x], by simp [e], by simp, by simpa using hp⟩
      | false =>
        simp -implicitDefEqProofs [hfr, q0, q1, q5, hlt, hg', hw, h1]
        exact k _ pre (x :: rest) e (by simp [hfr]) (by simp [hfr, q0]) (by simp [hfr, q1]) (by simp [hfr, q5]) hp (fun _ _ h => by obtain ⟨rfl, rfl⟩ := List.cons.inj h; exact h1)
  apply call_by (by exact rfl : T 73 = some _) (by simp)
  intro fr hfr hsl
  have s0 := hsl 0 _ rfl
  have s1 := hsl 1 _ rfl
  simp -implicitDefEqProofs [hfr, s0, s1]
  apply lp _ _ (by simp [hfr]) (by simp [hfr, s0]) (by simp [hfr, s1]) (by simp [hfr])
  clear hfr s0 s1 hsl lp
  intro fr pre rest e hfr q0 q1 q5 hp hx
  have hpl : pre.length ≤ l.length := by rw [e]; simp
  have tk : l.take pre.length = pre := by rw [e]; simp
  have dr : l.drop pre.length = rest := by rw [e]; simp
  have c1 := fun st => slc_hi st 1 (strA l) pre.length (by simpa using hpl)
  have c2 := fun st => slc_lo st 1 (strA l) pre.length (by simpa using hpl)
  rw [strA_take, tk] at c1
  rw [strA_drop, dr] at c2
  have hlr : l.length = pre.length + rest.length := by rw [e]; simp
  obtain ⟨o1, a1, b1, W1⟩ := gx_appw (ty := 9) (sz := 1) (lo := o0.length) (o := o0) (v := .fsl 1 []) (es := []) (bytes := 16) (df := []) ⟨.inl rfl, by simp⟩ (Nat.le_refl _) (Nat.le_refl _) (elems_sl _ 1 (strA pre)) (room_ofN (by simp; omega) (by simp; omega))
  obtain ⟨o2, a2, b2, W2⟩ := gx_appw (bytes := 16) (df := []) W1.G (Nat.le_refl _) (by omega) (elems_fsl _ 1 [[.str s]]) (room_ofN (by simp; omega) (by simp; omega))
  obtain ⟨o3, a3, b3, W3⟩ := gx_appw (bytes := 16) (df := []) W2.G (Nat.le_refl _) (by omega) (elems_sl _ 1 (strA rest)) (room_ofN (by simp; omega) (by simp; omega))
  have hh := gr_hand W3.G.G (Nat.le_refl _) (by
    have := strA_flat (pre ++ [s] ++ rest)
    simpa [strA] using this)
  simp only [List.length_nil, Nat.zero_add, strA_len, List.length_cons, List.length_append] at a1 a2 a3 hh
  cases rest with
  | nil =>
    have hlt := idx_end e
    simp only [putX] at hp
    simp only [List.length_nil, Nat.add_zero] at a3 hh
    simp -implicitDefEqProofs [hfr, q0, q1, q5, hlt, c1, c2, a1, a2, a3, hh]
    simp [hp, strA]
  | cons x rest =>
    obtain ⟨hlt, hg, _⟩ := idx_at e
    have hg' := strA_get hg
    have h1 := hx x rest rfl
    simp only [putX, h1, cond_false] at hp
    simp only [List.length_cons] at a3 hh
    cases h2 : bytesEq x s with
    | true =>
      simp only [h2, cond_true] at hp
      rw [← e] at hp
      simp -implicitDefEqProofs [hfr, q0, q1, q5, hlt, hg', h2, hp]
    | false =>
      simp only [h2, cond_false] at hp
      simp -implicitDefEqProofs [hfr, q0, q1, q5, hlt, hg', h2, c1, c2, a1, a2, a3, hh]
      simp [hp, strA]

end

theorem put8_nil (s : ByteArray) (o0 : List Obj) (ro : Nat) (df : List Nat) :
    (D T).call 73 [.fsl 1 [], .str s] ⟨o0, ro, df⟩ = some (.sl 1 (strA (putX s [])), ⟨o0, ro, df⟩) := by
  have lp : ∀ (fr : List AV) (Q : AE → List AV → St → Prop), fr.length = 48 → slot fr 0 = .fsl 1 [] → slot fr 1 = .str s → slot fr 5 = .int .i64 0 →
      (∀ (fr' : List AV), fr'.length = 48 → slot fr' 0 = .fsl 1 [] → slot fr' 1 = .str s → slot fr' 5 = .int .i64 0 → Q (.exit 0) fr' ⟨o0, o0.length, []⟩) →
      ∃ e fr' st', (D T).loop false L73_0 fr ⟨o0, o0.length, []⟩ = some (e, fr', st') ∧ Q e fr' st' := by
    intro fr Q hfr q0 q1 q5 k
    apply loop_inv L73_0.eq_1 (fun _ => 0) (fun (_ : Unit) fr st => fr.length = 48 ∧ slot fr 0 = .fsl 1 [] ∧ slot fr 1 = .str s ∧ slot fr 5 = .int .i64 0 ∧ st = ⟨o0, o0.length, []⟩) ?_ ()
      ⟨hfr, q0, q1, q5, rfl⟩
    clear hfr q0 q1 q5
    rintro _ fr _ ⟨hfr, q0, q1, q5, rfl⟩
    simp -implicitDefEqProofs [hfr, q0, q1, q5]
    exact k _ (by simp [hfr]) (by simp [hfr, q0]) (by simp [hfr, q1]) (by simp [hfr, q5])
  apply call_by (by exact rfl : T 73 = some _) (by simp)
  intro fr hfr hsl
  have s0 := hsl 0 _ rfl
  have s1 := hsl 1 _ rfl
  obtain ⟨o1, a1, b1, W1⟩ := gx_appw (ty := 9) (sz := 1) (lo := o0.length) (o := o0) (v := .fsl 1 []) (es := []) (bytes := 16) (df := []) ⟨.inl rfl, by simp⟩ (Nat.le_refl _) (Nat.le_refl _) (elems_fsl _ 1 []) (room_ofN (by simp) (by simp))
  obtain ⟨o2, a2, b2, W2⟩ := gx_appw (bytes := 16) (df := []) W1.G (Nat.le_refl _) (by omega) (elems_fsl _ 1 [[.str s]]) (room_ofN (by simp) (by simp))
  obtain ⟨o3, a3, b3, W3⟩ := gx_appw (bytes := 16) (df := []) W2.G (Nat.le_refl _) (by omega) (elems_fsl _ 1 []) (room_ofN (by simp) (by simp))
  have hh := gr_hand W3.G.G (Nat.le_refl _) (by simp)
  simp only [List.length_nil, Nat.zero_add, List.length_cons, List.length_append, List.nil_append, List.append_nil, Nat.add_zero] at a1 a2 a3 hh
  simp -implicitDefEqProofs [hfr, s0, s1]
  apply lp _ _ (by simp [hfr]) (by simp [hfr, s0]) (by simp [hfr, s1]) (by simp [hfr])
  clear hfr s0 s1 hsl lp
  intro fr hfr q0 q1 q5
  simp -implicitDefEqProofs [hfr, q0, q1, q5, a1, a2, a3, hh, putX, strA]

def putF (l : List ByteArray) (s : ByteArray) : List ByteArray := putX s l

theorem putF_len : ∀ (V l : List ByteArray), (V.foldl putF l).length ≤ l.length + V.length
  | [], l => Nat.le_refl _
  | s :: V, l => by
    have h1 := putF_len V (putX s l)
    have h2 := putX_len s l
    simp only [List.foldl_cons, putF, List.length_cons] at *
    omega

/-- a list of strings by value, or the literal while it is empty -/
def Sv (v : AV) (l : List ByteArray) : Prop := v = .sl 1 (strA l) ∨ (v = .fsl 1 [] ∧ l = [])

theorem Sv.put {v : AV} {l : List ByteArray} (h : Sv v l) (s : ByteArray) (hl : l.length ≤ 4294967296) (st : St) :
    (D T).call 73 [v, .str s] st = some (.sl 1 (strA (putX s l)), st) := by
  obtain ⟨o, ro, df⟩ := st
  rcases h with rfl | ⟨rfl, rfl⟩
  · exact put8_eq l s hl o ro df
  · exact put8_nil s o ro df

theorem Sv.hand {v : AV} {l : List ByteArray} (h : Sv v l) (n : Nat) (o : List Obj) : hand n o v = some (.sl 1 (strA l)) := by
  rcases h with rfl | ⟨rfl, rfl⟩
  · simp
  · simp [strA]

theorem Sv.can {v : AV} {l : List ByteArray} (h : Sv v l) : canA v = v := by
  rcases h with rfl | ⟨rfl, rfl⟩ <;> rfl

theorem sv_sl (l : List ByteArray) : Sv (.sl 1 (strA l)) l := .inl rfl

theorem termNames_eq : ∀ (t : Tm), t.ok → ∀ (v : AV) (l : List ByteArray) (st : St), Sv v l → l.length + t.all.length ≤ 4294967295 →
    (D T).call 62 [v, t.av] st = some (.sl 1 (strA ((varsOf t.all).foldl putF l)), st)
  | .mk a s b ts, hok, v, l, ⟨o, ro, df⟩, hv, hl => by
    simp only [Tm.ok] at hok
    have hts := okL_iff.1 hok.2.2.2.2
    have hmx : ts.length ≤ 9223372036854775807 := Nat.le_trans hok.2.2.2.1 (by decide)
    have ih := fun t (ht : t ∈ ts) => termNames_eq t (hts t ht)
    simp only [Tm.all, List.length_cons] at hl
    apply call_by (by exact rfl : T 62 = some _) (by simp)
    intro fr hfr hsl
    have s0 := hsl 0 _ rfl
    have s1 := hsl 1 _ rfl
    simp only [Tm.av, Tm.cells_mk] at s1
    have hcan := hv.can
    have lp : ∀ (fr : List AV) (v1 : AV) (l1 : List ByteArray), fr.length = 28 → slot fr 0 = v1 → slot fr 3 = .ptr o.length 0 0 → slot fr 5 = .int .i64 0 → Sv v1 l1 → l1.length ≤ l.length + 1 → (varsOf (Tm.mk a s b ts).all).foldl putF l = (varsOf (allL ts)).foldl putF l1 → ∀ Q : AE → List AV → St → Prop,
        (∀ (fr' : List AV) v', fr'.length = 28 → slot fr' 0 = v' → Sv v' ((varsOf (Tm.mk a s b ts).all).foldl putF l) → Q (.exit 0) fr' ⟨o ++ [Obj.arr 27 4 [[.int .i64 a, .str s, .int .i64 b, .sl 4 (ts.map Tm.cells)]]], o.length, []⟩) →
        ∃ e fr' st', (D T).loop false L62_0 fr ⟨o ++ [Obj.arr 27 4 [[.int .i64 a, .str s, .int .i64 b, .sl 4 (ts.map Tm.cells)]]], o.length, []⟩ = some (e, fr', st') ∧ Q e fr' st' := by
      intro fr v1 l1 hfr q0 q3 q5 hv1 hl1 hp0 Q k
      apply loop_inv L62_0.eq_1 List.length (fun (rest : List Tm) fr st => ∃ pre v2 l2, ts = pre ++ rest ∧ fr.length = 28 ∧ slot fr 0 = v2 ∧ slot fr 3 = .ptr o.length 0 0 ∧ slot fr 5 = .int .i64 (pre.length : Int) ∧ st = ⟨o ++ [Obj.arr 27 4 [[.int .i64 a, .str s, .int .i64 b, .sl 4 (ts.map Tm.cells)]]], o.length, []⟩ ∧
        Sv v2 l2 ∧ (varsOf (Tm.mk a s b ts).all).foldl putF l = (varsOf (allL rest)).foldl putF l2 ∧ l2.length + (allL rest).length ≤ 4294967295) ?_ ts ⟨[], v1, l1, rfl, hfr, q0, q3, q5, rfl, hv1, hp0, by omega⟩
      clear q0 q3 q5 hfr hv1 hl1 hp0 v1 l1
      rintro rest fr _ ⟨pre, v1, l1, e, hfr, q0, q3, q5, rfl, hv1, hp, hl1⟩
      have hcan := hv1.can
      cases rest with
      | nil =>
        have hlt := idx_end e
        simp only [allL, varsOf, List.flatMap_nil, List.foldl_nil] at hp
        simp -implicitDefEqProofs [hfr, q0, q3, q5, hlt, get_base0, -getElem?_pos, List.getElem?_cons_zero]
        exact k _ v1 (by simp [hfr]) (by simp [hfr, q0]) (by simp only [varsOf]; rw [hp]; exact hv1)
      | cons x rest =>
        obtain ⟨hlt, hg, _⟩ := idx_at e
        have hw := idx_next e hmx
        simp only [allL, varsOf, List.flatMap_append, List.foldl_append, List.length_append] at hp hl1
        have hcall := fun st => ih x (by simp [e]) v1 l1 st hv1 (by omega)
        simp only [Tm.av] at hcall
        simp -implicitDefEqProofs [hfr, q0, q3, q5, hlt, hg, hw, hcan, hcall, get_base0, -getElem?_pos, List.getElem?_cons_zero]
        refine ⟨rest, by simp, pre ++ [x], by simp [e], by simp, _, sv_sl _, by simpa [varsOf] using hp, ?_⟩
        have h1 := putF_len (varsOf x.all) l1
        have h2 := varsOf_len x.all
        omega
    cases ha : a == 1 with
    | true =>
      obtain rfl : a = 1 := by simpa using ha
      have hput := fun st => hv.put s (by omega) st
      simp -implicitDefEqProofs [hfr, s0, s1, hput, hcan, get_base0, -getElem?_pos, List.getElem?_cons_zero]
      apply lp _ (.sl 1 (strA (putX s l))) (putX s l) (by simp [hfr]) (by simp [hfr]) (by simp [hfr]) (by simp [hfr]) (sv_sl _) (putX_len s l) (by simp [Tm.all, varsOf, vn, putF])
      intro fr' v' g1 g2 hs
      have hh := hs.hand
      simp -implicitDefEqProofs [g1, g2, hh]
    | false =>
      have hne : ¬ a = 1 := by simpa using ha
      simp -implicitDefEqProofs [hfr, s0, s1, hcan, ha, hne, get_base0, -getElem?_pos, List.getElem?_cons_zero]
      apply lp _ v l (by simp [hfr]) (by simp [hfr, s0]) (by simp [hfr]) (by simp [hfr]) hv (by omega) (by simp [Tm.all, varsOf, vn, ha])
      intro fr' v' g1 g2 hs
      have hh := hs.hand
      simp -implicitDefEqProofs [g1, g2, hh]
termination_by t => SizeOf.sizeOf t
decreasing_by
  have := List.sizeOf_lt_of_mem ht
  simp
  omega

end Go.Proofs.Ytjmhkbnhfpgciaa.A
