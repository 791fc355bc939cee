/- Whether a term is right, how great and how deep it is: the document's functions. -/
import Derived.Test.YtcoonnbkmklenaaDoorR3
namespace Go.Proofs.YtcoonnbkmklenaaDoor.A
open Go
set_option maxRecDepth 10000
set_option linter.unusedSimpArgs false
attribute [-simp] List.all_eq_true put slot_def ld idxA lenOf elems canA app hand

mutual
theorem rdp_le : ∀ (t : Tm) (m : Int), 0 ≤ m → rdp t m ≤ m + 1
  | .mk a s b l, m, h => by
    simp only [rdp]
    exact rdpL_le l m 1 h (by omega) (by omega)
theorem rdpL_le : ∀ (l : List Tm) (m d : Int), 0 ≤ m → 1 ≤ d → d ≤ m + 1 → rdpL l m d ≤ m + 1
  | [], m, d, h, h0, h1 => by simpa [rdpL] using h1
  | t :: l, m, d, h, h0, h1 => by
    simp only [rdpL]
    by_cases hd : d ≤ m
    · rw [if_pos hd]
      have h2 := rdp_le t (m - 1) (by omega)
      exact rdpL_le l m _ h (by split <;> omega) (by split <;> omega)
    · rw [if_neg hd]; exact h1
end

theorem rdepth_eq : ∀ (t : Tm), t.ok → ∀ (m : Int), 0 ≤ m → m ≤ 100 → ∀ (o : List Obj) (ro : Nat) (df : List Nat), (D T).call 18 [t.av, .int .i64 m] ⟨o, ro, df⟩ = some (.int .i64 (rdp t m), ⟨o, ro, df⟩)
  | .mk a s b l, hok, m, h1, h2, o, ro, df => by
    simp only [Tm.ok] at hok
    have hl := okL_iff.1 hok.2.2.2.2
    have hmx : l.length ≤ 9223372036854775807 := Nat.le_trans hok.2.2.2.1 (by decide)
    have ih := fun x (hx : x ∈ l) m k1 k2 o ro df => rdepth_eq x (hl x hx) m k1 k2 o ro df
    simp only [Tm.av] at ih
    have w0 : IntKind.i64.wrap (m - 1) = m - 1 := wrap_id (by omega) (by omega)
    apply call_by (by exact rfl : T 18 = some _) (by simp)
    intro fr hfr hsl
    have s0 := hsl 0 _ rfl
    have s1 := hsl 1 _ rfl
    simp only [Tm.av, Tm.cells_mk] at s0
    simp -implicitDefEqProofs [hfr, s0, s1, get_base0]
    apply loop_inv L18_0.eq_1 List.length (fun (rest : List Tm) fr st => ∃ pre d, l = pre ++ rest ∧ fr.length = 31 ∧ slot fr 1 = .int .i64 m ∧ slot fr 2 = .ptr o.length 0 0 ∧ slot fr 5 = .int .i64 d ∧ slot fr 6 = .int .i64 (pre.length : Int) ∧
      st = ⟨o ++ [.arr 24 4 [[.int .i64 a, .str s, .int .i64 b, .sl 4 (l.map Tm.cells)]]], o.length, []⟩ ∧ 1 ≤ d ∧ d ≤ m + 1 ∧ rdp (.mk a s b l) m = rdpL rest m d) ?_ l ⟨[], 1, rfl, by simp [hfr], by simp [hfr, s1], by simp [hfr], by simp [hfr], by simp [hfr], rfl, by omega, by omega, by simp [rdp]⟩
    rintro rest fr _ ⟨pre, d, e, hfr, q1, q2, q5, q6, rfl, d1, d2, hn⟩
    cases rest with
    | nil =>
      have hlt := idx_end e
      simp only [rdpL] at hn
      simp -implicitDefEqProofs [hfr, q1, q2, q5, q6, hlt, get_base0, hn]
    | cons t rest =>
      obtain ⟨hlt, hg, _⟩ := idx_at e
      have hw := idx_next e hmx
      simp only [rdpL] at hn
      by_cases hd : d ≤ m
      · have hc := ih t (by simp [e]) (m - 1) (by omega) (by omega)
        have hle := rdp_le t (m - 1) (by omega)
        have hge := (rdp_min t (m - 1) (by omega)).1
        have w1 : IntKind.i64.wrap (1 + rdp t (m - 1)) = 1 + rdp t (m - 1) := wrap_id (by omega) (by omega)
        rw [if_pos hd] at hn
        by_cases hb : d < 1 + rdp t (m - 1)
        · simp only [if_pos hb] at hn
          simp -implicitDefEqProofs [hfr, q1, q2, q5, q6, hlt, hg, hw, w0, w1, hc, hb, hd, get_base0]
          exact ⟨rest, by simp, pre ++ [t], by simp [e], by simp, by omega, by omega, hn⟩
        · simp only [if_neg hb] at hn
          simp -implicitDefEqProofs [hfr, q1, q2, q5, q6, hlt, hg, hw, w0, w1, hc, hb, hd, get_base0]
          exact ⟨rest, by simp, pre ++ [t], by simp [e], by simp, by omega, by omega, hn⟩
      · rw [if_neg hd] at hn
        simp -implicitDefEqProofs [hfr, q1, q2, q5, q6, hlt, get_base0, hd, hn]
termination_by t => SizeOf.sizeOf t
decreasing_by
  have := List.sizeOf_lt_of_mem hx
  simp
  omega

theorem rDepth_eq (t : Tm) (ht : t.ok) (o : List Obj) (ro : Nat) (df : List Nat) : (D T).call 11 [t.av] ⟨o, ro, df⟩ = some (.int .i64 (min (dT t) 65), ⟨o, ro, df⟩) := by
  have h := fun o ro df => rdepth_eq t ht 64 (by omega) (by omega) o ro df
  have hm := (rdp_min t 64 (by omega)).2.2
  simp only [Tm.av] at h
  have hm' : min (dT t) 65 = min (rdp t 64) 65 := by omega
  rw [hm']
  apply call_by (by exact rfl : T 11 = some _) (by simp)
  intro fr hfr hsl
  have s0 := hsl 0 _ rfl
  simp only [Tm.av] at s0
  by_cases hb : 65 < rdp t 64
  · have e : min (rdp t 64) 65 = 65 := by omega
    simp -implicitDefEqProofs [hfr, s0, get_base0, h, hb, e]
  · have e : min (rdp t 64) 65 = rdp t 64 := by omega
    simp -implicitDefEqProofs [hfr, s0, get_base0, h, hb, e]

mutual
theorem sz_min : ∀ (t : Tm) (m : Int), 0 ≤ m → min (sz t m) (m + 1) = min (t.all.length : Int) (m + 1)
  | .mk a s b l, m, h => by
    have := szL_min l m 1 (by omega) (by omega)
    simp only [sz, Tm.all, List.length_cons]
    omega
theorem szL_min : ∀ (l : List Tm) (m n : Int), 1 ≤ n → n ≤ m + 1 → min (szL l m n) (m + 1) = min (n + ((allL l).length : Int)) (m + 1)
  | [], m, n, h1, h2 => by simp [szL, allL]
  | t :: l, m, n, h1, h2 => by
    simp only [szL, allL, List.length_append]
    by_cases hn : n ≤ m
    · rw [if_pos hn]
      have h3 := sz_min t (m - n) (by omega)
      have h4 := sz_le t (m - n) (by omega)
      have h5 := szL_min l m (n + sz t (m - n)) (by omega) (by omega)
      omega
    · rw [if_neg hn]
      omega
end

theorem rSize_eq (t : Tm) (ht : t.ok) (o : List Obj) (ro : Nat) (df : List Nat) : (D T).call 9 [t.av] ⟨o, ro, df⟩ = some (.int .i64 (min (t.all.length : Int) 4097), ⟨o, ro, df⟩) := by
  have h := fun st => size_eq t ht 4096 st (by omega) (by omega)
  have hm := sz_min t 4096 (by omega)
  simp only [Tm.av] at h
  rw [show min (t.all.length : Int) 4097 = min (sz t 4096) 4097 by omega]
  apply call_by (by exact rfl : T 9 = some _) (by simp)
  intro fr hfr hsl
  have s0 := hsl 0 _ rfl
  simp only [Tm.av] at s0
  by_cases hb : 4097 < sz t 4096
  · have e : min (sz t 4096) 4097 = 4097 := by omega
    simp -implicitDefEqProofs [hfr, s0, get_base0, h, hb, e]
  · have e : min (sz t 4096) 4097 = sz t 4096 := by omega
    simp -implicitDefEqProofs [hfr, s0, get_base0, h, hb, e]

theorem rargs_eq (a : Int) (st : St) : (D T).call 28 [.int .i64 a] st = some (.int .i64 (argsI a), st) := by
  apply call_by (by exact rfl : T 28 = some _) (by simp)
  intro fr hfr hsl
  have s0 := hsl 0 _ rfl
  by_cases h3 : a = 3
  · subst h3; simp -implicitDefEqProofs [hfr, s0, argsI]
  · by_cases h5 : a = 5
    · subst h5; simp -implicitDefEqProofs [hfr, s0, argsI]
    · by_cases h6 : a = 6
      · subst h6; simp -implicitDefEqProofs [hfr, s0, argsI]
      · by_cases h7 : a = 7
        · subst h7; simp -implicitDefEqProofs [hfr, s0, argsI]
        · by_cases h8 : a = 8
          · subst h8; simp -implicitDefEqProofs [hfr, s0, argsI]
          · simp -implicitDefEqProofs [hfr, s0, argsI, h3, h5, h6, h7, h8]

theorem firstE_app : ∀ (l k : List Tm), firstE (l ++ k) = if firstE l = 0 then firstE k else firstE l
  | [], k => by simp [firstE]
  | x :: l, k => by
    simp only [List.cons_append, firstE]
    by_cases h : x.err = 0
    · simp only [if_pos h]; exact firstE_app l k
    · simp only [if_neg h]

set_option maxHeartbeats 4000000 in
theorem rpart_eq : ∀ (t : Tm), t.ok → ∀ (o : List Obj) (ro : Nat) (df : List Nat), (D T).call 16 [t.av] ⟨o, ro, df⟩ = some (.int .i64 (firstE t.all), ⟨o, ro, df⟩)
  | .mk a s b l, hok, o, ro, df => by
    simp only [Tm.ok] at hok
    have hl := okL_iff.1 hok.2.2.2.2
    have hmx : l.length ≤ 9223372036854775807 := Nat.le_trans hok.2.2.2.1 (by decide)
    have ih := fun x (hx : x ∈ l) o ro df => rpart_eq x (hl x hx) o ro df
    simp only [Tm.av] at ih
    have lp : ∀ (fr : List AV) (Q : AE → List AV → St → Prop), fr.length = 91 → slot fr 1 = .ptr o.length 0 0 → slot fr 4 = .int .i64 0 →
        (firstE (allL l) = 0 → ∀ fr' : List AV, fr'.length = 91 → Q (.exit 0) fr' ⟨o ++ [.arr 24 4 [[.int .i64 a, .str s, .int .i64 b, .sl 4 (l.map Tm.cells)]]], o.length, []⟩) →
        (firstE (allL l) ≠ 0 → ∀ fr' : List AV, fr'.length = 91 → slot fr' 2 = .int .i64 (firstE (allL l)) → Q .ret fr' ⟨o ++ [.arr 24 4 [[.int .i64 a, .str s, .int .i64 b, .sl 4 (l.map Tm.cells)]]], o.length, []⟩) →
        ∃ e fr' st', (D T).loop false L16_0 fr ⟨o ++ [.arr 24 4 [[.int .i64 a, .str s, .int .i64 b, .sl 4 (l.map Tm.cells)]]], o.length, []⟩ = some (e, fr', st') ∧ Q e fr' st' := by
      intro fr Q p p1 p4 k1 k2
      apply loop_inv L16_0.eq_1 List.length (fun (rest : List Tm) fr st => ∃ pre, l = pre ++ rest ∧ fr.length = 91 ∧ slot fr 1 = .ptr o.length 0 0 ∧ slot fr 4 = .int .i64 (pre.length : Int) ∧
        st = ⟨o ++ [.arr 24 4 [[.int .i64 a, .str s, .int .i64 b, .sl 4 (l.map Tm.cells)]]], o.length, []⟩ ∧ firstE (allL l) = firstE (allL rest)) ?_ l ⟨[], rfl, p, p1, p4, rfl, rfl⟩
      rintro rest fr _ ⟨pre, e, hfr, q1, q4, rfl, hin⟩
      cases rest with
      | nil =>
        have hlt := idx_end e
        simp -implicitDefEqProofs [hfr, q1, q4, hlt, get_base0]
        exact k1 (by rw [hin]; rfl) _ (by simp [hfr])
      | cons t rest =>
        obtain ⟨hlt, hg, _⟩ := idx_at e
        have hw := idx_next e hmx
        have hc := fun o ro df => ih t (by simp [e]) o ro df
        simp only [allL, firstE_app] at hin
        by_cases h : firstE t.all = 0
        · rw [if_pos h] at hin
          simp -implicitDefEqProofs [hfr, q1, q4, hlt, hg, hw, hc, h, get_base0]
          exact ⟨rest, by simp, pre ++ [t], by simp [e], by simp, hin⟩
        · rw [if_neg h] at hin
          have hb : (firstE t.all != 0) = true := by simpa using h
          simp -implicitDefEqProofs [hfr, q1, q4, hlt, hg, hw, hc, h, hb, get_base0]
          exact k2 (by rw [hin]; exact h) _ (by simp [hfr]) (by simp [hfr, hin])
    have hE : firstE (Tm.mk a s b l).all = if (Tm.mk a s b l).err = 0 then firstE (allL l) else (Tm.mk a s b l).err := by simp only [Tm.all, firstE]
    apply call_by (by exact rfl : T 16 = some _) (by simp)
    intro fr hfr hsl
    have s0 := hsl 0 _ rfl
    simp only [Tm.av, Tm.cells_mk] at s0
    clear ih
    by_cases a1 : a < 1
    · have e : (Tm.mk a s b l).err = 7 := by simp only [Tm.err, partE]; rw [if_pos (.inl a1)]
      rw [hE, e]
      simp -implicitDefEqProofs [hfr, s0, get_base0, a1]
    · by_cases a8 : 8 < a
      · have e : (Tm.mk a s b l).err = 7 := by simp only [Tm.err, partE]; rw [if_pos (.inr (.inl a8))]
        rw [hE, e]
        simp -implicitDefEqProofs [hfr, s0, get_base0, a1, a8]
      · obtain ⟨n, hn⟩ : ∃ n : Int, n = (l.length : Int) := ⟨_, rfl⟩
        have ha : a = 1 ∨ a = 2 ∨ a = 3 ∨ a = 4 ∨ a = 5 ∨ a = 6 ∨ a = 7 ∨ a = 8 := by omega
        rcases Bool.eq_false_or_eq_true (bytesEq s ⟨#[]⟩) with hs | hs
        · rcases ha with rfl | rfl | rfl | rfl | rfl | rfl | rfl | rfl
          · by_cases b0 : b = 0
            · subst b0
              by_cases n0 : n = 0
              · have e : (Tm.mk 1 s 0 l).err = 0 := by simp [Tm.err, partE, argsI, hs, ← hn, n0]
                rw [hE, e]
                simp -implicitDefEqProofs [hfr, s0, get_base0, hs, rargs_eq, argsI, ← hn, n0]
                apply lp
                · simp [hfr]
                · simp [hfr]
                · simp [hfr]
                · intro z fr' hf
                  simp -implicitDefEqProofs [hf, z]
                · intro z fr' hf p2
                  simp -implicitDefEqProofs [hf, p2]
              · have nb : (n != 0) = true := by simpa using n0
                have e : (Tm.mk 1 s 0 l).err = 12 := by simp [Tm.err, partE, argsI, hs, ← hn, n0]
                rw [hE, e]
                simp -implicitDefEqProofs [hfr, s0, get_base0, hs, rargs_eq, argsI, ← hn, n0, nb]
            · have bb : (b != 0) = true := by simpa using b0
              have e : (Tm.mk 1 s b l).err = 7 := by simp [Tm.err, partE, b0]
              rw [hE, e]
              simp -implicitDefEqProofs [hfr, s0, get_base0, hs, b0, bb]
          · by_cases bn : b < 0
            · have e : (Tm.mk 2 s b l).err = 7 := by simp [Tm.err, partE, bn]
              rw [hE, e]
              simp -implicitDefEqProofs [hfr, s0, get_base0, hs, bn]
            · skip
              by_cases n0 : n = 0
              · have e : (Tm.mk 2 s b l).err = 0 := by simp [Tm.err, partE, argsI, hs, ← hn, n0, bn]
                rw [hE, e]
                simp -implicitDefEqProofs [hfr, s0, get_base0, hs, rargs_eq, argsI, ← hn, bn, n0]
                apply lp
                · simp [hfr]
                · simp [hfr]
                · simp [hfr]
                · intro z fr' hf
                  simp -implicitDefEqProofs [hf, z]
                · intro z fr' hf p2
                  simp -implicitDefEqProofs [hf, p2]
              · have nb : (n != 0) = true := by simpa using n0
                have e : (Tm.mk 2 s b l).err = 12 := by simp [Tm.err, partE, argsI, hs, ← hn, n0, bn]
                rw [hE, e]
                simp -implicitDefEqProofs [hfr, s0, get_base0, hs, rargs_eq, argsI, ← hn, bn, n0, nb]
          · by_cases b0 : b = 0
            · subst b0
              by_cases n1 : 8 < n
              · have e : (Tm.mk 3 s 0 l).err = 12 := by simp [Tm.err, partE, argsI, hs, ← hn, n1]
                rw [hE, e]
                simp -implicitDefEqProofs [hfr, s0, get_base0, hs, rargs_eq, argsI, ← hn, n1]
              · have e : (Tm.mk 3 s 0 l).err = 0 := by simp [Tm.err, partE, argsI, hs, ← hn, n1]
                rw [hE, e]
                simp -implicitDefEqProofs [hfr, s0, get_base0, hs, rargs_eq, argsI, ← hn, n1]
                apply lp
                · simp [hfr]
                · simp [hfr]
                · simp [hfr]
                · intro z fr' hf
                  simp -implicitDefEqProofs [hf, z]
                · intro z fr' hf p2
                  simp -implicitDefEqProofs [hf, p2]
            · have bb : (b != 0) = true := by simpa using b0
              have e : (Tm.mk 3 s b l).err = 7 := by simp [Tm.err, partE, b0]
              rw [hE, e]
              simp -implicitDefEqProofs [hfr, s0, get_base0, hs, b0, bb]
          · by_cases n0 : n = 0
            · have e : (Tm.mk 4 s b l).err = 0 := by simp [Tm.err, partE, argsI, hs, ← hn, n0]
              rw [hE, e]
              simp -implicitDefEqProofs [hfr, s0, get_base0, hs, rargs_eq, argsI, ← hn, n0]
              apply lp
              · simp [hfr]
              · simp [hfr]
              · simp [hfr]
              · intro z fr' hf
                simp -implicitDefEqProofs [hf, z]
              · intro z fr' hf p2
                simp -implicitDefEqProofs [hf, p2]
            · have nb : (n != 0) = true := by simpa using n0
              have e : (Tm.mk 4 s b l).err = 12 := by simp [Tm.err, partE, argsI, hs, ← hn, n0]
              rw [hE, e]
              simp -implicitDefEqProofs [hfr, s0, get_base0, hs, rargs_eq, argsI, ← hn, n0, nb]
          · by_cases b0 : b = 0
            · subst b0
              by_cases n0 : n = 2
              · have e : (Tm.mk 5 s 0 l).err = 0 := by simp [Tm.err, partE, argsI, hs, ← hn, n0]
                rw [hE, e]
                simp -implicitDefEqProofs [hfr, s0, get_base0, hs, rargs_eq, argsI, ← hn, n0]
                apply lp
                · simp [hfr]
                · simp [hfr]
                · simp [hfr]
                · intro z fr' hf
                  simp -implicitDefEqProofs [hf, z]
                · intro z fr' hf p2
                  simp -implicitDefEqProofs [hf, p2]
              · have nb : (n != 2) = true := by simpa using n0
                have e : (Tm.mk 5 s 0 l).err = 12 := by simp [Tm.err, partE, argsI, hs, ← hn, n0]
                rw [hE, e]
                simp -implicitDefEqProofs [hfr, s0, get_base0, hs, rargs_eq, argsI, ← hn, n0, nb]
            · have bb : (b != 0) = true := by simpa using b0
              have e : (Tm.mk 5 s b l).err = 7 := by simp [Tm.err, partE, b0]
              rw [hE, e]
              simp -implicitDefEqProofs [hfr, s0, get_base0, hs, b0, bb]
          · by_cases b0 : b = 0
            · subst b0
              by_cases n0 : n = 2
              · have e : (Tm.mk 6 s 0 l).err = 0 := by simp [Tm.err, partE, argsI, hs, ← hn, n0]
                rw [hE, e]
                simp -implicitDefEqProofs [hfr, s0, get_base0, hs, rargs_eq, argsI, ← hn, n0]
                apply lp
                · simp [hfr]
                · simp [hfr]
                · simp [hfr]
                · intro z fr' hf
                  simp -implicitDefEqProofs [hf, z]
                · intro z fr' hf p2
                  simp -implicitDefEqProofs [hf, p2]
              · have nb : (n != 2) = true := by simpa using n0
                have e : (Tm.mk 6 s 0 l).err = 12 := by simp [Tm.err, partE, argsI, hs, ← hn, n0]
                rw [hE, e]
                simp -implicitDefEqProofs [hfr, s0, get_base0, hs, rargs_eq, argsI, ← hn, n0, nb]
            · have bb : (b != 0) = true := by simpa using b0
              have e : (Tm.mk 6 s b l).err = 7 := by simp [Tm.err, partE, b0]
              rw [hE, e]
              simp -implicitDefEqProofs [hfr, s0, get_base0, hs, b0, bb]
          · by_cases b0 : b = 0
            · subst b0
              by_cases n0 : n = 1
              · have e : (Tm.mk 7 s 0 l).err = 0 := by simp [Tm.err, partE, argsI, hs, ← hn, n0]
                rw [hE, e]
                simp -implicitDefEqProofs [hfr, s0, get_base0, hs, rargs_eq, argsI, ← hn, n0]
                apply lp
                · simp [hfr]
                · simp [hfr]
                · simp [hfr]
                · intro z fr' hf
                  simp -implicitDefEqProofs [hf, z]
                · intro z fr' hf p2
                  simp -implicitDefEqProofs [hf, p2]
              · have nb : (n != 1) = true := by simpa using n0
                have e : (Tm.mk 7 s 0 l).err = 12 := by simp [Tm.err, partE, argsI, hs, ← hn, n0]
                rw [hE, e]
                simp -implicitDefEqProofs [hfr, s0, get_base0, hs, rargs_eq, argsI, ← hn, n0, nb]
            · have bb : (b != 0) = true := by simpa using b0
              have e : (Tm.mk 7 s b l).err = 7 := by simp [Tm.err, partE, b0]
              rw [hE, e]
              simp -implicitDefEqProofs [hfr, s0, get_base0, hs, b0, bb]
          · by_cases n0 : n = 1
            · have e : (Tm.mk 8 s b l).err = 0 := by simp [Tm.err, partE, argsI, hs, ← hn, n0]
              rw [hE, e]
              simp -implicitDefEqProofs [hfr, s0, get_base0, hs, rargs_eq, argsI, ← hn, n0]
              apply lp
              · simp [hfr]
              · simp [hfr]
              · simp [hfr]
              · intro z fr' hf
                simp -implicitDefEqProofs [hf, z]
              · intro z fr' hf p2
                simp -implicitDefEqProofs [hf, p2]
            · have nb : (n != 1) = true := by simpa using n0
              have e : (Tm.mk 8 s b l).err = 12 := by simp [Tm.err, partE, argsI, hs, ← hn, n0]
              rw [hE, e]
              simp -implicitDefEqProofs [hfr, s0, get_base0, hs, rargs_eq, argsI, ← hn, n0, nb]
        · rcases ha with rfl | rfl | rfl | rfl | rfl | rfl | rfl | rfl
          · by_cases b0 : b = 0
            · subst b0
              by_cases n0 : n = 0
              · have e : (Tm.mk 1 s 0 l).err = 0 := by simp [Tm.err, partE, argsI, hs, ← hn, n0]
                rw [hE, e]
                simp -implicitDefEqProofs [hfr, s0, get_base0, hs, rargs_eq, argsI, ← hn, n0]
                apply lp
                · simp [hfr]
                · simp [hfr]
                · simp [hfr]
                · intro z fr' hf
                  simp -implicitDefEqProofs [hf, z]
                · intro z fr' hf p2
                  simp -implicitDefEqProofs [hf, p2]
              · have nb : (n != 0) = true := by simpa using n0
                have e : (Tm.mk 1 s 0 l).err = 12 := by simp [Tm.err, partE, argsI, hs, ← hn, n0]
                rw [hE, e]
                simp -implicitDefEqProofs [hfr, s0, get_base0, hs, rargs_eq, argsI, ← hn, n0, nb]
            · have bb : (b != 0) = true := by simpa using b0
              have e : (Tm.mk 1 s b l).err = 7 := by simp [Tm.err, partE, b0]
              rw [hE, e]
              simp -implicitDefEqProofs [hfr, s0, get_base0, hs, b0, bb]
          · have e : (Tm.mk 2 s b l).err = 7 := by simp [Tm.err, partE, hs]
            rw [hE, e]
            by_cases bn : b < 0
            · simp -implicitDefEqProofs [hfr, s0, get_base0, hs, bn]
            · simp -implicitDefEqProofs [hfr, s0, get_base0, hs, bn]
          · by_cases b0 : b = 0
            · subst b0
              by_cases n1 : 8 < n
              · have e : (Tm.mk 3 s 0 l).err = 12 := by simp [Tm.err, partE, argsI, hs, ← hn, n1]
                rw [hE, e]
                simp -implicitDefEqProofs [hfr, s0, get_base0, hs, rargs_eq, argsI, ← hn, n1]
              · have e : (Tm.mk 3 s 0 l).err = 0 := by simp [Tm.err, partE, argsI, hs, ← hn, n1]
                rw [hE, e]
                simp -implicitDefEqProofs [hfr, s0, get_base0, hs, rargs_eq, argsI, ← hn, n1]
                apply lp
                · simp [hfr]
                · simp [hfr]
                · simp [hfr]
                · intro z fr' hf
                  simp -implicitDefEqProofs [hf, z]
                · intro z fr' hf p2
                  simp -implicitDefEqProofs [hf, p2]
            · have bb : (b != 0) = true := by simpa using b0
              have e : (Tm.mk 3 s b l).err = 7 := by simp [Tm.err, partE, b0]
              rw [hE, e]
              simp -implicitDefEqProofs [hfr, s0, get_base0, hs, b0, bb]
          · have e : (Tm.mk 4 s b l).err = 7 := by simp [Tm.err, partE, hs]
            rw [hE, e]
            simp -implicitDefEqProofs [hfr, s0, get_base0, hs]
          · have e : (Tm.mk 5 s b l).err = 7 := by simp [Tm.err, partE, hs]
            rw [hE, e]
            by_cases b0 : b = 0
            · subst b0; simp -implicitDefEqProofs [hfr, s0, get_base0, hs]
            · have bb : (b != 0) = true := by simpa using b0
              simp -implicitDefEqProofs [hfr, s0, get_base0, hs, b0, bb]
          · have e : (Tm.mk 6 s b l).err = 7 := by simp [Tm.err, partE, hs]
            rw [hE, e]
            by_cases b0 : b = 0
            · subst b0; simp -implicitDefEqProofs [hfr, s0, get_base0, hs]
            · have bb : (b != 0) = true := by simpa using b0
              simp -implicitDefEqProofs [hfr, s0, get_base0, hs, b0, bb]
          · have e : (Tm.mk 7 s b l).err = 7 := by simp [Tm.err, partE, hs]
            rw [hE, e]
            by_cases b0 : b = 0
            · subst b0; simp -implicitDefEqProofs [hfr, s0, get_base0, hs]
            · have bb : (b != 0) = true := by simpa using b0
              simp -implicitDefEqProofs [hfr, s0, get_base0, hs, b0, bb]
          · have e : (Tm.mk 8 s b l).err = 7 := by simp [Tm.err, partE, hs]
            rw [hE, e]
            simp -implicitDefEqProofs [hfr, s0, get_base0, hs]
termination_by t => SizeOf.sizeOf t
decreasing_by
  have := List.sizeOf_lt_of_mem hx
  simp
  omega

theorem rRight_eq (t : Tm) (ht : t.ok) (o : List Obj) (ro : Nat) (df : List Nat) : (D T).call 7 [t.av] ⟨o, ro, df⟩ = some (.int .i64 (rightP t), ⟨o, ro, df⟩) := by
  have hd := fun o ro df => rDepth_eq t ht o ro df
  have hs := fun o ro df => rSize_eq t ht o ro df
  have hp := fun o ro df => rpart_eq t ht o ro df
  simp only [Tm.av] at hd hs hp
  apply call_by (by exact rfl : T 7 = some _) (by simp)
  intro fr hfr hsl
  have s0 := hsl 0 _ rfl
  simp only [Tm.av] at s0
  unfold rightP
  generalize min (dT t) 65 = md at *
  generalize min (t.all.length : Int) 4097 = ms at *
  by_cases c1 : 64 < md
  · simp -implicitDefEqProofs [hfr, s0, get_base0, hd, c1]
  · by_cases c2 : 4096 < ms
    · simp -implicitDefEqProofs [hfr, s0, get_base0, hd, hs, c1, c2]
    · simp -implicitDefEqProofs [hfr, s0, get_base0, hd, hs, hp, c1, c2]

end Go.Proofs.YtcoonnbkmklenaaDoor.A
