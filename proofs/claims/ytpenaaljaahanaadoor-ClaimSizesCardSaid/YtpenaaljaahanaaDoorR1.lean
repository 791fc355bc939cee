/- How deep and how great a term is: the program's and the document's; which error it has. -/
import Derived.Test.YtpenaaljaahanaaDoorS6
import Derived.Test.YtpenaaljaahanaaDoorP3
namespace Go.Proofs.YtpenaaljaahanaaDoor.A
open Go
set_option maxRecDepth 10000
set_option linter.unusedSimpArgs false
attribute [-simp] List.all_eq_true put slot_def ld idxA lenOf elems canA app hand

mutual
/-- how deep, up to some: the program's -/
def dp : Tm → Int → Int
  | .mk _ _ _ l, m => if m ≤ 1 then 1 else dpL l m 0 + 1
def dpL : List Tm → Int → Int → Int
  | [], _, n => n
  | t :: l, m, n => dpL l m (if n < dp t (m - 1) then dp t (m - 1) else n)
end

mutual
/-- how deep, up to some: the document's -/
def rdp : Tm → Int → Int
  | .mk _ _ _ l, m => rdpL l m 1
def rdpL : List Tm → Int → Int → Int
  | [], _, d => d
  | t :: l, m, d => if d ≤ m then rdpL l m (if d < 1 + rdp t (m - 1) then 1 + rdp t (m - 1) else d) else d
end

theorem rdpL_out : ∀ (l : List Tm) (m d : Int), ¬ d ≤ m → rdpL l m d = d
  | [], _, _, _ => rfl
  | t :: l, m, d, h => by simp [rdpL, h]

mutual
/-- how deep -/
def dT : Tm → Int
  | .mk _ _ _ l => 1 + dTL l
def dTL : List Tm → Int
  | [] => 0
  | t :: l => if dTL l < dT t then dT t else dTL l
end

mutual
theorem dT_pos : ∀ t : Tm, 1 ≤ dT t
  | .mk _ _ _ l => by have := dTL_pos l; simp only [dT]; omega
theorem dTL_pos : ∀ l : List Tm, 0 ≤ dTL l
  | [] => by simp [dTL]
  | t :: l => by have := dT_pos t; have := dTL_pos l; simp only [dTL]; split <;> omega
end

mutual
theorem dp_min : ∀ (t : Tm) (m : Int), 1 ≤ m → dp t m = min (dT t) m
  | .mk a s b l, m, h => by
    have h1 := dTL_pos l
    simp only [dp, dT]
    by_cases hm : m ≤ 1
    · rw [if_pos hm]; omega
    · rw [if_neg hm, dpL_min l m 0 (by omega) (by omega) (by omega)]; omega
theorem dpL_min : ∀ (l : List Tm) (m n : Int), 2 ≤ m → 0 ≤ n → n ≤ m - 1 → dpL l m n = min (max n (dTL l)) (m - 1)
  | [], m, n, h, h0, h1 => by simp only [dpL, dTL]; omega
  | t :: l, m, n, h, h0, h1 => by
    have hd := dp_min t (m - 1) (by omega)
    have hp := dT_pos t
    have hl := dTL_pos l
    simp only [dpL, dTL]
    rw [dpL_min l m _ h (by split <;> omega) (by split <;> omega)]
    split <;> split <;> omega
end

mutual
theorem rdp_min : ∀ (t : Tm) (m : Int), 0 ≤ m → 1 ≤ rdp t m ∧ rdp t m ≤ dT t ∧ min (rdp t m) (m + 1) = min (dT t) (m + 1)
  | .mk a s b l, m, h => by
    have h1 := dTL_pos l
    have := rdpL_min l m 1 (by omega) (by omega)
    simp only [rdp, dT]
    refine ⟨by omega, ?_, ?_⟩ <;> omega
theorem rdpL_min : ∀ (l : List Tm) (m d : Int), 0 ≤ m → 1 ≤ d → d ≤ rdpL l m d ∧ rdpL l m d ≤ max d (1 + dTL l) ∧ min (rdpL l m d) (m + 1) = min (max d (1 + dTL l)) (m + 1)
  | [], m, d, h, h1 => by simp only [rdpL, dTL]; omega
  | t :: l, m, d, h, h1 => by
    have hl := dTL_pos l
    have hp := dT_pos t
    simp only [rdpL, dTL]
    by_cases hd : d ≤ m
    · rw [if_pos hd]
      have h2 := rdp_min t (m - 1) (by omega)
      have h3 := rdpL_min l m (if d < 1 + rdp t (m - 1) then 1 + rdp t (m - 1) else d) h (by split <;> omega)
      by_cases h4 : d < 1 + rdp t (m - 1)
      · simp only [if_pos h4] at h3 ⊢
        by_cases h5 : dTL l < dT t
        · simp only [if_pos h5]; omega
        · simp only [if_neg h5]; omega
      · simp only [if_neg h4] at h3 ⊢
        by_cases h5 : dTL l < dT t
        · simp only [if_pos h5]; omega
        · simp only [if_neg h5]; omega
    · rw [if_neg hd]
      by_cases h5 : dTL l < dT t
      · simp only [if_pos h5]; omega
      · simp only [if_neg h5]; omega
end

theorem depth_eq : ∀ (t : Tm), t.ok → ∀ (m : Int), 1 ≤ m → m ≤ 100 → ∀ (o : List Obj) (ro : Nat) (df : List Nat), (D T).call 56 [t.av, .int .i64 m] ⟨o, ro, df⟩ = some (.int .i64 (dp t m), ⟨o, ro, df⟩)
  | .mk a s b l, hok, m, h1, h2, o, ro, df => by
    simp only [Tm.ok] at hok
    have hl := okL_iff.1 hok.2.2.2.2
    have hmx : l.length ≤ 9223372036854775807 := Nat.le_trans hok.2.2.2.1 (by decide)
    have ih := fun x (hx : x ∈ l) m k1 k2 o ro df => depth_eq x (hl x hx) m k1 k2 o ro df
    simp only [Tm.av] at ih
    apply call_by (by exact rfl : T 56 = some _) (by simp)
    intro fr hfr hsl
    have s0 := hsl 0 _ rfl
    have s1 := hsl 1 _ rfl
    simp only [Tm.av, Tm.cells_mk] at s0
    by_cases hm : m ≤ 1
    · simp -implicitDefEqProofs [hfr, s0, s1, get_base0, hm, dp]
    · have hres := dp_min (.mk a s b l) m h1
      have hpos := dT_pos (.mk a s b l)
      have w0 : IntKind.i64.wrap (m - 1) = m - 1 := wrap_id (by omega) (by omega)
      simp -implicitDefEqProofs [hfr, s0, s1, get_base0, hm]
      apply loop_inv L56_0.eq_1 List.length (fun (rest : List Tm) fr st => ∃ pre n o', l = pre ++ rest ∧ fr.length = 26 ∧ slot fr 1 = .int .i64 m ∧ slot fr 5 = .int .i64 n ∧ slot fr 11 = .sl 4 (l.map Tm.cells) ∧ slot fr 12 = .int .i64 (l.length : Int) ∧ slot fr 13 = .int .i64 (pre.length : Int) ∧
        st = ⟨o', o.length, []⟩ ∧ o.length ≤ o'.length ∧ dp (.mk a s b l) m = dpL rest m n + 1) ?_ l ⟨[], 0, _, rfl, by simp [hfr], by simp [hfr, s1], by simp [hfr], by simp [hfr], by simp [hfr], by simp [hfr], rfl, by simp, by simp [dp, hm]⟩
      rintro rest fr _ ⟨pre, n, o', e, hfr, q1, q5, q11, q12, q13, rfl, hlo, hn⟩
      cases rest with
      | nil =>
        have hlt := idx_end e
        simp only [dpL] at hn
        have w1 : IntKind.i64.wrap (n + 1) = n + 1 := wrap_id (by omega) (by omega)
        simp -implicitDefEqProofs [hfr, q1, q5, q11, q12, q13, hlt, w1, hn]
      | cons t rest =>
        obtain ⟨hlt, hg, _⟩ := idx_at e
        have hw := idx_next e hmx
        have hc := ih t (by simp [e]) (m - 1) (by omega) (by omega)
        simp only [dpL] at hn
        by_cases hb : n < dp t (m - 1)
        · simp only [if_pos hb] at hn
          simp -implicitDefEqProofs [hfr, q1, q5, q11, q12, q13, hlt, hg, hw, w0, hc, hb, setO_last, getO_last, hlo, -getElem?_pos, List.getElem?_cons_zero]
          exact ⟨rest, by simp, pre ++ [t], by simp [e], by simp, by omega, hn⟩
        · simp only [if_neg hb] at hn
          simp -implicitDefEqProofs [hfr, q1, q5, q11, q12, q13, hlt, hg, hw, w0, hc, hb, setO_last, getO_last, hlo, -getElem?_pos, List.getElem?_cons_zero]
          exact ⟨rest, by simp, pre ++ [t], by simp [e], by simp, by omega, hn⟩
termination_by t => SizeOf.sizeOf t
decreasing_by
  have := List.sizeOf_lt_of_mem hx
  simp
  omega

theorem Depth_eq (t : Tm) (ht : t.ok) (o : List Obj) (ro : Nat) (df : List Nat) : (D T).call 45 [t.av] ⟨o, ro, df⟩ = some (.int .i64 (min (dT t) 65), ⟨o, ro, df⟩) := by
  have h := fun o ro df => depth_eq t ht 65 (by omega) (by omega) o ro df
  rw [dp_min t 65 (by omega)] at h
  simp only [Tm.av] at h
  apply call_by (by exact rfl : T 45 = some _) (by simp)
  intro fr hfr hsl
  have s0 := hsl 0 _ rfl
  simp only [Tm.av] at s0
  simp -implicitDefEqProofs [hfr, s0, get_base0, h]

def argsI (a : Int) : Int := if a = 3 then -1 else if a = 5 ∨ a = 6 then 2 else if a = 7 ∨ a = 8 then 1 else 0

/-- the error of a part -/
def partE (a : Int) (s : ByteArray) (b : Int) (n : Int) : Int :=
  if a < 1 ∨ 8 < a ∨ (a = 2 ∧ b < 0) then 7
  else if (a ≠ 2 ∧ a ≠ 4 ∧ a ≠ 8 ∧ b ≠ 0) ∨ (a ≠ 1 ∧ a ≠ 3 ∧ bytesEq s ⟨#[]⟩ = false) then 7
  else if (0 ≤ argsI a ∧ n ≠ argsI a) ∨ 8 < n then 12 else 0

def Tm.err : Tm → Int
  | .mk a s b l => partE a s b l.length

end Go.Proofs.YtpenaaljaahanaaDoor.A
