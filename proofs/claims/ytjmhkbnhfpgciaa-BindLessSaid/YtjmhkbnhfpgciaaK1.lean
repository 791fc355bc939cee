/- How deep terms and claims are: the document's; what a part's error is. -/
import Derived.Test.YtjmhkbnhfpgciaaC1
import Derived.Test.YtjmhkbnhfpgciaaC2A
import Derived.Test.YtjmhkbnhfpgciaaPT
namespace Go.Proofs.Ytjmhkbnhfpgciaa.A
open Go
set_option maxRecDepth 10000
set_option linter.unusedSimpArgs false
attribute [-simp] List.all_eq_true put slot_def ld idxA lenOf elems canA app hand

mutual
/-- how deep, up to some: the program's -/
def dp : Tm → Int → Int
  | .mk _ _ _ l, m => if m ≤ 1 then 1 else dpL l m 0 + 1
def dpL : List Tm → Int → Int → Int
  | [], _, n => n
  | t :: l, m, n => dpL l m (if n < dp t (m - 1) then dp t (m - 1) else n)
end

mutual
/-- how deep -/
def dT : Tm → Int
  | .mk _ _ _ l => 1 + dTL l
def dTL : List Tm → Int
  | [] => 0
  | t :: l => if dTL l < dT t then dT t else dTL l
end

mutual
theorem dT_pos : ∀ t : Tm, 1 ≤ dT t
  | .mk _ _ _ l => by have := dTL_pos l; simp only [dT]; omega
theorem dTL_pos : ∀ l : List Tm, 0 ≤ dTL l
  | [] => by simp [dTL]
  | t :: l => by have := dT_pos t; have := dTL_pos l; simp only [dTL]; split <;> omega
end

mutual
theorem dp_min : ∀ (t : Tm) (m : Int), 1 ≤ m → dp t m = min (dT t) m
  | .mk a s b l, m, h => by
    have h1 := dTL_pos l
    simp only [dp, dT]
    by_cases hm : m ≤ 1
    · rw [if_pos hm]; omega
    · rw [if_neg hm, dpL_min l m 0 (by omega) (by omega) (by omega)]; omega
theorem dpL_min : ∀ (l : List Tm) (m n : Int), 2 ≤ m → 0 ≤ n → n ≤ m - 1 → dpL l m n = min (max n (dTL l)) (m - 1)
  | [], m, n, h, h0, h1 => by simp only [dpL, dTL]; omega
  | t :: l, m, n, h, h0, h1 => by
    have hd := dp_min t (m - 1) (by omega)
    have hp := dT_pos t
    have hl := dTL_pos l
    simp only [dpL, dTL]
    rw [dpL_min l m _ h (by split <;> omega) (by split <;> omega)]
    split <;> split <;> omega
end

def argsI (a : Int) : Int := if a = 3 then -1 else if a = 5 ∨ a = 6 then 2 else if a = 7 ∨ a = 8 then 1 else 0

/-- the error of a part -/
def partE (a : Int) (s : ByteArray) (b : Int) (n : Int) : Int :=
  if a < 1 ∨ 8 < a ∨ (a = 2 ∧ b < 0) then 7
  else if (a ≠ 2 ∧ a ≠ 4 ∧ a ≠ 8 ∧ b ≠ 0) ∨ (a ≠ 1 ∧ a ≠ 3 ∧ bytesEq s ⟨#[]⟩ = false) then 7
  else if (0 ≤ argsI a ∧ n ≠ argsI a) ∨ 8 < n then 12 else 0

def Tm.err : Tm → Int
  | .mk a s b l => partE a s b l.length

/-- the first error -/
def firstE : List Tm → Int
  | [] => 0
  | x :: l => if x.err = 0 then firstE l else x.err

def rightP (t : Tm) : Int := if 64 < min (dT t) 65 then 6 else if 4096 < min (t.all.length : Int) 4097 then 2 else firstE t.all

mutual
/-- how deep, up to some: the program's -/
def pd : Cl → Int → Int
  | .mk _ _ _ _ l, m => if m ≤ 1 then 1 else pdL l m 0 + 1
def pdL : List Cl → Int → Int → Int
  | [], _, n => n
  | t :: l, m, n => pdL l m (if n < pd t (m - 1) then pd t (m - 1) else n)
end

mutual
/-- how deep -/
def dC : Cl → Int
  | .mk _ _ _ _ l => 1 + dCL l
def dCL : List Cl → Int
  | [] => 0
  | t :: l => if dCL l < dC t then dC t else dCL l
end

mutual
theorem dC_pos : ∀ t : Cl, 1 ≤ dC t
  | .mk _ _ _ _ l => by have := dCL_pos l; simp only [dC]; omega
theorem dCL_pos : ∀ l : List Cl, 0 ≤ dCL l
  | [] => by simp [dCL]
  | t :: l => by have := dC_pos t; have := dCL_pos l; simp only [dCL]; split <;> omega
end

mutual
theorem pd_min : ∀ (t : Cl) (m : Int), 1 ≤ m → pd t m = min (dC t) m
  | .mk a s u ts l, m, h => by
    have h1 := dCL_pos l
    simp only [pd, dC]
    by_cases hm : m ≤ 1
    · rw [if_pos hm]; omega
    · rw [if_neg hm, pdL_min l m 0 (by omega) (by omega) (by omega)]; omega
theorem pdL_min : ∀ (l : List Cl) (m n : Int), 2 ≤ m → 0 ≤ n → n ≤ m - 1 → pdL l m n = min (max n (dCL l)) (m - 1)
  | [], m, n, h, h0, h1 => by simp only [pdL, dCL]; omega
  | t :: l, m, n, h, h0, h1 => by
    have hd := pd_min t (m - 1) (by omega)
    have hp := dC_pos t
    have hl := dCL_pos l
    simp only [pdL, dCL]
    rw [pdL_min l m _ h (by split <;> omega) (by split <;> omega)]
    split <;> split <;> omega
end

theorem rdeep_eq : ∀ (c : Cl), c.ok → ∀ (m : Int), 1 ≤ m → m ≤ 100 → ∀ (o : List Obj) (ro : Nat) (df : List Nat), (D T).call 58 [c.av, .int .i64 m] ⟨o, ro, df⟩ = some (.int .i64 (pd c m), ⟨o, ro, df⟩)
  | .mk a s u ts l, hok, m, h1, h2, o, ro, df => by
    simp only [Cl.ok] at hok
    have hl := okC_iff.1 hok.2.2.2.2.2.2
    have hmx : l.length ≤ 9223372036854775807 := Nat.le_trans hok.2.2.2.2.2.1 (by decide)
    have ih := fun x (hx : x ∈ l) m k1 k2 o ro df => rdeep_eq x (hl x hx) m k1 k2 o ro df
    simp only [Cl.av] at ih
    apply call_by (by exact rfl : T 58 = some _) (by simp)
    intro fr hfr hsl
    have s0 := hsl 0 _ rfl
    have s1 := hsl 1 _ rfl
    simp only [Cl.av, Cl.cells_mk] at s0
    by_cases hm : m ≤ 1
    · simp -implicitDefEqProofs [hfr, s0, s1, get_base0, hm, pd]
    · have hres := pd_min (.mk a s u ts l) m h1
      have hpos := dC_pos (.mk a s u ts l)
      have w0 : IntKind.i64.wrap (m - 1) = m - 1 := wrap_id (by omega) (by omega)
      simp -implicitDefEqProofs [hfr, s0, s1, get_base0, hm]
      apply loop_inv L58_0.eq_1 List.length (fun (rest : List Cl) fr st => ∃ pre n, l = pre ++ rest ∧ fr.length = 31 ∧ slot fr 1 = .int .i64 m ∧ slot fr 2 = .ptr o.length 0 0 ∧ slot fr 5 = .int .i64 n ∧ slot fr 6 = .int .i64 (pre.length : Int) ∧
        st = ⟨o ++ [.arr 25 5 [[.int .i64 a, .str s, .str u, .sl 4 (ts.map Tm.cells), .sl 5 (l.map Cl.cells)]]], o.length, []⟩ ∧ pd (.mk a s u ts l) m = pdL rest m n + 1) ?_ l ⟨[], 0, rfl, by simp [hfr], by simp [hfr, s1], by simp [hfr], by simp [hfr], by simp [hfr], rfl, by simp [pd, hm]⟩
      rintro rest fr _ ⟨pre, n, e, hfr, q1, q2, q5, q6, rfl, hn⟩
      cases rest with
      | nil =>
        have hlt := idx_end e
        simp only [pdL] at hn
        have w1 : IntKind.i64.wrap (n + 1) = n + 1 := wrap_id (by omega) (by omega)
        simp -implicitDefEqProofs [hfr, q1, q2, q5, q6, hlt, w1, get_base0, hn]
      | cons t rest =>
        obtain ⟨hlt, hg, _⟩ := idx_at e
        have hw := idx_next e hmx
        have hc := fun o ro df => ih t (by simp [e]) (m - 1) (by omega) (by omega) o ro df
        simp only [pdL] at hn
        by_cases hb : n < pd t (m - 1)
        · simp only [if_pos hb] at hn
          simp -implicitDefEqProofs [hfr, q1, q2, q5, q6, hlt, hg, hw, w0, hc, hb, get_base0]
          exact ⟨rest, by simp, pre ++ [t], by simp [e], by simp, hn⟩
        · simp only [if_neg hb] at hn
          simp -implicitDefEqProofs [hfr, q1, q2, q5, q6, hlt, hg, hw, w0, hc, hb, get_base0]
          exact ⟨rest, by simp, pre ++ [t], by simp [e], by simp, hn⟩
termination_by t => SizeOf.sizeOf t
decreasing_by
  have := List.sizeOf_lt_of_mem hx
  simp
  omega

theorem tall_eq : ∀ (c : Tm), c.ok → ∀ (m : Int), 1 ≤ m → m ≤ 100 → ∀ (o : List Obj) (ro : Nat) (df : List Nat), (D T).call 71 [c.av, .int .i64 m] ⟨o, ro, df⟩ = some (.int .i64 (dp c m), ⟨o, ro, df⟩)
  | .mk a s b l, hok, m, h1, h2, o, ro, df => by
    simp only [Tm.ok] at hok
    have hl := okL_iff.1 hok.2.2.2.2
    have hmx : l.length ≤ 9223372036854775807 := Nat.le_trans hok.2.2.2.1 (by decide)
    have ih := fun x (hx : x ∈ l) m k1 k2 o ro df => tall_eq x (hl x hx) m k1 k2 o ro df
    simp only [Tm.av] at ih
    apply call_by (by exact rfl : T 71 = some _) (by simp)
    intro fr hfr hsl
    have s0 := hsl 0 _ rfl
    have s1 := hsl 1 _ rfl
    simp only [Tm.av, Tm.cells_mk] at s0
    by_cases hm : m ≤ 1
    · simp -implicitDefEqProofs [hfr, s0, s1, get_base0, hm, dp]
    · have hres := dp_min (.mk a s b l) m h1
      have hpos := dT_pos (.mk a s b l)
      have w0 : IntKind.i64.wrap (m - 1) = m - 1 := wrap_id (by omega) (by omega)
      simp -implicitDefEqProofs [hfr, s0, s1, get_base0, hm]
      apply loop_inv L71_0.eq_1 List.length (fun (rest : List Tm) fr st => ∃ pre n, l = pre ++ rest ∧ fr.length = 31 ∧ slot fr 1 = .int .i64 m ∧ slot fr 2 = .ptr o.length 0 0 ∧ slot fr 5 = .int .i64 n ∧ slot fr 6 = .int .i64 (pre.length : Int) ∧
        st = ⟨o ++ [.arr 27 4 [[.int .i64 a, .str s, .int .i64 b, .sl 4 (l.map Tm.cells)]]], o.length, []⟩ ∧ dp (.mk a s b l) m = dpL rest m n + 1) ?_ l ⟨[], 0, rfl, by simp [hfr], by simp [hfr, s1], by simp [hfr], by simp [hfr], by simp [hfr], rfl, by simp [dp, hm]⟩
      rintro rest fr _ ⟨pre, n, e, hfr, q1, q2, q5, q6, rfl, hn⟩
      cases rest with
      | nil =>
        have hlt := idx_end e
        simp only [dpL] at hn
        have w1 : IntKind.i64.wrap (n + 1) = n + 1 := wrap_id (by omega) (by omega)
        simp -implicitDefEqProofs [hfr, q1, q2, q5, q6, hlt, w1, get_base0, hn]
      | cons t rest =>
        obtain ⟨hlt, hg, _⟩ := idx_at e
        have hw := idx_next e hmx
        have hc := fun o ro df => ih t (by simp [e]) (m - 1) (by omega) (by omega) o ro df
        simp only [dpL] at hn
        by_cases hb : n < dp t (m - 1)
        · simp only [if_pos hb] at hn
          simp -implicitDefEqProofs [hfr, q1, q2, q5, q6, hlt, hg, hw, w0, hc, hb, get_base0]
          exact ⟨rest, by simp, pre ++ [t], by simp [e], by simp, hn⟩
        · simp only [if_neg hb] at hn
          simp -implicitDefEqProofs [hfr, q1, q2, q5, q6, hlt, hg, hw, w0, hc, hb, get_base0]
          exact ⟨rest, by simp, pre ++ [t], by simp [e], by simp, hn⟩
termination_by t => SizeOf.sizeOf t
decreasing_by
  have := List.sizeOf_lt_of_mem hx
  simp
  omega

theorem crDepth_eq (c : Cl) (hc : c.ok) (o : List Obj) (ro : Nat) (df : List Nat) : (D T).call 42 [c.av] ⟨o, ro, df⟩ = some (.int .i64 (min (dC c) 65), ⟨o, ro, df⟩) := by
  have h := fun o ro df => rdeep_eq c hc 65 (by omega) (by omega) o ro df
  rw [pd_min c 65 (by omega)] at h
  simp only [Cl.av] at h
  apply call_by (by exact rfl : T 42 = some _) (by simp)
  intro fr hfr hsl
  have s0 := hsl 0 _ rfl
  simp only [Cl.av] at s0
  simp -implicitDefEqProofs [hfr, s0, get_base0, h]

end Go.Proofs.Ytjmhkbnhfpgciaa.A
