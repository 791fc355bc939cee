/- How much there is in a cut. -/
import Derived.Test.YtgabnhmjlhhojaaZ0
namespace Go.Proofs.Ytgabnhmjlhhojaa.A
open Go
set_option maxRecDepth 10000
set_option linter.unusedSimpArgs false
set_option linter.unusedVariables false
attribute [-simp] List.all_eq_true put slot_def ld idxA lenOf elems canA app hand

mutual
def cw : Cu → Int → Int
  | .mk _ fr b _ _ ms cs, m => cwL cs m (1 + fr.length + b.length + ms.length)
def cwL : List Cu → Int → Int → Int
  | [], _, n => n
  | c :: l, m, n => if n ≤ m then cwL l m (n + cw c (m - n)) else n
end

mutual
theorem cw_le : ∀ (c : Cu) (m : Int), c.ok → 0 ≤ m → 1 ≤ cw c m ∧ cw c m ≤ m + 422212465065985
  | .mk _ fr b _ _ ms cs, m, hok, hm => by
    simp only [Cu.ok] at hok
    obtain ⟨_, o1, o2, _, _, o3, _, o5⟩ := hok
    have l1 := o1.2
    have l2 := o2.2
    have l3 := o3.2
    unfold mxB at l1 l2 l3
    simp only [cw]
    exact cwL_le cs m _ (okCu_iff.1 o5) hm (by omega) (by omega)
theorem cwL_le : ∀ (l : List Cu) (m n : Int), (∀ c ∈ l, c.ok) → 0 ≤ m → 1 ≤ n → n ≤ m + 422212465065985 → 1 ≤ cwL l m n ∧ cwL l m n ≤ m + 422212465065985
  | [], m, n, _, _, h1, h2 => by simp only [cwL]; exact ⟨h1, h2⟩
  | c :: l, m, n, hok, hm, h1, h2 => by
    simp only [cwL]
    split
    · have := cw_le c (m - n) (hok c (List.mem_cons_self ..)) (by omega)
      exact cwL_le l m _ (fun x hx => hok x (List.mem_cons_of_mem _ hx)) hm (by omega) (by omega)
    · exact ⟨h1, h2⟩
end

theorem weigh_eq : ∀ (c : Cu), c.ok → ∀ (m : Int) (st : St), 0 ≤ m → m ≤ 1152921504606846976 → (D T).call 9 [c.av, .int .i64 m] st = some (.int .i64 (cw c m), st)
  | .mk kd fr0 by0 dv k ms cs, hok, m, ⟨o, ro, df⟩, hm, hm' => by
    simp only [Cu.ok] at hok
    obtain ⟨_, o1, o2, _, _, o3, o4, o5⟩ := hok
    have hl := okCu_iff.1 o5
    have l1 := o1.2
    have l2 := o2.2
    have l3 := o3.2
    unfold mxB at l1 l2 l3 o4
    have mx : cs.length ≤ 9223372036854775807 := by omega
    have ih := fun x (hx : x ∈ cs) m st h1 h2 => weigh_eq x (hl x hx) m st h1 h2
    simp only [Cu.av] at ih
    apply call_by (by exact rfl : T 9 = some _) (by simp)
    intro fr hfr hsl
    have s0 := hsl 0 _ rfl
    have s1 := hsl 1 _ rfl
    simp only [Cu.av, Cu.cells_mk] at s0
    have w1 : IntKind.i64.wrap (1 + (fr0.length : Int)) = 1 + fr0.length := wrap_id (by omega) (by omega)
    have w2 : IntKind.i64.wrap (1 + (fr0.length : Int) + (by0.length : Int)) = 1 + fr0.length + by0.length := wrap_id (by omega) (by omega)
    have w3 : IntKind.i64.wrap (1 + (fr0.length : Int) + (by0.length : Int) + (ms.length : Int)) = 1 + fr0.length + by0.length + ms.length := wrap_id (by omega) (by omega)
    simp -implicitDefEqProofs [hfr, s0, s1, get_base0, intA_len, moA_len, w1, w2, w3]
    apply loop_inv L9_0.eq_1 List.length (fun (rest : List Cu) fr st => ∃ pre n, cs = pre ++ rest ∧ fr.length = 44 ∧ slot fr 1 = .int .i64 m ∧ slot fr 2 = .ptr o.length 0 0 ∧ slot fr 5 = .int .i64 n ∧ slot fr 6 = .int .i64 (pre.length : Int) ∧
      st = ⟨o ++ [.arr 29 7 [[.int .i64 kd, .sl 1 (intA fr0), .sl 1 (intA by0), .int .i64 dv, .int .i64 k, .sl 2 (moA ms), .sl 7 (cs.map Cu.cells)]]], o.length, []⟩ ∧ 1 ≤ n ∧ n ≤ m + 422212465065985 ∧ cw (.mk kd fr0 by0 dv k ms cs) m = cwL rest m n) ?_ cs
      ⟨[], 1 + fr0.length + by0.length + ms.length, rfl, by simp [hfr], by simp [hfr, s1], by simp [hfr], by simp [hfr], by simp [hfr], rfl, by omega, by omega, by simp [cw]⟩
    rintro rest fr _ ⟨pre, n, e, hfr, q1, q2, q5, q6, rfl, n1, n2, hn⟩
    cases rest with
    | nil =>
      have hlt := idx_end e
      simp -implicitDefEqProofs [hfr, q1, q2, q5, q6, hlt, get_base0, hn, cwL]
    | cons c rest =>
      obtain ⟨hlt, hg, _⟩ := idx_at e
      have hw := idx_next e mx
      by_cases hnm : n ≤ m
      · have hc := fun st => ih c (by simp [e]) (m - n) st (by omega) (by omega)
        have hb := cw_le c (m - n) (hl c (by simp [e])) (by omega)
        have ck := cu_take c
        have cn := cu_can c
        have cl := culen c
        simp only [cwL, if_pos hnm] at hn
        simp -implicitDefEqProofs [hfr, q1, q2, q5, q6, hlt, get_base0, hg, hw, hnm, hc, ck, cn, cl, wrap_id (show -9223372036854775808 ≤ m - n by omega) (by omega), wrap_id (show -9223372036854775808 ≤ n + cw c (m - n) by omega) (by omega)]
        exact ⟨rest, by simp, pre ++ [c], by simp [e], by simp, by omega, by omega, hn⟩
      · simp only [cwL, if_neg hnm] at hn
        simp -implicitDefEqProofs [hfr, q1, q2, q5, q6, hlt, get_base0, hnm, hn]
termination_by t => SizeOf.sizeOf t
decreasing_by
  have := List.sizeOf_lt_of_mem hx
  simp
  omega

mutual
/-- how many parts -/
def csz : Cu → Int
  | .mk _ _ _ _ _ _ cs => 1 + cszL cs
def cszL : List Cu → Int
  | [] => 0
  | c :: l => csz c + cszL l
end
mutual
theorem csz_pos : ∀ c : Cu, 1 ≤ csz c
  | .mk _ _ _ _ _ _ cs => by have := cszL_pos cs; simp only [csz]; omega
theorem cszL_pos : ∀ l : List Cu, 0 ≤ cszL l
  | [] => by simp [cszL]
  | c :: l => by have := csz_pos c; have := cszL_pos l; simp only [cszL]; omega
end
theorem csz_mem : ∀ {l : List Cu} {x : Cu}, x ∈ l → csz x ≤ cszL l
  | a :: l, x, hx => by
    have h1 := cszL_pos l
    have h2 := csz_pos a
    simp only [cszL]
    rcases List.mem_cons.1 hx with rfl | hx
    · omega
    · have := csz_mem hx; omega
mutual
/-- how deep -/
def cdp : Cu → Int
  | .mk _ _ _ _ _ _ cs => 1 + cdpL cs
def cdpL : List Cu → Int
  | [] => 0
  | c :: l => if cdpL l < cdp c then cdp c else cdpL l
end
mutual
theorem cdp_pos : ∀ c : Cu, 1 ≤ cdp c
  | .mk _ _ _ _ _ _ cs => by have := cdpL_pos cs; simp only [cdp]; omega
theorem cdpL_pos : ∀ l : List Cu, 0 ≤ cdpL l
  | [] => by simp [cdpL]
  | c :: l => by have := cdp_pos c; have := cdpL_pos l; simp only [cdpL]; split <;> omega
end
theorem cdp_mem : ∀ {l : List Cu} {x : Cu}, x ∈ l → cdp x ≤ cdpL l
  | a :: l, x, hx => by
    simp only [cdpL]
    rcases List.mem_cons.1 hx with rfl | hx
    · split <;> omega
    · have := cdp_mem hx; split <;> omega
mutual
theorem cdp_csz : ∀ c : Cu, cdp c ≤ csz c
  | .mk _ _ _ _ _ _ cs => by have := cdpL_csz cs; simp only [cdp, csz]; omega
theorem cdpL_csz : ∀ l : List Cu, cdpL l ≤ cszL l
  | [] => by simp [cdpL, cszL]
  | c :: l => by
    have := cdp_csz c; have := cdpL_csz l; have := csz_pos c; have := cszL_pos l
    simp only [cdpL, cszL]; split <;> omega
end
mutual
theorem cw_one : ∀ (c : Cu) (m : Int), 1 ≤ cw c m
  | .mk _ fr b _ _ ms cs, m => by
    have := cwL_one cs m (1 + fr.length + b.length + ms.length)
    simp only [cw]
    omega
theorem cwL_one : ∀ (l : List Cu) (m n : Int), n ≤ cwL l m n
  | [], m, n => by simp [cwL]
  | c :: l, m, n => by
    have h1 := cw_one c (m - n)
    have h2 := cwL_one l m (n + cw c (m - n))
    simp only [cwL]
    split <;> omega
end
mutual
/-- what is not too much has not more parts -/
theorem cw_csz : ∀ (c : Cu) (m : Int), cw c m ≤ m → csz c ≤ cw c m
  | .mk _ fr b _ _ ms cs, m, h => by
    simp only [cw] at h ⊢
    have := cwL_csz cs m _ h
    simp only [csz]
    omega
theorem cwL_csz : ∀ (l : List Cu) (m n : Int), cwL l m n ≤ m → n + cszL l ≤ cwL l m n
  | [], m, n, _ => by simp [cwL, cszL]
  | c :: l, m, n, h => by
    simp only [cwL] at h ⊢
    split at h
    · rename_i hn
      rw [if_pos hn]
      have h1 := cwL_csz l m (n + cw c (m - n)) h
      have h2 := cwL_one l m (n + cw c (m - n))
      have h3 := cw_csz c (m - n) (by omega)
      simp only [cszL]
      omega
    · omega
end

end Go.Proofs.Ytgabnhmjlhhojaa.A
