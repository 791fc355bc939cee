/- ClaimBuilds: for any claims, any claim and any number the law's function answers true, and its arguments read as before. No condition beyond the given statement's. -/
import Derived.Test.YtpenaaljaahanaaC6
import Derived.Test.YtpenaaljaahanaaG
namespace Go.Proofs.Ytpenaaljaahanaa.A
open Go
set_option maxRecDepth 10000
set_option linter.unusedSimpArgs false
attribute [-simp] List.all_eq_true put slot_def ld idxA lenOf elems canA app hand

mutual
theorem tmE_self : ∀ t : Tm, tmEq t t = true
  | .mk a s b l => by simp [tmEq, bytesEq_self, tsE_self l]
theorem tsE_self : ∀ l : List Tm, tsEq l l = true
  | [] => by simp [tsEq]
  | t :: l => by simp [tsEq, tmE_self t, tsE_self l]
end
mutual
theorem ex_self : ∀ c : Cl, exEq c c = true
  | .mk a s u ts cs => by simp [exEq, bytesEq_self, tsE_self ts, exs_self cs]
theorem exs_self : ∀ l : List Cl, exsEq l l = true
  | [] => by simp [exsEq]
  | c :: l => by simp [exsEq, ex_self c, exs_self l]
end

theorem nil_size : (⟨#[]⟩ : ByteArray).size ≤ maxLen := by decide

theorem joinL_ok (op none : Int) (h1 : -9223372036854775808 ≤ op ∧ op ≤ 9223372036854775807) (h2 : -9223372036854775808 ≤ none ∧ none ≤ 9223372036854775807) : ∀ l : List Cl, (∀ c ∈ l, c.ok) → (joinL op none l).ok
  | [], _ => by
    simp only [joinL, Cl.ok, okL, okC]
    exact ⟨h2, nil_size, nil_size, Nat.zero_le _, trivial, Nat.zero_le _, trivial⟩
  | [c], h => by rw [joinL]; exact h c (by simp)
  | c :: d :: l, h => by
    have := joinL_ok op none h1 h2 (d :: l) fun x hx => h x (List.mem_cons_of_mem _ hx)
    simp only [joinL, Cl.ok, okL, okC]
    exact ⟨h1, nil_size, nil_size, Nat.zero_le _, trivial, by simp [maxLen], h c (by simp), this, trivial⟩

theorem notC_ok (c : Cl) (h : c.ok) : (notC c).ok := by
  simp only [notC, Cl.ok, okL, okC]
  exact ⟨by omega, nil_size, nil_size, Nat.zero_le _, trivial, by simp [maxLen], h, trivial⟩

theorem alive1_k (x : List AV) : (orc T 60).call 10 [] { objs := [Obj.arr 25 5 [x]], ro := 0, df := [] } = some (.bool true, { objs := [Obj.arr 25 5 [x]], ro := 0, df := [] }) := by kernel_rfl
theorem alive1 (x : List AV) : (D T).call 10 [] { objs := [Obj.arr 25 5 [x]], ro := 0, df := [] } = some (.bool true, { objs := [Obj.arr 25 5 [x]], ro := 0, df := [] }) := (D_le T 60).call _ _ _ _ (alive1_k x)

theorem law_cbuilds (l : List Cl) (c : Cl) (op : Int) (hl : ∀ t ∈ l, t.ok) (hm : l.length ≤ maxLen) (hc : c.ok) (_h1 : -9223372036854775808 ≤ op) (_h2 : op ≤ 9223372036854775807) :
    (D T).call 4 [.sl 5 (l.map Cl.cells), c.av, .int .i64 op] st0 = some (.bool true, st0) := by
  have sc := fun st => big_eq c hc 200 (by omega) (by omega) st
  simp only [Cl.av] at sc
  apply call_by (by exact rfl : T 4 = some _) (by simp)
  intro fr hfr hsl
  have s0 := hsl 0 _ rfl
  have s1 := hsl 1 _ rfl
  have s2 := hsl 2 _ rfl
  simp only [Cl.av] at s1
  by_cases k0 : 20 < (l.length : Int)
  · simp -implicitDefEqProofs [hfr, s0, s1, s2, st0, k0, alive1]
  · have sf := fun o ro df => few_eq l hm hl 200 (by omega) (by omega) (by omega) o ro df
    cases kf : few l 200 with
    | false => simp -implicitDefEqProofs [hfr, s0, s1, s2, st0, k0, sf, kf, alive1]
    | true =>
      by_cases k1 : 200 < wt c 200
      · simp -implicitDefEqProofs [hfr, s0, s1, s2, st0, k0, sf, kf, sc, k1, alive1]
      · have hn : cnt c ≤ 4294967296 := by
          have := wt_cnt c 200 (by omega) (by omega)
          omega
        have hfc := flat_cnt op c
        have n1 := fun o ro df => not_eq c o ro df
        have n2 := fun o ro df => rnot_eq c o ro df
        have n3 := fun st => ex_eq (notC c) (notC_ok c hc) (notC c) (notC_ok c hc) st
        have a1 := fun o ro df => and_eq l hm o ro df
        have a2 := fun o ro df => rjoin_eq 7 1 (.inl ⟨rfl, rfl⟩) l o ro df
        have aok := joinL_ok 7 1 (by omega) (by omega) l hl
        have a3 := fun st => ex_eq _ aok _ aok st
        have o1 := fun o ro df => or8_eq l hm o ro df
        have o2 := fun o ro df => rjoin_eq 8 2 (.inr ⟨rfl, rfl⟩) l o ro df
        have ook := joinL_ok 8 2 (by omega) (by omega) l hl
        have o3 := fun st => ex_eq _ ook _ ook st
        have f1 := fun o ro df => cflat_eq op c hc hn o ro df
        have f2 := fun o ro df => rflat_eq op c hc hn o ro df
        have fok := flat_ok op c hc
        have f3 := fun (o : List Obj) (ro : Nat) (df : List Nat) => rexsv_eq (flatC op c) (flatC op c) (o := o) (ls_sl _) (ls_sl _) (by simp only [maxLen]; omega) (fun t ht u hu st => ex_eq t (fok t ht) u (fok u hu) st) ro df
        simp only [ex_self, exs_self, beq_self_eq_true, Bool.and_self] at n3 a3 o3 f3
        simp only [Cl.av] at n1 n2 n3 a1 a2 a3 o1 o2 o3 f1 f2
        simp -implicitDefEqProofs [hfr, s0, s1, s2, st0, k0, sf, kf, sc, k1, n1, n2, n3, a1, a2, a3, o1, o2, o3, f1, f2, f3, alive1]

end Go.Proofs.Ytpenaaljaahanaa.A
