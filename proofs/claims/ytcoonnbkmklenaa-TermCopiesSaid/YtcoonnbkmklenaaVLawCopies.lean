/- TermCopies: for any term the law's function answers true. No condition beyond the given statement's. -/
import Derived.Test.YtcoonnbkmklenaaVV3
import Derived.Test.YtcoonnbkmklenaaVS5
import Derived.Test.YtcoonnbkmklenaaVGa
import Derived.Test.YtcoonnbkmklenaaVTab
namespace Go.Proofs.Ytcoonnbkmklenaa.A
open Go
set_option maxRecDepth 10000
set_option linter.unusedSimpArgs false
attribute [-simp] List.all_eq_true put slot_def ld idxA lenOf elems canA app hand

theorem goes_k : (orc T 40).call 11 [] ⟨[], 0, []⟩ = some (.bool true, ⟨[], 0, []⟩) := by kernel_rfl
theorem goes_any (o : List Obj) (ro : Nat) (df : List Nat) : (D T).call 11 [] ⟨o, ro, df⟩ = some (.bool true, ⟨o, ro, df⟩) :=
  call_any shTab shGlobs (by exact rfl) rfl (fun _ => rfl) goes_k o ro df

mutual
theorem sz_allV : ∀ (t : Tm) (m : Int), 0 ≤ m → sz t m ≤ m → (t.all.length : Int) = sz t m
  | .mk a s b l, m, h0, h => by
    simp only [sz] at h ⊢
    have := szL_allV l m 1 h
    simp only [Tm.all, List.length_cons]
    omega
theorem szL_allV : ∀ (l : List Tm) (m n : Int), szL l m n ≤ m → n + ((allL l).length : Int) = szL l m n
  | [], m, n, h => by simp [szL, allL]
  | t :: l, m, n, h => by
    simp only [szL] at h ⊢
    by_cases hn : n ≤ m
    · rw [if_pos hn] at h ⊢
      by_cases ht : sz t (m - n) ≤ m - n
      · have h1 := sz_allV t (m - n) (by omega) ht
        have h2 := szL_allV l m _ h
        simp only [allL, List.length_append]
        omega
      · rw [szL_out _ _ _ (by omega)] at h
        omega
    · rw [if_neg hn] at h
      omega
end

mutual
theorem tm_selfV : ∀ t : Tm, tmEq t t = true
  | .mk a s b l => by simp [tmEq, bytesEq_self, ts_selfV l]
theorem ts_selfV : ∀ l : List Tm, tsEq l l = true
  | [] => by simp [tsEq]
  | t :: l => by simp [tsEq, tm_selfV t, ts_selfV l]
end

theorem law_copies (t : Tm) (ht : t.ok) : ∃ st', (D T).call 6 [t.av] st0 = some (.bool true, st') := by
  have sm := fun st => small_eq [t] (by simp [maxLen]) (by simp [ht]) st
  simp only [Tm.av, List.map_cons, List.map_nil] at sm
  refine ⟨st0, ?_⟩
  apply call_by (by exact rfl : T 6 = some _) (by simp)
  intro fr hfr hsl
  have s0 := hsl 0 _ rfl
  simp only [Tm.av] at s0
  cases h : smallL [t] with
  | false => simp -implicitDefEqProofs [hfr, s0, Tm.av, st0, sm, h, goes_any]
  | true =>
    have hn : t.all.length ≤ 60 := by
      simp only [smallL, List.all_cons, List.all_nil, Bool.and_true, Bool.not_eq_true', decide_eq_false_iff_not] at h
      have := sz_allV t 60 (by omega) (by omega)
      omega
    have tw := fun o ro df => twin_eq t ht (by omega) o ro df
    obtain ⟨cs, o1, hc, M⟩ := copyv_eq t ht (by omega) [.arr 24 4 [t.cells], .arr 24 4 [t.cells]] 0 [] (by simp)
    have le1 := M.le
    simp only [List.length_cons, List.length_nil, Nat.zero_add] at le1
    have g0 := M.low 0 (by simp)
    have g1 := M.low 1 (by simp)
    simp only [List.getElem?_cons_zero, List.getElem?_cons_succ] at g0 g1
    have h4 := M.R.len
    have R1 : RT (o1 ++ [.arr 24 4 [cs]]) (fun r => 2 ≤ r ∧ r < o1.length) t (canL cs) := (RT.mono (fun r x hr hx => ⟨hr, getO_push hx _⟩) t cs M.R).can
    have e1 := tmr_eq t ht t ht _ _ _ 0 [] R1
    obtain ⟨o2, hsp, P⟩ := spoil_eq 2 o1.length 0 (by omega) t.dep (canL cs) (o1 ++ [.arr 24 4 [cs]]) [] (RT.wf t _ _ (by omega) R1 (Nat.le_refl _)) (by simp) (by simp)
    have k0 := P.out 0 (by simp) (by omega)
    have k1 := P.out 1 (by simp; omega) (by omega)
    rw [List.getElem?_append_left (by omega), g0] at k0
    rw [List.getElem?_append_left (by omega), g1] at k1
    have e2 := fun st => tm_eq t ht t ht st
    rw [tm_selfV] at e1 e2
    simp only [Tm.av] at tw hc e1 e2
    have l1 : 0 < o1.length := by omega
    have l2 : 1 < o1.length := by omega
    have tk : cs.take 4 = cs := by rw [← h4.1]; simp
    have g0' : (o1 ++ [Obj.arr 24 4 [cs]])[0]? = some (.arr 24 4 [t.cells]) := getO_push g0 _
    have g1' : (o1 ++ [Obj.arr 24 4 [cs]])[1]? = some (.arr 24 4 [t.cells]) := getO_push g1 _
    have hcs : ∃ a s n v, cs = [.int .i64 a, .str s, .int .i64 n, v] ∧ ((v = .fsl 4 [] ∨ v = .sl 4 []) ∨ ∃ r n, v = .own r 0 n false) := by
      have R0 := M.R
      obtain ⟨a, s, n, l⟩ := t
      simp only [RT] at R0
      obtain ⟨v, es, rfl, G, _⟩ := R0
      exact ⟨a, s, n, v, rfl, by rcases G with ⟨h, _⟩ | ⟨r, _, h, _⟩
                                 · exact .inl h
                                 · exact .inr ⟨r, _, h⟩⟩
    obtain ⟨a, s, n, v, rfl, (rfl | rfl) | ⟨r, m, rfl⟩⟩ := hcs
    all_goals
      simp only [canL, can1] at e1 hsp
      simp -implicitDefEqProofs [hfr, s0, Tm.av, st0, sm, h, tw, hc, g0, g1, g0', g1', e1, e2, hsp, k0, k1, goes_any, setO_last, getO_last, -getElem?_pos, List.getElem?_cons_zero, List.getElem?_cons_succ]

end Go.Proofs.Ytcoonnbkmklenaa.A
