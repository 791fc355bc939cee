/- What is done to a right-sized claim is right-sized; how much there is in a claim that is not big. -/
import Derived.Test.YtjmhkbnhfpgciaaB6
namespace Go.Proofs.Ytjmhkbnhfpgciaa.A
open Go
set_option maxRecDepth 10000
set_option linter.unusedSimpArgs false

theorem bytesEq_self' (x : ByteArray) : bytesEq x x = true := by simp [bytesEq]

mutual
theorem tmE_self : ∀ t : Tm, tmEq t t = true
  | .mk a s b l => by simp [tmEq, bytesEq_self', tsE_self l]
theorem tsE_self : ∀ l : List Tm, tsEq l l = true
  | [] => by simp [tsEq]
  | t :: l => by simp [tsEq, tmE_self t, tsE_self l]
end
mutual
theorem ex_self : ∀ c : Cl, exEq c c = true
  | .mk a s u ts cs => by simp [exEq, bytesEq_self', tsE_self ts, exs_self cs]
theorem exs_self : ∀ l : List Cl, exsEq l l = true
  | [] => by simp [exsEq]
  | c :: l => by simp [exsEq, ex_self c, exs_self l]
end

mutual
theorem ct_parts : ∀ c : Cl, c.ct = (allL (partTs c)).length + cnt c
  | .mk a s u ts cs => by
    have := ctL_parts cs
    simp only [Cl.ct, partTs, cnt, allL_apC, List.length_append]
    omega
theorem ctL_parts : ∀ l : List Cl, ctL l = (allL (partTsL l)).length + cntL l
  | [] => by simp [ctL, partTsL, allL, cntL]
  | c :: l => by
    have h1 := ct_parts c
    have h2 := ctL_parts l
    simp only [ctL, partTsL, cntL, allL_apC, List.length_append]
    omega
end
theorem ct_wt (c : Cl) (m : Int) (h0 : 0 ≤ m) (h : ¬ m < wt c m) : (c.ct : Int) = wt c m := by
  have := wt_parts c m h0 (by omega)
  have := ct_parts c
  omega

theorem wrap_rng (x : Int) : -9223372036854775808 ≤ IntKind.i64.wrap x ∧ IntKind.i64.wrap x ≤ 9223372036854775807 := by
  unfold IntKind.wrap
  simp [IntKind.bits, IntKind.signed]
  omega

theorem tmap_ok (f : Tm → Tm × Bool) (hf : ∀ t, t.ok → (f t).1.ok) : ∀ t : Tm, t.ok → (tmap f t).ok
  | .mk a s b l, h => by
    have h0 := h
    simp only [Tm.ok] at h
    have hl := okL_iff.1 h.2.2.2.2
    have ih := fun u (hu : u ∈ l) => tmap_ok f hf u (hl u hu)
    have h1 := hf _ h0
    simp only [tmap]
    generalize f (.mk a s b l) = p at h1 ⊢
    obtain ⟨⟨a', s', b', l'⟩, d⟩ := p
    cases d with
    | true => exact h1
    | false =>
      simp only [Tm.ok] at h1 ⊢
      rw [tmapL_map]
      refine ⟨h1.1, h1.2.1, h1.2.2.1, by simpa using h.2.2.2.1, okL_iff.2 fun t ht => ?_⟩
      obtain ⟨u, hu, rfl⟩ := List.mem_map.1 ht
      exact ih u hu
termination_by t => SizeOf.sizeOf t
decreasing_by
  have := List.sizeOf_lt_of_mem hu
  simp
  omega

theorem cmapW_ok (f : Nat → Tm → Tm × Bool) (m : Nat) (hf : ∀ d t, d ≤ m → t.ok → (f d t).1.ok) : ∀ (c : Cl) (d : Nat), d + c.ct ≤ m → c.ok → (cmapW f d c).ok
  | .mk a s u ts cs, d, hd, h => by
    simp only [Cl.ok] at h
    have hts := okL_iff.1 h.2.2.2.2.1
    have hcs := okC_iff.1 h.2.2.2.2.2.2
    simp only [Cl.ct] at hd
    have hinn : inn a d ≤ d + 1 := by unfold inn; cases binder a <;> simp
    have ih := fun c (hc : c ∈ cs) => cmapW_ok f m hf c (inn a d) (by have := mem_ct hc; omega) (hcs c hc)
    simp only [cmapW, cmapWL_map, Cl.ok]
    refine ⟨h.1, h.2.1, h.2.2.1, by simpa using h.2.2.2.1, okL_iff.2 fun t ht => ?_, by simpa using h.2.2.2.2.2.1, okC_iff.2 fun t ht => ?_⟩
    · obtain ⟨u, hu, rfl⟩ := List.mem_map.1 ht
      exact tmap_ok (f d) (fun t h => hf d t (by omega) h) u (hts u hu)
    · obtain ⟨u, hu, rfl⟩ := List.mem_map.1 ht
      exact ih u hu
termination_by c => SizeOf.sizeOf c
decreasing_by
  have := List.sizeOf_lt_of_mem hc
  simp
  omega

theorem fLift_ok (b c : Int) (d : Nat) (t : Tm) (h : t.ok) : (fLift b c d t).1.ok := by
  obtain ⟨a, s, n, l⟩ := t
  unfold fLift
  simp only
  cases lq d a n && decide (nOf d n ≥ c) with
  | false => exact h
  | true =>
    simp only [Tm.ok, cond_true] at h ⊢
    exact ⟨h.1, h.2.1, wrap_rng _, h.2.2.2⟩

theorem fOpen_ok (x : Tm) (hx : x.ok) (d : Nat) (t : Tm) (h : t.ok) : (fOpen x d t).1.ok := by
  obtain ⟨a, s, n, l⟩ := t
  unfold fOpen
  simp only
  cases lq d a n with
  | false => exact h
  | true =>
    cases nOf d n == 0 with
    | true => exact tmap_ok _ (fun t h => fLift_ok _ _ _ t h) x hx
    | false =>
      simp only [Tm.ok, cond_true, cond_false] at h ⊢
      exact ⟨h.1, h.2.1, wrap_rng _, h.2.2.2⟩

theorem fClose_ok (nm : ByteArray) (d : Nat) (hd : d ≤ 4294967296) (t : Tm) (h : t.ok) : (fClose nm d t).1.ok := by
  obtain ⟨a, s, n, l⟩ := t
  unfold fClose
  simp only
  cases a == 1 && bytesEq s nm with
  | true =>
    simp only [Tm.ok, cond_true, okL]
    exact ⟨by omega, by decide, by omega, by simp, trivial⟩
  | false =>
    cases lq d a n with
    | false => exact h
    | true =>
      simp only [Tm.ok, cond_true, cond_false] at h ⊢
      exact ⟨h.1, h.2.1, wrap_rng _, h.2.2.2⟩

end Go.Proofs.Ytjmhkbnhfpgciaa.A
