/- Plain laws of terms with parts replaced. -/
import Derived.Test.YtcoonnbkmklenaaS11
import Derived.Test.YtcoonnbkmklenaaP4
namespace Go.Proofs.Ytcoonnbkmklenaa.A
open Go

theorem cm_args {a : Int} {s : ByteArray} {b : Int} {l k : List Tm} (hl : l.length = k.length) (h : cmL l k = 0) : cm (.mk a s b l) (.mk a s b k) = 0 := by
  have h1 : cmpI a a = 0 := (cmpI_zero a a).2 rfl
  have h2 : cmpI b b = 0 := (cmpI_zero b b).2 rfl
  have h3 : cmpS s s = 0 := (cmpS_zero s s).2 (bytesEq_self s)
  have h4 : cmpI (l.length : Int) (k.length : Int) = 0 := (cmpI_zero _ _).2 (by rw [hl])
  simp [cm, orL, h1, h2, h3, h4, h]

mutual
theorem repl_self (f : Tm) : ∀ t : Tm, cm (repl f f t) t = 0
  | .mk a s b l => by
    simp only [repl]
    split
    · rename_i h
      have := cm_neg f (.mk a s b l)
      omega
    · exact cm_args (replL_self f l).1 (replL_self f l).2
theorem replL_self (f : Tm) : ∀ l : List Tm, (replL f f l).length = l.length ∧ cmL (replL f f l) l = 0
  | [] => ⟨rfl, by simp [replL, cmL]⟩
  | t :: l => ⟨by simp [replL, (replL_self f l).1], by simp [replL, cmL, repl_self f t, (replL_self f l).2]⟩
end

theorem has_mk (a : Int) (s : ByteArray) (b : Int) (l : List Tm) (f : Tm) : has (.mk a s b l) f = (cm (.mk a s b l) f == 0 || (allL l).any fun x => cm x f == 0) := by
  simp [has, Tm.all]

mutual
theorem repl_not (f u : Tm) : ∀ t : Tm, has t f = false → repl f u t = t
  | .mk a s b l, h => by
    rw [has_mk, Bool.or_eq_false_iff] at h
    simp only [beq_eq_false_iff_ne, ne_eq] at h
    simp only [repl, if_neg h.1, replL_not f u l h.2]
theorem replL_not (f u : Tm) : ∀ l : List Tm, ((allL l).any fun x => cm x f == 0) = false → replL f u l = l
  | [], _ => rfl
  | t :: l, h => by
    simp only [allL, List.any_append, Bool.or_eq_false_iff] at h
    simp only [replL, repl_not f u t h.1, replL_not f u l h.2]
end

theorem cm_leaf {a a' : Int} {s s' : ByteArray} {b b' : Int} {l : List Tm} (h : cm (.mk a s b l) (.mk a' s' b' []) = 0) : l = [] := by
  have h1 := (cm_tm _ _).1 h
  simp only [tmEq, Bool.and_eq_true, beq_iff_eq, List.length_nil] at h1
  exact List.length_eq_zero_iff.1 h1.2.1

mutual
theorem repl_gone (a' : Int) (s' : ByteArray) (b' : Int) (u : Tm) (hu : has u (.mk a' s' b' []) = false) : ∀ t : Tm, has (repl (.mk a' s' b' []) u t) (.mk a' s' b' []) = false
  | .mk a s b l => by
    simp only [repl]
    split
    · exact hu
    · rename_i h
      rw [has_mk, Bool.or_eq_false_iff]
      refine ⟨?_, replL_gone a' s' b' u hu l⟩
      simp only [beq_eq_false_iff_ne, ne_eq]
      intro h'
      have := cm_leaf h'
      cases l with
      | nil => exact h h'
      | cons t l => simp [replL] at this
theorem replL_gone (a' : Int) (s' : ByteArray) (b' : Int) (u : Tm) (hu : has u (.mk a' s' b' []) = false) : ∀ l : List Tm, ((allL (replL (.mk a' s' b' []) u l)).any fun x => cm x (.mk a' s' b' []) == 0) = false
  | [] => rfl
  | t :: l => by
    simp only [replL, allL, List.any_append, Bool.or_eq_false_iff]
    exact ⟨repl_gone a' s' b' u hu t, replL_gone a' s' b' u hu l⟩
end

mutual
theorem repl_ok (f u : Tm) (hu : u.ok) : ∀ t : Tm, t.ok → (repl f u t).ok
  | .mk a s b l, h => by
    simp only [repl]
    split
    · exact hu
    · simp only [Tm.ok] at h ⊢
      have := replL_ok f u hu l h.2.2.2.2
      exact ⟨h.1, h.2.1, h.2.2.1, by rw [this.2]; exact h.2.2.2.1, this.1⟩
theorem replL_ok (f u : Tm) (hu : u.ok) : ∀ l : List Tm, okL l → okL (replL f u l) ∧ (replL f u l).length = l.length
  | [], _ => ⟨trivial, rfl⟩
  | t :: l, h => by
    have := replL_ok f u hu l h.2
    exact ⟨⟨repl_ok f u hu t h.1, this.1⟩, by simp [replL, this.2]⟩
end

end Go.Proofs.Ytcoonnbkmklenaa.A
