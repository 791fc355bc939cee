/- Opened and closed: what that does to a right claim. -/
import Derived.Test.YtjmhkbnhfpgciaaH1
import Derived.Test.YtjmhkbnhfpgciaaK5
import Derived.Test.YtjmhkbnhfpgciaaE10A
import Derived.Test.YtjmhkbnhfpgciaaB7
namespace Go.Proofs.Ytjmhkbnhfpgciaa.A
open Go
set_option maxRecDepth 10000
set_option linter.unusedSimpArgs false

/-! right terms -/

def goodP : Tm → Prop
  | .mk a s b l => (a = 1 → b = 0 ∧ l = []) ∧ (a = 2 → s = ⟨#[]⟩ ∧ l = [])
def goodT (t : Tm) : Prop := ∀ x ∈ t.all, goodP x

theorem firstE_zero : ∀ l : List Tm, firstE l = 0 → ∀ x ∈ l, x.err = 0
  | [], _, x, hx => by cases hx
  | y :: l, h, x, hx => by
    simp only [firstE] at h
    by_cases hy : y.err = 0
    · rw [if_pos hy] at h
      rcases List.mem_cons.1 hx with rfl | hx
      · exact hy
      · exact firstE_zero l h x hx
    · rw [if_neg hy] at h
      exact absurd h hy

theorem err_good (x : Tm) (h : x.err = 0) : goodP x := by
  obtain ⟨a, s, b, l⟩ := x
  simp only [Tm.err, partE] at h
  by_cases c1 : a < 1 ∨ 8 < a ∨ (a = 2 ∧ b < 0)
  · rw [if_pos c1] at h; cases h
  rw [if_neg c1] at h
  by_cases c2 : (a ≠ 2 ∧ a ≠ 4 ∧ a ≠ 8 ∧ b ≠ 0) ∨ (a ≠ 1 ∧ a ≠ 3 ∧ bytesEq s ⟨#[]⟩ = false)
  · rw [if_pos c2] at h; cases h
  rw [if_neg c2] at h
  by_cases c3 : (0 ≤ argsI a ∧ (l.length : Int) ≠ argsI a) ∨ 8 < (l.length : Int)
  · rw [if_pos c3] at h; cases h
  constructor
  · rintro rfl
    simp only [argsI] at c3
    refine ⟨by omega, ?_⟩
    simp at c3
    exact c3.1
  · rintro rfl
    simp only [argsI] at c3
    simp at c3
    refine ⟨?_, c3.1⟩
    cases e : bytesEq s ⟨#[]⟩ with
    | true => exact beq_eq.1 e
    | false => exact absurd (.inr ⟨by omega, by omega, e⟩) c2

theorem right_good (t : Tm) (h : rightP t = 0) : goodT t := by
  unfold rightP at h
  by_cases c1 : 64 < min (dT t) 65
  · rw [if_pos c1] at h; cases h
  rw [if_neg c1] at h
  by_cases c2 : 4096 < min (t.all.length : Int) 4097
  · rw [if_pos c2] at h; cases h
  rw [if_neg c2] at h
  exact fun x hx => err_good x (firstE_zero _ h x hx)

theorem fstR_good : ∀ l : List Tm, fstR l = 0 → ∀ t ∈ l, goodT t
  | [], _, t, ht => by cases ht
  | y :: l, h, t, ht => by
    simp only [fstR] at h
    by_cases hy : rightP y = 0
    · rw [if_pos hy] at h
      rcases List.mem_cons.1 ht with rfl | ht
      · exact right_good _ hy
      · exact fstR_good l h t ht
    · rw [if_neg hy] at h
      exact absurd h hy

mutual
def goodC : Cl → Prop
  | .mk _ _ _ ts cs => (∀ t ∈ ts, goodT t) ∧ goodCL cs
def goodCL : List Cl → Prop
  | [] => True
  | c :: l => goodC c ∧ goodCL l
end

mutual
theorem prt_good : ∀ c : Cl, prt c = 0 → goodC c
  | .mk a s u ts cs, h => by
    simp only [prt] at h
    by_cases c1 : errC a s u ts.length cs.length = 0
    · rw [if_pos c1] at h
      by_cases c2 : fstR ts = 0
      · rw [if_pos c2] at h
        exact ⟨fstR_good ts c2, prtL_good cs h⟩
      · rw [if_neg c2] at h
        exact absurd h c2
    · rw [if_neg c1] at h
      exact absurd h c1
theorem prtL_good : ∀ l : List Cl, prtL l = 0 → goodCL l
  | [], _ => trivial
  | c :: l, h => by
    simp only [prtL] at h
    by_cases c1 : prt c = 0
    · rw [if_pos c1] at h
      exact ⟨prt_good c c1, prtL_good l h⟩
    · rw [if_neg c1] at h
      exact absurd h c1
end

theorem goodCL_mem : ∀ {l : List Cl}, goodCL l → ∀ c ∈ l, goodC c
  | [], _, c, h => by cases h
  | d :: l, h, c, hc => by
    rcases List.mem_cons.1 hc with rfl | hc
    · exact h.1
    · exact goodCL_mem h.2 c hc

theorem mem_all_sub {l : List Tm} {t : Tm} (h : t ∈ l) : ∀ x ∈ t.all, x ∈ allL l := by
  intro x hx
  induction l with
  | nil => cases h
  | cons u l ih =>
    simp only [allL, List.mem_append]
    rcases List.mem_cons.1 h with rfl | h
    · exact .inl hx
    · exact .inr (ih h)

theorem good_sub {a s b} {l : List Tm} (h : goodT (.mk a s b l)) : ∀ t ∈ l, goodT t := fun t ht x hx => h x (by rw [Tm.all]; exact List.mem_cons_of_mem _ (mem_all_sub ht x hx))
theorem good_self {a s b} {l : List Tm} (h : goodT (.mk a s b l)) : goodP (.mk a s b l) := h _ (by rw [Tm.all]; exact List.mem_cons_self ..)

/-! arithmetic -/

theorem nOf_id {k : Nat} {b : Int} (h : ¬ b < (k : Int)) (h2 : b ≤ 9223372036854775807) : nOf k b = b - k := by
  unfold nOf
  rw [wrap_id] <;> omega

/-! what is done to a term -/

theorem tmap_false (f : Tm → Tm × Bool) {a s b a' s' b'} {l l' : List Tm} (h : f (.mk a s b l) = (.mk a' s' b' l', false)) : tmap f (.mk a s b l) = .mk a' s' b' (l.map (tmap f)) := by
  simp only [tmap, h]; rw [tmapL_map]
theorem tmap_true (f : Tm → Tm × Bool) {a s b} {l : List Tm} {v : Tm} (h : f (.mk a s b l) = (v, true)) : tmap f (.mk a s b l) = v := by
  simp only [tmap, h]

/-- closed, then opened with the same variable -/
theorem back_term (name : ByteArray) (k : Nat) (hk : k ≤ 4294967296) : ∀ t : Tm, t.ok → goodT t → smT t = true → tmap (fOpen (.mk 1 name 0 []) k) (tmap (fClose name k) t) = t
  | .mk a s b l, hok, hg, hs => by
    simp only [Tm.ok] at hok
    have hl := okL_iff.1 hok.2.2.2.2
    have hs2 : smTL l = true ∧ (a != 2 || decide (b < 4611686018427387904)) = true := by simpa [smT] using hs
    have hsl : ∀ u ∈ l, smT u = true := by
      have : ∀ l, smTL l = true → ∀ u ∈ l, smT u = true := by
        intro l
        induction l with
        | nil => intro _ u hu; cases hu
        | cons x l ih =>
          intro h u hu
          simp only [smTL, Bool.and_eq_true] at h
          rcases List.mem_cons.1 hu with rfl | hu
          · exact h.1
          · exact ih h.2 u hu
      exact this l hs2.1
    have ih := fun u (hu : u ∈ l) => back_term name k hk u (hl u hu) (good_sub hg u hu) (hsl u hu)
    have hp := good_self hg
    have hmm : (l.map (tmap (fClose name k))).map (tmap (fOpen (.mk 1 name 0 []) k)) = l := by
      rw [List.map_map]
      conv => rhs; rw [← List.map_id l]
      exact List.map_congr_left fun u hu => ih u hu
    by_cases h1 : a = 1
    · subst h1
      cases e : bytesEq s name with
      | true =>
        obtain rfl := beq_eq.1 e
        obtain ⟨rfl, rfl⟩ := hp.1 rfl
        rw [tmap_true (fClose s k) (v := .mk 2 ⟨#[]⟩ (k : Int) []) (by simp [fClose, e])]
        rw [tmap_true (fOpen (.mk 1 s 0 []) k) (v := .mk 1 s 0 [])]
        have hn : nOf k (k : Int) = 0 := by rw [nOf_id (by omega) (by omega)]; omega
        simp [fOpen, lq, hn, tmap, fLift, tmapL]
      | false =>
        rw [tmap_false (fClose name k) (a' := 1) (s' := s) (b' := b) (l' := l) (by simp [fClose, e, lq])]
        rw [tmap_false (fOpen (.mk 1 name 0 []) k) (a' := 1) (s' := s) (b' := b) (by simp [fOpen, lq]; rfl), hmm]
    · have h1' : (a == 1) = false := by simpa using h1
      by_cases h2 : a = 2
      · subst h2
        by_cases h3 : b < (k : Int)
        · rw [tmap_false (fClose name k) (a' := 2) (s' := s) (b' := b) (l' := l) (by simp [fClose, lq, h3])]
          rw [tmap_false (fOpen (.mk 1 name 0 []) k) (a' := 2) (s' := s) (b' := b) (by simp [fOpen, lq, h3]; rfl), hmm]
        · have hb : b < 4611686018427387904 := by simpa using hs2.2
          have e1 : IntKind.i64.wrap (b + 1) = b + 1 := by rw [wrap_id] <;> omega
          have e2 : IntKind.i64.wrap (b + 1 - 1) = b := by rw [wrap_id] <;> omega
          have e0 : IntKind.i64.wrap b = b := by rw [wrap_id] <;> omega
          have h4 : ¬ (b + 1 < (k : Int)) := by omega
          have hn : nOf k (b + 1) = b + 1 - k := nOf_id h4 (by omega)
          have hne : (nOf k (b + 1) == 0) = false := by rw [hn]; simp; omega
          rw [tmap_false (fClose name k) (a' := 2) (s' := s) (b' := b + 1) (l' := l) (by simp [fClose, lq, h3, e1])]
          rw [tmap_false (fOpen (.mk 1 name 0 []) k) (a' := 2) (s' := s) (b' := b) (by simp [fOpen, lq, h4, hne, e2, e0]; rfl), hmm]
      · have h2' : (a == 2) = false := by simpa using h2
        rw [tmap_false (fClose name k) (a' := a) (s' := s) (b' := b) (l' := l) (by simp [fClose, lq, h1', h2'])]
        rw [tmap_false (fOpen (.mk 1 name 0 []) k) (a' := a) (s' := s) (b' := b) (by simp [fOpen, lq, h2']; rfl), hmm]
termination_by t => SizeOf.sizeOf t
decreasing_by
  have := List.sizeOf_lt_of_mem hu
  simp
  omega

/-- opened with a fresh variable, then closed by it -/
theorem forth_term (name : ByteArray) (k : Nat) (hk : k ≤ 4294967296) : ∀ t : Tm, t.ok → goodT t → (∀ x ∈ varsOf t.all, x ≠ name) → tmap (fClose name k) (tmap (fOpen (.mk 1 name 0 []) k) t) = t
  | .mk a s b l, hok, hg, hf => by
    simp only [Tm.ok] at hok
    have hl := okL_iff.1 hok.2.2.2.2
    have hfl : ∀ u ∈ l, ∀ x ∈ varsOf u.all, x ≠ name := fun u hu x hx => hf x (by
      simp only [varsOf, List.mem_flatMap] at hx ⊢
      obtain ⟨y, hy, hx⟩ := hx
      exact ⟨y, by rw [Tm.all]; exact List.mem_cons_of_mem _ (mem_all_sub hu y hy), hx⟩)
    have ih := fun u (hu : u ∈ l) => forth_term name k hk u (hl u hu) (good_sub hg u hu) (hfl u hu)
    have hp := good_self hg
    have hmm : (l.map (tmap (fOpen (.mk 1 name 0 []) k))).map (tmap (fClose name k)) = l := by
      rw [List.map_map]
      conv => rhs; rw [← List.map_id l]
      exact List.map_congr_left fun u hu => ih u hu
    by_cases h1 : a = 1
    · subst h1
      have e : bytesEq s name = false := by
        cases e : bytesEq s name with
        | false => rfl
        | true => exact absurd (beq_eq.1 e) (hf s (by simp [varsOf, Tm.all, vn]))
      rw [tmap_false (fOpen (.mk 1 name 0 []) k) (a' := 1) (s' := s) (b' := b) (l' := l) (by simp [fOpen, lq])]
      rw [tmap_false (fClose name k) (a' := 1) (s' := s) (b' := b) (by simp [fClose, e, lq]; rfl), hmm]
    · have h1' : (a == 1) = false := by simpa using h1
      by_cases h2 : a = 2
      · subst h2
        by_cases h3 : b < (k : Int)
        · rw [tmap_false (fOpen (.mk 1 name 0 []) k) (a' := 2) (s' := s) (b' := b) (l' := l) (by simp [fOpen, lq, h3])]
          rw [tmap_false (fClose name k) (a' := 2) (s' := s) (b' := b) (by simp [fClose, lq, h3]; rfl), hmm]
        · have hn : nOf k b = b - k := nOf_id h3 (by omega)
          by_cases h4 : b = (k : Int)
          · obtain ⟨rfl, rfl⟩ := hp.2 rfl
            have hz : (nOf k b == 0) = true := by rw [hn]; simp; omega
            rw [tmap_true (fOpen (.mk 1 name 0 []) k) (v := .mk 1 name 0 []) (by simp [fOpen, lq, h3, hz, tmap, fLift, tmapL])]
            rw [tmap_true (fClose name k) (v := .mk 2 ⟨#[]⟩ (k : Int) []) (by simp [fClose, bytesEq])]
            rw [h4]
          · have hne : (nOf k b == 0) = false := by rw [hn]; simp; omega
            have e1 : IntKind.i64.wrap (b - 1) = b - 1 := by rw [wrap_id] <;> omega
            have e2 : IntKind.i64.wrap (b - 1 + 1) = b := by rw [wrap_id] <;> omega
            have e0 : IntKind.i64.wrap b = b := by rw [wrap_id] <;> omega
            have h5 : ¬ (b - 1 < (k : Int)) := by omega
            rw [tmap_false (fOpen (.mk 1 name 0 []) k) (a' := 2) (s' := s) (b' := b - 1) (l' := l) (by simp [fOpen, lq, h3, hne, e1])]
            rw [tmap_false (fClose name k) (a' := 2) (s' := s) (b' := b) (by simp [fClose, lq, h5, e2, e0]; rfl), hmm]
      · have h2' : (a == 2) = false := by simpa using h2
        rw [tmap_false (fOpen (.mk 1 name 0 []) k) (a' := a) (s' := s) (b' := b) (l' := l) (by simp [fOpen, lq, h2'])]
        rw [tmap_false (fClose name k) (a' := a) (s' := s) (b' := b) (by simp [fClose, lq, h1', h2']; rfl), hmm]
termination_by t => SizeOf.sizeOf t
decreasing_by
  have := List.sizeOf_lt_of_mem hu
  simp
  omega

/-! what is done to a claim -/

theorem cmapW_id (f g : Nat → Tm → Tm × Bool) (m : Nat) (G : Nat → Tm → Prop) : ∀ (c : Cl) (d : Nat), d + c.ct ≤ m → (∀ (d : Nat) t, d ≤ m → G d t → tmap (g d) (tmap (f d) t) = t) → (∀ (d : Nat), ∀ t ∈ partTs c, G d t) → cmapW g d (cmapW f d c) = c
  | .mk a s u ts cs, d, hd, h, hG => by
    simp only [Cl.ct] at hd
    have hinn : inn a d ≤ d + 1 := by unfold inn; cases binder a <;> simp
    simp only [partTs] at hG
    have ih := fun c (hc : c ∈ cs) => cmapW_id f g m G c (inn a d) (by have := mem_ct hc; omega) h (fun d t ht => hG d t (List.mem_append.2 (.inr (by
      clear hG h hd
      induction cs with
      | nil => cases hc
      | cons x cs ih =>
        simp only [partTsL, List.mem_append]
        rcases List.mem_cons.1 hc with rfl | hc
        · exact .inl ht
        · exact .inr (ih hc)))))
    simp only [cmapW, cmapWL_map]
    have e1 : (ts.map (tmap (f d))).map (tmap (g d)) = ts := by
      rw [List.map_map]
      conv => rhs; rw [← List.map_id ts]
      exact List.map_congr_left fun t ht => h d t (by omega) (hG d t (List.mem_append.2 (.inl ht)))
    have e2 : (cs.map (cmapW f (inn a d))).map (cmapW g (inn a d)) = cs := by
      rw [List.map_map]
      conv => rhs; rw [← List.map_id cs]
      exact List.map_congr_left fun c hc => ih c hc
    rw [e1, e2]
termination_by c => SizeOf.sizeOf c
decreasing_by
  have := List.sizeOf_lt_of_mem hc
  simp
  omega

end Go.Proofs.Ytjmhkbnhfpgciaa.A
