/- The names in one claim, given as a list; what a right and small claim's terms are. -/
import Derived.Test.YtjmhkbnhfpgciaaH2
import Derived.Test.YtjmhkbnhfpgciaaK6
namespace Go.Proofs.Ytjmhkbnhfpgciaa.A
open Go
set_option maxRecDepth 10000
set_option linter.unusedSimpArgs false
attribute [-simp] List.all_eq_true put slot_def ld idxA lenOf elems canA app hand

theorem rNames8f_eq (l : List Cl) (hl : ∀ t ∈ l, t.ok) (hlen : l.length ≤ 4294967296) (hn : (allL (partTsL l)).length ≤ 4294967295) (o0 : List Obj) (ro : Nat) (df : List Nat) :
    (D T).call 19 [.fsl 5 (l.map Cl.cells)] ⟨o0, ro, df⟩ = some (.sl 1 (strA ((varsOf (allL (partTsL l))).foldl putF [])), ⟨o0, ro, df⟩) := by
  have hmx : l.length ≤ 9223372036854775807 := by omega
  have allL_app : ∀ (l k : List Tm), allL (l ++ k) = allL l ++ allL k := by
    intro l k
    induction l with
    | nil => rfl
    | cons t l ih => simp [allL, ih]
  apply call_by (by exact rfl : T 19 = some _) (by simp)
  intro fr hfr hsl
  have s0 := hsl 0 _ rfl
  simp -implicitDefEqProofs [hfr, s0]
  apply loop_inv L19_0.eq_1 List.length (fun (rest : List Cl) fr st => ∃ pre v out, l = pre ++ rest ∧ fr.length = 18 ∧ slot fr 0 = .fsl 5 (l.map Cl.cells) ∧ slot fr 3 = v ∧ slot fr 4 = .int .i64 (pre.length : Int) ∧ st = ⟨o0, o0.length, []⟩ ∧
    Sv v out ∧ (varsOf (allL (partTsL l))).foldl putF [] = (varsOf (allL (partTsL rest))).foldl putF out ∧ out.length + (allL (partTsL rest)).length ≤ 4294967295) ?_ l
    ⟨[], .fsl 1 [], [], rfl, by simp [hfr], by simp [hfr, s0], by simp [hfr], by simp [hfr], rfl, .inr ⟨rfl, rfl⟩, rfl, by simpa using hn⟩
  rintro rest fr _ ⟨pre, v, out, e, hfr, q0, q3, q4, rfl, hv, hp, hl1⟩
  have hcan := hv.can
  cases rest with
  | nil =>
    have hlt := idx_end e
    have hh := hv.hand
    simp only [partTsL, allL, varsOf, List.flatMap_nil, List.foldl_nil] at hp
    simp -implicitDefEqProofs [hfr, q0, q3, q4, hlt, hh]
    simp only [varsOf]; rw [hp]
  | cons x rest =>
    obtain ⟨hlt, hg, _⟩ := idx_at e
    have hw := idx_next e hmx
    simp only [partTsL, allL_app, varsOf, List.flatMap_append, List.foldl_append, List.length_append] at hp hl1
    have hcall := fun st => names8_eq x (hl x (by simp [e])) v out st hv (by omega)
    simp only [Cl.av] at hcall
    simp -implicitDefEqProofs [hfr, q0, q3, q4, hlt, hg, hw, hcan, hcall]
    refine ⟨rest, by simp, pre ++ [x], by simp [e], by simp, _, sv_sl _, by simpa [varsOf] using hp, ?_⟩
    have h1 := putF_len (varsOf (allL (partTs x))) out
    have h2 := varsOf_len (allL (partTs x))
    omega

theorem putF_mem : ∀ (V l : List ByteArray) (x : ByteArray), x ∈ V.foldl putF l ↔ x ∈ l ∨ x ∈ V
  | [], l, x => by simp
  | s :: V, l, x => by
    rw [List.foldl_cons, putF_mem V (putF l s) x, putF, putX_mem]
    simp only [List.mem_cons]
    constructor
    · rintro ((h | h) | h)
      · exact .inr (.inl h)
      · exact .inl h
      · exact .inr (.inr h)
    · rintro (h | h | h)
      · exact .inl (.inr h)
      · exact .inl (.inl h)
      · exact .inr h

theorem hasS_false {l : List ByteArray} {s : ByteArray} (h : hasS l s = false) : ∀ x ∈ l, x ≠ s := by
  rintro x hx rfl
  have : hasS l x = true := List.any_eq_true.2 ⟨x, hx, by simp [bytesEq]⟩
  rw [h] at this
  cases this

mutual
theorem goodC_parts : ∀ c : Cl, goodC c → ∀ t ∈ partTs c, goodT t
  | .mk a s u ts cs, h, t, ht => by
    simp only [goodC] at h
    simp only [partTs, List.mem_append] at ht
    rcases ht with ht | ht
    · exact h.1 t ht
    · exact goodCL_parts cs h.2 t ht
theorem goodCL_parts : ∀ l : List Cl, goodCL l → ∀ t ∈ partTsL l, goodT t
  | [], _, t, ht => by cases ht
  | c :: l, h, t, ht => by
    simp only [goodCL] at h
    simp only [partTsL, List.mem_append] at ht
    rcases ht with ht | ht
    · exact goodC_parts c h.1 t ht
    · exact goodCL_parts l h.2 t ht
end

theorem smTL_mem : ∀ {l : List Tm}, smTL l = true → ∀ u ∈ l, smT u = true
  | [], _, u, hu => by cases hu
  | x :: l, h, u, hu => by
    simp only [smTL, Bool.and_eq_true] at h
    rcases List.mem_cons.1 hu with rfl | hu
    · exact h.1
    · exact smTL_mem h.2 u hu
mutual
theorem smC_parts : ∀ c : Cl, smC c = true → ∀ t ∈ partTs c, smT t = true
  | .mk a s u ts cs, h, t, ht => by
    simp only [smC, Bool.and_eq_true] at h
    simp only [partTs, List.mem_append] at ht
    rcases ht with ht | ht
    · exact smTL_mem h.1 t ht
    · exact smCL_parts cs h.2 t ht
theorem smCL_parts : ∀ l : List Cl, smCL l = true → ∀ t ∈ partTsL l, smT t = true
  | [], _, t, ht => by cases ht
  | c :: l, h, t, ht => by
    simp only [smCL, Bool.and_eq_true] at h
    simp only [partTsL, List.mem_append] at ht
    rcases ht with ht | ht
    · exact smC_parts c h.1 t ht
    · exact smCL_parts l h.2 t ht
end

theorem right_goodC (c : Cl) (h : rightC c = 0) : goodC c := by
  unfold rightC at h
  by_cases c1 : 64 < min (dC c) 65
  · rw [if_pos c1] at h; cases h
  rw [if_neg c1] at h
  by_cases c2 : 4096 < min (csz c) 4097
  · rw [if_pos c2] at h; cases h
  rw [if_neg c2] at h
  exact prt_good c h

theorem back_claim (c : Cl) (name : ByteArray) (hc : c.ok) (hr : rightC c = 0) (hs : smC c = true) (hn : c.ct ≤ 4294967296) : cmapW (fOpen (.mk 1 name 0 [])) 0 (cmapW (fClose name) 0 c) = c :=
  cmapW_id (fClose name) (fOpen (.mk 1 name 0 [])) 4294967296 (fun _ t => t.ok ∧ goodT t ∧ smT t = true) c 0 (by omega) (fun d t hd h => back_term name d hd t h.1 h.2.1 h.2.2)
    (fun _ t ht => ⟨partTs_ok hc t ht, goodC_parts c (right_goodC c hr) t ht, smC_parts c hs t ht⟩)

theorem forth_claim (c : Cl) (name : ByteArray) (hc : c.ok) (hr : rightC c = 0) (hf : ∀ x ∈ varsOf (allL (partTs c)), x ≠ name) (hn : c.ct ≤ 4294967296) : cmapW (fClose name) 0 (cmapW (fOpen (.mk 1 name 0 [])) 0 c) = c :=
  cmapW_id (fOpen (.mk 1 name 0 [])) (fClose name) 4294967296 (fun _ t => t.ok ∧ goodT t ∧ ∀ x ∈ varsOf t.all, x ≠ name) c 0 (by omega) (fun d t hd h => forth_term name d hd t h.1 h.2.1 h.2.2)
    (fun _ t ht => ⟨partTs_ok hc t ht, goodC_parts c (right_goodC c hr) t ht, fun x hx => hf x (by
      simp only [varsOf, List.mem_flatMap] at hx ⊢
      obtain ⟨y, hy, hx⟩ := hx
      exact ⟨y, mem_all_sub ht y hy, hx⟩)⟩)

mutual
theorem tmap_len (f : Tm → Tm × Bool) : ∀ t : Tm, (∀ t, (f t).2 = true → (f t).1.all.length = 1) → (tmap f t).all.length ≤ t.all.length
  | .mk a s b l, h => by
    have hl := tmapL_len f l h
    have h0 := h (.mk a s b l)
    simp only [tmap, Tm.all, List.length_cons]
    generalize f (.mk a s b l) = p at h0 ⊢
    obtain ⟨⟨a', s', b', l'⟩, d⟩ := p
    cases d with
    | true =>
      have := h0 rfl
      simp only at this ⊢
      omega
    | false =>
      simp only [Tm.all, List.length_cons]
      omega
theorem tmapL_len (f : Tm → Tm × Bool) : ∀ l : List Tm, (∀ t, (f t).2 = true → (f t).1.all.length = 1) → (allL (tmapL f l)).length ≤ (allL l).length
  | [], _ => by simp [tmapL, allL]
  | t :: l, h => by
    have h1 := tmap_len f t h
    have h2 := tmapL_len f l h
    simp only [tmapL, allL, List.length_append]
    omega
end

mutual
theorem cmapW_ct (f : Nat → Tm → Tm × Bool) (h : ∀ d t, (f d t).2 = true → (f d t).1.all.length = 1) : ∀ (c : Cl) (d : Nat), (cmapW f d c).ct ≤ c.ct
  | .mk a s u ts cs, d => by
    have h1 := tmapL_len (f d) ts (h d)
    have h2 := cmapWL_ct f h cs (inn a d)
    rw [tmapL_map] at h1
    simp only [cmapW, Cl.ct]
    omega
theorem cmapWL_ct (f : Nat → Tm → Tm × Bool) (h : ∀ d t, (f d t).2 = true → (f d t).1.all.length = 1) : ∀ (l : List Cl) (d : Nat), ctL (cmapWL f d l) ≤ ctL l
  | [], d => by simp [cmapWL, ctL]
  | c :: l, d => by
    have h1 := cmapW_ct f h c d
    have h2 := cmapWL_ct f h l d
    simp only [cmapWL, ctL]
    omega
end

theorem fClose_one (name : ByteArray) (d : Nat) (t : Tm) (h : (fClose name d t).2 = true) : (fClose name d t).1.all.length = 1 := by
  obtain ⟨a, s, b, l⟩ := t
  unfold fClose at h ⊢
  simp only at h ⊢
  cases c1 : (a == 1 && bytesEq s name) with
  | true => simp [Tm.all, allL]
  | false =>
    rw [c1] at h
    cases c2 : lq d a b <;> rw [c2] at h <;> simp at h

theorem fOpenV_one (name : ByteArray) (d : Nat) (t : Tm) (h : (fOpen (.mk 1 name 0 []) d t).2 = true) : (fOpen (.mk 1 name 0 []) d t).1.all.length = 1 := by
  obtain ⟨a, s, b, l⟩ := t
  unfold fOpen at h ⊢
  simp only at h ⊢
  cases c2 : lq d a b with
  | false => rw [c2] at h; simp at h
  | true =>
    rw [c2] at h
    cases c3 : nOf d b == 0 with
    | false => rw [c3] at h; simp at h
    | true => simp [tmap, fLift, lq, tmapL, Tm.all, allL]

end Go.Proofs.Ytjmhkbnhfpgciaa.A
