/- The limit's calls keep what they must. -/
import Derived.Test.YtcoonnbkmklenaaDoorKeep
namespace Go.Proofs.YtcoonnbkmklenaaDoor.A
open Go

theorem killAll_length : ∀ (l : List Nat) (o : List Obj), (killAll l o).length = o.length
  | [], _ => rfl
  | r :: l, o => by rw [killAll, killAll_length l]; simp

theorem killAll_get : ∀ (l : List Nat) (o : List Obj) (q : Nat), q ∉ l → (killAll l o)[q]? = o[q]?
  | [], _, _, _ => rfl
  | r :: l, o, q, h => by
    simp only [List.mem_cons, not_or] at h
    rw [killAll, killAll_get l _ _ h.2, List.getElem?_set_ne (Ne.symm h.1)]

theorem exFn_keep {O : Orc} (K : OKeep O) {F : AF} {args : List AV} {st st' : St} {v : AV} (h : exFn O F args st = some (v, st')) (hr : st.ro ≤ st.objs.length) : Keep st st' ∧ st'.df = st.df := by
  unfold exFn at h
  split at h
  · cases h
  split at h
  · cases h
  · rename_i e fr s hne hx
    split at h
    · rename_i vs hvs
      split at h
      · split at h
        · obtain ⟨_, rfl⟩ := Prod.mk.inj (Option.some.inj h)
          exact ⟨.refl _, rfl⟩
        · cases h
      · rename_i hp
        obtain ⟨_, rfl⟩ := Prod.mk.inj (Option.some.inj h)
        have k := (exC_keep K F.body hx (by split <;> simp_all)).1
        obtain ⟨l, hl, hn, hl2⟩ := k.df
        simp only [List.append_nil] at hl
        simp only [Bool.not_eq_true] at hp
        refine ⟨⟨rfl, by simp only [killAll_length]; exact k.len, fun q hq => ?_, fun q hq => ?_, [], rfl, .nil, by simp⟩, rfl⟩
        · have := k.low q (by simp [hp]; exact hq)
          simp only [] at this ⊢
          rw [killAll_get _ _ _ (by rw [hl]; intro hm; have := (hl2 q hm).1; simp only [] at this; omega)]
          exact this
        · have := k.dfr q hq
          simp only [] at this ⊢
          rw [killAll_get _ _ _ (by rw [hl]; intro hm; have h1 := (hl2 q hm).1; have h2 : q < st.objs.length := (List.getElem?_eq_some_iff.1 hq).1; simp only [] at h1; omega)]
          exact this
    · cases h
  · cases h

theorem exYield_keep {O : Orc} (K : OKeep O) {r : Nat} {args : List AV} {st st' : St} {v : AV} (h : exYield O r args st = some (v, st')) (hr : st.ro ≤ st.objs.length) : Keep st st' ∧ st'.df = st.df := by
  unfold exYield at h
  split at h
  case h_2 => cases h
  rename_i fr ps asg body hob
  split at h
  case isFalse => cases h
  rename_i hc
  split at h
  case h_2 => cases h
  rename_i fr1 st1 h1
  split at h
  case h_2 => cases h
  rename_i fr2 ps2 asg2 body2 hob1
  split at h
  case h_2 => cases h
  rename_i e fr3 st3 h3
  split at h
  case h_2 => cases h
  rename_i fr4 ps4 asg4 body4 hob3
  have k1 := exC_keep K _ h1 (by exact hr)
  have kb : Keep st1 (st1.set r (.loop .busy none fr2 ps2 asg2 body2)) := Keep.set (by rw [k1.1.ro]; exact hc.2) hob1 (by simp)
  have k3 := exC_keep K _ h3 (by have := k1.1.len; have := k1.1.ro; simp [St.set] at *; omega)
  have e0 : ∀ o', st3.objs[r]? = some o' → o' ≠ .dfr → ∀ o : Obj, Keep st { st3.set r o with df := st.df } := by
    intro o' ho' hd o
    have kc : Keep st3 (st3.set r o) := Keep.set (by rw [k3.1.ro]; have := k1.1.ro; simp [St.set] at *; omega) ho' hd
    have all := ((k1.1.trans kb).trans k3.1).trans kc
    exact ⟨all.ro, all.len, all.low, all.dfr, [], rfl, .nil, by simp⟩
  split at h
  · obtain ⟨_, rfl⟩ := Prod.mk.inj (Option.some.inj h)
    exact ⟨e0 _ hob3 (by simp) _, rfl⟩
  · obtain ⟨_, rfl⟩ := Prod.mk.inj (Option.some.inj h)
    exact ⟨e0 _ hob3 (by simp) _, rfl⟩

theorem orc_keep (T : Tab) : ∀ k, OKeep (orc T k)
  | 0 => ⟨fun _ _ _ _ _ h => by simp [orc] at h, fun _ _ _ _ _ h => by simp [orc] at h, fun _ _ _ _ _ _ _ h => by simp [orc] at h⟩
  | k + 1 => by
    have K := orc_keep T k
    refine ⟨fun f a s v s' h hr => ?_, fun f a s v s' h hr => ?_, fun d c fr s e fr' s' h hr => ?_⟩
    · simp only [orc] at h
      split at h
      · exact exFn_keep K h hr
      · cases h
    · exact exYield_keep K h hr
    · simp only [orc] at h
      split at h
      · rename_i fr1 s1 h1
        have k1 := exC_keep K _ h1 hr
        have k2 := K.loop _ _ _ _ _ _ _ h (by rw [k1.1.ro]; exact Nat.le_trans hr k1.1.len)
        exact ⟨k1.1.trans k2.1, fun hd => (k2.2 hd).trans (k1.2 hd)⟩
      · exact exC_keep K _ h hr

end Go.Proofs.YtcoonnbkmklenaaDoor.A
