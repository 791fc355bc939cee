/- What is handed out of a call that leaves the store alone. -/
import Derived.Test.YtcoonnbkmklenaaDoorCodeS
import Derived.Test.YtcoonnbkmklenaaDoorKeep2
namespace Go.Proofs.YtcoonnbkmklenaaDoor.A
open Go

section
variable {P : Program} {T : Tab} {O : Orc} {E E' : Env} {st st' : St} {w w' : World}

theorem mapO_spec {α β : Type} {f : α → Option β} : ∀ {l : List α} {l' : List β}, mapO f l = some l' → l'.length = l.length ∧ ∀ (j : Nat) y, l'[j]? = some y → ∃ x, l[j]? = some x ∧ f x = some y
  | [], l', h => by simp [mapO] at h; subst h; simp
  | x :: l, l', h => by
    simp only [mapO] at h
    split at h
    · rename_i y hy
      split at h
      · rename_i ys hys
        obtain rfl := Option.some.inj h
        obtain ⟨h1, h2⟩ := mapO_spec hys
        refine ⟨by simp [h1], fun j z hz => ?_⟩
        cases j with
        | zero => simp at hz; subst hz; exact ⟨x, rfl, hy⟩
        | succ j => obtain ⟨u, a1, a2⟩ := h2 j z (by simpa using hz); exact ⟨u, by simpa using a1, a2⟩
      · cases h
    · cases h

/-- the blocks of what is new -/
def newBlk (E : Env) (n : Nat) (objs : List Obj) (b : Nat) : Prop := ∃ r o, n ≤ r ∧ objs[r]? = some o ∧ live o (E.L r) ∧ b = (E.L r).blk

theorem cell_get {b o : Nat} {cur : Array Value} {ty : TypeId} {fz : Nat × Nat} {v : Value} (h : w.heap[b]? = some (.cells cur ty fz)) (hv : cur[o]? = some v) : w.cell? ⟨b, o, none⟩ = some v := by
  simp [World.cell?, h, hv]

theorem hand0_rep {n : Nat} (S : Sim P T E st w) (hn : n ≤ st.objs.length) {v v' : AV} {cv : Value} (h : hand0 n st.objs v = some v') (R : Rep E st.objs.length w v cv) : Rep (addF E (newBlk E n st.objs)) n w v' cv := by
  have shr : ∀ {x : AV} {u : Value}, Rep E st.objs.length w x u → x.lt n → Rep (addF E (newBlk E n st.objs)) n w x u :=
    fun hx hlt => Rep.shrink (E := E) (E' := addF E (newBlk E n st.objs)) (n := st.objs.length) (w := w) (fun _ _ => rfl) (fun _ hF => .inl hF) (fun _ _ => rfl) hx hlt
  have flt : (if v.flat = true then some v else none) = some v' → Rep (addF E (newBlk E n st.objs)) n w v' cv := by
    intro hh
    split at hh
    · obtain rfl := Option.some.inj hh
      exact shr R (AV.flat_lt n ‹_›)
    · cases hh
  cases v with
  | ptr r i off =>
    simp only [hand0] at h
    split at h
    · obtain rfl := Option.some.inj h
      exact shr R ‹_›
    · rename_i hlt
      split at h
      · rename_i ty sz es ho
        split at h
        · rename_i e he
          split at h
          · rename_i hfl
            obtain rfl := Option.some.inj h
            cases R with
            | ptr _ _ o hr hoff =>
              have hob := S.obj r _ ho
              obtain ⟨q1, q2, q3, q4, q5, q6⟩ := hob
              have hi := lt_of_get he
              have hcap : (E.L r).cap ≠ 0 := by omega
              obtain ⟨cur, hcur, hsz, hget⟩ := q6.resolve_left hcap
              have hel : e.length = sz := q5 e (List.mem_of_getElem? he)
              refine .vptr (E.L r).blk o (fun j => cur.getD (o + j) undef) (.inr ⟨r, _, by omega, ho, hcap, rfl⟩) (fun j hj => ?_) fun j x hx => ?_
              · have hj' : off + j < e.length := by simp at hj; omega
                obtain ⟨u, hu, h1, _⟩ := hget i e (off + j) _ he (by rw [List.getElem?_eq_getElem hj'])
                have e1 : o + j = i * sz + (off + j) := by rw [hoff, q1]; omega
                rw [e1] at *
                have hu' : cur.getD (i * sz + (off + j)) undef = u := by simp [Array.getD_eq_getD_getElem?, hu]
                rw [hu']
                exact ⟨cell_get hcur hu, h1⟩
              · have hx' : e[off + j]? = some x := by simpa [List.getElem?_drop] using hx
                obtain ⟨u, hu, h1, hrep⟩ := hget i e (off + j) _ he hx'
                have e1 : o + j = i * sz + (off + j) := by rw [hoff, q1]; omega
                have hu' : cur.getD (o + j) undef = u := by rw [e1]; simp [Array.getD_eq_getD_getElem?, hu]
                rw [hu']
                exact shr hrep (AV.flat_lt n (flatL_iff.1 hfl _ _ hx'))
          · cases h
        · cases h
      · cases h
  | own r lo m full =>
    simp only [hand0] at h
    split at h
    · obtain rfl := Option.some.inj h
      exact shr R ‹_›
    · rename_i hlt
      split at h
      · rename_i ty sz es ho
        split at h
        · rename_i hc
          obtain rfl := Option.some.inj h
          cases R with
          | own hr hm h1 h2 ha =>
            rename_i cp a
            have hob := S.obj r _ ho
            obtain ⟨q1, q2, q3, q4, q5, q6⟩ := hob
            have hlen : ((es.drop lo).take m).length = m := by simp; omega
            by_cases hm0 : m = 0
            · subst hm0
              exact .sl 0 0 (fun _ _ => undef) (by simp) hm (by simp) (.inl (by simp)) (by simp) (by simp)
            · have hcap : (E.L r).cap ≠ 0 := by omega
              obtain ⟨cur, hcur, hsz, hget⟩ := q6.resolve_left hcap
              have ha' := ha.resolve_left (by omega)
              have hidx : ∀ i e, ((es.drop lo).take m)[i]? = some e → es[lo + i]? = some e := by
                intro i e he
                rw [List.getElem?_take] at he
                split at he
                · rw [List.getElem?_drop] at he; exact he
                · cases he
              have hoff : ∀ i j, lo * (E.L r).sz + i * sz + j = (lo + i) * sz + j := by intro i j; rw [q1, Nat.add_mul]
              refine .sl (E.L r).blk (lo * (E.L r).sz) (fun i j => cur.getD ((lo + i) * sz + j) undef) hlen.symm hm (fun e he => ?_) (.inr ⟨ha', .inr ⟨r, _, by omega, ho, hcap, rfl⟩⟩) (fun i j hi hj => ?_) fun i e j x he hx => ?_
              · exact q5 e (List.mem_of_mem_drop (List.mem_of_mem_take he))
              · obtain ⟨e, he⟩ : ∃ e, ((es.drop lo).take m)[i]? = some e := ⟨_, List.getElem?_eq_getElem hi⟩
                have he' := hidx i e he
                have hel := q5 e (List.mem_of_getElem? he')
                obtain ⟨u, hu, h1, _⟩ := hget (lo + i) e j _ he' (by rw [List.getElem?_eq_getElem (show j < e.length by omega)])
                rw [hoff]
                have hu' : cur.getD ((lo + i) * sz + j) undef = u := by simp [Array.getD_eq_getD_getElem?, hu]
                rw [hu']
                exact ⟨cell_get hcur hu, h1⟩
              · obtain ⟨u, hu, h1, hrep⟩ := hget (lo + i) e j _ (hidx i e he) hx
                have hu' : cur.getD ((lo + i) * sz + j) undef = u := by simp [Array.getD_eq_getD_getElem?, hu]
                simp only [hu']
                exact shr hrep (AV.flat_lt n (flatLL_iff.1 hc.2 _ _ _ _ (hidx i e he) hx))
        · cases h
      · cases h
  | fsl sz es =>
    simp only [hand0] at h
    split at h
    · rename_i hf
      obtain rfl := Option.some.inj h
      have R' := shr R (ltLL_iff.2 fun i e j x he hx => AV.flat_lt n (flatLL_iff.1 hf i e j x he hx))
      cases R' with
      | fsl b o c hl hcp hs ha hc h => exact .sl b o c hl (by omega) hs ha hc h
    · cases h
  | yld r =>
    simp only [hand0] at h
    split at h
    · obtain rfl := Option.some.inj h
      exact shr R ‹_›
    · cases h
  | _ => exact flt h

theorem hand1_rep {n : Nat} (S : Sim P T E st w) (hn : n ≤ st.objs.length) {v v' : AV} {cv : Value} (h : hand1 n st.objs v = some v') (R : Rep E st.objs.length w v cv) : Rep (addF E (newBlk E n st.objs)) n w v' cv := by
  cases v with
  | agg cs =>
    simp only [hand1] at h
    split at h
    · rename_i cs' hm
      obtain rfl := Option.some.inj h
      obtain ⟨h1, h2⟩ := mapO_spec hm
      cases R with
      | agg hl hr =>
        refine .agg (by omega) fun j x u hx hu => ?_
        obtain ⟨y, hy, hh⟩ := h2 j x hx
        exact hand0_rep S hn hh (hr j y u hy hu)
    · cases h
  | fn f a b =>
    simp only [hand1] at h
    split at h
    · rename_i a' hma
      split at h
      · rename_i b' hmb
        obtain rfl := Option.some.inj h
        obtain ⟨h1, h2⟩ := mapO_spec hma
        obtain ⟨h3, h4⟩ := mapO_spec hmb
        cases R with
        | fn hla hra hlb hrb =>
          refine .fn (by omega) (fun j x u hx hu => ?_) (by omega) (fun j x u hx hu => ?_)
          · obtain ⟨y, hy, hh⟩ := h2 j x hx
            exact hand0_rep S hn hh (hra j y u hy hu)
          · obtain ⟨y, hy, hh⟩ := h4 j x hx
            exact hand0_rep S hn hh (hrb j y u hy hu)
      · cases h
    · cases h
  | _ => simp only [hand1] at h; exact hand0_rep S hn h R

theorem hand_rep {n : Nat} (S : Sim P T E st w) (hn : n ≤ st.objs.length) {v v' : AV} {cv : Value} (h : hand n st.objs v = some v') (R : Rep E st.objs.length w v cv) : Rep (addF E (newBlk E n st.objs)) n w v' cv := by
  cases v with
  | tup cs =>
    simp only [hand] at h
    split at h
    · rename_i cs' hm
      obtain rfl := Option.some.inj h
      obtain ⟨h1, h2⟩ := mapO_spec hm
      cases R with
      | tup hl hr =>
        refine .tup (by omega) fun j x u hx hu => ?_
        obtain ⟨y, hy, hh⟩ := h2 j x hx
        exact hand1_rep S hn hh (hr j y u hy hu)
    · cases h
  | _ => simp only [hand] at h; exact hand1_rep S hn h R

end
end Go.Proofs.YtcoonnbkmklenaaDoor.A
