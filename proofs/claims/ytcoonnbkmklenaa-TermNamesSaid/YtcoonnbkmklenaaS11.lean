/- A term in new memory, and with parts replaced. -/
import Derived.Test.YtcoonnbkmklenaaS10
namespace Go.Proofs.Ytcoonnbkmklenaa.A
open Go
set_option maxRecDepth 10000
set_option linter.unusedSimpArgs false
attribute [-simp] List.all_eq_true put slot_def ld idxA lenOf elems canA app hand

theorem le_all : ∀ l : List Tm, l.length ≤ (allL l).length
  | [] => Nat.le_refl _
  | .mk a s b k :: l => by
    have := le_all l
    simp only [allL, Tm.all, List.length_append, List.length_cons]
    omega

theorem mem_all : ∀ {l : List Tm} {t : Tm}, t ∈ l → t.all.length ≤ (allL l).length
  | u :: l, t, h => by
    simp only [allL, List.length_append]
    rcases List.mem_cons.1 h with rfl | h
    · omega
    · have := mem_all h
      omega

theorem with_eq (a : Int) (s : ByteArray) (b : Int) (l : List Tm) (hl : l.length ≤ 4294967296) (f : Nat) (cap : List AV) (g : Tm → Tm) (o0 : List Obj)
    (h : ∀ u ∈ l, ∀ o ro df, (∀ (i : Nat) y, o0[i]? = some y → o[i]? = some y) → (D T).call f (.agg u.cells :: cap) ⟨o, ro, df⟩ = some (.agg (g u).cells, ⟨o, ro, df⟩)) (ro : Nat) (df : List Nat) :
    (D T).call 42 [(Tm.mk a s b l).av, .fn (.func f) [] cap] ⟨o0, ro, df⟩ = some ((Tm.mk a s b (l.map g)).av, ⟨o0, ro, df⟩) := by
  have hmx : l.length ≤ 9223372036854775807 := by omega
  apply call_by (by exact rfl : T 42 = some _) (by simp)
  intro fr hfr hsl
  have s0 := hsl 0 _ rfl
  have s1 := hsl 1 _ rfl
  simp only [Tm.av, Tm.cells_mk] at s0
  simp -implicitDefEqProofs [hfr, s0, s1]
  apply loop_inv L42_0.eq_1 List.length (fun (rest : List Tm) fr st => ∃ pre v o, l = pre ++ rest ∧ fr.length = 25 ∧ slot fr 1 = .fn (.func f) [] cap ∧ slot fr 2 = .ptr o0.length 0 0 ∧ slot fr 4 = .ptr (o0.length + 1) 0 0 ∧ slot fr 5 = v ∧
      slot fr 9 = .sl 4 (l.map Tm.cells) ∧ slot fr 10 = .int .i64 (l.length : Int) ∧ slot fr 11 = .int .i64 (pre.length : Int) ∧
      st = ⟨o, o0.length, []⟩ ∧ o0.length + 2 ≤ o.length ∧ o[o0.length]? = some (.arr 24 4 [[.int .i64 a, .str s, .int .i64 b, .sl 4 (l.map Tm.cells)]]) ∧
      o[o0.length + 1]? = some (.arr 24 4 [[.int .i64 0, .str ⟨#[]⟩, .int .i64 0, .fsl 4 []]]) ∧ Gr (o0.length + 2) 24 4 o v ((pre.map g).map Tm.cells) ∧ (∀ (i : Nat) y, o0[i]? = some y → o[i]? = some y)) ?_ l
      ⟨[], .fsl 4 [], _, rfl, by simp [hfr], by simp [hfr, s1], by simp [hfr], by simp [hfr], by simp [hfr], by simp [hfr], by simp [hfr], by simp [hfr], rfl, by simp, by simp [get_base0], by simp [get_base], .inl rfl, fun i y h => getO_push h _⟩
  rintro rest fr _ ⟨pre, v, o, e, hfr, q1, q2, q4, q5, q9, q10, q11, rfl, hlo, g0, g1, G, K⟩
  cases rest with
  | nil =>
    have hlt := idx_end e
    have hfl := flat_list (pre.map g)
    have ee : pre = l := by simpa using e.symm
    subst ee
    have l1 : o0.length < o.length := by omega
    have l2 : o0.length + 1 < o.length := by omega
    rcases G with rfl | ⟨r, r1, rfl, r2⟩
    · simp -implicitDefEqProofs [hfr, q1, q2, q4, q5, q9, q10, q11, g0, g1, hlt, getO_set, -getElem?_pos, List.getElem?_cons_zero, -List.map_map, l1, l2, Tm.av, Tm.cells_mk, hfl]
    · have l3 : ¬ r < o0.length := by omega
      have l4 : ¬ o0.length = r := by omega
      have l5 : ¬ o0.length + 1 = r := by omega
      have l6 : (List.map Tm.cells (List.map g pre)).take pre.length = List.map Tm.cells (List.map g pre) := by rw [List.take_of_length_le]; simp
      simp -implicitDefEqProofs [hfr, q1, q2, q4, q5, q9, q10, q11, g0, g1, hlt, getO_set, -getElem?_pos, List.getElem?_cons_zero, -List.map_map, l1, l2, l3, l4, l5, l6, r2, Tm.av, Tm.cells_mk, hfl]
  | cons t rest =>
    obtain ⟨hlt, hg, hpl⟩ := idx_at e
    have hw := idx_next e hmx
    have hc := h t (by simp [e]) (o ++ [.arr 24 4 [t.cells]]) o0.length [] fun i y hy => getO_push (K i y hy) _
    obtain ⟨o', a1, a2, a3, a4⟩ := app_get (bytes := 56) (ro := o0.length) (df := []) (G.push [.arr 24 4 [t.cells]]) (by omega) (x := .fsl 4 [(g t).cells]) rfl (.inr (by simp)) (room_of (by simp; omega) (by simp; omega))
    have l1 : o0.length ≤ o.length := by omega
    simp -implicitDefEqProofs [hfr, q1, q2, q4, q5, q9, q10, q11, hlt, hg, hw, hc, setO_last, getO_last, l1, a1, -getElem?_pos, List.getElem?_cons_zero]
    have k1 := lt_of_getO g0
    have k2 := lt_of_getO g1
    have g0' := a4 _ _ (getO_push g0 _) (G.not (by omega))
    have g1' := a4 _ _ (getO_push g1 _) (G.not (by omega))
    rw [List.length_append] at a3
    refine ⟨rest, by simp, pre ++ [t], by simp [e], by simp, by simp at a2; omega, g0', g1', ?_, fun i y hy => a4 _ _ (getO_push (K i y hy) _) (G.not (by have := lt_of_getO hy; omega))⟩
    exact .inr ⟨o.length + 1, by omega, by simp, by simpa using a3⟩

theorem copy_eq : ∀ (t : Tm), t.ok → t.all.length ≤ 4294967296 → ∀ (o0 : List Obj) (ro : Nat) (df : List Nat), (D T).call 23 [t.av] ⟨o0, ro, df⟩ = some (t.av, ⟨o0, ro, df⟩)
  | .mk a s b l, hok, hn, o0, ro, df => by
    have hok' := hok
    simp only [Tm.ok] at hok
    have hts := okL_iff.1 hok.2.2.2.2
    simp only [Tm.all, List.length_cons] at hn
    have ll := le_all l
    have hw := fun o ro df => with_eq a s b l (by omega) 23 [] id o (fun u hu o ro df _ => copy_eq u (hts u hu) (Nat.le_trans (mem_all hu) (by omega)) o ro df) ro df
    simp only [Tm.av, Tm.cells_mk, List.map_id] at hw
    apply call_by (by exact rfl : T 23 = some _) (by simp)
    intro fr hfr hsl
    have s0 := hsl 0 _ rfl
    simp only [Tm.av, Tm.cells_mk] at s0
    have hfl := flat_list l
    simp -implicitDefEqProofs [hfr, s0, hw, Tm.av, Tm.cells_mk, get_base0, get_base, set_base0, set_base, hfl]
termination_by t => SizeOf.sizeOf t
decreasing_by
  have := List.sizeOf_lt_of_mem hu
  simp
  omega

mutual
/-- a term with another one in the place of a part -/
def repl (f u : Tm) : Tm → Tm
  | .mk a s b l => if cm (.mk a s b l) f = 0 then u else .mk a s b (replL f u l)
def replL (f u : Tm) : List Tm → List Tm
  | [] => []
  | t :: l => repl f u t :: replL f u l
end

theorem replL_map (f u : Tm) : ∀ l : List Tm, replL f u l = l.map (repl f u)
  | [] => rfl
  | t :: l => by simp [replL, replL_map f u l]

theorem replace_eq (f u : Tm) (hf : f.ok) (hu : u.ok) (hun : u.all.length ≤ 4294967296) : ∀ (t : Tm), t.ok → t.all.length ≤ 4294967296 → ∀ (o0 : List Obj) (ro : Nat) (df : List Nat),
    (D T).call 25 [t.av, f.av, u.av] ⟨o0, ro, df⟩ = some ((repl f u t).av, ⟨o0, ro, df⟩)
  | .mk a s b l, hok, hn, o0, ro, df => by
    have hok' := hok
    simp only [Tm.ok] at hok
    have hts := okL_iff.1 hok.2.2.2.2
    simp only [Tm.all, List.length_cons] at hn
    have ll := le_all l
    have hc := fun o ro df => copy_eq u hu hun o ro df
    have hs := fun st => same_eq (.mk a s b l) f hok' hf st
    have ih := fun x (hx : x ∈ l) o ro df => replace_eq f u hf hu hun x (hts x hx) (Nat.le_trans (mem_all hx) (by omega)) o ro df
    have one : ∀ x ∈ l, ∀ o ro df, o[o0.length + 1]? = some (.arr 24 4 [f.cells]) → o[o0.length + 2]? = some (.arr 24 4 [u.cells]) →
        (D T).call 43 [.agg x.cells, .ptr (o0.length + 1) 0 0, .ptr (o0.length + 2) 0 0] ⟨o, ro, df⟩ = some (.agg (repl f u x).cells, ⟨o, ro, df⟩) := by
      intro x hx o ro df g1 g2
      have e := fun o ro df => ih x hx o ro df
      simp only [Tm.av] at e
      have l1 : o0.length + 1 < o.length := lt_of_getO g1
      have l2 : o0.length + 2 < o.length := lt_of_getO g2
      apply call_by (by exact rfl : T 43 = some _) (by simp)
      intro fr hfr hsl
      have s0 := hsl 0 _ rfl
      have s1 := hsl 1 _ rfl
      have s2 := hsl 2 _ rfl
      have hfl := flat_cells (repl f u x)
      obtain ⟨a', s', b', l', er⟩ : ∃ a' s' b' l', repl f u x = .mk a' s' b' l' := by cases repl f u x; exact ⟨_, _, _, _, rfl⟩
      rw [er] at e hfl ⊢
      have hfl' := flat_list l'
      simp only [Tm.cells_mk] at e
      simp -implicitDefEqProofs [hfr, s0, s1, s2, e, get_base0, get_base, set_base0, set_base, l1, l2, g1, g2, List.getElem?_append_left, -getElem?_pos, List.getElem?_cons_zero, List.getElem?_cons_succ, Tm.cells_mk, hfl']
    have hw := fun o (h1 : o[o0.length + 1]? = some (Obj.arr 24 4 [f.cells])) (h2 : o[o0.length + 2]? = some (Obj.arr 24 4 [u.cells])) ro df => with_eq a s b l (by omega) 43 [.ptr (o0.length + 1) 0 0, .ptr (o0.length + 2) 0 0] (repl f u) o
      (fun x hx o' ro df K => one x hx o' ro df (K _ _ h1) (K _ _ h2)) ro df
    simp only [Tm.av, Tm.cells_mk] at hw hc hs
    apply call_by (by exact rfl : T 25 = some _) (by simp)
    intro fr hfr hsl
    have s0 := hsl 0 _ rfl
    have s1 := hsl 1 _ rfl
    have s2 := hsl 2 _ rfl
    simp only [Tm.av, Tm.cells_mk] at s0 s1 s2
    by_cases hz : cm (.mk a s b l) f = 0
    · have er : repl f u (.mk a s b l) = u := by simp [repl, hz]
      rw [er]
      obtain ⟨a', s', b', l', eu⟩ : ∃ a' s' b' l', u = .mk a' s' b' l' := by cases u; exact ⟨_, _, _, _, rfl⟩
      subst eu
      have hfl := flat_list l'
      simp only [Tm.cells_mk] at hc s2
      simp -implicitDefEqProofs [hfr, s0, s1, s2, hs, hc, hz, get_base0, get_base, set_base0, set_base, -List.map_map, Tm.av, Tm.cells_mk, hfl]
    · have er : repl f u (.mk a s b l) = .mk a s b (l.map (repl f u)) := by simp [repl, hz, replL_map]
      have hfl := flat_list (l.map (repl f u))
      have hw' := hw (o0 ++ [Obj.arr 24 4 [(Tm.mk a s b l).cells], Obj.arr 24 4 [f.cells], Obj.arr 24 4 [u.cells], Obj.arr 24 4 [[.int .i64 0, .str ⟨#[]⟩, .int .i64 0, .fsl 4 []]]]) (by simp [get_base]) (by simp [get_base])
      simp only [Tm.cells_mk] at hw'
      rw [er]
      simp -implicitDefEqProofs [hfr, s0, s1, s2, hs, hw', hz, get_base0, get_base, set_base0, set_base, -List.map_map, Tm.av, Tm.cells_mk, hfl]
termination_by t => SizeOf.sizeOf t
decreasing_by
  have := List.sizeOf_lt_of_mem hx
  simp
  omega

end Go.Proofs.Ytcoonnbkmklenaa.A
