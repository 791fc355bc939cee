/- BindLess: for any claim and any term the law's function answers true, and its arguments read as before. No condition beyond the given statement's. -/
import Derived.Test.YtjmhkbnhfpgciaaH3
import Derived.Test.YtjmhkbnhfpgciaaG
namespace Go.Proofs.Ytjmhkbnhfpgciaa.A
open Go
set_option maxRecDepth 10000
set_option linter.unusedSimpArgs false

/-- those above 0, each one less -/
def dec (l : List Int) : List Int := (l.filter fun n => decide (0 < n)).map fun n => n - 1
theorem dec_ap (l m : List Int) : dec (l ++ m) = dec l ++ dec m := by simp [dec]
theorem dec_mem (l : List Int) (x : Int) : x ∈ dec l ↔ x + 1 ∈ l ∧ 0 ≤ x := by
  simp only [dec, List.mem_map, List.mem_filter, decide_eq_true_eq]
  constructor
  · rintro ⟨n, ⟨h1, h2⟩, rfl⟩
    exact ⟨by rw [Int.sub_add_cancel]; exact h1, by omega⟩
  · rintro ⟨h1, h2⟩
    exact ⟨x + 1, ⟨h1, by omega⟩, by omega⟩
theorem dec_len (l : List Int) : (dec l).length ≤ l.length := by
  simp only [dec, List.length_map]
  exact List.length_filter_le _ _
theorem dec_rise {l : List Int} (h : RiseI l) : RiseI (dec l) := by
  simp only [dec, RiseI, List.pairwise_map]
  exact (h.filter _).imp fun {a b} hab => by omega

theorem dec_rising (l : List Int) : dec (risingI l) = risingI (dec l) := by
  obtain ⟨h1, h2⟩ := risingI_spec l
  obtain ⟨h3, h4⟩ := risingI_spec (dec l)
  exact riseI_eq (dec_rise h1) h3 fun x => by rw [h4, dec_mem, dec_mem, h2]

/-! terms without loose numbers -/

theorem closed_self {k : Nat} {a s b} {l : List Tm} (h : lsT k (.mk a s b l) = []) : lq k a b = false ∧ lsTL k l = [] := by
  simp only [lsT, List.append_eq_nil_iff] at h
  refine ⟨?_, h.2⟩
  cases e : lq k a b with
  | false => rfl
  | true => rw [e] at h; simp at h

theorem closed_mem {k : Nat} : ∀ {l : List Tm}, lsTL k l = [] → ∀ t ∈ l, lsT k t = []
  | [], _, t, ht => by cases ht
  | u :: l, h, t, ht => by
    simp only [lsTL, List.append_eq_nil_iff] at h
    rcases List.mem_cons.1 ht with rfl | ht
    · exact h.1
    · exact closed_mem h.2 t ht

theorem closed_lift (by' : Int) : ∀ t : Tm, lsT 0 t = [] → tmap (fLift by' 0 0) t = t
  | .mk a s b l, h => by
    obtain ⟨h1, h2⟩ := closed_self h
    have ih := fun u (hu : u ∈ l) => closed_lift by' u (closed_mem h2 u hu)
    rw [tmap_false (fLift by' 0 0) (a' := a) (s' := s) (b' := b) (l' := l) (by simp [fLift, h1])]
    have : l.map (tmap (fLift by' 0 0)) = l := by
      conv => rhs; rw [← List.map_id l]
      exact List.map_congr_left fun u hu => ih u hu
    rw [this]
termination_by t => SizeOf.sizeOf t
decreasing_by
  have := List.sizeOf_lt_of_mem hu
  simp
  omega

mutual
theorem closed_deep (k : Nat) : ∀ t : Tm, lsT 0 t = [] → lsT k t = []
  | .mk a s b l, h => by
    obtain ⟨h1, h2⟩ := closed_self h
    have h3 : lq k a b = false := by
      unfold lq at h1 ⊢
      cases e : a == 2 with
      | false => rfl
      | true =>
        rw [e] at h1
        simp at h1 ⊢
        omega
    simp [lsT, h3, closed_deepL k l h2]
theorem closed_deepL (k : Nat) : ∀ l : List Tm, lsTL 0 l = [] → lsTL k l = []
  | [], _ => rfl
  | t :: l, h => by
    simp only [lsTL, List.append_eq_nil_iff] at h
    simp [lsTL, closed_deep k t h.1, closed_deepL k l h.2]
end

theorem lsTL_map {k : Nat} (f : Tm → Tm) : ∀ l : List Tm, (∀ u ∈ l, lsT k (f u) = dec (lsT k u)) → lsTL k (l.map f) = dec (lsTL k l)
  | [], _ => rfl
  | t :: l, h => by
    simp only [List.map_cons, lsTL, dec_ap]
    rw [h t (List.mem_cons_self ..), lsTL_map f l fun u hu => h u (List.mem_cons_of_mem _ hu)]

theorem less_term (x : Tm) (hx : lsT 0 x = []) (k : Nat) (hk : k ≤ 4294967296) : ∀ t : Tm, t.ok → goodT t → lsT k (tmap (fOpen x k) t) = dec (lsT k t)
  | .mk a s b l, hok, hg => by
    simp only [Tm.ok] at hok
    have hl := okL_iff.1 hok.2.2.2.2
    have ih := fun u (hu : u ∈ l) => less_term x hx k hk u (hl u hu) (good_sub hg u hu)
    have hm := lsTL_map (k := k) (tmap (fOpen x k)) l ih
    cases e : lq k a b with
    | false =>
      rw [tmap_false (fOpen x k) (a' := a) (s' := s) (b' := b) (l' := l) (by simp [fOpen, e])]
      simp only [lsT, e, cond_false, List.nil_append, hm]
    | true =>
      have ha : a = 2 ∧ ¬ b < (k : Int) := by
        unfold lq at e
        simp at e
        exact ⟨e.1, by omega⟩
      obtain ⟨rfl, hb⟩ := ha
      have hn : nOf k b = b - k := nOf_id hb (by omega)
      by_cases h0 : b = (k : Int)
      · obtain ⟨rfl, rfl⟩ := (good_self hg).2 rfl
        have hz : (nOf k b == 0) = true := by rw [hn]; simp; omega
        rw [tmap_true (fOpen x k) (v := x) (by simp [fOpen, e, hz, closed_lift (k : Int) x hx])]
        rw [closed_deep k x hx]
        have : lsT k (.mk 2 ⟨#[]⟩ b []) = [0] := by
          simp only [lsT, e, cond_true, hn, lsTL, List.append_nil]
          rw [h0, Int.sub_self]
        rw [this]
        rfl
      · have hne : (nOf k b == 0) = false := by rw [hn]; simp; omega
        have e1 : IntKind.i64.wrap (b - 1) = b - 1 := by rw [wrap_id] <;> omega
        have h5 : ¬ (b - 1 < (k : Int)) := by omega
        have hq : lq k 2 (b - 1) = true := by simp [lq, h5]
        have hn1 : nOf k (b - 1) = b - 1 - k := nOf_id h5 (by omega)
        have hd : dec [b - (k : Int)] = [b - 1 - (k : Int)] := by
          have : 0 < b - (k : Int) := by omega
          have e2 : b - (k : Int) - 1 = b - 1 - (k : Int) := by omega
          simp only [dec, List.filter_cons, this, decide_true, if_true, List.filter_nil, List.map_cons, List.map_nil, e2]
        rw [tmap_false (fOpen x k) (a' := 2) (s' := s) (b' := b - 1) (l' := l) (by simp [fOpen, e, hne, e1])]
        simp only [lsT, e, hq, cond_true, hm, dec_ap, hn, hn1, hd]
termination_by t => SizeOf.sizeOf t
decreasing_by
  have := List.sizeOf_lt_of_mem hu
  simp
  omega

mutual
theorem less_claim (x : Tm) (hx : lsT 0 x = []) : ∀ (c : Cl) (d : Nat), d + c.ct ≤ 4294967296 → (∀ t ∈ partTs c, t.ok ∧ goodT t) → lsC d (cmapW (fOpen x) d c) = dec (lsC d c)
  | .mk a s u ts cs, d, hd, h => by
    simp only [Cl.ct] at hd
    have hinn : inn a d ≤ d + 1 := by unfold inn; cases binder a <;> simp
    simp only [partTs, List.mem_append] at h
    have h1 := lsTL_map (k := d) (tmap (fOpen x d)) ts fun t ht => less_term x hx d (by omega) t (h t (.inl ht)).1 (h t (.inl ht)).2
    have h2 := less_claims x hx cs (inn a d) (by omega) (fun t ht => h t (.inr ht))
    simp only [cmapW, lsC, dec_ap, h1, h2]
theorem less_claims (x : Tm) (hx : lsT 0 x = []) : ∀ (l : List Cl) (d : Nat), d + ctL l ≤ 4294967296 → (∀ t ∈ partTsL l, t.ok ∧ goodT t) → lsCL d (cmapWL (fOpen x) d l) = dec (lsCL d l)
  | [], d, _, _ => rfl
  | c :: l, d, hd, h => by
    simp only [ctL] at hd
    simp only [partTsL, List.mem_append] at h
    have h1 := less_claim x hx c d (by omega) (fun t ht => h t (.inl ht))
    have h2 := less_claims x hx l d (by omega) (fun t ht => h t (.inr ht))
    simp only [cmapWL, lsCL, dec_ap, h1, h2]
end

mutual
theorem lsT_rng (k : Nat) : ∀ t : Tm, ∀ n ∈ lsT k t, -9223372036854775808 ≤ n ∧ n ≤ 9223372036854775807
  | .mk a s b l, n, h => by
    simp only [lsT, List.mem_append] at h
    rcases h with h | h
    · cases e : lq k a b with
      | false => rw [e] at h; cases h
      | true =>
        rw [e] at h
        simp at h
        rw [h]
        exact wrap_rng _
    · exact lsTL_rng k l n h
theorem lsTL_rng (k : Nat) : ∀ l : List Tm, ∀ n ∈ lsTL k l, -9223372036854775808 ≤ n ∧ n ≤ 9223372036854775807
  | [], n, h => by cases h
  | t :: l, n, h => by
    simp only [lsTL, List.mem_append] at h
    rcases h with h | h
    · exact lsT_rng k t n h
    · exact lsTL_rng k l n h
end
mutual
theorem lsC_rng : ∀ (d : Nat) (c : Cl), ∀ n ∈ lsC d c, -9223372036854775808 ≤ n ∧ n ≤ 9223372036854775807
  | d, .mk a s u ts cs, n, h => by
    simp only [lsC, List.mem_append] at h
    rcases h with h | h
    · exact lsTL_rng d ts n h
    · exact lsCL_rng (inn a d) cs n h
theorem lsCL_rng : ∀ (d : Nat) (l : List Cl), ∀ n ∈ lsCL d l, -9223372036854775808 ≤ n ∧ n ≤ 9223372036854775807
  | d, [], n, h => by cases h
  | d, t :: l, n, h => by
    simp only [lsCL, List.mem_append] at h
    rcases h with h | h
    · exact lsC_rng d t n h
    · exact lsCL_rng d l n h
end

theorem risingI_nil (l : List Int) (h : risingI l = []) : l = [] := by
  cases l with
  | nil => rfl
  | cons x l =>
    have := ((risingI_spec (x :: l)).2 x).2 (List.mem_cons_self ..)
    rw [h] at this
    cases this

mutual
theorem cmapW_ctb (f : Nat → Tm → Tm × Bool) (m : Nat) (h : ∀ d t, (f d t).2 = true → (f d t).1.all.length ≤ m) : ∀ (c : Cl) (d : Nat), (cmapW f d c).ct ≤ c.ct * (m + 1)
  | .mk a s u ts cs, d => by
    have h1 := tmapL_lenb (f d) m ts (h d)
    have h2 := cmapWL_ctb f m h cs (inn a d)
    rw [tmapL_map] at h1
    simp only [cmapW, Cl.ct, Nat.add_mul]
    omega
theorem cmapWL_ctb (f : Nat → Tm → Tm × Bool) (m : Nat) (h : ∀ d t, (f d t).2 = true → (f d t).1.all.length ≤ m) : ∀ (l : List Cl) (d : Nat), ctL (cmapWL f d l) ≤ ctL l * (m + 1)
  | [], d => by simp [cmapWL, ctL]
  | c :: l, d => by
    have h1 := cmapW_ctb f m h c d
    have h2 := cmapWL_ctb f m h l d
    simp only [cmapWL, ctL, Nat.add_mul]
    omega
theorem tmap_lenb (f : Tm → Tm × Bool) (m : Nat) : ∀ t : Tm, (∀ t, (f t).2 = true → (f t).1.all.length ≤ m) → (tmap f t).all.length ≤ t.all.length * (m + 1)
  | .mk a s b l, h => by
    have hl := tmapL_lenb f m l h
    have h0 := h (.mk a s b l)
    simp only [tmap, Tm.all, List.length_cons, Nat.add_mul]
    generalize f (.mk a s b l) = p at h0 ⊢
    obtain ⟨⟨a', s', b', l'⟩, d⟩ := p
    cases d with
    | true =>
      have := h0 rfl
      simp only at this ⊢
      omega
    | false =>
      simp only [Tm.all, List.length_cons]
      omega
theorem tmapL_lenb (f : Tm → Tm × Bool) (m : Nat) : ∀ l : List Tm, (∀ t, (f t).2 = true → (f t).1.all.length ≤ m) → (allL (tmapL f l)).length ≤ (allL l).length * (m + 1)
  | [], _ => by simp [tmapL, allL]
  | t :: l, h => by
    have h1 := tmap_lenb f m t h
    have h2 := tmapL_lenb f m l h
    simp only [tmapL, allL, List.length_append, Nat.add_mul]
    omega
end

theorem fOpen_len (x : Tm) (hx : lsT 0 x = []) (d : Nat) (t : Tm) (h : (fOpen x d t).2 = true) : (fOpen x d t).1.all.length ≤ x.all.length := by
  obtain ⟨a, s, b, l⟩ := t
  unfold fOpen at h ⊢
  simp only at h ⊢
  cases c2 : lq d a b with
  | false => rw [c2] at h; simp at h
  | true =>
    rw [c2] at h
    cases c3 : nOf d b == 0 with
    | false => rw [c3] at h; simp at h
    | true => simp [closed_lift (d : Int) x hx]


attribute [-simp] List.all_eq_true put slot_def ld idxA lenOf elems canA app hand

theorem less_loop {b0 b1 : Obj} (L : List Int) (hL : L.length ≤ 4294967296) (hr : ∀ n ∈ L, n ≤ 9223372036854775807) (fr : List AV) (Q : AE → List AV → St → Prop) (hfr : fr.length = 54) (q2 : slot fr 2 = .ptr 0 0 0) (q3 : slot fr 3 = .ptr 1 0 0) (q5 : slot fr 5 = .fsl 1 []) (q34 : slot fr 34 = .sl 1 (intA L)) (q35 : slot fr 35 = .int .i64 (L.length : Int)) (q36 : slot fr 36 = .int .i64 0)
    (kk : ∀ (fr' : List AV) v o', fr'.length = 54 → slot fr' 2 = .ptr 0 0 0 → slot fr' 3 = .ptr 1 0 0 → slot fr' 5 = v → Gx 3 1 2 o' v (intA (dec L)) → 2 ≤ o'.length → o'[0]? = some b0 → o'[1]? = some b1 → Q (.exit 0) fr' ⟨o', 0, []⟩) :
    ∃ e fr' st', (D T).loop false L5_0 fr ⟨[b0, b1], 0, []⟩ = some (e, fr', st') ∧ Q e fr' st' := by
  apply loop_inv L5_0.eq_1 List.length (fun (rest : List Int) fr st => ∃ pre v out o', L = pre ++ rest ∧ fr.length = 54 ∧ slot fr 2 = .ptr 0 0 0 ∧ slot fr 3 = .ptr 1 0 0 ∧ slot fr 5 = v ∧ slot fr 34 = .sl 1 (intA L) ∧ slot fr 35 = .int .i64 (L.length : Int) ∧ slot fr 36 = .int .i64 (pre.length : Int) ∧
      st = ⟨o', 0, []⟩ ∧ dec L = out ++ dec rest ∧ Gx 3 1 2 o' v (intA out) ∧ out.length ≤ pre.length ∧ 2 ≤ o'.length ∧ o'[0]? = some b0 ∧ o'[1]? = some b1) ?_ L
      ⟨[], .fsl 1 [], [], _, rfl, hfr, q2, q3, q5, q34, q35, q36, rfl, rfl, ⟨.inl rfl, fun _ => rfl⟩, by simp, by simp, rfl, rfl⟩
  clear hfr q2 q3 q5 q34 q35 q36
  rintro rest fr _ ⟨pre, v, out, o', e, hfr, q2, q3, q5, q34, q35, q36, rfl, hd, G, hol, hlo, g0, g1⟩
  have hgc := gx_canA G
  cases rest with
  | nil =>
    have hlt := idx_end e
    simp -implicitDefEqProofs [hfr, q2, q3, q5, q34, q35, q36, hlt]
    have hd' : dec L = out := by rw [hd]; simp [dec]
    exact kk _ v o' (by simp [hfr]) (by simp [hfr, q2]) (by simp [hfr, q3]) (by simp [hfr, q5]) (by rw [hd']; exact G) hlo g0 g1
  | cons x rest =>
    obtain ⟨hlt, hgx, hpl⟩ := idx_at e
    have hg' := intA_get hgx
    have hw := idx_next e (show L.length ≤ 9223372036854775807 by omega)
    by_cases hx : 0 < x
    · have hrx := hr x (by rw [e]; simp)
      have hwx : IntKind.i64.wrap (x - 1) = x - 1 := by rw [wrap_id] <;> omega
      have hdx : dec (x :: rest) = (x - 1) :: dec rest := by simp [dec, hx]
      obtain ⟨o1, a1, c1, W1⟩ := gx_appw G (ro := 0) (df := []) (bytes := 8) (by omega) hlo (elems_fsl _ 1 [[.int .i64 (x - 1)]]) (room_of0 (by simp; omega) (by simp; omega))
      simp only [intA_len, List.length_cons, List.length_nil, Nat.zero_add] at a1 W1
      have k0 := (W1.keep 0 (by omega) (fun n f => G.not (by omega) n f)).1
      have k1 := (W1.keep 1 (by omega) (fun n f => G.not (by omega) n f)).1
      simp -implicitDefEqProofs [hfr, q2, q3, q5, q34, q35, q36, hlt, hg', hw, hx, hwx, hgc, a1]
      refine ⟨rest, by simp, pre ++ [x], by simp [e], by simp, out ++ [x - 1], by rw [hd, hdx]; simp, ?_, by simp; omega, by omega, by rw [k0]; exact g0, by rw [k1]; exact g1⟩
      have := W1.G
      simpa [intA] using this
    · have hdx : dec (x :: rest) = dec rest := by simp [dec, hx]
      simp -implicitDefEqProofs [hfr, q2, q3, q5, q34, q35, q36, hlt, hg', hw, hx]
      exact ⟨rest, by simp, pre ++ [x], by simp [e], by simp, out, by rw [hd, hdx], G, by simp; omega, hlo, g0, g1⟩

theorem law_less (c : Cl) (t : Tm) (hc : c.ok) (ht : t.ok) :
    (D T).call 5 [c.av, t.av] st0 = some (.bool true, st0) := by
  have sb := fun st => big_eq c hc 200 (by omega) (by omega) st
  have ss := fun st => size_eq t ht 30 st (by omega) (by omega)
  have al := fun o ro df => alive_any o ro df
  have hR := fun o ro df => crRight_eq c hc o ro df
  have hS := fun o ro df => small_eq c hc o ro df
  have w1 := fun h => ct_wt c 200 (by omega) h
  have w2 := fun h => sz_allC t 30 (by omega) h
  have h1 := fun (k : t.all.length ≤ 4294967295) o ro df => rLooseTerm_eq t ht k o ro df
  have h2 := fun (k : c.ct ≤ 4294967295) o ro df => rLoose_eq c hc k o ro df
  rw [← risingI_put] at h1 h2
  have hcl := risingI_nil (lsT 0 t)
  have hd := dec_rising (lsC 0 c)
  have hm := (risingI_spec (lsC 0 c)).2
  have hrg := lsC_rng 0 c
  have hlen := risingI_len (lsC 0 c)
  have hlen2 := lsC_len 0 c
  obtain ⟨L, hL⟩ : ∃ L, L = risingI (lsC 0 c) := ⟨_, rfl⟩
  obtain ⟨Z, hZ⟩ : ∃ Z, Z = risingI (lsT 0 t) := ⟨_, rfl⟩
  rw [← hL] at h2 hd hm hlen
  rw [← hZ] at h1 hcl
  have hr : ∀ n ∈ L, n ≤ 9223372036854775807 := fun n hn => (hrg n ((hm n).1 hn)).2
  obtain ⟨C, hC⟩ : ∃ C, C = cmapW (fOpen t) 0 c := ⟨_, rfl⟩
  have h3 := fun (k : c.ct ≤ 4294967296) (k2 : t.all.length ≤ 4294967296) o ro df => Open_eq c hc k t ht k2 o ro df
  rw [← hC] at h3
  have okC : c.ct ≤ 4294967296 → C.ok := fun k => by rw [hC]; exact cmapW_ok _ 4294967296 (fun d u hd hu => fOpen_ok _ ht d u hu) c 0 (by omega) hc
  have hCl : lsT 0 t = [] → C.ct ≤ c.ct * (t.all.length + 1) := fun k => by rw [hC]; exact cmapW_ctb _ _ (fun d u hu => fOpen_len t k d u hu) c 0
  have hCn : lsT 0 t = [] → rightC c = 0 → c.ct ≤ 4294967296 → risingI (lsC 0 C) = dec L := fun k1 k2 k3 => by
    rw [hC, less_claim t k1 c 0 (by omega) (fun u hu => ⟨partTs_ok hc u hu, goodC_parts c (right_goodC c k2) u hu⟩), hd]
  have h4 := fun (k : C.ok) (k2 : C.ct ≤ 4294967296) o ro df => Loose_eq C k k2 o ro df
  clear hC hd hm hrg hL hZ
  obtain ⟨r, hrr⟩ : ∃ r, r = rightC c := ⟨_, rfl⟩
  rw [← hrr] at hR hCn
  clear hrr
  have lp := fun b0 b1 (k : L.length ≤ 4294967296) fr Q => less_loop (b0 := b0) (b1 := b1) L k hr fr Q
  obtain ⟨a, s, u, ts, cs⟩ := c
  obtain ⟨xa, xs, xb, xl⟩ := t
  obtain ⟨a1, s1', u1, ts1, cs1⟩ := C
  simp only [Cl.av, Cl.cells_mk, Tm.av, Tm.cells_mk] at sb ss hR hS h1 h2 h3 h4
  apply call_by (by exact rfl : T 5 = some _) (by simp)
  intro fr hfr hsl
  have s0 := hsl 0 _ rfl
  have s1 := hsl 1 _ rfl
  simp only [Cl.av, Cl.cells_mk, Tm.av, Tm.cells_mk] at s0 s1
  by_cases k1 : 200 < wt (.mk a s u ts cs) 200
  · simp -implicitDefEqProofs [hfr, s0, s1, st0, sb, al, k1, get_base0, get_base, -getElem?_pos, List.getElem?_cons_zero, List.getElem?_cons_succ]
  · have w1 := w1 k1
    by_cases k2 : 30 < sz (.mk xa xs xb xl) 30
    · simp -implicitDefEqProofs [hfr, s0, s1, st0, sb, ss, al, k1, k2, get_base0, get_base, -getElem?_pos, List.getElem?_cons_zero, List.getElem?_cons_succ]
    · have w2 := w2 (by omega)
      by_cases k3 : r = 0
      · subst k3
        cases k4 : smC (.mk a s u ts cs) with
        | false => simp -implicitDefEqProofs [hfr, s0, s1, st0, sb, ss, al, hR, hS, k1, k2, k4, get_base0, get_base, -getElem?_pos, List.getElem?_cons_zero, List.getElem?_cons_succ]
        | true =>
          have h1 := h1 (by omega)
          cases Z with
          | cons z Z =>
            have hz : ¬ ((Z.length : Int) + 1 ≤ 0) := by omega
            have hz2 : 0 < ((Z.length : Int) + 1) := by omega
            simp -implicitDefEqProofs [hfr, s0, s1, st0, sb, ss, al, hR, hS, h1, hz, hz2, k1, k2, k4, get_base0, get_base, -getElem?_pos, List.getElem?_cons_zero, List.getElem?_cons_succ]
          | nil =>
            have hcl := hcl rfl
            have h2 := h2 (by omega)
            have h3 := h3 (by omega) (by omega)
            have hb : (Tm.mk xa xs xb xl).all.length + 1 ≤ 31 := by omega
            have hb2 := Nat.mul_le_mul_left (Cl.mk a s u ts cs).ct hb
            have hCl := hCl hcl
            have h4 := h4 (okC (by omega)) (by omega)
            rw [hCn hcl rfl (by omega)] at h4
            have hdl := dec_len L
            simp -implicitDefEqProofs [hfr, s0, s1, st0, sb, ss, al, hR, hS, h1, h2, k1, k2, k4, get_base0, get_base, -getElem?_pos, List.getElem?_cons_zero, List.getElem?_cons_succ]
            apply lp _ _ (by omega) _ _ (by simp [hfr]) (by simp [hfr]) (by simp [hfr]) (by simp [hfr]) (by simp [hfr]) (by simp [hfr]) (by simp [hfr])
            clear lp hfr s0 s1 hsl
            intro fr v o' hfr q2 q3 q5 G hlo g0 g1
            have hgc := gx_canA G
            have hi := fun ro df => ints_true (dec L) (o := o') (ls_sl _) (gr_ls G.G) (by omega) ro df
            simp -implicitDefEqProofs [hfr, q2, q3, q5, g0, g1, hgc, h3, h4, hi, -getElem?_pos, List.getElem?_cons_zero, List.getElem?_cons_succ]
      · have k3' : (r != 0) = true := by simpa using k3
        simp -implicitDefEqProofs [hfr, s0, s1, st0, sb, ss, al, hR, k1, k2, k3, k3', get_base0, get_base, -getElem?_pos, List.getElem?_cons_zero, List.getElem?_cons_succ]

end Go.Proofs.Ytjmhkbnhfpgciaa.A
