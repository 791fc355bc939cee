/- How much there is in a cut, and in a proof: may it be tried? -/
import Derived.Test.YtkecobdhgabknaaDoorX2
namespace Go.Proofs.YtkecobdhgabknaaDoor.A
open Go
set_option maxRecDepth 10000
set_option linter.unusedSimpArgs false
set_option linter.unusedVariables false
attribute [-simp] List.all_eq_true put slot_def ld idxA lenOf elems canA app hand

mutual
def cw : Cu → Int → Int
  | .mk _ fr b _ _ ms cs, m => cwL cs m (1 + fr.length + b.length + ms.length)
def cwL : List Cu → Int → Int → Int
  | [], _, n => n
  | c :: l, m, n => if n ≤ m then cwL l m (n + cw c (m - n)) else n
end

mutual
theorem cw_le : ∀ (c : Cu) (m : Int), c.ok → 0 ≤ m → 1 ≤ cw c m ∧ cw c m ≤ m + 422212465065985
  | .mk _ fr b _ _ ms cs, m, hok, hm => by
    simp only [Cu.ok] at hok
    obtain ⟨_, o1, o2, _, _, o3, _, o5⟩ := hok
    have l1 := o1.2
    have l2 := o2.2
    have l3 := o3.2
    unfold mxB at l1 l2 l3
    simp only [cw]
    exact cwL_le cs m _ (okCu_iff.1 o5) hm (by omega) (by omega)
theorem cwL_le : ∀ (l : List Cu) (m n : Int), (∀ c ∈ l, c.ok) → 0 ≤ m → 1 ≤ n → n ≤ m + 422212465065985 → 1 ≤ cwL l m n ∧ cwL l m n ≤ m + 422212465065985
  | [], m, n, _, _, h1, h2 => by simp only [cwL]; exact ⟨h1, h2⟩
  | c :: l, m, n, hok, hm, h1, h2 => by
    simp only [cwL]
    split
    · have := cw_le c (m - n) (hok c (List.mem_cons_self ..)) (by omega)
      exact cwL_le l m _ (fun x hx => hok x (List.mem_cons_of_mem _ hx)) hm (by omega) (by omega)
    · exact ⟨h1, h2⟩
end

theorem cut_eq : ∀ (c : Cu), c.ok → ∀ (m : Int) (st : St), 0 ≤ m → m ≤ 1152921504606846976 → (D T).call 68 [c.av, .int .i64 m] st = some (.int .i64 (cw c m), st)
  | .mk kd fr0 by0 dv k ms cs, hok, m, ⟨o, ro, df⟩, hm, hm' => by
    simp only [Cu.ok] at hok
    obtain ⟨_, o1, o2, _, _, o3, o4, o5⟩ := hok
    have hl := okCu_iff.1 o5
    have l1 := o1.2
    have l2 := o2.2
    have l3 := o3.2
    unfold mxB at l1 l2 l3 o4
    have mx : cs.length ≤ 9223372036854775807 := by omega
    have ih := fun x (hx : x ∈ cs) m st h1 h2 => cut_eq x (hl x hx) m st h1 h2
    simp only [Cu.av] at ih
    apply call_by (by exact rfl : T 68 = some _) (by simp)
    intro fr hfr hsl
    have s0 := hsl 0 _ rfl
    have s1 := hsl 1 _ rfl
    simp only [Cu.av, Cu.cells_mk] at s0
    have w1 : IntKind.i64.wrap (1 + (fr0.length : Int)) = 1 + fr0.length := wrap_id (by omega) (by omega)
    have w2 : IntKind.i64.wrap (1 + (fr0.length : Int) + (by0.length : Int)) = 1 + fr0.length + by0.length := wrap_id (by omega) (by omega)
    have w3 : IntKind.i64.wrap (1 + (fr0.length : Int) + (by0.length : Int) + (ms.length : Int)) = 1 + fr0.length + by0.length + ms.length := wrap_id (by omega) (by omega)
    simp -implicitDefEqProofs [hfr, s0, s1, get_base0, intA_len, moA_len, w1, w2, w3]
    apply loop_inv L68_0.eq_1 List.length (fun (rest : List Cu) fr st => ∃ pre n, cs = pre ++ rest ∧ fr.length = 44 ∧ slot fr 1 = .int .i64 m ∧ slot fr 2 = .ptr o.length 0 0 ∧ slot fr 5 = .int .i64 n ∧ slot fr 6 = .int .i64 (pre.length : Int) ∧
      st = ⟨o ++ [.arr 37 7 [[.int .i64 kd, .sl 1 (intA fr0), .sl 1 (intA by0), .int .i64 dv, .int .i64 k, .sl 2 (moA ms), .sl 7 (cs.map Cu.cells)]]], o.length, []⟩ ∧ 1 ≤ n ∧ n ≤ m + 422212465065985 ∧ cw (.mk kd fr0 by0 dv k ms cs) m = cwL rest m n) ?_ cs
      ⟨[], 1 + fr0.length + by0.length + ms.length, rfl, by simp [hfr], by simp [hfr, s1], by simp [hfr], by simp [hfr], by simp [hfr], rfl, by omega, by omega, by simp [cw]⟩
    rintro rest fr _ ⟨pre, n, e, hfr, q1, q2, q5, q6, rfl, n1, n2, hn⟩
    cases rest with
    | nil =>
      have hlt := idx_end e
      simp -implicitDefEqProofs [hfr, q1, q2, q5, q6, hlt, get_base0, hn, cwL]
    | cons c rest =>
      obtain ⟨hlt, hg, _⟩ := idx_at e
      have hw := idx_next e mx
      by_cases hnm : n ≤ m
      · have hc := fun st => ih c (by simp [e]) (m - n) st (by omega) (by omega)
        have hb := cw_le c (m - n) (hl c (by simp [e])) (by omega)
        have ck := cu_take c
        have cn := cu_can c
        have cl := culen c
        simp only [cwL, if_pos hnm] at hn
        simp -implicitDefEqProofs [hfr, q1, q2, q5, q6, hlt, get_base0, hg, hw, hnm, hc, ck, cn, cl, wrap_id (show -9223372036854775808 ≤ m - n by omega) (by omega), wrap_id (show -9223372036854775808 ≤ n + cw c (m - n) by omega) (by omega)]
        exact ⟨rest, by simp, pre ++ [c], by simp [e], by simp, by omega, by omega, hn⟩
      · simp only [cwL, if_neg hnm] at hn
        simp -implicitDefEqProofs [hfr, q1, q2, q5, q6, hlt, get_base0, hnm, hn]
termination_by t => SizeOf.sizeOf t
decreasing_by
  have := List.sizeOf_lt_of_mem hx
  simp
  omega

def chL : List Ch → Int → Int → Int
  | [], _, n => n
  | x :: l, m, n => if m < n + (x.1.length + x.2.length) then n + (x.1.length + x.2.length) else chL l m (n + (x.1.length + x.2.length))
def leL : List Lm → Int → Int → Int
  | [], _, n => n
  | x :: l, m, n => if m < n + (x.1.length + cw x.2 m) then n + (x.1.length + cw x.2 m) else leL l m (n + (x.1.length + cw x.2 m))

/-- behind the chains -/
def p2 (t : Tm) (cu : Cu) (chs : List Ch) (b m : Int) : Int := chL chs m (b + (sz t m + cw cu m))
def p3 (t : Tm) (cu : Cu) (les : List Lm) (chs : List Ch) (b m : Int) : Int := leL les m (p2 t cu chs b m)
def base (h n v : ByteArray) (les : List Lm) (chs : List Ch) : Int := 1 + h.size + n.size + v.size + chs.length + les.length

mutual
def pw : Pf → Int → Int
  | .mk r h n v b t c les chs cu ps, m =>
    if m < base h n v les chs ∨ m < sz t m ∨ m < wt c m then m + 1
    else if (!chs.isEmpty && decide (m < p2 t cu chs (base h n v les chs) m)) = true then p2 t cu chs (base h n v les chs) m
    else if (!les.isEmpty && decide (m < p3 t cu les chs (base h n v les chs) m)) = true then p3 t cu les chs (base h n v les chs) m
    else pwL ps m (p3 t cu les chs (base h n v les chs) m)
def pwL : List Pf → Int → Int → Int
  | [], _, n => n
  | p :: l, m, n => if n ≤ m then pwL l m (n + pw p (m - n)) else n
end

theorem chL_le : ∀ (l : List Ch) (m n B : Int), (∀ x ∈ l, Ch.ok x) → 0 ≤ B → n ≤ m + B → n ≤ chL l m n ∧ chL l m n ≤ m + B + 281474976710656
  | [], m, n, B, _, _, h => by simp only [chL]; omega
  | x :: l, m, n, B, hok, hB, h => by
    have h1 := (hok x (List.mem_cons_self ..)).1.2
    have h2 := (hok x (List.mem_cons_self ..)).2.2
    unfold mxB at h1 h2
    simp only [chL]
    split
    · omega
    · have := chL_le l m (n + (x.1.length + x.2.length)) B (fun y hy => hok y (List.mem_cons_of_mem _ hy)) hB (by omega)
      omega
theorem leL_le : ∀ (l : List Lm) (m n B : Int), (∀ x ∈ l, Lm.ok x) → 0 ≤ m → 0 ≤ B → n ≤ m + B → n ≤ leL l m n ∧ leL l m n ≤ m + B + m + 562949953421313
  | [], m, n, B, _, _, _, h => by simp only [leL]; omega
  | x :: l, m, n, B, hok, hm, hB, h => by
    have h1 := (hok x (List.mem_cons_self ..)).1.2
    have h2 := cw_le x.2 m (hok x (List.mem_cons_self ..)).2 hm
    unfold mxB at h1
    simp only [leL]
    split
    · omega
    · have := leL_le l m (n + (x.1.length + cw x.2 m)) B (fun y hy => hok y (List.mem_cons_of_mem _ hy)) hm hB (by omega)
      omega

theorem base_le {h n v : ByteArray} {les : List Lm} {chs : List Ch} : 1 ≤ base h n v les chs := by unfold base; omega

theorem p23_le (t : Tm) (cu : Cu) (les : List Lm) (chs : List Ch) (b m : Int) (h0 : 0 ≤ m) (hm : m ≤ 1099511627776) (hcu : cu.ok) (hl : ∀ x ∈ les, Lm.ok x) (hc : ∀ x ∈ chs, Ch.ok x) (h1 : 1 ≤ b) (h2 : b ≤ m) :
    1 ≤ b + (sz t m + cw cu m) ∧ b + (sz t m + cw cu m) ≤ m + 500000000000000 ∧ 1 ≤ p2 t cu chs b m ∧ p2 t cu chs b m ≤ m + 1000000000000000 ∧ 1 ≤ p3 t cu les chs b m ∧ p3 t cu les chs b m ≤ m + 2000000000000000 := by
  have a1 := sz_le t m h0
  have a2 := cw_le cu m hcu h0
  have a3 := chL_le chs m (b + (sz t m + cw cu m)) 500000000000000 hc (by omega) (by omega)
  have e2 : p2 t cu chs b m = chL chs m (b + (sz t m + cw cu m)) := rfl
  have a4 := leL_le les m (p2 t cu chs b m) 1000000000000000 hl h0 (by omega) (by omega)
  have e3 : p3 t cu les chs b m = leL les m (p2 t cu chs b m) := rfl
  omega

mutual
theorem pw_le : ∀ (p : Pf) (m : Int), p.ok → 0 ≤ m → m ≤ 1099511627776 → 1 ≤ pw p m ∧ pw p m ≤ m + 2000000000000000
  | .mk r h n v b t c les chs cu ps, m, hok, h0, hm => by
    simp only [Pf.ok] at hok
    obtain ⟨_, _, _, _, _, _, o1, o2, o3, _, o4⟩ := hok
    simp only [pw]
    split
    · omega
    · rename_i hb
      have := p23_le t cu les chs (base h n v les chs) m h0 hm o3 o1.1 o2.1 base_le (by omega)
      split
      · omega
      · split
        · omega
        · exact pwL_le ps m _ (okPf_iff.1 o4) h0 hm (by omega) (by omega)
theorem pwL_le : ∀ (l : List Pf) (m n : Int), (∀ c ∈ l, c.ok) → 0 ≤ m → m ≤ 1099511627776 → 1 ≤ n → n ≤ m + 2000000000000000 → 1 ≤ pwL l m n ∧ pwL l m n ≤ m + 2000000000000000
  | [], m, n, _, _, _, h1, h2 => by simp only [pwL]; exact ⟨h1, h2⟩
  | c :: l, m, n, hok, h0, hm, h1, h2 => by
    simp only [pwL]
    split
    · have := pw_le c (m - n) (hok c (List.mem_cons_self ..)) (by omega) (by omega)
      exact pwL_le l m _ (fun x hx => hok x (List.mem_cons_of_mem _ hx)) h0 hm (by omega) (by omega)
    · exact ⟨h1, h2⟩
end

/-- the loop over the chains -/
theorem wch_loop (chs : List Ch) (hc : ∀ x ∈ chs, Ch.ok x) (hmx : chs.length ≤ mxB) (m n1 : Int) (h0 : 0 ≤ m) (hm : m ≤ 1099511627776) (hn1 : 1 ≤ n1) (hn2 : n1 ≤ m + 500000000000000) {X : Obj} {o : List Obj} (fr : List AV) (Q : AE → List AV → St → Prop)
    (hfr : fr.length = 133) (q1 : slot fr 1 = .int .i64 m) (q2 : slot fr 2 = .ptr o.length 0 0) (q5 : slot fr 5 = .int .i64 n1) (q66 : slot fr 66 = .sl 2 (chs.map Ch.cells)) (q67 : slot fr 67 = .int .i64 (chs.length : Int)) (q68 : slot fr 68 = .int .i64 0)
    (kret : (!chs.isEmpty && decide (m < chL chs m n1)) = true → ∀ (fr' : List AV) s', fr'.length = 133 → slot fr' 4 = .int .i64 (chL chs m n1) → s'.df = [] → s'.objs.length ≥ o.length → Q .ret fr' s')
    (kend : (!chs.isEmpty && decide (m < chL chs m n1)) = false → ∀ (fr' : List AV) (o' : List Obj), fr'.length = 133 → slot fr' 1 = .int .i64 m → slot fr' 2 = .ptr o.length 0 0 → slot fr' 5 = .int .i64 (chL chs m n1) → o'[o.length]? = some X → o.length + 1 ≤ o'.length → Q (.exit 0) fr' ⟨o', o.length, []⟩) :
    ∃ e fr' st', (D T).loop false L29_0 fr ⟨o ++ [X], o.length, []⟩ = some (e, fr', st') ∧ Q e fr' st' := by
  unfold mxB at hmx
  have mx : chs.length ≤ 9223372036854775807 := by omega
  apply loop_inv L29_0.eq_1 List.length (fun (rest : List Ch) fr st => ∃ pre n o', chs = pre ++ rest ∧ fr.length = 133 ∧ slot fr 1 = .int .i64 m ∧ slot fr 2 = .ptr o.length 0 0 ∧ slot fr 5 = .int .i64 n ∧ slot fr 66 = .sl 2 (chs.map Ch.cells) ∧ slot fr 67 = .int .i64 (chs.length : Int) ∧ slot fr 68 = .int .i64 (pre.length : Int) ∧
    st = ⟨o', o.length, []⟩ ∧ o'[o.length]? = some X ∧ o.length + 1 ≤ o'.length ∧ 1 ≤ n ∧ n ≤ m + 500000000000000 ∧ chL chs m n1 = chL rest m n ∧ (pre = [] ∨ n ≤ m)) ?_ chs
    ⟨[], n1, o ++ [X], rfl, hfr, q1, q2, q5, q66, q67, q68, rfl, by simp, by simp, hn1, hn2, rfl, .inl rfl⟩
  clear hfr q1 q2 q5 q66 q67 q68 fr hn1 hn2
  rintro rest fr _ ⟨pre, n, o', e, hfr, q1, q2, q5, q66, q67, q68, rfl, gx, hlo, n1', n2', hn, hd⟩
  cases rest with
  | nil =>
    have hlt := idx_end e
    have ee : chs = pre := by simpa using e
    simp only [chL] at hn
    simp -implicitDefEqProofs [hfr, q1, q2, q5, q66, q67, q68, hlt]
    refine kend ?_ _ o' (by simp [hfr]) (by simp [hfr, q1]) (by simp [hfr, q2]) (by simp [hfr, q5, hn]) gx hlo
    rw [hn, ee]
    rcases hd with rfl | hd
    · rfl
    · have : ¬ m < n := by omega
      simp [this]
  | cons x rest =>
    obtain ⟨hlt, hg, hpl⟩ := idx_at e
    have hw := idx_next e mx
    have b1 := (hc x (by simp [e])).1.2
    have b2 := (hc x (by simp [e])).2.2
    unfold mxB at b1 b2
    have hl1 : o.length ≤ o'.length := by omega
    have w1 : IntKind.i64.wrap ((x.1.length : Int) + (x.2.length : Int)) = x.1.length + x.2.length := wrap_id (by omega) (by omega)
    have w2 : IntKind.i64.wrap (n + ((x.1.length : Int) + (x.2.length : Int))) = n + (x.1.length + x.2.length) := wrap_id (by omega) (by omega)
    have hne : chs.isEmpty = false := by rw [e]; simp
    by_cases hnm : m < n + (x.1.length + x.2.length)
    · simp only [chL, if_pos hnm] at hn
      simp -implicitDefEqProofs [hfr, q1, q2, q5, q66, q67, q68, hlt, hg, hpl, hw, w1, w2, hl1, hnm, Ch.cells, intA_len, setO_last, getO_last, -List.getElem_map, -getElem?_pos, List.getElem?_cons_zero, List.getElem?_cons_succ]
      refine kret ?_ _ _ (by simp [hfr]) (by simp [hfr, hn]) rfl (by simp; omega)
      rw [hn, hne]; simp [hnm]
    · simp only [chL, if_neg hnm] at hn
      simp -implicitDefEqProofs [hfr, q1, q2, q5, q66, q67, q68, hlt, hg, hpl, hw, w1, w2, hl1, hnm, Ch.cells, intA_len, setO_last, getO_last, -List.getElem_map, -getElem?_pos, List.getElem?_cons_zero, List.getElem?_cons_succ]
      exact ⟨rest, by simp, pre ++ [x], by simp [e], by simp, getO_push gx _, by omega, by omega, hn, .inr (by omega)⟩

theorem wle_loop (les : List Lm) (hc : ∀ x ∈ les, Lm.ok x) (hmx : les.length ≤ mxB) (m n1 : Int) (h0 : 0 ≤ m) (hm : m ≤ 1099511627776) (hn1 : 1 ≤ n1) (hn2 : n1 ≤ m + 1000000000000000) {X : Obj} {o o0 : List Obj} (gx0 : o0[o.length]? = some X) (hlo0 : o.length + 1 ≤ o0.length) (fr : List AV) (Q : AE → List AV → St → Prop)
    (hfr : fr.length = 133) (q1 : slot fr 1 = .int .i64 m) (q2 : slot fr 2 = .ptr o.length 0 0) (q5 : slot fr 5 = .int .i64 n1) (q66 : slot fr 88 = .sl 8 (les.map Lm.cells)) (q67 : slot fr 89 = .int .i64 (les.length : Int)) (q68 : slot fr 90 = .int .i64 0)
    (kret : (!les.isEmpty && decide (m < leL les m n1)) = true → ∀ (fr' : List AV) s', fr'.length = 133 → slot fr' 4 = .int .i64 (leL les m n1) → s'.df = [] → s'.objs.length ≥ o.length → Q .ret fr' s')
    (kend : (!les.isEmpty && decide (m < leL les m n1)) = false → ∀ (fr' : List AV) (o' : List Obj), fr'.length = 133 → slot fr' 1 = .int .i64 m → slot fr' 2 = .ptr o.length 0 0 → slot fr' 5 = .int .i64 (leL les m n1) → o'[o.length]? = some X → o.length + 1 ≤ o'.length → Q (.exit 2) fr' ⟨o', o.length, []⟩) :
    ∃ e fr' st', (D T).loop false L29_1 fr ⟨o0, o.length, []⟩ = some (e, fr', st') ∧ Q e fr' st' := by
  unfold mxB at hmx
  have mx : les.length ≤ 9223372036854775807 := by omega
  have sa : ∀ (cs : List AV) (t : Lm), cs.length = 8 → setMany cs 0 (Lm.cells t) = Lm.cells t := fun cs t h => set_all _ _ (by rw [h, lelen])
  apply loop_inv L29_1.eq_1 List.length (fun (rest : List Lm) fr st => ∃ pre n o', les = pre ++ rest ∧ fr.length = 133 ∧ slot fr 1 = .int .i64 m ∧ slot fr 2 = .ptr o.length 0 0 ∧ slot fr 5 = .int .i64 n ∧ slot fr 88 = .sl 8 (les.map Lm.cells) ∧ slot fr 89 = .int .i64 (les.length : Int) ∧ slot fr 90 = .int .i64 (pre.length : Int) ∧
    st = ⟨o', o.length, []⟩ ∧ o'[o.length]? = some X ∧ o.length + 1 ≤ o'.length ∧ 1 ≤ n ∧ n ≤ m + 1000000000000000 ∧ leL les m n1 = leL rest m n ∧ (pre = [] ∨ n ≤ m)) ?_ les
    ⟨[], n1, o0, rfl, hfr, q1, q2, q5, q66, q67, q68, rfl, gx0, hlo0, hn1, hn2, rfl, .inl rfl⟩
  clear hfr q1 q2 q5 q66 q67 q68 fr hn1 hn2 gx0 hlo0
  rintro rest fr _ ⟨pre, n, o', e, hfr, q1, q2, q5, q66, q67, q68, rfl, gx, hlo, n1', n2', hn, hd⟩
  cases rest with
  | nil =>
    have hlt := idx_end e
    have ee : les = pre := by simpa using e
    simp only [leL] at hn
    simp -implicitDefEqProofs [hfr, q1, q2, q5, q66, q67, q68, hlt]
    refine kend ?_ _ o' (by simp [hfr]) (by simp [hfr, q1]) (by simp [hfr, q2]) (by simp [hfr, q5, hn]) gx hlo
    rw [hn, ee]
    rcases hd with rfl | hd
    · rfl
    · have : ¬ m < n := by omega
      simp [this]
  | cons x rest =>
    obtain ⟨hlt, hg, hpl⟩ := idx_at e
    have hw := idx_next e mx
    have b1 := (hc x (by simp [e])).1.2
    have b2 := cw_le x.2 m (hc x (by simp [e])).2 h0
    have hcut := fun st => cut_eq x.2 (hc x (by simp [e])).2 m st h0 (by omega)
    have x1 := le_take x
    have x2 := lelen x
    have x3 := le_one x
    have hx : List.take 1 (Lm.cells x) = [.sl 1 (intA x.1)] := rfl
    have hx2 : List.take 7 (Lm.cells x).tail = x.2.cells := by rw [← culen x.2]; exact List.take_length
    have x4 := cu_take x.2
    have x5 := cu_can x.2
    have x6 := culen x.2
    unfold mxB at b1
    have hl1 : o.length ≤ o'.length := by omega
    have w1 : IntKind.i64.wrap ((x.1.length : Int) + cw x.2 m) = x.1.length + cw x.2 m := wrap_id (by omega) (by omega)
    have w2 : IntKind.i64.wrap (n + ((x.1.length : Int) + cw x.2 m)) = n + (x.1.length + cw x.2 m) := wrap_id (by omega) (by omega)
    have hne : les.isEmpty = false := by rw [e]; simp
    simp only [Cu.av] at hcut
    by_cases hnm : m < n + (x.1.length + cw x.2 m)
    · simp only [leL, if_pos hnm] at hn
      simp -implicitDefEqProofs [hfr, q1, q2, q5, q66, q67, q68, hlt, hg, hpl, hw, w1, w2, hl1, hnm, x1, x2, x3, sa, hx, hx2, x4, x5, x6, hcut, intA_len, setO_last, getO_last, -List.getElem_map, -getElem?_pos, List.getElem?_cons_zero, List.getElem?_cons_succ]
      refine kret ?_ _ _ (by simp [hfr]) (by simp [hfr, hn]) rfl (by simp; omega)
      rw [hn, hne]; simp [hnm]
    · simp only [leL, if_neg hnm] at hn
      simp -implicitDefEqProofs [hfr, q1, q2, q5, q66, q67, q68, hlt, hg, hpl, hw, w1, w2, hl1, hnm, x1, x2, x3, sa, hx, hx2, x4, x5, x6, hcut, intA_len, setO_last, getO_last, -List.getElem_map, -getElem?_pos, List.getElem?_cons_zero, List.getElem?_cons_succ]
      exact ⟨rest, by simp, pre ++ [x], by simp [e], by simp, getO_push gx _, by omega, by omega, hn, .inr (by omega)⟩

theorem weight38_eq : ∀ (p : Pf), p.ok → ∀ (m : Int) (st : St), 0 ≤ m → m ≤ 1099511627776 → (D T).call 29 [p.av, .int .i64 m] st = some (.int .i64 (pw p m), st)
  | .mk r h nw v b t c les chs cu ps, hok, m, ⟨o, ro, df⟩, h0, hm => by
    simp only [Pf.ok] at hok
    obtain ⟨_, k1, k2, k3, ot, oc, ole, och, ocu, kps, ops⟩ := hok
    have hl := okPf_iff.1 ops
    have ih := fun x (hx : x ∈ ps) m st h1 h2 => weight38_eq x (hl x hx) m st h1 h2
    have hsz := fun st => size_eq t ot m st h0 (by omega)
    have hbg := fun st => big_eq c oc m h0 (by omega) st
    have hcu := fun st => cut_eq cu ocu m st h0 (by omega)
    have bs := base_le (h := h) (n := nw) (v := v) (les := les) (chs := chs)
    have bnd := p23_le t cu les chs (base h nw v les chs) m h0 hm ocu ole.1 och.1 bs
    have kl1 := ole.2
    have kl2 := och.2
    unfold mxB at k1 k2 k3 kl1 kl2
    have kps' := kps
    unfold mxB at kps'
    have mx : ps.length ≤ 9223372036854775807 := by omega
    have hE : pw (.mk r h nw v b t c les chs cu ps) m = (if m < base h nw v les chs ∨ m < sz t m ∨ m < wt c m then m + 1
      else if (!chs.isEmpty && decide (m < p2 t cu chs (base h nw v les chs) m)) = true then p2 t cu chs (base h nw v les chs) m
      else if (!les.isEmpty && decide (m < p3 t cu les chs (base h nw v les chs) m)) = true then p3 t cu les chs (base h nw v les chs) m
      else pwL ps m (p3 t cu les chs (base h nw v les chs) m)) := rfl
    generalize hR : pw (.mk r h nw v b t c les chs cu ps) m = R at hE ⊢
    clear hR
    have wb1 : IntKind.i64.wrap (1 + (h.size : Int)) = 1 + h.size := wrap_id (by omega) (by omega)
    have wb2 : IntKind.i64.wrap (1 + (h.size : Int) + (nw.size : Int)) = 1 + h.size + nw.size := wrap_id (by omega) (by omega)
    have wb3 : IntKind.i64.wrap (1 + (h.size : Int) + (nw.size : Int) + (v.size : Int)) = 1 + h.size + nw.size + v.size := wrap_id (by omega) (by omega)
    have wb4 : IntKind.i64.wrap (1 + (h.size : Int) + (nw.size : Int) + (v.size : Int) + (chs.length : Int)) = 1 + h.size + nw.size + v.size + chs.length := wrap_id (by omega) (by omega)
    have wb5 : IntKind.i64.wrap (1 + (h.size : Int) + (nw.size : Int) + (v.size : Int) + (chs.length : Int) + (les.length : Int)) = base h nw v les chs := wrap_id (by omega) (by omega)
    have wm : IntKind.i64.wrap (m + 1) = m + 1 := wrap_id (by omega) (by omega)
    generalize hB : base h nw v les chs = B at *
    have e2 : p2 t cu chs B m = chL chs m (B + (sz t m + cw cu m)) := rfl
    have e3 : p3 t cu les chs B m = leL les m (p2 t cu chs B m) := rfl
    have a1 := sz_le t m h0
    have a2 := cw_le cu m ocu h0
    have ws1 : IntKind.i64.wrap (sz t m + cw cu m) = sz t m + cw cu m := wrap_id (by omega) (by omega)
    generalize hS : sz t m = S at *
    generalize hC : cw cu m = C at *
    generalize hW : wt c m = W at *
    generalize p2 t cu chs B m = P2 at *
    generalize p3 t cu les chs B m = P3 at *
    obtain ⟨t0, t1, t2, t3⟩ := t
    obtain ⟨c0, c1, c2, c3, c4⟩ := c
    obtain ⟨kd, fr0, by0, dv, kk, ms, cs⟩ := cu
    simp only [Tm.av, Tm.cells_mk, Cl.av, Cl.cells_mk, Cu.av, Cu.cells_mk] at hsz hbg hcu
    clear hS hC hW ot oc ocu hB
    obtain ⟨X, hX⟩ : ∃ X, X = Obj.arr 42 24 [[.int .i64 r, .str h, .str nw, .str v, .bool b, .int .i64 t0, .str t1, .int .i64 t2, .sl 4 (t3.map Tm.cells), .int .i64 c0, .str c1, .str c2, .sl 4 (c3.map Tm.cells), .sl 5 (c4.map Cl.cells), .sl 8 (les.map Lm.cells), .sl 2 (chs.map Ch.cells),
      .int .i64 kd, .sl 1 (intA fr0), .sl 1 (intA by0), .int .i64 dv, .int .i64 kk, .sl 2 (moA ms), .sl 7 (cs.map Cu.cells), .sl 24 (ps.map Pf.cells)]] := ⟨_, rfl⟩
    -- the last loop
    have lp : ∀ (n3 : Int), 1 ≤ n3 → n3 ≤ m + 2000000000000000 → ∀ (fr : List AV) (o0 : List Obj) (Q : AE → List AV → St → Prop), fr.length = 133 → slot fr 1 = .int .i64 m → slot fr 2 = .ptr o.length 0 0 → slot fr 5 = .int .i64 n3 → slot fr 10 = .int .i64 0 → o0[o.length]? = some X → o.length + 1 ≤ o0.length →
        (∀ (fr' : List AV) (o' : List Obj), fr'.length = 133 → slot fr' 5 = .int .i64 (pwL ps m n3) → Q (.exit 4) fr' ⟨o', o.length, []⟩) →
        ∃ e fr' st', (D T).loop false L29_2 fr ⟨o0, o.length, []⟩ = some (e, fr', st') ∧ Q e fr' st' := by
      intro n3 hn1 hn2 fr o0 Q hfr q1 q2 q5 q10 gx hlo kk
      apply loop_inv L29_2.eq_1 List.length (fun (rest : List Pf) fr st => ∃ pre n, ps = pre ++ rest ∧ fr.length = 133 ∧ slot fr 1 = .int .i64 m ∧ slot fr 2 = .ptr o.length 0 0 ∧ slot fr 5 = .int .i64 n ∧ slot fr 10 = .int .i64 (pre.length : Int) ∧
        st = ⟨o0, o.length, []⟩ ∧ 1 ≤ n ∧ n ≤ m + 2000000000000000 ∧ pwL ps m n3 = pwL rest m n) ?_ ps ⟨[], n3, rfl, hfr, q1, q2, q5, q10, rfl, hn1, hn2, rfl⟩
      clear hfr q1 q2 q5 q10 fr
      rintro rest fr _ ⟨pre, n, e, hfr, q1, q2, q5, q10, rfl, n1', n2', hn⟩
      have gx' := gx
      rw [hX] at gx'
      cases rest with
      | nil =>
        have hlt := idx_end e
        simp -implicitDefEqProofs [hfr, q1, q2, q5, q10, hlt, gx', -getElem?_pos, List.getElem?_cons_zero]
        exact kk _ o0 (by simp [hfr]) (by simp [hfr, q5, hn, pwL])
      | cons x rest =>
        obtain ⟨hlt, hg, hpl⟩ := idx_at e
        have hw := idx_next e mx
        by_cases hnm : n ≤ m
        · have hc := fun st => ih x (by simp [e]) (m - n) st (by omega) (by omega)
          have hb := pw_le x (m - n) (hl x (by simp [e])) (by omega) (by omega)
          have x1 := p_take x
          have x2 := p_can x
          have x3 := plen x
          simp only [Pf.av] at hc
          simp only [pwL, if_pos hnm] at hn
          simp -implicitDefEqProofs [hfr, q1, q2, q5, q10, hlt, gx', hg, hpl, hw, hnm, hc, x1, x2, x3, -getElem?_pos, List.getElem?_cons_zero, wrap_id (show -9223372036854775808 ≤ m - n by omega) (by omega), wrap_id (show -9223372036854775808 ≤ n + pw x (m - n) by omega) (by omega)]
          exact ⟨rest, by simp, pre ++ [x], by simp [e], by simp, by omega, by omega, hn⟩
        · simp only [pwL, if_neg hnm] at hn
          simp -implicitDefEqProofs [hfr, q1, q2, q5, q10, hlt, gx', hnm, -getElem?_pos, List.getElem?_cons_zero]
          exact kk _ o0 (by simp [hfr]) (by simp [hfr, q5, hn])
    apply call_by (by exact rfl : T 29 = some _) (by simp)
    intro fr hfr hsl
    have s0 := hsl 0 _ rfl
    have s1 := hsl 1 _ rfl
    simp only [Pf.av, Pf.cells_all] at s0
    by_cases b1 : m < B
    · rw [if_pos (.inl b1)] at hE
      subst hE
      simp -implicitDefEqProofs [hfr, s0, s1, get_base0, wb1, wb2, wb3, wb4, wb5, wm, hsz, hbg, b1, -getElem?_pos, List.getElem?_cons_zero]
    by_cases b2 : m < S
    · rw [if_pos (.inr (.inl b2))] at hE
      subst hE
      simp -implicitDefEqProofs [hfr, s0, s1, get_base0, wb1, wb2, wb3, wb4, wb5, wm, hsz, hbg, b1, b2, -getElem?_pos, List.getElem?_cons_zero]
    by_cases b3 : m < W
    · rw [if_pos (.inr (.inr b3))] at hE
      subst hE
      simp -implicitDefEqProofs [hfr, s0, s1, get_base0, wb1, wb2, wb3, wb4, wb5, wm, hsz, hbg, b1, b2, b3, -getElem?_pos, List.getElem?_cons_zero]
    rw [if_neg (by omega)] at hE
    have bnd := bnd (by omega)
    have ws2 : IntKind.i64.wrap (B + (S + C)) = B + (S + C) := wrap_id (by omega) (by omega)
    simp -implicitDefEqProofs [hfr, s0, s1, get_base0, wb1, wb2, wb3, wb4, wb5, wm, hsz, hbg, hcu, ws1, ws2, b1, b2, b3, -getElem?_pos, List.getElem?_cons_zero]
    rw [← hX]
    apply wch_loop chs och.1 och.2 m (B + (S + C)) h0 hm bnd.1 bnd.2.1 _ _ (by simp [hfr]) (by simp [hfr, s1]) (by simp [hfr]) (by simp [hfr]) (by simp [hfr]) (by simp [hfr]) (by simp [hfr])
    · intro hc fr' s' hf h4 hdf hge
      rw [← e2] at hc h4
      rw [if_pos hc] at hE
      subst hE
      obtain ⟨so, sr, sd⟩ := s'
      simp only at hdf
      subst hdf
      simp -implicitDefEqProofs [hf, h4]
    · intro hc fr1 o1 hf1 r1 r2 r5 gx hlo
      rw [← e2] at hc r5
      rw [if_neg (by rw [hc]; simp)] at hE
      have gx' := gx
      rw [hX] at gx'
      simp -implicitDefEqProofs [hf1, r1, r2, r5, gx', -getElem?_pos, List.getElem?_cons_zero]
      apply wle_loop les ole.1 ole.2 m P2 h0 hm bnd.2.2.1 bnd.2.2.2.1 gx hlo _ _ (by simp [hf1]) (by simp [hf1, r1]) (by simp [hf1, r2]) (by simp [hf1, r5]) (by simp [hf1]) (by simp [hf1]) (by simp [hf1])
      · intro hc fr' s' hf h4 hdf hge
        rw [← e3] at hc h4
        rw [if_pos hc] at hE
        subst hE
        obtain ⟨so, sr, sd⟩ := s'
        simp only at hdf
        subst hdf
        simp -implicitDefEqProofs [hf, h4]
      · intro hc fr2 o2 hf2 r1 r2 r5 gx hlo
        rw [← e3] at hc r5
        rw [if_neg (by rw [hc]; simp)] at hE
        subst hE
        simp -implicitDefEqProofs [hf2, r1, r2, r5]
        apply lp P3 bnd.2.2.2.2.1 bnd.2.2.2.2.2 _ o2 _ (by simp [hf2]) (by simp [hf2, r1]) (by simp [hf2, r2]) (by simp [hf2, r5]) (by simp [hf2]) gx hlo
        intro fr' o' hf h5
        simp -implicitDefEqProofs [hf, h5]
termination_by t => SizeOf.sizeOf t
decreasing_by
  have := List.sizeOf_lt_of_mem hx
  simp
  omega

theorem few_eq (p : Pf) (hp : p.ok) (m : Int) (h0 : 0 ≤ m) (hm : m ≤ 1099511627776) (st : St) : (D T).call 8 [p.av, .int .i64 m] st = some (.bool (decide (pw p m ≤ m)), st) := by
  obtain ⟨o, ro, df⟩ := st
  have h := fun st => weight38_eq p hp m st h0 hm
  have x1 := p_take p
  have x2 := p_can p
  have x3 := plen p
  have x4 := p_one p
  simp only [Pf.av] at h
  apply call_by (by exact rfl : T 8 = some _) (by simp)
  intro fr hfr hsl
  have s0 := hsl 0 _ rfl
  have s1 := hsl 1 _ rfl
  simp only [Pf.av] at s0
  simp -implicitDefEqProofs [hfr, s0, s1, get_base0, h, x1, x2, x3, x4]

end Go.Proofs.YtkecobdhgabknaaDoor.A
