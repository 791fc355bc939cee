/- Is a form right? Is there one in a list of which something is so? -/
import Derived.Test.YtgabnhmjlhhojaaU1
import Derived.Test.YtgabnhmjlhhojaaZ0
namespace Go.Proofs.Ytgabnhmjlhhojaa.A
open Go
set_option maxRecDepth 10000
set_option linter.unusedSimpArgs false
set_option linter.unusedVariables false
attribute [-simp] List.all_eq_true put slot_def ld idxA lenOf elems canA app hand add64A

theorem indexIq_eq {α : Type} (f : α → List AV) (P : α → Bool) (l : List α) (hl : l.length ≤ 9223372036854775807) (g : Nat) (fs cs : List AV) (o : List Obj) (v : AV) (ro : Nat) (df : List Nat)
    (hv : Ls o 3 v (l.map f)) (hf : ∀ a ∈ l, (f a).length = 3) (hc : ∀ a ∈ l, canL (f a) = f a)
    (hg : ∀ a ∈ l, ∀ ro df, (D T).call g (fs ++ (.agg (f a) :: cs)) ⟨o, ro, df⟩ = some (.bool (P a), ⟨o, ro, df⟩)) :
    ∃ n : Int, (D T).call 54 [v, .fn (.func g) fs cs] ⟨o, ro, df⟩ = some (.int .i64 n, ⟨o, ro, df⟩) ∧ decide (n ≥ 0) = l.any P := by
  have hlen : lenOf v = some l.length := by simpa using hv.len
  have hcan := hv.can
  suffices hh : ∃ v' st', (D T).call 54 [v, .fn (.func g) fs cs] ⟨o, ro, df⟩ = some (v', st') ∧ (fun v' st' => ∃ n : Int, v' = .int .i64 n ∧ st' = ⟨o, ro, df⟩ ∧ decide (n ≥ 0) = l.any P) v' st' by
    obtain ⟨_, _, g1, n, rfl, rfl, g2⟩ := hh
    exact ⟨n, g1, g2⟩
  obtain ⟨R, hR⟩ : ∃ R : AV → St → Prop, R = (fun v' st' => ∃ n : Int, v' = .int .i64 n ∧ st' = ⟨o, ro, df⟩ ∧ decide (n ≥ 0) = l.any P) := ⟨_, rfl⟩
  rw [← hR]
  have kR : ∀ n : Int, decide (n ≥ 0) = l.any P → R (.int .i64 n) ⟨o, ro, df⟩ := fun n h => by rw [hR]; exact ⟨n, rfl, rfl, h⟩
  clear hR
  apply call_for (by exact rfl : T 54 = some _) (by simp)
  intro fr hfr hsl
  have s0 := hsl 0 _ rfl
  have s1 := hsl 1 _ rfl
  simp -implicitDefEqProofs [hfr, s0, s1, hlen, -getElem?_pos, List.getElem?_cons_zero]
  apply loop_inv L54_0.eq_1 List.length (fun (rest : List α) fr st => ∃ pre, l = pre ++ rest ∧ (∀ a ∈ pre, P a = false) ∧ fr.length = 19 ∧ slot fr 0 = v ∧ slot fr 1 = .fn (.func g) fs cs ∧ slot fr 7 = .int .i64 (l.length : Int) ∧ slot fr 8 = .int .i64 (pre.length : Int) ∧ st = ⟨o, o.length, []⟩) ?_ l
    ⟨[], rfl, by simp, by simp [hfr], by simp [hfr, s0], by simp [hfr, s1], by simp [hfr], by simp [hfr], rfl⟩
  clear hfr s0 s1 hsl
  clear fr
  rintro rest fr _ ⟨pre, e, hp, hfr, q0, q1, q7, q8, rfl⟩
  cases rest with
  | nil =>
    have hlt := idx_end e
    have e2 : l.any P = false := by
      rw [show l = pre by simpa using e]
      exact List.any_eq_false.2 fun a ha => by simp [hp a ha]
    simp -implicitDefEqProofs [hfr, q0, q1, q7, q8, hlt]
    exact kR _ (by rw [e2]; decide)
  | cons x rest =>
    obtain ⟨hlt, hg0, hpl⟩ := idx_at e
    have hw := idx_next e hl
    have hx : x ∈ l := by simp [e]
    have hge : (l.map f)[pre.length]? = some (f x) := by simp [hg0]
    obtain ⟨p, p1, p2⟩ := hv.get [] o.length [] pre.length (f x) hge (hf x hx)
    simp only [List.append_nil] at p1 p2
    have p3 := p2 true
    simp only [val, if_true] at p3
    have hxg := fun ro df => hg x hx ro df
    have hcx := hc x hx
    cases hP : P x with
    | false =>
      rw [hP] at hxg
      simp -implicitDefEqProofs [hfr, q0, q1, q7, q8, hlt, hpl, hw, p1, p3, hcx, hxg, -getElem?_pos, List.getElem?_cons_zero]
      exact ⟨rest, by simp, pre ++ [x], by simp [e], fun a ha => by simp at ha; rcases ha with ha | rfl; exact hp a ha; exact hP, by simp⟩
    | true =>
      rw [hP] at hxg
      simp -implicitDefEqProofs [hfr, q0, q1, q7, q8, hlt, hpl, hw, p1, p3, hcx, hxg, -getElem?_pos, List.getElem?_cons_zero]
      exact kR _ (by rw [show l.any P = true from List.any_eq_true.2 ⟨x, hx, hP⟩]; simp)

theorem hasIq_eq {α : Type} (f : α → List AV) (P : α → Bool) (l : List α) (hl : l.length ≤ 9223372036854775807) (g : Nat) (fs cs : List AV) (o : List Obj) (v : AV) (ro : Nat) (df : List Nat)
    (hv : Ls o 3 v (l.map f)) (hf : ∀ a ∈ l, (f a).length = 3) (hc : ∀ a ∈ l, canL (f a) = f a)
    (hg : ∀ a ∈ l, ∀ ro df, (D T).call g (fs ++ (.agg (f a) :: cs)) ⟨o, ro, df⟩ = some (.bool (P a), ⟨o, ro, df⟩)) :
    (D T).call 35 [v, .fn (.func g) fs cs] ⟨o, ro, df⟩ = some (.bool (l.any P), ⟨o, ro, df⟩) := by
  have hi := fun ro df => indexIq_eq f P l hl g fs cs o v ro df hv hf hc hg
  have hcan := hv.can
  obtain ⟨n, n1, n2⟩ := hi o.length []
  rw [← n2]
  apply call_by (by exact rfl : T 35 = some _) (by simp)
  intro fr hfr hsl
  have s0 := hsl 0 _ rfl
  have s1 := hsl 1 _ rfl
  simp -implicitDefEqProofs [hfr, s0, s1, hcan, n1, -getElem?_pos, List.getElem?_cons_zero]

theorem indexLin_eq {α : Type} (f : α → List AV) (P : α → Bool) (l : List α) (hl : l.length ≤ 9223372036854775807) (g : Nat) (fs cs : List AV) (o : List Obj) (v : AV) (ro : Nat) (df : List Nat)
    (hv : Ls o 2 v (l.map f)) (hf : ∀ a ∈ l, (f a).length = 2) (hc : ∀ a ∈ l, canL (f a) = f a)
    (hg : ∀ a ∈ l, ∀ ro df, (D T).call g (fs ++ (.agg (f a) :: cs)) ⟨o, ro, df⟩ = some (.bool (P a), ⟨o, ro, df⟩)) :
    ∃ n : Int, (D T).call 120 [v, .fn (.func g) fs cs] ⟨o, ro, df⟩ = some (.int .i64 n, ⟨o, ro, df⟩) ∧ decide (n ≥ 0) = l.any P := by
  have hlen : lenOf v = some l.length := by simpa using hv.len
  have hcan := hv.can
  suffices hh : ∃ v' st', (D T).call 120 [v, .fn (.func g) fs cs] ⟨o, ro, df⟩ = some (v', st') ∧ (fun v' st' => ∃ n : Int, v' = .int .i64 n ∧ st' = ⟨o, ro, df⟩ ∧ decide (n ≥ 0) = l.any P) v' st' by
    obtain ⟨_, _, g1, n, rfl, rfl, g2⟩ := hh
    exact ⟨n, g1, g2⟩
  obtain ⟨R, hR⟩ : ∃ R : AV → St → Prop, R = (fun v' st' => ∃ n : Int, v' = .int .i64 n ∧ st' = ⟨o, ro, df⟩ ∧ decide (n ≥ 0) = l.any P) := ⟨_, rfl⟩
  rw [← hR]
  have kR : ∀ n : Int, decide (n ≥ 0) = l.any P → R (.int .i64 n) ⟨o, ro, df⟩ := fun n h => by rw [hR]; exact ⟨n, rfl, rfl, h⟩
  clear hR
  apply call_for (by exact rfl : T 120 = some _) (by simp)
  intro fr hfr hsl
  have s0 := hsl 0 _ rfl
  have s1 := hsl 1 _ rfl
  simp -implicitDefEqProofs [hfr, s0, s1, hlen, -getElem?_pos, List.getElem?_cons_zero]
  apply loop_inv L120_0.eq_1 List.length (fun (rest : List α) fr st => ∃ pre, l = pre ++ rest ∧ (∀ a ∈ pre, P a = false) ∧ fr.length = 19 ∧ slot fr 0 = v ∧ slot fr 1 = .fn (.func g) fs cs ∧ slot fr 7 = .int .i64 (l.length : Int) ∧ slot fr 8 = .int .i64 (pre.length : Int) ∧ st = ⟨o, o.length, []⟩) ?_ l
    ⟨[], rfl, by simp, by simp [hfr], by simp [hfr, s0], by simp [hfr, s1], by simp [hfr], by simp [hfr], rfl⟩
  clear hfr s0 s1 hsl
  clear fr
  rintro rest fr _ ⟨pre, e, hp, hfr, q0, q1, q7, q8, rfl⟩
  cases rest with
  | nil =>
    have hlt := idx_end e
    have e2 : l.any P = false := by
      rw [show l = pre by simpa using e]
      exact List.any_eq_false.2 fun a ha => by simp [hp a ha]
    simp -implicitDefEqProofs [hfr, q0, q1, q7, q8, hlt]
    exact kR _ (by rw [e2]; decide)
  | cons x rest =>
    obtain ⟨hlt, hg0, hpl⟩ := idx_at e
    have hw := idx_next e hl
    have hx : x ∈ l := by simp [e]
    have hge : (l.map f)[pre.length]? = some (f x) := by simp [hg0]
    obtain ⟨p, p1, p2⟩ := hv.get [] o.length [] pre.length (f x) hge (hf x hx)
    simp only [List.append_nil] at p1 p2
    have p3 := p2 true
    simp only [val, if_true] at p3
    have hxg := fun ro df => hg x hx ro df
    have hcx := hc x hx
    cases hP : P x with
    | false =>
      rw [hP] at hxg
      simp -implicitDefEqProofs [hfr, q0, q1, q7, q8, hlt, hpl, hw, p1, p3, hcx, hxg, -getElem?_pos, List.getElem?_cons_zero]
      exact ⟨rest, by simp, pre ++ [x], by simp [e], fun a ha => by simp at ha; rcases ha with ha | rfl; exact hp a ha; exact hP, by simp⟩
    | true =>
      rw [hP] at hxg
      simp -implicitDefEqProofs [hfr, q0, q1, q7, q8, hlt, hpl, hw, p1, p3, hcx, hxg, -getElem?_pos, List.getElem?_cons_zero]
      exact kR _ (by rw [show l.any P = true from List.any_eq_true.2 ⟨x, hx, hP⟩]; simp)

theorem hasLin_eq {α : Type} (f : α → List AV) (P : α → Bool) (l : List α) (hl : l.length ≤ 9223372036854775807) (g : Nat) (fs cs : List AV) (o : List Obj) (v : AV) (ro : Nat) (df : List Nat)
    (hv : Ls o 2 v (l.map f)) (hf : ∀ a ∈ l, (f a).length = 2) (hc : ∀ a ∈ l, canL (f a) = f a)
    (hg : ∀ a ∈ l, ∀ ro df, (D T).call g (fs ++ (.agg (f a) :: cs)) ⟨o, ro, df⟩ = some (.bool (P a), ⟨o, ro, df⟩)) :
    (D T).call 99 [v, .fn (.func g) fs cs] ⟨o, ro, df⟩ = some (.bool (l.any P), ⟨o, ro, df⟩) := by
  have hi := fun ro df => indexLin_eq f P l hl g fs cs o v ro df hv hf hc hg
  have hcan := hv.can
  obtain ⟨n, n1, n2⟩ := hi o.length []
  rw [← n2]
  apply call_by (by exact rfl : T 99 = some _) (by simp)
  intro fr hfr hsl
  have s0 := hsl 0 _ rfl
  have s1 := hsl 1 _ rfl
  simp -implicitDefEqProofs [hfr, s0, s1, hcan, n1, -getElem?_pos, List.getElem?_cons_zero]

theorem indexJ_eq {α : Type} (f : α → List AV) (P : α → Bool) (l : List α) (hl : l.length ≤ 9223372036854775807) (g : Nat) (fs cs : List AV) (o : List Obj) (v : AV) (ro : Nat) (df : List Nat)
    (hv : Ls o 1 v (l.map f)) (hf : ∀ a ∈ l, (f a).length = 1) (w : α → AV) (hw1 : ∀ a ∈ l, f a = [w a]) (hcw : ∀ a ∈ l, canA (w a) = w a) (hc : ∀ a ∈ l, canL (f a) = f a)
    (hg : ∀ a ∈ l, ∀ ro df, (D T).call g (fs ++ (w a :: cs)) ⟨o, ro, df⟩ = some (.bool (P a), ⟨o, ro, df⟩)) :
    ∃ n : Int, (D T).call 123 [v, .fn (.func g) fs cs] ⟨o, ro, df⟩ = some (.int .i64 n, ⟨o, ro, df⟩) ∧ decide (n ≥ 0) = l.any P := by
  have hlen : lenOf v = some l.length := by simpa using hv.len
  have hcan := hv.can
  suffices hh : ∃ v' st', (D T).call 123 [v, .fn (.func g) fs cs] ⟨o, ro, df⟩ = some (v', st') ∧ (fun v' st' => ∃ n : Int, v' = .int .i64 n ∧ st' = ⟨o, ro, df⟩ ∧ decide (n ≥ 0) = l.any P) v' st' by
    obtain ⟨_, _, g1, n, rfl, rfl, g2⟩ := hh
    exact ⟨n, g1, g2⟩
  obtain ⟨R, hR⟩ : ∃ R : AV → St → Prop, R = (fun v' st' => ∃ n : Int, v' = .int .i64 n ∧ st' = ⟨o, ro, df⟩ ∧ decide (n ≥ 0) = l.any P) := ⟨_, rfl⟩
  rw [← hR]
  have kR : ∀ n : Int, decide (n ≥ 0) = l.any P → R (.int .i64 n) ⟨o, ro, df⟩ := fun n h => by rw [hR]; exact ⟨n, rfl, rfl, h⟩
  clear hR
  apply call_for (by exact rfl : T 123 = some _) (by simp)
  intro fr hfr hsl
  have s0 := hsl 0 _ rfl
  have s1 := hsl 1 _ rfl
  simp -implicitDefEqProofs [hfr, s0, s1, hlen, -getElem?_pos, List.getElem?_cons_zero]
  apply loop_inv L123_0.eq_1 List.length (fun (rest : List α) fr st => ∃ pre, l = pre ++ rest ∧ (∀ a ∈ pre, P a = false) ∧ fr.length = 19 ∧ slot fr 0 = v ∧ slot fr 1 = .fn (.func g) fs cs ∧ slot fr 7 = .int .i64 (l.length : Int) ∧ slot fr 8 = .int .i64 (pre.length : Int) ∧ st = ⟨o, o.length, []⟩) ?_ l
    ⟨[], rfl, by simp, by simp [hfr], by simp [hfr, s0], by simp [hfr, s1], by simp [hfr], by simp [hfr], rfl⟩
  clear hfr s0 s1 hsl
  clear fr
  rintro rest fr _ ⟨pre, e, hp, hfr, q0, q1, q7, q8, rfl⟩
  cases rest with
  | nil =>
    have hlt := idx_end e
    have e2 : l.any P = false := by
      rw [show l = pre by simpa using e]
      exact List.any_eq_false.2 fun a ha => by simp [hp a ha]
    simp -implicitDefEqProofs [hfr, q0, q1, q7, q8, hlt]
    exact kR _ (by rw [e2]; decide)
  | cons x rest =>
    obtain ⟨hlt, hg0, hpl⟩ := idx_at e
    have hw := idx_next e hl
    have hx : x ∈ l := by simp [e]
    have hge : (l.map f)[pre.length]? = some (f x) := by simp [hg0]
    obtain ⟨p, p1, p2⟩ := hv.get [] o.length [] pre.length (f x) hge (hf x hx)
    simp only [List.append_nil] at p1 p2
    have p3 := p2 false
    rw [hw1 x hx] at p3; simp only [val, Bool.false_eq_true, if_false] at p3
    have hcw := hcw x hx
    have hxg := fun ro df => hg x hx ro df
    have hcx := hc x hx
    cases hP : P x with
    | false =>
      rw [hP] at hxg
      simp -implicitDefEqProofs [hfr, q0, q1, q7, q8, hlt, hpl, hw, p1, p3, hcx, hcw, hxg, -getElem?_pos, List.getElem?_cons_zero]
      exact ⟨rest, by simp, pre ++ [x], by simp [e], fun a ha => by simp at ha; rcases ha with ha | rfl; exact hp a ha; exact hP, by simp⟩
    | true =>
      rw [hP] at hxg
      simp -implicitDefEqProofs [hfr, q0, q1, q7, q8, hlt, hpl, hw, p1, p3, hcx, hcw, hxg, -getElem?_pos, List.getElem?_cons_zero]
      exact kR _ (by rw [show l.any P = true from List.any_eq_true.2 ⟨x, hx, hP⟩]; simp)

theorem hasJ_eq {α : Type} (f : α → List AV) (P : α → Bool) (l : List α) (hl : l.length ≤ 9223372036854775807) (g : Nat) (fs cs : List AV) (o : List Obj) (v : AV) (ro : Nat) (df : List Nat)
    (hv : Ls o 1 v (l.map f)) (hf : ∀ a ∈ l, (f a).length = 1) (w : α → AV) (hw1 : ∀ a ∈ l, f a = [w a]) (hcw : ∀ a ∈ l, canA (w a) = w a) (hc : ∀ a ∈ l, canL (f a) = f a)
    (hg : ∀ a ∈ l, ∀ ro df, (D T).call g (fs ++ (w a :: cs)) ⟨o, ro, df⟩ = some (.bool (P a), ⟨o, ro, df⟩)) :
    (D T).call 111 [v, .fn (.func g) fs cs] ⟨o, ro, df⟩ = some (.bool (l.any P), ⟨o, ro, df⟩) := by
  have hi := fun ro df => indexJ_eq f P l hl g fs cs o v ro df hv hf w hw1 hcw hc hg
  have hcan := hv.can
  obtain ⟨n, n1, n2⟩ := hi o.length []
  rw [← n2]
  apply call_by (by exact rfl : T 111 = some _) (by simp)
  intro fr hfr hsl
  have s0 := hsl 0 _ rfl
  have s1 := hsl 1 _ rfl
  simp -implicitDefEqProofs [hfr, s0, s1, hcan, n1, -getElem?_pos, List.getElem?_cons_zero]

/-! forms -/
abbrev Li := Int × List (Int × Int)
def liA (l : Li) : List AV := [.int .i64 l.1, .sl 2 (moA l.2)]
theorem li_can (l : Li) : canL (liA l) = liA l := rfl
theorem li_len (l : Li) : (liA l).length = 2 := rfl
theorem li_flat (l : Li) : AV.flatL (liA l) = true := by simp [liA, AV.flatL, AV.flat, moA_flat]
/-- rising, below 64, none 0 -/
def lrt : Int → List (Int × Int) → Bool
  | _, [] => true
  | n, m :: l => decide (n < m.1) && decide (m.1 < 64) && decide (m.2 ≠ 0) && lrt m.1 l
def lok (l : Li) : Bool := lrt (-1) l.2
def lrE (l : Li) : Int := if lok l then 0 else 1

theorem lRight_eq (l : Li) (hl : l.2.length ≤ 9223372036854775807) (o : List Obj) (ro : Nat) (df : List Nat) :
    (D T).call 43 [.agg (liA l)] ⟨o, ro, df⟩ = some (.int .i64 (lrE l), ⟨o, ro, df⟩) := by
  obtain ⟨k, ms⟩ := l
  have hE : lrE (k, ms) = if lrt (-1) ms then 0 else 1 := rfl
  generalize lrE (k, ms) = E at *
  simp only [liA]
  apply call_by (by exact rfl : T 43 = some _) (by simp)
  intro fr hfr hsl
  have s0 := hsl 0 _ rfl
  have ml := moA_len ms
  obtain ⟨M, hM⟩ : ∃ M, M = moA ms := ⟨_, rfl⟩
  rw [← hM] at s0 ml
  simp -implicitDefEqProofs [hfr, s0, ml, get_base0, -getElem?_pos, List.getElem?_cons_zero]
  apply loop_inv L43_0.eq_1 List.length (fun (rest : List (Int × Int)) fr st => ∃ pre o2, ∃ n : Int, ms = pre ++ rest ∧ E = (if lrt n rest then 0 else 1) ∧ fr.length = 30 ∧ slot fr 3 = .int .i64 n ∧ slot fr 7 = .sl 2 (moA ms) ∧ slot fr 8 = .int .i64 (ms.length : Int) ∧ slot fr 9 = .int .i64 (pre.length : Int) ∧ st = ⟨o2, o.length, []⟩ ∧ o.length ≤ o2.length) ?_ ms
    ⟨[], _, -1, rfl, hE, by simp [hfr], by simp [hfr], by simp [hfr, hM], by simp [hfr], by simp [hfr], rfl, by simp⟩
  clear hE hfr s0 hsl ml hM
  clear fr
  rintro rest fr _ ⟨pre, o2, n, e, hE, hfr, q3, q7, q8, q9, rfl, hlo⟩
  cases rest with
  | nil =>
    have hlt := idx_end e
    simp only [lrt, if_true] at hE
    subst hE
    simp -implicitDefEqProofs [hfr, q3, q7, q8, q9, hlt]
  | cons x rest =>
    obtain ⟨hlt, hg, hpl⟩ := idx_at e
    have hw := idx_next e hl
    have hg2 : (moA ms)[pre.length]? = some [.int .i64 x.1, .int .i64 x.2] := by simp [moA, hg]
    have ml := moA_len ms
    generalize moA ms = M at *
    obtain ⟨x1, x2⟩ := x
    simp only [lrt] at hE hg2
    by_cases c1 : n < x1
    · have c1' : ¬ x1 ≤ n := by omega
      by_cases c2 : x1 < 64
      · have c2' : ¬ x1 ≥ 64 := by omega
        have c2'' : ¬ 64 ≤ x1 := by omega
        by_cases c3 : x2 = 0
        · have : E = 1 := by rw [hE]; simp [c3]
          subst this
          have c3b : (x2 == 0) = true := by simpa using c3
          simp -implicitDefEqProofs [hfr, q3, q7, q8, q9, hlt, hw, hpl, hg2, ml, c1', c2', c2'', c3b, hlo, setO_last, getO_last, -getElem?_pos, List.getElem?_cons_zero, List.getElem?_cons_succ]
        · have c3b : (x2 == 0) = false := by simpa using c3
          have hE2 : E = if lrt x1 rest then 0 else 1 := by rw [hE]; simp [c1, c2, c3]
          simp -implicitDefEqProofs [hfr, q3, q7, q8, q9, hlt, hw, hpl, hg2, ml, c1', c2', c2'', c3b, hlo, setO_last, getO_last, -getElem?_pos, List.getElem?_cons_zero, List.getElem?_cons_succ]
          exact ⟨rest, by simp, pre ++ [(x1, x2)], by simp [e], _, x1, hE2, rfl, by simp, rfl, by simp; omega⟩
      · have c2' : x1 ≥ 64 := by omega
        have c2'' : 64 ≤ x1 := by omega
        have : E = 1 := by rw [hE]; simp [c2]
        subst this
        simp -implicitDefEqProofs [hfr, q3, q7, q8, q9, hlt, hw, hpl, hg2, ml, c1', c2', c2'', hlo, setO_last, getO_last, -getElem?_pos, List.getElem?_cons_zero, List.getElem?_cons_succ]
    · have c1' : x1 ≤ n := by omega
      have : E = 1 := by rw [hE]; simp [c1]
      subst this
      simp -implicitDefEqProofs [hfr, q3, q7, q8, q9, hlt, hw, hpl, hg2, ml, c1', hlo, setO_last, getO_last, -getElem?_pos, List.getElem?_cons_zero, List.getElem?_cons_succ]

theorem lr1_eq (l : Li) (hl : l.2.length ≤ 9223372036854775807) (o : List Obj) (ro : Nat) (df : List Nat) :
    (D T).call 100 [.agg (liA l)] ⟨o, ro, df⟩ = some (.bool (!lok l), ⟨o, ro, df⟩) := by
  have h1 := lRight_eq l hl
  have hE : (lrE l != 0) = !lok l := by unfold lrE; cases lok l <;> rfl
  rw [← hE]
  generalize lrE l = E at *
  have c1 := li_can l
  have c2 := li_len l
  have c3 : (liA l).all AV.one = true := rfl
  have c4 : (liA l).take 2 = liA l := rfl
  generalize liA l = A at *
  apply call_by (by exact rfl : T 100 = some _) (by simp)
  intro fr hfr hsl
  have s0 := hsl 0 _ rfl
  simp -implicitDefEqProofs [hfr, s0, h1, c1, c2, c3, c4, get_base0, -getElem?_pos, List.getElem?_cons_zero]

theorem lright_eq (l : List Li) (hl : l.length ≤ 9223372036854775807) (hm : ∀ q ∈ l, q.2.length ≤ 9223372036854775807) (o : List Obj) (v : AV) (ro : Nat) (df : List Nat) (hv : Ls o 2 v (l.map liA)) :
    (D T).call 74 [v] ⟨o, ro, df⟩ = some (.bool (l.all lok), ⟨o, ro, df⟩) := by
  have h1 := fun ro df => hasLin_eq liA (fun q => !lok q) l hl 100 [] [] o v ro df hv (fun q _ => rfl) (fun q _ => rfl) (fun q hq ro df => lr1_eq q (hm q hq) o ro df)
  have hE : (!l.any fun q => !lok q) = l.all lok := by rw [List.not_any_eq_all_not]; simp
  rw [← hE]
  generalize (l.any fun q => !lok q) = E at *
  have hcan := hv.can
  apply call_by (by exact rfl : T 74 = some _) (by simp)
  intro fr hfr hsl
  have s0 := hsl 0 _ rfl
  simp -implicitDefEqProofs [hfr, s0, h1, hcan, -getElem?_pos, List.getElem?_cons_zero]

end Go.Proofs.Ytgabnhmjlhhojaa.A
