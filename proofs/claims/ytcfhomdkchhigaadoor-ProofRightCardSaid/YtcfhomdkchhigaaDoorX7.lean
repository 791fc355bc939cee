/- What the document asks of one part of a proof: how many parts below, and which fields. -/
import Derived.Test.YtcfhomdkchhigaaDoorX6
import Derived.Test.YtcfhomdkchhigaaDoorX7G
namespace Go.Proofs.YtcfhomdkchhigaaDoor.A
open Go
set_option maxRecDepth 10000
set_option linter.unusedSimpArgs false
set_option linter.unusedVariables false
attribute [-simp] List.all_eq_true put slot_def ld idxA lenOf elems canA app hand

theorem among_eq (r : Int) (l : List Int) (hl : l.length ≤ 100) (st : St) : (D T).call 91 [.int .i64 r, .fsl 1 (intA l)] st = some (.bool (l.any fun x => x == r), st) := by
  obtain ⟨o, ro, df⟩ := st
  have hlen := intA_len l
  apply call_by (by exact rfl : T 91 = some _) (by simp)
  intro fr hfr hsl
  have s0 := hsl 0 _ rfl
  have s1 := hsl 1 _ rfl
  simp -implicitDefEqProofs [hfr, s0, s1]
  apply loop_inv L91_0.eq_1 List.length (fun (rest : List Int) fr st => ∃ pre, l = pre ++ rest ∧ fr.length = 18 ∧ slot fr 0 = .int .i64 r ∧ slot fr 1 = .fsl 1 (intA l) ∧ slot fr 5 = .int .i64 (pre.length : Int) ∧
    st = ⟨o, o.length, []⟩ ∧ (l.any fun x => x == r) = (rest.any fun x => x == r)) ?_ l ⟨[], rfl, by simp [hfr], by simp [hfr, s0], by simp [hfr, s1], by simp [hfr], rfl, rfl⟩
  rintro rest fr _ ⟨pre, e, hfr, q0, q1, q5, rfl, hn⟩
  cases rest with
  | nil =>
    have hlt := idx_end e
    simp -implicitDefEqProofs [hfr, q0, q1, q5, hlt, hlen, hn]
  | cons x rest =>
    obtain ⟨hlt, hg, hpl⟩ := idx_at e
    have hw := idx_next e (by omega)
    have hpl' : pre.length < (intA l).length := by rw [hlen]; exact hpl
    have hg' : (intA l)[pre.length]? = some [.int .i64 x] := by simp [intA, hg]
    rw [List.any_cons] at hn
    by_cases hx : x = r
    · subst hx
      simp -implicitDefEqProofs [hfr, q0, q1, q5, hlt, hlen, hg', hpl', hpl, hw, hn, -List.getElem_map, -getElem?_pos, List.getElem?_cons_zero]
    · have hx' : (x == r) = false := by simpa using hx
      rw [hx', Bool.false_or] at hn
      simp -implicitDefEqProofs [hfr, q0, q1, q5, hlt, hlen, hg', hpl', hpl, hw, hx, hx', -List.getElem_map, -getElem?_pos, List.getElem?_cons_zero]
      exact ⟨rest, by simp, pre ++ [x], by simp [e], by simp, hn⟩

def sub2 : List Int := [4, 8, 10, 13, 20]
def sub0 : List Int := [0, 1, 2, 3, 22, 25, 26, 27]
def sbs (r : Int) : Int := bif sub2.any (fun x => x == r) then 2 else bif sub0.any (fun x => x == r) then 0 else 1

theorem Subs_eq (r : Int) (st : St) : (D T).call 69 [.int .i64 r] st = some (.int .i64 (sbs r), st) := by
  obtain ⟨o, ro, df⟩ := st
  have h2 := fun st => among_eq r sub2 (by decide) st
  have h0 := fun st => among_eq r sub0 (by decide) st
  unfold sbs
  generalize (sub2.any fun x => x == r) = A at *
  generalize (sub0.any fun x => x == r) = B at *
  simp only [intA, sub2, sub0, List.map_cons, List.map_nil] at h2 h0
  apply call_by (by exact rfl : T 69 = some _) (by simp)
  intro fr hfr hsl
  have s0 := hsl 0 _ rfl
  cases A with
  | true => simp -implicitDefEqProofs [hfr, s0, h2, h0]
  | false =>
    cases B with
    | true => simp -implicitDefEqProofs [hfr, s0, h2, h0]
    | false => simp -implicitDefEqProofs [hfr, s0, h2, h0]

def fmH : List Int := [1, 3, 5, 8, 10, 12, 14, 16, 18, 21, 23, 24]
def fmN : List Int := [5, 8, 9, 10, 11, 14, 16, 18, 19, 20, 24]
def fmV : List Int := [5, 14, 15, 18]
def fmT : List Int := [16, 17]
def fmC : List Int := [20, 23]
def fmB : List Int := [23]
def fmCh : List Int := [25, 27]
def fmL : List Int := [27]
def fmU : List Int := [26]
def isIn (l : List Int) (r : Int) : Bool := l.any fun x => x == r

/-- one part's fields, as the document has them -/
def form : Pf → Bool
  | .mk r h nw v b t c les chs cu ps => (!ne h || isIn fmH r) && (!ne nw || isIn fmN r) && (!ne v || isIn fmV r) && (tmEq t zT || isIn fmT r) && (exEq c zC || isIn fmC r) && (!b || isIn fmB r) &&
    (chs.isEmpty || isIn fmCh r) && (les.isEmpty || isIn fmL r) && (cuEq cu zU || isIn fmU r)

theorem form_eq : ∀ (p : Pf), p.ok → ∀ (o : List Obj) (ro : Nat) (df : List Nat), (D T).call 70 [p.av] ⟨o, ro, df⟩ = some (.bool (form p), ⟨o, ro, df⟩)
  | .mk r h nw v b t c les chs cu ps, hok, o, ro, df => by
    simp only [Pf.ok] at hok
    obtain ⟨_, k1, k2, k3, ot, oc, ole, och, ocu, kps, ops⟩ := hok
    have h1 := fun st => tm_eq t ot zT zT_ok st
    have h2 := fun st => ex_eq c oc zC zC_ok st
    have h3 := fun st => bcut_eq cu ocu zU zU_ok st
    have aH := fun st => among_eq r fmH (by decide) st
    have aN := fun st => among_eq r fmN (by decide) st
    have aV := fun st => among_eq r fmV (by decide) st
    have aT := fun st => among_eq r fmT (by decide) st
    have aC := fun st => among_eq r fmC (by decide) st
    have aCh := fun st => among_eq r fmCh (by decide) st
    have hB : isIn fmB r = (r == 23) := by simp only [isIn, fmB, List.any_cons, List.any_nil, Bool.or_false]; exact BEq.comm
    have hL : isIn fmL r = (r == 27) := by simp only [isIn, fmL, List.any_cons, List.any_nil, Bool.or_false]; exact BEq.comm
    have hU : isIn fmU r = (r == 26) := by simp only [isIn, fmU, List.any_cons, List.any_nil, Bool.or_false]; exact BEq.comm
    have hE : form (.mk r h nw v b t c les chs cu ps) = ((!ne h || isIn fmH r) && (!ne nw || isIn fmN r) && (!ne v || isIn fmV r) && (tmEq t zT || isIn fmT r) && (exEq c zC || isIn fmC r) && (!b || isIn fmB r) &&
      (chs.isEmpty || isIn fmCh r) && (les.isEmpty || isIn fmL r) && (cuEq cu zU || isIn fmU r)) := rfl
    have e1 : ne h = !bytesEq h ⟨#[]⟩ := rfl
    have e2 : ne nw = !bytesEq nw ⟨#[]⟩ := rfl
    have e3 : ne v = !bytesEq v ⟨#[]⟩ := rfl
    have e5 : chs.isEmpty = !decide ((chs.length : Int) > 0) := by cases chs with
      | nil => rfl
      | cons x l => simp
    have e6 : les.isEmpty = !decide ((les.length : Int) > 0) := by cases les with
      | nil => rfl
      | cons x l => simp
    rw [hB, hL, hU, e1, e2, e3, e5, e6] at hE
    clear hB hL hU e1 e2 e3 e5 e6
    generalize form (.mk r h nw v b t c les chs cu ps) = R at hE ⊢
    generalize tmEq t zT = A at *
    generalize exEq c zC = B at *
    generalize cuEq cu zU = C at *
    obtain ⟨t0, t1, t2, t3⟩ := t
    obtain ⟨c0, c1, c2, c3, c4⟩ := c
    obtain ⟨kd, fr0, by0, dv, kk, ms, cs⟩ := cu
    unfold isIn at hE
    generalize (fmH.any fun x => x == r) = mH at *
    generalize (fmN.any fun x => x == r) = mN at *
    generalize (fmV.any fun x => x == r) = mV at *
    generalize (fmT.any fun x => x == r) = mT at *
    generalize (fmC.any fun x => x == r) = mC at *
    generalize (fmCh.any fun x => x == r) = mCh at *
    simp only [Tm.av, Tm.cells_mk, Cl.av, Cl.cells_mk, Cu.av, Cu.cells_mk, zT, zC, zU, List.map_nil, show intA [] = [] from rfl, show moA [] = [] from rfl] at h1 h2 h3
    simp only [intA, fmH, fmN, fmV, fmT, fmC, fmCh, List.map_cons, List.map_nil] at aH aN aV aT aC aCh
    have kOk : ∀ (b : Bool), (b && false) = false := by decide
    obtain ⟨X, hX⟩ : ∃ X, X = Obj.arr 42 24 [[.int .i64 r, .str h, .str nw, .str v, .bool b, .int .i64 t0, .str t1, .int .i64 t2, .sl 4 (t3.map Tm.cells), .int .i64 c0, .str c1, .str c2, .sl 4 (c3.map Tm.cells), .sl 5 (c4.map Cl.cells), .sl 8 (les.map Lm.cells), .sl 2 (chs.map Ch.cells),
      .int .i64 kd, .sl 1 (intA fr0), .sl 1 (intA by0), .int .i64 dv, .int .i64 kk, .sl 2 (moA ms), .sl 7 (cs.map Cu.cells), .sl 24 (ps.map Pf.cells)]] := ⟨_, rfl⟩
    have gx : (o ++ [X])[o.length]? = some X := by simp
    have g2 : ∀ (fr : List AV) (Q : AE → List AV → St → Prop) (k : List It), fr.length = 90 → slot fr 1 = .ptr o.length 0 0 → slot fr 3 = .int .i64 r →
        (((!bytesEq h ⟨#[]⟩) && !mH) = false → ∀ fr' : List AV, fr'.length = 90 → slot fr' 1 = .ptr o.length 0 0 → slot fr' 3 = .int .i64 r → run (D T) false Q k .norm fr' ⟨o ++ [X], o.length, []⟩) →
        (((!bytesEq h ⟨#[]⟩) && !mH) = true → ∀ fr' : List AV, fr'.length = 90 → slot fr' 2 = .bool false → run (D T) false Q k .ret fr' ⟨o ++ [X], o.length, []⟩) → run (D T) false Q (.c G70_2 :: k) .norm fr ⟨o ++ [X], o.length, []⟩ := by
      intro fr Q k hfr q1 q3 kn kr
      rw [hX] at kn kr ⊢
      unfold G70_2
      cases ex : bytesEq h ⟨#[]⟩ with
      | true =>
        rw [ex] at kn
        have kn := kn rfl
        simp -implicitDefEqProofs [hfr, q1, q3, get_base0, -getElem?_pos, List.getElem?_cons_zero, aH, ex]
        exact kn _ (by simp [hfr]) (by simp [hfr, q1]) (by simp [hfr, q3])
      | false =>
        cases em : mH with
        | true =>
          rw [ex, em] at kn
          have kn := kn rfl
          simp -implicitDefEqProofs [hfr, q1, q3, get_base0, -getElem?_pos, List.getElem?_cons_zero, aH, em, ex]
          exact kn _ (by simp [hfr]) (by simp [hfr, q1]) (by simp [hfr, q3])
        | false =>
          rw [ex, em] at kr
          have kr := kr rfl
          simp -implicitDefEqProofs [hfr, q1, q3, get_base0, -getElem?_pos, List.getElem?_cons_zero, aH, em, ex]
          exact kr _ (by simp [hfr]) (by simp [hfr])
    have g3 : ∀ (fr : List AV) (Q : AE → List AV → St → Prop) (k : List It), fr.length = 90 → slot fr 1 = .ptr o.length 0 0 → slot fr 3 = .int .i64 r →
        (((!bytesEq nw ⟨#[]⟩) && !mN) = false → ∀ fr' : List AV, fr'.length = 90 → slot fr' 1 = .ptr o.length 0 0 → slot fr' 3 = .int .i64 r → run (D T) false Q k .norm fr' ⟨o ++ [X], o.length, []⟩) →
        (((!bytesEq nw ⟨#[]⟩) && !mN) = true → ∀ fr' : List AV, fr'.length = 90 → slot fr' 2 = .bool false → run (D T) false Q k .ret fr' ⟨o ++ [X], o.length, []⟩) → run (D T) false Q (.c G70_3 :: k) .norm fr ⟨o ++ [X], o.length, []⟩ := by
      intro fr Q k hfr q1 q3 kn kr
      rw [hX] at kn kr ⊢
      unfold G70_3
      cases ex : bytesEq nw ⟨#[]⟩ with
      | true =>
        rw [ex] at kn
        have kn := kn rfl
        simp -implicitDefEqProofs [hfr, q1, q3, get_base0, -getElem?_pos, List.getElem?_cons_zero, aN, ex]
        exact kn _ (by simp [hfr]) (by simp [hfr, q1]) (by simp [hfr, q3])
      | false =>
        cases em : mN with
        | true =>
          rw [ex, em] at kn
          have kn := kn rfl
          simp -implicitDefEqProofs [hfr, q1, q3, get_base0, -getElem?_pos, List.getElem?_cons_zero, aN, em, ex]
          exact kn _ (by simp [hfr]) (by simp [hfr, q1]) (by simp [hfr, q3])
        | false =>
          rw [ex, em] at kr
          have kr := kr rfl
          simp -implicitDefEqProofs [hfr, q1, q3, get_base0, -getElem?_pos, List.getElem?_cons_zero, aN, em, ex]
          exact kr _ (by simp [hfr]) (by simp [hfr])
    have g4 : ∀ (fr : List AV) (Q : AE → List AV → St → Prop) (k : List It), fr.length = 90 → slot fr 1 = .ptr o.length 0 0 → slot fr 3 = .int .i64 r →
        (((!bytesEq v ⟨#[]⟩) && !mV) = false → ∀ fr' : List AV, fr'.length = 90 → slot fr' 1 = .ptr o.length 0 0 → slot fr' 3 = .int .i64 r → run (D T) false Q k .norm fr' ⟨o ++ [X], o.length, []⟩) →
        (((!bytesEq v ⟨#[]⟩) && !mV) = true → ∀ fr' : List AV, fr'.length = 90 → slot fr' 2 = .bool false → run (D T) false Q k .ret fr' ⟨o ++ [X], o.length, []⟩) → run (D T) false Q (.c G70_4 :: k) .norm fr ⟨o ++ [X], o.length, []⟩ := by
      intro fr Q k hfr q1 q3 kn kr
      rw [hX] at kn kr ⊢
      unfold G70_4
      cases ex : bytesEq v ⟨#[]⟩ with
      | true =>
        rw [ex] at kn
        have kn := kn rfl
        simp -implicitDefEqProofs [hfr, q1, q3, get_base0, -getElem?_pos, List.getElem?_cons_zero, aV, ex]
        exact kn _ (by simp [hfr]) (by simp [hfr, q1]) (by simp [hfr, q3])
      | false =>
        cases em : mV with
        | true =>
          rw [ex, em] at kn
          have kn := kn rfl
          simp -implicitDefEqProofs [hfr, q1, q3, get_base0, -getElem?_pos, List.getElem?_cons_zero, aV, em, ex]
          exact kn _ (by simp [hfr]) (by simp [hfr, q1]) (by simp [hfr, q3])
        | false =>
          rw [ex, em] at kr
          have kr := kr rfl
          simp -implicitDefEqProofs [hfr, q1, q3, get_base0, -getElem?_pos, List.getElem?_cons_zero, aV, em, ex]
          exact kr _ (by simp [hfr]) (by simp [hfr])
    have g5 : ∀ (fr : List AV) (Q : AE → List AV → St → Prop) (k : List It), fr.length = 90 → slot fr 1 = .ptr o.length 0 0 → slot fr 3 = .int .i64 r →
        (((!A) && !mT) = false → ∀ fr' : List AV, fr'.length = 90 → slot fr' 1 = .ptr o.length 0 0 → slot fr' 3 = .int .i64 r → run (D T) false Q k .norm fr' ⟨o ++ [X], o.length, []⟩) →
        (((!A) && !mT) = true → ∀ fr' : List AV, fr'.length = 90 → slot fr' 2 = .bool false → run (D T) false Q k .ret fr' ⟨o ++ [X], o.length, []⟩) → run (D T) false Q (.c G70_5 :: k) .norm fr ⟨o ++ [X], o.length, []⟩ := by
      intro fr Q k hfr q1 q3 kn kr
      rw [hX] at kn kr ⊢
      unfold G70_5
      cases ex : A with
      | true =>
        rw [ex] at kn
        have kn := kn rfl
        simp -implicitDefEqProofs [hfr, q1, q3, get_base0, -getElem?_pos, List.getElem?_cons_zero, aT, h1, ex]
        exact kn _ (by simp [hfr]) (by simp [hfr, q1]) (by simp [hfr, q3])
      | false =>
        cases em : mT with
        | true =>
          rw [ex, em] at kn
          have kn := kn rfl
          simp -implicitDefEqProofs [hfr, q1, q3, get_base0, -getElem?_pos, List.getElem?_cons_zero, aT, h1, em, ex]
          exact kn _ (by simp [hfr]) (by simp [hfr, q1]) (by simp [hfr, q3])
        | false =>
          rw [ex, em] at kr
          have kr := kr rfl
          simp -implicitDefEqProofs [hfr, q1, q3, get_base0, -getElem?_pos, List.getElem?_cons_zero, aT, h1, em, ex]
          exact kr _ (by simp [hfr]) (by simp [hfr])
    have g6 : ∀ (fr : List AV) (Q : AE → List AV → St → Prop) (k : List It), fr.length = 90 → slot fr 1 = .ptr o.length 0 0 → slot fr 3 = .int .i64 r →
        (((!B) && !mC) = false → ∀ fr' : List AV, fr'.length = 90 → slot fr' 1 = .ptr o.length 0 0 → slot fr' 3 = .int .i64 r → run (D T) false Q k .norm fr' ⟨o ++ [X], o.length, []⟩) →
        (((!B) && !mC) = true → ∀ fr' : List AV, fr'.length = 90 → slot fr' 2 = .bool false → run (D T) false Q k .ret fr' ⟨o ++ [X], o.length, []⟩) → run (D T) false Q (.c G70_6 :: k) .norm fr ⟨o ++ [X], o.length, []⟩ := by
      intro fr Q k hfr q1 q3 kn kr
      rw [hX] at kn kr ⊢
      unfold G70_6
      cases ex : B with
      | true =>
        rw [ex] at kn
        have kn := kn rfl
        simp -implicitDefEqProofs [hfr, q1, q3, get_base0, -getElem?_pos, List.getElem?_cons_zero, aC, h2, ex]
        exact kn _ (by simp [hfr]) (by simp [hfr, q1]) (by simp [hfr, q3])
      | false =>
        cases em : mC with
        | true =>
          rw [ex, em] at kn
          have kn := kn rfl
          simp -implicitDefEqProofs [hfr, q1, q3, get_base0, -getElem?_pos, List.getElem?_cons_zero, aC, h2, em, ex]
          exact kn _ (by simp [hfr]) (by simp [hfr, q1]) (by simp [hfr, q3])
        | false =>
          rw [ex, em] at kr
          have kr := kr rfl
          simp -implicitDefEqProofs [hfr, q1, q3, get_base0, -getElem?_pos, List.getElem?_cons_zero, aC, h2, em, ex]
          exact kr _ (by simp [hfr]) (by simp [hfr])
    have g7 : ∀ (fr : List AV) (Q : AE → List AV → St → Prop) (k : List It), fr.length = 90 → slot fr 1 = .ptr o.length 0 0 → slot fr 3 = .int .i64 r →
        (((b) && !(r == 23)) = false → ∀ fr' : List AV, fr'.length = 90 → slot fr' 1 = .ptr o.length 0 0 → slot fr' 3 = .int .i64 r → run (D T) false Q k .norm fr' ⟨o ++ [X], o.length, []⟩) →
        (((b) && !(r == 23)) = true → ∀ fr' : List AV, fr'.length = 90 → slot fr' 2 = .bool false → run (D T) false Q k .ret fr' ⟨o ++ [X], o.length, []⟩) → run (D T) false Q (.c G70_7 :: k) .norm fr ⟨o ++ [X], o.length, []⟩ := by
      intro fr Q k hfr q1 q3 kn kr
      rw [hX] at kn kr ⊢
      unfold G70_7
      cases ex : b with
      | false =>
        rw [ex] at kn
        have kn := kn rfl
        simp -implicitDefEqProofs [hfr, q1, q3, get_base0, -getElem?_pos, List.getElem?_cons_zero, h1, ex]
        exact kn _ (by simp [hfr]) (by simp [hfr, q1]) (by simp [hfr, q3])
      | true =>
        by_cases em : r = 23
        · subst em
          rw [ex] at kn
          have kn := kn rfl
          simp -implicitDefEqProofs [hfr, q1, q3, get_base0, -getElem?_pos, List.getElem?_cons_zero, h1, ex]
          exact kn _ (by simp [hfr]) (by simp [hfr, q1]) (by simp [hfr, q3])
        · have em' : (r == 23) = false := by simpa using em
          rw [ex, em'] at kr
          have kr := kr rfl
          simp -implicitDefEqProofs [hfr, q1, q3, get_base0, -getElem?_pos, List.getElem?_cons_zero, h1, em, em', ex]
          exact kr _ (by simp [hfr]) (by simp [hfr])
    have g8 : ∀ (fr : List AV) (Q : AE → List AV → St → Prop) (k : List It), fr.length = 90 → slot fr 1 = .ptr o.length 0 0 → slot fr 3 = .int .i64 r →
        (((decide ((chs.length : Int) > 0)) && !mCh) = false → ∀ fr' : List AV, fr'.length = 90 → slot fr' 1 = .ptr o.length 0 0 → slot fr' 3 = .int .i64 r → run (D T) false Q k .norm fr' ⟨o ++ [X], o.length, []⟩) →
        (((decide ((chs.length : Int) > 0)) && !mCh) = true → ∀ fr' : List AV, fr'.length = 90 → slot fr' 2 = .bool false → run (D T) false Q k .ret fr' ⟨o ++ [X], o.length, []⟩) → run (D T) false Q (.c G70_8 :: k) .norm fr ⟨o ++ [X], o.length, []⟩ := by
      intro fr Q k hfr q1 q3 kn kr
      rw [hX] at kn kr ⊢
      unfold G70_8
      cases ex : (decide ((chs.length : Int) > 0)) with
      | false =>
        have exf : ¬ (((chs.length : Nat) : Int) > 0) := of_decide_eq_false ex
        have exg : chs.length = 0 := by omega
        rw [ex] at kn
        have kn := kn rfl
        simp -implicitDefEqProofs [hfr, q1, q3, get_base0, -getElem?_pos, List.getElem?_cons_zero, aCh, exf, exg]
        exact kn _ (by simp [hfr]) (by simp [hfr, q1]) (by simp [hfr, q3])
      | true =>
        have ext : (((chs.length : Nat) : Int) > 0) := of_decide_eq_true ex
        have exg : 0 < chs.length := by omega
        cases em : mCh with
        | true =>
          rw [ex, em] at kn
          have kn := kn rfl
          simp -implicitDefEqProofs [hfr, q1, q3, get_base0, -getElem?_pos, List.getElem?_cons_zero, aCh, em, ext, exg]
          exact kn _ (by simp [hfr]) (by simp [hfr, q1]) (by simp [hfr, q3])
        | false =>
          rw [ex, em] at kr
          have kr := kr rfl
          simp -implicitDefEqProofs [hfr, q1, q3, get_base0, -getElem?_pos, List.getElem?_cons_zero, aCh, em, ext, exg]
          exact kr _ (by simp [hfr]) (by simp [hfr])
    have g9 : ∀ (fr : List AV) (Q : AE → List AV → St → Prop) (k : List It), fr.length = 90 → slot fr 1 = .ptr o.length 0 0 → slot fr 3 = .int .i64 r →
        (((decide ((les.length : Int) > 0)) && !(r == 27)) = false → ∀ fr' : List AV, fr'.length = 90 → slot fr' 1 = .ptr o.length 0 0 → slot fr' 3 = .int .i64 r → run (D T) false Q k .norm fr' ⟨o ++ [X], o.length, []⟩) →
        (((decide ((les.length : Int) > 0)) && !(r == 27)) = true → ∀ fr' : List AV, fr'.length = 90 → slot fr' 2 = .bool false → run (D T) false Q k .ret fr' ⟨o ++ [X], o.length, []⟩) → run (D T) false Q (.c G70_9 :: k) .norm fr ⟨o ++ [X], o.length, []⟩ := by
      intro fr Q k hfr q1 q3 kn kr
      rw [hX] at kn kr ⊢
      unfold G70_9
      cases ex : (decide ((les.length : Int) > 0)) with
      | false =>
        have exf : ¬ (((les.length : Nat) : Int) > 0) := of_decide_eq_false ex
        have exg : les.length = 0 := by omega
        rw [ex] at kn
        have kn := kn rfl
        simp -implicitDefEqProofs [hfr, q1, q3, get_base0, -getElem?_pos, List.getElem?_cons_zero, h1, exf, exg]
        exact kn _ (by simp [hfr]) (by simp [hfr, q1]) (by simp [hfr, q3])
      | true =>
        have ext : (((les.length : Nat) : Int) > 0) := of_decide_eq_true ex
        have exg : 0 < les.length := by omega
        by_cases em : r = 27
        · subst em
          rw [ex] at kn
          have kn := kn rfl
          simp -implicitDefEqProofs [hfr, q1, q3, get_base0, -getElem?_pos, List.getElem?_cons_zero, h1, ext, exg]
          exact kn _ (by simp [hfr]) (by simp [hfr, q1]) (by simp [hfr, q3])
        · have em' : (r == 27) = false := by simpa using em
          rw [ex, em'] at kr
          have kr := kr rfl
          simp -implicitDefEqProofs [hfr, q1, q3, get_base0, -getElem?_pos, List.getElem?_cons_zero, h1, em, em', ext, exg]
          exact kr _ (by simp [hfr]) (by simp [hfr])
    have hE2 : R = (!((!bytesEq h ⟨#[]⟩) && !mH) && !((!bytesEq nw ⟨#[]⟩) && !mN) && !((!bytesEq v ⟨#[]⟩) && !mV) && !((!A) && !mT) && !((!B) && !mC) && !((b) && !(r == 23)) && !((decide ((chs.length : Int) > 0)) && !mCh) && !((decide ((les.length : Int) > 0)) && !(r == 27)) && (C || r == 26)) := by
      rw [hE]
      cases C <;> cases A <;> cases B <;> cases b <;> cases bytesEq h ⟨#[]⟩ <;> cases bytesEq nw ⟨#[]⟩ <;> cases bytesEq v ⟨#[]⟩ <;> simp
    clear hE
    apply call_by (show T 70 = some G70 from (by exact rfl : T 70 = some F70).trans (congrArg some F70_G)) (by simp)
    intro fr hfr hsl
    have s0 := hsl 0 _ rfl
    simp only [Pf.av, Pf.cells_all] at s0
    unfold G70_0 G70_1
    simp -implicitDefEqProofs [hfr, s0, get_base0, -getElem?_pos, List.getElem?_cons_zero]
    rw [← hX]
    apply g2 _ _ _ (by simp [hfr]) (by simp [hfr]) (by simp [hfr])
    rotate_left
    · intro hc fr' hf h2
      rw [hc] at hE2
      have hR : R = false := by rw [hE2]; simp
      simp -implicitDefEqProofs [hf, h2, hR]
    intro c1 r1 f1 a1 b1
    rw [c1] at hE2
    try rw [run_seq]
    apply g3 _ _ _ (by simp [f1]) (by simp [f1, a1]) (by simp [f1, b1])
    rotate_left
    · intro hc fr' hf h2
      rw [hc] at hE2
      have hR : R = false := by rw [hE2]; simp
      simp -implicitDefEqProofs [hf, h2, hR]
    intro c2 r2 f2 a2 b2
    rw [c2] at hE2
    try rw [run_seq]
    apply g4 _ _ _ (by simp [f2]) (by simp [f2, a2]) (by simp [f2, b2])
    rotate_left
    · intro hc fr' hf h2
      rw [hc] at hE2
      have hR : R = false := by rw [hE2]; simp
      simp -implicitDefEqProofs [hf, h2, hR]
    intro c3 r3 f3 a3 b3
    rw [c3] at hE2
    try rw [run_seq]
    apply g5 _ _ _ (by simp [f3]) (by simp [f3, a3]) (by simp [f3, b3])
    rotate_left
    · intro hc fr' hf h2
      rw [hc] at hE2
      have hR : R = false := by rw [hE2]; simp
      simp -implicitDefEqProofs [hf, h2, hR]
    intro c4 r4 f4 a4 b4
    rw [c4] at hE2
    try rw [run_seq]
    apply g6 _ _ _ (by simp [f4]) (by simp [f4, a4]) (by simp [f4, b4])
    rotate_left
    · intro hc fr' hf h2
      rw [hc] at hE2
      have hR : R = false := by rw [hE2]; simp
      simp -implicitDefEqProofs [hf, h2, hR]
    intro c5 r5 f5 a5 b5
    rw [c5] at hE2
    try rw [run_seq]
    apply g7 _ _ _ (by simp [f5]) (by simp [f5, a5]) (by simp [f5, b5])
    rotate_left
    · intro hc fr' hf h2
      rw [hc] at hE2
      have hR : R = false := by rw [hE2]; simp
      simp -implicitDefEqProofs [hf, h2, hR]
    intro c6 r6 f6 a6 b6
    rw [c6] at hE2
    try rw [run_seq]
    apply g8 _ _ _ (by simp [f6]) (by simp [f6, a6]) (by simp [f6, b6])
    rotate_left
    · intro hc fr' hf h2
      rw [hc] at hE2
      have hR : R = false := by rw [hE2]; simp
      simp -implicitDefEqProofs [hf, h2, hR]
    intro c7 r7 f7 a7 b7
    rw [c7] at hE2
    try rw [run_seq]
    apply g9 _ _ _ (by simp [f7]) (by simp [f7, a7]) (by simp [f7, b7])
    rotate_left
    · intro hc fr' hf h2
      rw [hc] at hE2
      have hR : R = false := by rw [hE2]; simp
      simp -implicitDefEqProofs [hf, h2, hR]
    intro c8 r8 f8 a8 b8
    rw [c8] at hE2
    try rw [run_seq]
    unfold G70_10 G70_11
    have gx2 := gx
    rw [hX] at gx2 ⊢
    have hR : R = (C || r == 26) := by rw [hE2]; simp
    cases C with
    | true => simp -implicitDefEqProofs [f8, a8, b8, gx2, h3, hR, get_base0, -getElem?_pos, List.getElem?_cons_zero]
    | false => simp -implicitDefEqProofs [f8, a8, b8, gx2, h3, hR, get_base0, -getElem?_pos, List.getElem?_cons_zero]

end Go.Proofs.YtcfhomdkchhigaaDoor.A
