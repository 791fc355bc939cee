/- ClaimOrder: for any three claims and any name the law's function answers true, and its arguments read as before. No condition beyond the given statement's. -/
import Derived.Test.YtpenaaljaahanaaP6
import Derived.Test.YtpenaaljaahanaaG
namespace Go.Proofs.Ytpenaaljaahanaa.A
open Go
set_option maxRecDepth 10000
set_option linter.unusedSimpArgs false
attribute [-simp] List.all_eq_true put slot_def ld idxA lenOf elems canA app hand

theorem alive3_k (x y z : List AV) : (orc T 60).call 10 [] { objs := [Obj.arr 25 5 [x], Obj.arr 25 5 [y], Obj.arr 25 5 [z]], ro := 0, df := [] } = some (.bool true, { objs := [Obj.arr 25 5 [x], Obj.arr 25 5 [y], Obj.arr 25 5 [z]], ro := 0, df := [] }) := by kernel_rfl
theorem alive3 (x y z : List AV) : (D T).call 10 [] { objs := [Obj.arr 25 5 [x], Obj.arr 25 5 [y], Obj.arr 25 5 [z]], ro := 0, df := [] } = some (.bool true, { objs := [Obj.arr 25 5 [x], Obj.arr 25 5 [y], Obj.arr 25 5 [z]], ro := 0, df := [] }) := (D_le T 60).call _ _ _ _ (alive3_k x y z)
theorem alive4_k (x y z w : List AV) : (orc T 60).call 10 [] { objs := [Obj.arr 25 5 [x], Obj.arr 25 5 [y], Obj.arr 25 5 [z], Obj.arr 25 5 [w]], ro := 0, df := [] } = some (.bool true, { objs := [Obj.arr 25 5 [x], Obj.arr 25 5 [y], Obj.arr 25 5 [z], Obj.arr 25 5 [w]], ro := 0, df := [] }) := by kernel_rfl
theorem alive4 (x y z w : List AV) : (D T).call 10 [] { objs := [Obj.arr 25 5 [x], Obj.arr 25 5 [y], Obj.arr 25 5 [z], Obj.arr 25 5 [w]], ro := 0, df := [] } = some (.bool true, { objs := [Obj.arr 25 5 [x], Obj.arr 25 5 [y], Obj.arr 25 5 [z], Obj.arr 25 5 [w]], ro := 0, df := [] }) := (D_le T 60).call _ _ _ _ (alive4_k x y z w)

/-- binders' names don't matter -/
theorem ccm_name (op : Int) (s s' u : ByteArray) (ts : List Tm) (cs : List Cl) (h : binder op = true) (d : Cl) : ccm (.mk op s' u ts cs) d = ccm (.mk op s u ts cs) d := by
  obtain ⟨a2, s2, u2, ts2, cs2⟩ := d
  rw [ccm, ccm]
  simp only [h, if_true]

set_option maxHeartbeats 4000000 in
theorem order_11 (nm so : ByteArray) (ts : List Tm) (cs : List Cl) (b c : Cl) (name : ByteArray)  (ha : (Cl.mk 11 nm so ts cs).ok) (hb : b.ok) (hc : c.ok) (hname : name.size ≤ maxLen) (hk : wt (.mk 11 nm so ts cs) 400 ≤ 400 ∧ wt b 400 ≤ 400 ∧ wt c 400 ≤ 400 ∧ name.size ≤ 100) :
    (D T).call 5 [(Cl.mk 11 nm so ts cs).av, b.av, c.av, .str name] st0 = some (.bool true, st0) := by
  have hd : ((.mk 11 name so ts cs) : Cl).ok := by simp only [Cl.ok] at ha ⊢; exact ⟨ha.1, hname, ha.2.2⟩
  have sa := fun st => big_eq _ ha 400 (by omega) (by omega) st
  have sb := fun st => big_eq b hb 400 (by omega) (by omega) st
  have sc := fun st => big_eq c hc 400 (by omega) (by omega) st
  have hab := fun st => ccm_eq _ ha b hb st
  have hba := fun st => ccm_eq b hb _ ha st
  have hbc := fun st => ccm_eq b hb c hc st
  have hac := fun st => ccm_eq _ ha c hc st
  have haa := fun st => ccm_eq _ ha _ ha st
  have hs := fun st => csame_eq _ b ha hb st
  have hsd := fun st => csame_eq _ _ ha hd st
  have had := fun st => ccm_eq _ ha _ hd st
  have hdb := fun st => ccm_eq _ hd b hb st
  have e1 := ccm_neg b (.mk 11 nm so ts cs)
  have e2 := ccm_self (.mk 11 nm so ts cs)
  have e3 : ccm (.mk 11 nm so ts cs) (.mk 11 name so ts cs) = 0 := by rw [ccm_neg, ccm_name 11 nm name so ts cs rfl, ccm_self]; rfl
  have e4 : ccm (.mk 11 name so ts cs) b = ccm (.mk 11 nm so ts cs) b := ccm_name 11 nm name so ts cs rfl b
  obtain ⟨r1, r2⟩ := ccm_rng (.mk 11 nm so ts cs) b
  have tr := ccm_tr (.mk 11 nm so ts cs) b c
  unfold Tr at tr
  rw [e1] at hba
  rw [e3] at hsd had
  rw [e4] at hdb
  generalize ccm (.mk 11 nm so ts cs) b = x at *
  generalize ccm b c = y at *
  generalize ccm (.mk 11 nm so ts cs) c = z at *
  rw [e2] at haa
  obtain ⟨k1, k2, k3, k4⟩ := hk
  have k1' : ¬ 400 < wt (.mk 11 nm so ts cs) 400 := by omega
  have k2' : ¬ 400 < wt b 400 := by omega
  have k3' : ¬ 400 < wt c 400 := by omega
  have k4' : ¬ 100 < (name.size : Int) := by omega
  have w : IntKind.i64.wrap x = x := wrap_id (by omega) (by omega)
  have n1 : ¬ x < -1 := by omega
  have n2 : ¬ 1 < x := by omega
  simp only [Cl.av, Cl.cells_mk] at sa sb sc hab hba hbc hac haa hs hsd had hdb
  apply call_by (by exact rfl : T 5 = some _) (by simp)
  intro fr hfr hsl
  have s0 := hsl 0 _ rfl
  have s1 := hsl 1 _ rfl
  have s2 := hsl 2 _ rfl
  have s3 := hsl 3 _ rfl
  simp only [Cl.av, Cl.cells_mk] at s0 s1 s2
  by_cases hx : 0 < x
  · have xp : 0 < x := by omega
    have xl : ¬ x ≤ 0 := by omega
    have xz : ¬ x = 0 := by omega
    have xb : (x == 0) = false := by simpa using xz
    have xn : ¬ x < 0 := by omega
    simp -implicitDefEqProofs [hfr, s0, s1, s2, s3, Cl.av, Cl.cells_mk, st0, sa, sb, sc, k1', k2', k3', k4', hab, hba, hbc, hac, haa, hs, hsd, had, hdb, alive4, xp, xl, xz, xb, xn, w, n1, n2]
  · by_cases hx0 : x = 0
    · subst hx0
      by_cases hy : 0 < y
      · have yp : 0 < y := by omega
        have yl : ¬ y ≤ 0 := by omega
        have yz : ¬ y = 0 := by omega
        have yb : (y == 0) = false := by simpa using yz
        have yn : ¬ y < 0 := by omega
        simp -implicitDefEqProofs [hfr, s0, s1, s2, s3, Cl.av, Cl.cells_mk, st0, sa, sb, sc, k1', k2', k3', k4', hab, hba, hbc, hac, haa, hs, hsd, had, hdb, alive4, yp, yl, yz, yb, yn, w]
      · obtain ⟨t1, t2⟩ := tr (by omega) (by omega)
        by_cases hy0 : y = 0
        · subst hy0
          obtain rfl : z = 0 := t2.2 ⟨rfl, rfl⟩
          simp -implicitDefEqProofs [hfr, s0, s1, s2, s3, Cl.av, Cl.cells_mk, st0, sa, sb, sc, k1', k2', k3', k4', hab, hba, hbc, hac, haa, hs, hsd, had, hdb, alive4, w]
        · have hz0 : ¬ z = 0 := fun q => hy0 (t2.1 q).2
          have yp : ¬ 0 < y := by omega
          have yl : y ≤ 0 := by omega
          have yz : ¬ y = 0 := by omega
          have yb : (y == 0) = false := by simpa using yz
          have yn : y < 0 := by omega
          have zp : ¬ 0 < z := by omega
          have zl : z ≤ 0 := by omega
          have zz : ¬ z = 0 := by omega
          have zb : (z == 0) = false := by simpa using zz
          have zn : z < 0 := by omega
          simp -implicitDefEqProofs [hfr, s0, s1, s2, s3, Cl.av, Cl.cells_mk, st0, sa, sb, sc, k1', k2', k3', k4', hab, hba, hbc, hac, haa, hs, hsd, had, hdb, alive4, yp, yl, yz, yb, yn, zp, zl, zz, zb, zn, w]
    · by_cases hy : 0 < y
      · have xp : ¬ 0 < x := by omega
        have xl : x ≤ 0 := by omega
        have xz : ¬ x = 0 := by omega
        have xb : (x == 0) = false := by simpa using xz
        have xn : x < 0 := by omega
        have yp : 0 < y := by omega
        have yl : ¬ y ≤ 0 := by omega
        have yz : ¬ y = 0 := by omega
        have yb : (y == 0) = false := by simpa using yz
        have yn : ¬ y < 0 := by omega
        simp -implicitDefEqProofs [hfr, s0, s1, s2, s3, Cl.av, Cl.cells_mk, st0, sa, sb, sc, k1', k2', k3', k4', hab, hba, hbc, hac, haa, hs, hsd, had, hdb, alive4, xp, xl, xz, xb, xn, yp, yl, yz, yb, yn, w, n1, n2]
      · obtain ⟨t1, t2⟩ := tr (by omega) (by omega)
        have hz0 : ¬ z = 0 := fun q => hx0 (t2.1 q).1
        by_cases hy0 : y = 0
        · subst hy0
          have xp : ¬ 0 < x := by omega
          have xl : x ≤ 0 := by omega
          have xz : ¬ x = 0 := by omega
          have xb : (x == 0) = false := by simpa using xz
          have xn : x < 0 := by omega
          have zp : ¬ 0 < z := by omega
          have zl : z ≤ 0 := by omega
          have zz : ¬ z = 0 := by omega
          have zb : (z == 0) = false := by simpa using zz
          have zn : z < 0 := by omega
          simp -implicitDefEqProofs [hfr, s0, s1, s2, s3, Cl.av, Cl.cells_mk, st0, sa, sb, sc, k1', k2', k3', k4', hab, hba, hbc, hac, haa, hs, hsd, had, hdb, alive4, xp, xl, xz, xb, xn, zp, zl, zz, zb, zn, w, n1, n2]
        · have xp : ¬ 0 < x := by omega
          have xl : x ≤ 0 := by omega
          have xz : ¬ x = 0 := by omega
          have xb : (x == 0) = false := by simpa using xz
          have xn : x < 0 := by omega
          have yp : ¬ 0 < y := by omega
          have yl : y ≤ 0 := by omega
          have yz : ¬ y = 0 := by omega
          have yb : (y == 0) = false := by simpa using yz
          have yn : y < 0 := by omega
          have zp : ¬ 0 < z := by omega
          have zl : z ≤ 0 := by omega
          have zz : ¬ z = 0 := by omega
          have zb : (z == 0) = false := by simpa using zz
          have zn : z < 0 := by omega
          simp -implicitDefEqProofs [hfr, s0, s1, s2, s3, Cl.av, Cl.cells_mk, st0, sa, sb, sc, k1', k2', k3', k4', hab, hba, hbc, hac, haa, hs, hsd, had, hdb, alive4, xp, xl, xz, xb, xn, yp, yl, yz, yb, yn, zp, zl, zz, zb, zn, w, n1, n2]

set_option maxHeartbeats 4000000 in
theorem order_12 (nm so : ByteArray) (ts : List Tm) (cs : List Cl) (b c : Cl) (name : ByteArray)  (ha : (Cl.mk 12 nm so ts cs).ok) (hb : b.ok) (hc : c.ok) (hname : name.size ≤ maxLen) (hk : wt (.mk 12 nm so ts cs) 400 ≤ 400 ∧ wt b 400 ≤ 400 ∧ wt c 400 ≤ 400 ∧ name.size ≤ 100) :
    (D T).call 5 [(Cl.mk 12 nm so ts cs).av, b.av, c.av, .str name] st0 = some (.bool true, st0) := by
  have hd : ((.mk 12 name so ts cs) : Cl).ok := by simp only [Cl.ok] at ha ⊢; exact ⟨ha.1, hname, ha.2.2⟩
  have sa := fun st => big_eq _ ha 400 (by omega) (by omega) st
  have sb := fun st => big_eq b hb 400 (by omega) (by omega) st
  have sc := fun st => big_eq c hc 400 (by omega) (by omega) st
  have hab := fun st => ccm_eq _ ha b hb st
  have hba := fun st => ccm_eq b hb _ ha st
  have hbc := fun st => ccm_eq b hb c hc st
  have hac := fun st => ccm_eq _ ha c hc st
  have haa := fun st => ccm_eq _ ha _ ha st
  have hs := fun st => csame_eq _ b ha hb st
  have hsd := fun st => csame_eq _ _ ha hd st
  have had := fun st => ccm_eq _ ha _ hd st
  have hdb := fun st => ccm_eq _ hd b hb st
  have e1 := ccm_neg b (.mk 12 nm so ts cs)
  have e2 := ccm_self (.mk 12 nm so ts cs)
  have e3 : ccm (.mk 12 nm so ts cs) (.mk 12 name so ts cs) = 0 := by rw [ccm_neg, ccm_name 12 nm name so ts cs rfl, ccm_self]; rfl
  have e4 : ccm (.mk 12 name so ts cs) b = ccm (.mk 12 nm so ts cs) b := ccm_name 12 nm name so ts cs rfl b
  obtain ⟨r1, r2⟩ := ccm_rng (.mk 12 nm so ts cs) b
  have tr := ccm_tr (.mk 12 nm so ts cs) b c
  unfold Tr at tr
  rw [e1] at hba
  rw [e3] at hsd had
  rw [e4] at hdb
  generalize ccm (.mk 12 nm so ts cs) b = x at *
  generalize ccm b c = y at *
  generalize ccm (.mk 12 nm so ts cs) c = z at *
  rw [e2] at haa
  obtain ⟨k1, k2, k3, k4⟩ := hk
  have k1' : ¬ 400 < wt (.mk 12 nm so ts cs) 400 := by omega
  have k2' : ¬ 400 < wt b 400 := by omega
  have k3' : ¬ 400 < wt c 400 := by omega
  have k4' : ¬ 100 < (name.size : Int) := by omega
  have w : IntKind.i64.wrap x = x := wrap_id (by omega) (by omega)
  have n1 : ¬ x < -1 := by omega
  have n2 : ¬ 1 < x := by omega
  simp only [Cl.av, Cl.cells_mk] at sa sb sc hab hba hbc hac haa hs hsd had hdb
  apply call_by (by exact rfl : T 5 = some _) (by simp)
  intro fr hfr hsl
  have s0 := hsl 0 _ rfl
  have s1 := hsl 1 _ rfl
  have s2 := hsl 2 _ rfl
  have s3 := hsl 3 _ rfl
  simp only [Cl.av, Cl.cells_mk] at s0 s1 s2
  by_cases hx : 0 < x
  · have xp : 0 < x := by omega
    have xl : ¬ x ≤ 0 := by omega
    have xz : ¬ x = 0 := by omega
    have xb : (x == 0) = false := by simpa using xz
    have xn : ¬ x < 0 := by omega
    simp -implicitDefEqProofs [hfr, s0, s1, s2, s3, Cl.av, Cl.cells_mk, st0, sa, sb, sc, k1', k2', k3', k4', hab, hba, hbc, hac, haa, hs, hsd, had, hdb, alive4, xp, xl, xz, xb, xn, w, n1, n2]
  · by_cases hx0 : x = 0
    · subst hx0
      by_cases hy : 0 < y
      · have yp : 0 < y := by omega
        have yl : ¬ y ≤ 0 := by omega
        have yz : ¬ y = 0 := by omega
        have yb : (y == 0) = false := by simpa using yz
        have yn : ¬ y < 0 := by omega
        simp -implicitDefEqProofs [hfr, s0, s1, s2, s3, Cl.av, Cl.cells_mk, st0, sa, sb, sc, k1', k2', k3', k4', hab, hba, hbc, hac, haa, hs, hsd, had, hdb, alive4, yp, yl, yz, yb, yn, w]
      · obtain ⟨t1, t2⟩ := tr (by omega) (by omega)
        by_cases hy0 : y = 0
        · subst hy0
          obtain rfl : z = 0 := t2.2 ⟨rfl, rfl⟩
          simp -implicitDefEqProofs [hfr, s0, s1, s2, s3, Cl.av, Cl.cells_mk, st0, sa, sb, sc, k1', k2', k3', k4', hab, hba, hbc, hac, haa, hs, hsd, had, hdb, alive4, w]
        · have hz0 : ¬ z = 0 := fun q => hy0 (t2.1 q).2
          have yp : ¬ 0 < y := by omega
          have yl : y ≤ 0 := by omega
          have yz : ¬ y = 0 := by omega
          have yb : (y == 0) = false := by simpa using yz
          have yn : y < 0 := by omega
          have zp : ¬ 0 < z := by omega
          have zl : z ≤ 0 := by omega
          have zz : ¬ z = 0 := by omega
          have zb : (z == 0) = false := by simpa using zz
          have zn : z < 0 := by omega
          simp -implicitDefEqProofs [hfr, s0, s1, s2, s3, Cl.av, Cl.cells_mk, st0, sa, sb, sc, k1', k2', k3', k4', hab, hba, hbc, hac, haa, hs, hsd, had, hdb, alive4, yp, yl, yz, yb, yn, zp, zl, zz, zb, zn, w]
    · by_cases hy : 0 < y
      · have xp : ¬ 0 < x := by omega
        have xl : x ≤ 0 := by omega
        have xz : ¬ x = 0 := by omega
        have xb : (x == 0) = false := by simpa using xz
        have xn : x < 0 := by omega
        have yp : 0 < y := by omega
        have yl : ¬ y ≤ 0 := by omega
        have yz : ¬ y = 0 := by omega
        have yb : (y == 0) = false := by simpa using yz
        have yn : ¬ y < 0 := by omega
        simp -implicitDefEqProofs [hfr, s0, s1, s2, s3, Cl.av, Cl.cells_mk, st0, sa, sb, sc, k1', k2', k3', k4', hab, hba, hbc, hac, haa, hs, hsd, had, hdb, alive4, xp, xl, xz, xb, xn, yp, yl, yz, yb, yn, w, n1, n2]
      · obtain ⟨t1, t2⟩ := tr (by omega) (by omega)
        have hz0 : ¬ z = 0 := fun q => hx0 (t2.1 q).1
        by_cases hy0 : y = 0
        · subst hy0
          have xp : ¬ 0 < x := by omega
          have xl : x ≤ 0 := by omega
          have xz : ¬ x = 0 := by omega
          have xb : (x == 0) = false := by simpa using xz
          have xn : x < 0 := by omega
          have zp : ¬ 0 < z := by omega
          have zl : z ≤ 0 := by omega
          have zz : ¬ z = 0 := by omega
          have zb : (z == 0) = false := by simpa using zz
          have zn : z < 0 := by omega
          simp -implicitDefEqProofs [hfr, s0, s1, s2, s3, Cl.av, Cl.cells_mk, st0, sa, sb, sc, k1', k2', k3', k4', hab, hba, hbc, hac, haa, hs, hsd, had, hdb, alive4, xp, xl, xz, xb, xn, zp, zl, zz, zb, zn, w, n1, n2]
        · have xp : ¬ 0 < x := by omega
          have xl : x ≤ 0 := by omega
          have xz : ¬ x = 0 := by omega
          have xb : (x == 0) = false := by simpa using xz
          have xn : x < 0 := by omega
          have yp : ¬ 0 < y := by omega
          have yl : y ≤ 0 := by omega
          have yz : ¬ y = 0 := by omega
          have yb : (y == 0) = false := by simpa using yz
          have yn : y < 0 := by omega
          have zp : ¬ 0 < z := by omega
          have zl : z ≤ 0 := by omega
          have zz : ¬ z = 0 := by omega
          have zb : (z == 0) = false := by simpa using zz
          have zn : z < 0 := by omega
          simp -implicitDefEqProofs [hfr, s0, s1, s2, s3, Cl.av, Cl.cells_mk, st0, sa, sb, sc, k1', k2', k3', k4', hab, hba, hbc, hac, haa, hs, hsd, had, hdb, alive4, xp, xl, xz, xb, xn, yp, yl, yz, yb, yn, zp, zl, zz, zb, zn, w, n1, n2]

set_option maxHeartbeats 4000000 in
theorem order_n (op : Int) (nm so : ByteArray) (ts : List Tm) (cs : List Cl) (b c : Cl) (name : ByteArray) (b1 : ¬ op = 11) (b2 : ¬ op = 12) (ha : (Cl.mk op nm so ts cs).ok) (hb : b.ok) (hc : c.ok) (hname : name.size ≤ maxLen) (hk : wt (.mk op nm so ts cs) 400 ≤ 400 ∧ wt b 400 ≤ 400 ∧ wt c 400 ≤ 400 ∧ name.size ≤ 100) :
    (D T).call 5 [(Cl.mk op nm so ts cs).av, b.av, c.av, .str name] st0 = some (.bool true, st0) := by
  have c1 : (op == 11) = false := by simpa using b1
  have c2 : (op == 12) = false := by simpa using b2
  have hd : ((.mk op nm so ts cs) : Cl).ok := by simp only [Cl.ok] at ha ⊢; exact ⟨ha.1, ha.2.1, ha.2.2⟩
  have sa := fun st => big_eq _ ha 400 (by omega) (by omega) st
  have sb := fun st => big_eq b hb 400 (by omega) (by omega) st
  have sc := fun st => big_eq c hc 400 (by omega) (by omega) st
  have hab := fun st => ccm_eq _ ha b hb st
  have hba := fun st => ccm_eq b hb _ ha st
  have hbc := fun st => ccm_eq b hb c hc st
  have hac := fun st => ccm_eq _ ha c hc st
  have haa := fun st => ccm_eq _ ha _ ha st
  have hs := fun st => csame_eq _ b ha hb st
  have hsd := fun st => csame_eq _ _ ha hd st
  have had := fun st => ccm_eq _ ha _ hd st
  have hdb := fun st => ccm_eq _ hd b hb st
  have e1 := ccm_neg b (.mk op nm so ts cs)
  have e2 := ccm_self (.mk op nm so ts cs)
  have e3 : ccm (.mk op nm so ts cs) (.mk op nm so ts cs) = 0 := by exact e2
  have e4 : ccm (.mk op nm so ts cs) b = ccm (.mk op nm so ts cs) b := rfl
  obtain ⟨r1, r2⟩ := ccm_rng (.mk op nm so ts cs) b
  have tr := ccm_tr (.mk op nm so ts cs) b c
  unfold Tr at tr
  rw [e1] at hba
  rw [e3] at hsd had
  rw [e4] at hdb
  generalize ccm (.mk op nm so ts cs) b = x at *
  generalize ccm b c = y at *
  generalize ccm (.mk op nm so ts cs) c = z at *
  rw [e2] at haa
  obtain ⟨k1, k2, k3, k4⟩ := hk
  have k1' : ¬ 400 < wt (.mk op nm so ts cs) 400 := by omega
  have k2' : ¬ 400 < wt b 400 := by omega
  have k3' : ¬ 400 < wt c 400 := by omega
  have k4' : ¬ 100 < (name.size : Int) := by omega
  have w : IntKind.i64.wrap x = x := wrap_id (by omega) (by omega)
  have n1 : ¬ x < -1 := by omega
  have n2 : ¬ 1 < x := by omega
  simp only [Cl.av, Cl.cells_mk] at sa sb sc hab hba hbc hac haa hs hsd had hdb
  apply call_by (by exact rfl : T 5 = some _) (by simp)
  intro fr hfr hsl
  have s0 := hsl 0 _ rfl
  have s1 := hsl 1 _ rfl
  have s2 := hsl 2 _ rfl
  have s3 := hsl 3 _ rfl
  simp only [Cl.av, Cl.cells_mk] at s0 s1 s2
  by_cases hx : 0 < x
  · have xp : 0 < x := by omega
    have xl : ¬ x ≤ 0 := by omega
    have xz : ¬ x = 0 := by omega
    have xb : (x == 0) = false := by simpa using xz
    have xn : ¬ x < 0 := by omega
    simp -implicitDefEqProofs [hfr, s0, s1, s2, s3, Cl.av, Cl.cells_mk, st0, sa, sb, sc, k1', k2', k3', k4', hab, hba, hbc, hac, haa, hs, hsd, had, hdb, alive4, b1, b2, c1, c2, xp, xl, xz, xb, xn, w, n1, n2]
  · by_cases hx0 : x = 0
    · subst hx0
      by_cases hy : 0 < y
      · have yp : 0 < y := by omega
        have yl : ¬ y ≤ 0 := by omega
        have yz : ¬ y = 0 := by omega
        have yb : (y == 0) = false := by simpa using yz
        have yn : ¬ y < 0 := by omega
        simp -implicitDefEqProofs [hfr, s0, s1, s2, s3, Cl.av, Cl.cells_mk, st0, sa, sb, sc, k1', k2', k3', k4', hab, hba, hbc, hac, haa, hs, hsd, had, hdb, alive4, b1, b2, c1, c2, yp, yl, yz, yb, yn, w]
      · obtain ⟨t1, t2⟩ := tr (by omega) (by omega)
        by_cases hy0 : y = 0
        · subst hy0
          obtain rfl : z = 0 := t2.2 ⟨rfl, rfl⟩
          simp -implicitDefEqProofs [hfr, s0, s1, s2, s3, Cl.av, Cl.cells_mk, st0, sa, sb, sc, k1', k2', k3', k4', hab, hba, hbc, hac, haa, hs, hsd, had, hdb, alive4, b1, b2, c1, c2, w]
        · have hz0 : ¬ z = 0 := fun q => hy0 (t2.1 q).2
          have yp : ¬ 0 < y := by omega
          have yl : y ≤ 0 := by omega
          have yz : ¬ y = 0 := by omega
          have yb : (y == 0) = false := by simpa using yz
          have yn : y < 0 := by omega
          have zp : ¬ 0 < z := by omega
          have zl : z ≤ 0 := by omega
          have zz : ¬ z = 0 := by omega
          have zb : (z == 0) = false := by simpa using zz
          have zn : z < 0 := by omega
          simp -implicitDefEqProofs [hfr, s0, s1, s2, s3, Cl.av, Cl.cells_mk, st0, sa, sb, sc, k1', k2', k3', k4', hab, hba, hbc, hac, haa, hs, hsd, had, hdb, alive4, b1, b2, c1, c2, yp, yl, yz, yb, yn, zp, zl, zz, zb, zn, w]
    · by_cases hy : 0 < y
      · have xp : ¬ 0 < x := by omega
        have xl : x ≤ 0 := by omega
        have xz : ¬ x = 0 := by omega
        have xb : (x == 0) = false := by simpa using xz
        have xn : x < 0 := by omega
        have yp : 0 < y := by omega
        have yl : ¬ y ≤ 0 := by omega
        have yz : ¬ y = 0 := by omega
        have yb : (y == 0) = false := by simpa using yz
        have yn : ¬ y < 0 := by omega
        simp -implicitDefEqProofs [hfr, s0, s1, s2, s3, Cl.av, Cl.cells_mk, st0, sa, sb, sc, k1', k2', k3', k4', hab, hba, hbc, hac, haa, hs, hsd, had, hdb, alive4, b1, b2, c1, c2, xp, xl, xz, xb, xn, yp, yl, yz, yb, yn, w, n1, n2]
      · obtain ⟨t1, t2⟩ := tr (by omega) (by omega)
        have hz0 : ¬ z = 0 := fun q => hx0 (t2.1 q).1
        by_cases hy0 : y = 0
        · subst hy0
          have xp : ¬ 0 < x := by omega
          have xl : x ≤ 0 := by omega
          have xz : ¬ x = 0 := by omega
          have xb : (x == 0) = false := by simpa using xz
          have xn : x < 0 := by omega
          have zp : ¬ 0 < z := by omega
          have zl : z ≤ 0 := by omega
          have zz : ¬ z = 0 := by omega
          have zb : (z == 0) = false := by simpa using zz
          have zn : z < 0 := by omega
          simp -implicitDefEqProofs [hfr, s0, s1, s2, s3, Cl.av, Cl.cells_mk, st0, sa, sb, sc, k1', k2', k3', k4', hab, hba, hbc, hac, haa, hs, hsd, had, hdb, alive4, b1, b2, c1, c2, xp, xl, xz, xb, xn, zp, zl, zz, zb, zn, w, n1, n2]
        · have xp : ¬ 0 < x := by omega
          have xl : x ≤ 0 := by omega
          have xz : ¬ x = 0 := by omega
          have xb : (x == 0) = false := by simpa using xz
          have xn : x < 0 := by omega
          have yp : ¬ 0 < y := by omega
          have yl : y ≤ 0 := by omega
          have yz : ¬ y = 0 := by omega
          have yb : (y == 0) = false := by simpa using yz
          have yn : y < 0 := by omega
          have zp : ¬ 0 < z := by omega
          have zl : z ≤ 0 := by omega
          have zz : ¬ z = 0 := by omega
          have zb : (z == 0) = false := by simpa using zz
          have zn : z < 0 := by omega
          simp -implicitDefEqProofs [hfr, s0, s1, s2, s3, Cl.av, Cl.cells_mk, st0, sa, sb, sc, k1', k2', k3', k4', hab, hba, hbc, hac, haa, hs, hsd, had, hdb, alive4, b1, b2, c1, c2, xp, xl, xz, xb, xn, yp, yl, yz, yb, yn, zp, zl, zz, zb, zn, w, n1, n2]

theorem law_corder (a b c : Cl) (name : ByteArray) (ha : a.ok) (hb : b.ok) (hc : c.ok) (hname : name.size ≤ maxLen) : (D T).call 5 [a.av, b.av, c.av, .str name] st0 = some (.bool true, st0) := by
  by_cases hk : wt a 400 ≤ 400 ∧ wt b 400 ≤ 400 ∧ wt c 400 ≤ 400 ∧ name.size ≤ 100
  · obtain ⟨op, nm, so, ts, cs⟩ := a
    by_cases b1 : op = 11
    · subst b1; exact order_11 nm so ts cs b c name ha hb hc hname hk
    · by_cases b2 : op = 12
      · subst b2; exact order_12 nm so ts cs b c name ha hb hc hname hk
      · exact order_n op nm so ts cs b c name b1 b2 ha hb hc hname hk
  · have sa := fun st => big_eq a ha 400 (by omega) (by omega) st
    have sb := fun st => big_eq b hb 400 (by omega) (by omega) st
    have sc := fun st => big_eq c hc 400 (by omega) (by omega) st
    simp only [Cl.av] at sa sb sc
    apply call_by (by exact rfl : T 5 = some _) (by simp)
    intro fr hfr hsl
    have s0 := hsl 0 _ rfl
    have s1 := hsl 1 _ rfl
    have s2 := hsl 2 _ rfl
    have s3 := hsl 3 _ rfl
    simp only [Cl.av] at s0 s1 s2
    by_cases k1 : 400 < wt a 400
    · simp -implicitDefEqProofs [hfr, s0, s1, s2, s3, Cl.av, st0, sa, k1, alive3]
    · by_cases k2 : 400 < wt b 400
      · simp -implicitDefEqProofs [hfr, s0, s1, s2, s3, Cl.av, st0, sa, sb, k1, k2, alive3]
      · by_cases k3 : 400 < wt c 400
        · simp -implicitDefEqProofs [hfr, s0, s1, s2, s3, Cl.av, st0, sa, sb, sc, k1, k2, k3, alive3]
        · have k4 : 100 < (name.size : Int) := by omega
          simp -implicitDefEqProofs [hfr, s0, s1, s2, s3, Cl.av, st0, sa, sb, sc, k1, k2, k3, k4, alive3]

end Go.Proofs.Ytpenaaljaahanaa.A
