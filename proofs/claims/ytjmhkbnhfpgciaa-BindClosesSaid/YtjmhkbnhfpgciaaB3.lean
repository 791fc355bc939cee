/- What is done to parts of terms: lifted, opened, closed; the program's. -/
import Derived.Test.YtjmhkbnhfpgciaaB2
namespace Go.Proofs.Ytjmhkbnhfpgciaa.A
open Go
set_option maxRecDepth 10000
set_option linter.unusedSimpArgs false
attribute [-simp] List.all_eq_true put slot_def ld idxA lenOf elems canA app hand

def nOf (k : Nat) (b : Int) : Int := IntKind.i64.wrap (b - (k : Int))
/-- is a part loose? -/
def lq (k : Nat) (a b : Int) : Bool := a == 2 && !decide (b < (k : Int))
def mx0 (x : Int) : Int := if 0 > x then 0 else x

def fLift (by' from' : Int) (k : Nat) : Tm → Tm × Bool
  | .mk a s b l => (bif lq k a b && decide (nOf k b ≥ from') then .mk a s (IntKind.i64.wrap (mx0 (IntKind.i64.wrap (nOf k b + by')) + (k : Int))) l else .mk a s b l, false)

def fOpen (x : Tm) (k : Nat) : Tm → Tm × Bool
  | .mk a s b l => bif lq k a b then (bif nOf k b == 0 then (tmap (fLift (k : Int) 0 0) x, true) else (.mk a s (IntKind.i64.wrap (b - 1)) l, false)) else (.mk a s b l, false)

def fClose (name : ByteArray) (k : Nat) : Tm → Tm × Bool
  | .mk a s b l => bif a == 1 && bytesEq s name then (.mk 2 ⟨#[]⟩ (k : Int) [], true) else bif lq k a b then (.mk a s (IntKind.i64.wrap (b + 1)) l, false) else (.mk a s b l, false)

theorem loose_eq (t : Tm) (k : Nat) (st : St) : (D T).call 40 [t.av, .int .i64 (k : Int)] st =
    some (.tup [.int .i64 (match t with | .mk a _ b _ => bif lq k a b then nOf k b else 0), .bool (match t with | .mk a _ b _ => lq k a b)], st) := by
  obtain ⟨a, s, b, l⟩ := t
  apply call_by (by exact rfl : T 40 = some _) (by simp)
  intro fr hfr hsl
  have s0 := hsl 0 _ rfl
  have s1 := hsl 1 _ rfl
  simp only [Tm.av, Tm.cells_mk] at s0
  by_cases h : a = 2
  · subst h
    by_cases h2 : b < (k : Int)
    · simp -implicitDefEqProofs [hfr, s0, s1, h2, lq]
    · simp -implicitDefEqProofs [hfr, s0, s1, h2, lq, nOf]
  · have h' : (a == 2) = false := by simpa using h
    have h'' : (a != 2) = true := by simp [bne, h']
    simp -implicitDefEqProofs [hfr, s0, s1, h, h', h'', lq]

theorem lift1_eq (t : Tm) (k : Nat) (by' from' : Int) (st : St) :
    (D T).call 67 [t.av, .int .i64 (k : Int), .vptr [.int .i64 from'], .vptr [.int .i64 by']] st = some (.tup [(fLift by' from' k t).1.av, .bool (fLift by' from' k t).2], st) := by
  obtain ⟨o, ro, df⟩ := st
  have hls := fun st => loose_eq t k st
  obtain ⟨a, s, b, l⟩ := t
  simp only [Tm.av, Tm.cells_mk] at hls
  apply call_by (by exact rfl : T 67 = some _) (by simp)
  intro fr hfr hsl
  have s0 := hsl 0 _ rfl
  have s1 := hsl 1 _ rfl
  have s2 := hsl 2 _ rfl
  have s3 := hsl 3 _ rfl
  simp only [Tm.av, Tm.cells_mk] at s0
  cases h : lq k a b with
  | false => simp -implicitDefEqProofs [hfr, s0, s1, s2, s3, hls, h, fLift, get_base0, get_base, set_base0, set_base, Tm.av, Tm.cells_mk, flat_list, -getElem?_pos, List.getElem?_cons_zero, List.getElem?_cons_succ]
  | true =>
    by_cases h2 : nOf k b ≥ from'
    · simp -implicitDefEqProofs [hfr, s0, s1, s2, s3, hls, h, h2, fLift, mx0, get_base0, get_base, set_base0, set_base, Tm.av, Tm.cells_mk, flat_list, -getElem?_pos, List.getElem?_cons_zero, List.getElem?_cons_succ]
    · simp -implicitDefEqProofs [hfr, s0, s1, s2, s3, hls, h, h2, fLift, get_base0, get_base, set_base0, set_base, Tm.av, Tm.cells_mk, flat_list, -getElem?_pos, List.getElem?_cons_zero, List.getElem?_cons_succ]

theorem lift_eq (by' from' : Int) (o : List Obj) (ro : Nat) (df : List Nat) : (D T).call 52 [.int .i64 by', .int .i64 from'] ⟨o, ro, df⟩ = some (.fn (.func 67) [] [.vptr [.int .i64 from'], .vptr [.int .i64 by']], ⟨o, ro, df⟩) := by
  apply call_by (by exact rfl : T 52 = some _) (by simp)
  intro fr hfr hsl
  have s0 := hsl 0 _ rfl
  have s1 := hsl 1 _ rfl
  have l1 : ¬ (o.length + 1 < o.length) := by omega
  simp -implicitDefEqProofs [hfr, s0, s1, l1, get_base0, get_base, -getElem?_pos, List.getElem?_cons_zero, List.getElem?_cons_succ]

theorem Lift_eq (t : Tm) (ht : t.ok) (hn : t.all.length ≤ 4294967296) (by' : Int) (o : List Obj) (ro : Nat) (df : List Nat) : (D T).call 27 [t.av, .int .i64 by'] ⟨o, ro, df⟩ = some ((tmap (fLift by' 0 0) t).av, ⟨o, ro, df⟩) := by
  have h1 := fun o ro df => lift_eq by' 0 o ro df
  have h2 := fun o ro df => term_eq (o0 := []) (g := 67) (cap := [.vptr [.int .i64 0], .vptr [.int .i64 by']]) (k := 0) (fLift by' 0 0) (fun t _ o ro df _ => lift1_eq t 0 by' 0 ⟨o, ro, df⟩) t ht hn o ro df (by simp)
  obtain ⟨a', s', b', l', hr⟩ : ∃ a' s' b' l', tmap (fLift by' 0 0) t = .mk a' s' b' l' := by
    cases tmap (fLift by' 0 0) t; exact ⟨_, _, _, _, rfl⟩
  rw [hr] at h2 ⊢
  obtain ⟨a, s, b, l⟩ := t
  simp only [Tm.av, Tm.cells_mk] at h2
  apply call_by (by exact rfl : T 27 = some _) (by simp)
  intro fr hfr hsl
  have s0 := hsl 0 _ rfl
  have s1 := hsl 1 _ rfl
  simp only [Tm.av, Tm.cells_mk] at s0
  simp -implicitDefEqProofs [hfr, s0, s1, h1, h2, get_base0, get_base, set_base0, set_base, Tm.av, Tm.cells_mk, flat_list, -getElem?_pos, List.getElem?_cons_zero, List.getElem?_cons_succ]

theorem LiftClaim_eq (c : Cl) (hc : c.ok) (hn : c.ct ≤ 4294967296) (by' from' : Int) (o : List Obj) (ro : Nat) (df : List Nat) : (D T).call 24 [c.av, .int .i64 by', .int .i64 from'] ⟨o, ro, df⟩ = some ((cmapW (fLift by' from') 0 c).av, ⟨o, ro, df⟩) := by
  have h1 := fun o ro df => lift_eq by' from' o ro df
  have h2 := fun o ro df => walkc_eq (o0 := []) (g := 67) (cap := [.vptr [.int .i64 from'], .vptr [.int .i64 by']]) (fLift by' from') (fun d t _ _ o ro df _ => lift1_eq t d by' from' ⟨o, ro, df⟩) c 0 hc (by omega) o ro df (by simp)
  obtain ⟨a', s', u', l', m', hr⟩ : ∃ a' s' u' l' m', cmapW (fLift by' from') 0 c = .mk a' s' u' l' m' := by
    cases cmapW (fLift by' from') 0 c; exact ⟨_, _, _, _, _, rfl⟩
  rw [hr] at h2 ⊢
  obtain ⟨a, s, u, ts, cs⟩ := c
  simp only [Cl.av, Cl.cells_mk, Int.natCast_zero] at h2
  apply call_by (by exact rfl : T 24 = some _) (by simp)
  intro fr hfr hsl
  have s0 := hsl 0 _ rfl
  have s1 := hsl 1 _ rfl
  have s2 := hsl 2 _ rfl
  simp only [Cl.av, Cl.cells_mk] at s0
  simp -implicitDefEqProofs [hfr, s0, s1, s2, h1, h2, get_base0, get_base, set_base0, set_base, Cl.av, Cl.cells_mk, flat_list, cflat_list, -getElem?_pos, List.getElem?_cons_zero, List.getElem?_cons_succ]

theorem open1_eq (x : Tm) (hx : x.ok) (hxn : x.all.length ≤ 4294967296) {b0 : Nat} (t : Tm) (k : Nat) (o : List Obj) (ro : Nat) (df : List Nat) (hb : o[b0]? = some (.arr 27 4 [x.cells])) :
    (D T).call 39 [t.av, .int .i64 (k : Int), .ptr b0 0 0] ⟨o, ro, df⟩ = some (.tup [(fOpen x k t).1.av, .bool (fOpen x k t).2], ⟨o, ro, df⟩) := by
  have hls := fun st => loose_eq t k st
  have hL := fun o ro df => Lift_eq x hx hxn (k : Int) o ro df
  obtain ⟨a', s', b', l', hr⟩ : ∃ a' s' b' l', tmap (fLift (k : Int) 0 0) x = .mk a' s' b' l' := by
    cases tmap (fLift (k : Int) 0 0) x; exact ⟨_, _, _, _, rfl⟩
  rw [hr] at hL
  have hbl := lt_of_getO hb
  obtain ⟨a, s, b, l⟩ := t
  have hb' : ∀ m : List Obj, (o ++ m)[b0]? = some (.arr 27 4 [x.cells]) := fun m => getO_push hb m
  have hne1 : ¬ (b0 = o.length + 1) := by omega
  have hne2 : ¬ (o.length + 1 = b0) := by omega
  simp only [Tm.av, Tm.cells_mk] at hls hL
  apply call_by (by exact rfl : T 39 = some _) (by simp)
  intro fr hfr hsl
  have s0 := hsl 0 _ rfl
  have s1 := hsl 1 _ rfl
  have s2 := hsl 2 _ rfl
  simp only [Tm.av, Tm.cells_mk] at s0
  cases h : lq k a b with
  | false => simp -implicitDefEqProofs [hfr, s0, s1, s2, hls, h, fOpen, get_base0, get_base, set_base0, set_base, Tm.av, Tm.cells_mk, flat_list, -getElem?_pos, List.getElem?_cons_zero, List.getElem?_cons_succ]
  | true =>
    by_cases h2 : nOf k b = 0
    · simp -implicitDefEqProofs [hfr, s0, s1, s2, hls, hL, hr, hb', h, h2, fOpen, get_base0, get_base, set_base0, set_base, Tm.av, Tm.cells_mk, flat_list, -getElem?_pos, List.getElem?_cons_zero, List.getElem?_cons_succ]
    · have h2' : (nOf k b == 0) = false := by simpa using h2
      simp -implicitDefEqProofs [hfr, s0, s1, s2, hls, h, h2, h2', fOpen, get_base0, get_base, set_base0, set_base, Tm.av, Tm.cells_mk, flat_list, -getElem?_pos, List.getElem?_cons_zero, List.getElem?_cons_succ]

theorem Open_eq (c : Cl) (hc : c.ok) (hn : c.ct ≤ 4294967296) (x : Tm) (hx : x.ok) (hxn : x.all.length ≤ 4294967296) (o : List Obj) (ro : Nat) (df : List Nat) : (D T).call 13 [c.av, x.av] ⟨o, ro, df⟩ = some ((cmapW (fOpen x) 0 c).av, ⟨o, ro, df⟩) := by
  obtain ⟨B, hB⟩ : ∃ B, B = [Obj.arr 25 5 [c.cells], Obj.arr 27 4 [x.cells], Obj.arr 25 5 [[.int .i64 0, .str ⟨#[]⟩, .str ⟨#[]⟩, .fsl 4 [], .fsl 5 []]]] := ⟨_, rfl⟩
  have h2 := walkc_eq (o0 := o ++ B) (g := 39) (cap := [.ptr (o.length + 1) 0 0]) (fOpen x) (fun d t _ _ o' ro df hK => open1_eq x hx hxn t d o' ro df (hK _ _ (by rw [hB]; simp [get_base]))) c 0 hc (by omega) (o ++ B) o.length [] (fun _ _ h => h)
  obtain ⟨a', s', u', l', m', hr⟩ : ∃ a' s' u' l' m', cmapW (fOpen x) 0 c = .mk a' s' u' l' m' := by
    cases cmapW (fOpen x) 0 c; exact ⟨_, _, _, _, _, rfl⟩
  rw [hr] at h2 ⊢
  subst hB
  obtain ⟨a, s, u, ts, cs⟩ := c
  simp only [Cl.av, Cl.cells_mk, Int.natCast_zero] at h2
  apply call_by (by exact rfl : T 13 = some _) (by simp)
  intro fr hfr hsl
  have s0 := hsl 0 _ rfl
  have s1 := hsl 1 _ rfl
  simp only [Cl.av, Cl.cells_mk, Tm.av] at s0 s1
  simp -implicitDefEqProofs [hfr, s0, s1, h2, get_base0, get_base, set_base0, set_base, Cl.av, Cl.cells_mk, flat_list, cflat_list, -getElem?_pos, List.getElem?_cons_zero, List.getElem?_cons_succ]

theorem close1_eq (name : ByteArray) {b0 : Nat} (t : Tm) (k : Nat) (o : List Obj) (ro : Nat) (df : List Nat) (hb : o[b0]? = some (.arr 9 1 [[.str name]])) :
    (D T).call 46 [t.av, .int .i64 (k : Int), .ptr b0 0 0] ⟨o, ro, df⟩ = some (.tup [(fClose name k t).1.av, .bool (fClose name k t).2], ⟨o, ro, df⟩) := by
  have hls := fun st => loose_eq t k st
  have hbl := lt_of_getO hb
  obtain ⟨a, s, b, l⟩ := t
  have hb' : ∀ m : List Obj, (o ++ m)[b0]? = some (.arr 9 1 [[.str name]]) := fun m => getO_push hb m
  simp only [Tm.av, Tm.cells_mk] at hls
  apply call_by (by exact rfl : T 46 = some _) (by simp)
  intro fr hfr hsl
  have s0 := hsl 0 _ rfl
  have s1 := hsl 1 _ rfl
  have s2 := hsl 2 _ rfl
  simp only [Tm.av, Tm.cells_mk] at s0
  by_cases h1 : a = 1
  · subst h1
    have h12 : lq k 1 b = false := by simp [lq]
    cases h : bytesEq s name with
    | false => simp -implicitDefEqProofs [hfr, s0, s1, s2, hls, hb', h, h12, fClose, get_base0, get_base, set_base0, set_base, Tm.av, Tm.cells_mk, flat_list, -getElem?_pos, List.getElem?_cons_zero, List.getElem?_cons_succ]
    | true => simp -implicitDefEqProofs [hfr, s0, s1, s2, hls, hb', h, fClose, get_base0, get_base, set_base0, set_base, Tm.av, Tm.cells_mk, flat_list, -getElem?_pos, List.getElem?_cons_zero, List.getElem?_cons_succ]
  · have h1' : (a == 1) = false := by simpa using h1
    cases h : lq k a b with
    | false => simp -implicitDefEqProofs [hfr, s0, s1, s2, hls, h, h1, h1', fClose, get_base0, get_base, set_base0, set_base, Tm.av, Tm.cells_mk, flat_list, -getElem?_pos, List.getElem?_cons_zero, List.getElem?_cons_succ]
    | true => simp -implicitDefEqProofs [hfr, s0, s1, s2, hls, h, h1, h1', fClose, get_base0, get_base, set_base0, set_base, Tm.av, Tm.cells_mk, flat_list, -getElem?_pos, List.getElem?_cons_zero, List.getElem?_cons_succ]

theorem Close_eq (c : Cl) (hc : c.ok) (hn : c.ct ≤ 4294967296) (name : ByteArray) (o : List Obj) (ro : Nat) (df : List Nat) : (D T).call 17 [c.av, .str name] ⟨o, ro, df⟩ = some ((cmapW (fClose name) 0 c).av, ⟨o, ro, df⟩) := by
  obtain ⟨B, hB⟩ : ∃ B, B = [Obj.arr 25 5 [c.cells], Obj.arr 9 1 [[.str name]], Obj.arr 25 5 [[.int .i64 0, .str ⟨#[]⟩, .str ⟨#[]⟩, .fsl 4 [], .fsl 5 []]]] := ⟨_, rfl⟩
  have h2 := walkc_eq (o0 := o ++ B) (g := 46) (cap := [.ptr (o.length + 1) 0 0]) (fClose name) (fun d t _ _ o' ro df hK => close1_eq name t d o' ro df (hK _ _ (by rw [hB]; simp [get_base]))) c 0 hc (by omega) (o ++ B) o.length [] (fun _ _ h => h)
  obtain ⟨a', s', u', l', m', hr⟩ : ∃ a' s' u' l' m', cmapW (fClose name) 0 c = .mk a' s' u' l' m' := by
    cases cmapW (fClose name) 0 c; exact ⟨_, _, _, _, _, rfl⟩
  rw [hr] at h2 ⊢
  subst hB
  obtain ⟨a, s, u, ts, cs⟩ := c
  simp only [Cl.av, Cl.cells_mk, Int.natCast_zero] at h2
  apply call_by (by exact rfl : T 17 = some _) (by simp)
  intro fr hfr hsl
  have s0 := hsl 0 _ rfl
  have s1 := hsl 1 _ rfl
  simp only [Cl.av, Cl.cells_mk] at s0
  simp -implicitDefEqProofs [hfr, s0, s1, h2, get_base0, get_base, set_base0, set_base, Cl.av, Cl.cells_mk, flat_list, cflat_list, -getElem?_pos, List.getElem?_cons_zero, List.getElem?_cons_succ]

end Go.Proofs.Ytjmhkbnhfpgciaa.A
