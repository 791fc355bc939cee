/- Which fields of a proof are not zero: the program's function. -/
import Derived.Test.YtkecobdhgabknaaGreatDoorP3
import Derived.Test.YtkecobdhgabknaaGreatDoorP6
namespace Go.Proofs.YtkecobdhgabknaaGreatDoor.A
open Go
set_option pp.deepTerms true
set_option pp.maxSteps 100000
set_option maxRecDepth 10000
set_option linter.unusedSimpArgs false
set_option linter.unusedVariables false
attribute [-simp] List.all_eq_true put slot_def ld idxA lenOf elems canA app hand

def zT : Tm := .mk 0 ⟨#[]⟩ 0 []
def zC : Cl := .mk 0 ⟨#[]⟩ ⟨#[]⟩ [] []
def zU : Cu := .mk 0 [] [] 0 0 [] []
theorem zT_ok : zT.ok := by simp [zT, Tm.ok, okL, show (⟨#[]⟩ : ByteArray).size = 0 from rfl]
theorem zC_ok : zC.ok := by simp [zC, Cl.ok, okL, okC, show (⟨#[]⟩ : ByteArray).size = 0 from rfl]
theorem zU_ok : zU.ok := by simp [zU, Cu.ok, okCu, inI, inL, moL]
def ne (s : ByteArray) : Bool := !bytesEq s ⟨#[]⟩
def Cl.name : Cl → ByteArray
  | .mk _ s _ _ _ => s

def nine : Pf → List (Bool × Int)
  | .mk r h nw v b t c les chs cu ps => [(ne h, 1), (ne nw, 2), (ne v, 4), (b, 8), (!(cm t zT == 0), 16), (!(ccm c zC == 0) || ne c.name, 32), (!chs.isEmpty, 64), (!les.isEmpty, 128), (!cuEq cu zU, 256)]
/-- the fields' bits, together -/
def orF : List (Bool × Int) → Int → Int
  | [], n => n
  | x :: l, n => orF l (bif x.1 then bitI .or .i64 n x.2 else n)

theorem csame_eq (c d : Cl) (hc : c.ok) (hd : d.ok) (st : St) : (D T).call 61 [c.av, d.av] st = some (.bool (ccm c d == 0), st) := by
  have h := fun st => ccm_eq c hc d hd st
  simp only [Cl.av] at h
  apply call_by (by exact rfl : T 61 = some _) (by simp)
  intro fr hfr hsl
  have s0 := hsl 0 _ rfl
  have s1 := hsl 1 _ rfl
  simp only [Cl.av] at s0 s1
  simp -implicitDefEqProofs [hfr, s0, s1, get_base0, get_base, h]

theorem used_loop (l : List (Bool × Int)) (hl : l.length ≤ 100) {o : List Obj} {ro : Nat} (hro : ro ≤ o.length) (fr : List AV) (Q : AE → List AV → St → Prop) (hfr : fr.length = 72) (q3 : slot fr 3 = .int .i64 0) (q58 : slot fr 58 = .fsl 2 (l.map fun x => [.bool x.1, .int .i64 x.2])) (q59 : slot fr 59 = .int .i64 (l.length : Int)) (q60 : slot fr 60 = .int .i64 0)
    (k : ∀ (fr' : List AV) (o' : List Obj), fr'.length = 72 → slot fr' 3 = .int .i64 (orF l 0) → Q (.exit 0) fr' ⟨o', ro, []⟩) :
    ∃ e fr' st', (D T).loop false L38_0 fr ⟨o, ro, []⟩ = some (e, fr', st') ∧ Q e fr' st' := by
  apply loop_inv L38_0.eq_1 List.length (fun (rest : List (Bool × Int)) fr st => ∃ pre n o', l = pre ++ rest ∧ fr.length = 72 ∧ slot fr 3 = .int .i64 n ∧ slot fr 58 = .fsl 2 (l.map fun x => [.bool x.1, .int .i64 x.2]) ∧ slot fr 59 = .int .i64 (l.length : Int) ∧ slot fr 60 = .int .i64 (pre.length : Int) ∧
    st = ⟨o', ro, []⟩ ∧ ro ≤ o'.length ∧ orF l 0 = orF rest n) ?_ l ⟨[], 0, o, rfl, hfr, q3, q58, q59, q60, rfl, hro, rfl⟩
  clear hfr q3 q58 q59 q60 hro fr
  rintro rest fr _ ⟨pre, n, o', e, hfr, q3, q58, q59, q60, rfl, hlo, hn⟩
  cases rest with
  | nil =>
    have hlt := idx_end e
    simp -implicitDefEqProofs [hfr, q3, q58, q59, q60, hlt]
    exact k _ o' (by simp [hfr]) (by simp [hfr, q3, hn, orF])
  | cons x rest =>
    obtain ⟨hlt, hg, hpl⟩ := idx_at e
    have hw := idx_next e (by omega)
    obtain ⟨b, f⟩ := x
    simp only [orF] at hn
    cases b with
    | true =>
      simp -implicitDefEqProofs [hfr, q3, q58, q59, q60, hlt, hg, hpl, hw, hlo, setO_last, getO_last, -List.getElem_map, -getElem?_pos, List.getElem?_cons_zero]
      exact ⟨rest, by simp, pre ++ [(true, f)], by simp [e], by simp, by omega, hn⟩
    | false =>
      simp -implicitDefEqProofs [hfr, q3, q58, q59, q60, hlt, hg, hpl, hw, hlo, setO_last, getO_last, -List.getElem_map, -getElem?_pos, List.getElem?_cons_zero]
      exact ⟨rest, by simp, pre ++ [(false, f)], by simp [e], by simp, by omega, hn⟩

theorem used_eq : ∀ (p : Pf), p.ok → ∀ (o : List Obj) (ro : Nat) (df : List Nat), (D T).call 38 [p.av] ⟨o, ro, df⟩ = some (.int .i64 (orF (nine p) 0), ⟨o, ro, df⟩)
  | .mk r h nw v b t c les chs cu ps, hok, o, ro, df => by
    simp only [Pf.ok] at hok
    obtain ⟨_, k1, k2, k3, ot, oc, ole, och, ocu, kps, ops⟩ := hok
    have h1 := fun st => same_eq t zT ot zT_ok st
    have h2 := fun st => csame_eq c zC oc zC_ok st
    have h3 := fun st => scut_eq cu ocu zU zU_ok st
    have hE : nine (.mk r h nw v b t c les chs cu ps) = [(ne h, 1), (ne nw, 2), (ne v, 4), (b, 8), (!(cm t zT == 0), 16), (!(ccm c zC == 0) || ne c.name, 32), (!chs.isEmpty, 64), (!les.isEmpty, 128), (!cuEq cu zU, 256)] := rfl
    generalize nine (.mk r h nw v b t c les chs cu ps) = N at hE ⊢
    generalize (cm t zT == 0) = A at *
    generalize (ccm c zC == 0) = B at *
    generalize cuEq cu zU = C at *
    obtain ⟨t0, t1, t2, t3⟩ := t
    obtain ⟨c0, c1, c2, c3, c4⟩ := c
    obtain ⟨kd, fr0, by0, dv, kk, ms, cs⟩ := cu
    have e1 : ne h = !bytesEq h ⟨#[]⟩ := rfl
    have e2 : ne nw = !bytesEq nw ⟨#[]⟩ := rfl
    have e3 : ne v = !bytesEq v ⟨#[]⟩ := rfl
    have e4 : ne (Cl.name (.mk c0 c1 c2 c3 c4)) = !bytesEq c1 ⟨#[]⟩ := rfl
    have e5 : (!chs.isEmpty) = decide ((chs.length : Int) > 0) := by cases chs with
      | nil => rfl
      | cons x l => simp
    have e6 : (!les.isEmpty) = decide ((les.length : Int) > 0) := by cases les with
      | nil => rfl
      | cons x l => simp
    rw [e1, e2, e3, e4, e5, e6] at hE
    clear e1 e2 e3 e4 e5 e6
    simp only [Tm.av, Tm.cells_mk, Cl.av, Cl.cells_mk, Cu.av, Cu.cells_mk, zT, zC, zU, List.map_nil, show intA [] = [] from rfl, show moA [] = [] from rfl] at h1 h2 h3
    apply call_by (by exact rfl : T 38 = some _) (by simp)
    intro fr hfr hsl
    have s0 := hsl 0 _ rfl
    simp only [Pf.av, Pf.cells_all] at s0
    cases B with
    | true =>
      have hN : N = [(!bytesEq h ⟨#[]⟩, 1), (!bytesEq nw ⟨#[]⟩, 2), (!bytesEq v ⟨#[]⟩, 4), (b, 8), (!A, 16), (!bytesEq c1 ⟨#[]⟩, 32), (decide ((chs.length : Int) > 0), 64), (decide ((les.length : Int) > 0), 128), (!C, 256)] := by rw [hE]; rfl
      simp -implicitDefEqProofs [hfr, s0, get_base0, h1, h2, h3, -getElem?_pos, List.getElem?_cons_zero]
      apply used_loop N (by rw [hN]; simp) (by simp) _ _ (by simp [hfr]) (by simp [hfr]) (by simp [hfr, hN]) (by simp [hfr, hN]) (by simp [hfr])
      intro fr' o' hf h3
      simp -implicitDefEqProofs [hf, h3]
    | false =>
      have hN : N = [(!bytesEq h ⟨#[]⟩, 1), (!bytesEq nw ⟨#[]⟩, 2), (!bytesEq v ⟨#[]⟩, 4), (b, 8), (!A, 16), (true, 32), (decide ((chs.length : Int) > 0), 64), (decide ((les.length : Int) > 0), 128), (!C, 256)] := by rw [hE]; rfl
      simp -implicitDefEqProofs [hfr, s0, get_base0, h1, h2, h3, -getElem?_pos, List.getElem?_cons_zero]
      apply used_loop N (by rw [hN]; simp) (by simp) _ _ (by simp [hfr]) (by simp [hfr]) (by simp [hfr, hN]) (by simp [hfr, hN]) (by simp [hfr])
      intro fr' o' hf h3
      simp -implicitDefEqProofs [hf, h3]

end Go.Proofs.YtkecobdhgabknaaGreatDoor.A
/- A way: by value, or as an own list. -/
namespace Go.Proofs.YtkecobdhgabknaaGreatDoor.A
open Go
set_option maxRecDepth 10000
set_option linter.unusedSimpArgs false
set_option linter.unusedVariables false
attribute [-simp] List.all_eq_true put slot_def ld idxA lenOf elems canA app hand

/-- a list of numbers by value, or the literal while it is empty -/
def Iv (v : AV) (l : List Int) : Prop := v = .sl 1 (intA l) ∨ (v = .fsl 1 [] ∧ l = [])
theorem Iv.hand {v : AV} {l : List Int} (h : Iv v l) (n : Nat) (o : List Obj) : hand n o v = some (.sl 1 (intA l)) := by
  rcases h with rfl | ⟨rfl, rfl⟩
  · simp [intA_flat]
  · simp [intA]
theorem Iv.can {v : AV} {l : List Int} (h : Iv v l) : canA v = v := by
  rcases h with rfl | ⟨rfl, rfl⟩ <;> rfl
theorem iv_sl (l : List Int) : Iv (.sl 1 (intA l)) l := .inl rfl
theorem intA_app (l k : List Int) : intA (l ++ k) = intA l ++ intA k := by simp [intA]

theorem withW_eq {v : AV} {w : List Int} (hv : Iv v w) (i : Int) (hw : w.length ≤ 1000000) (o : List Obj) (ro : Nat) (df : List Nat) : (D T).call 49 [v, .int .i64 i] ⟨o, ro, df⟩ = some (.sl 1 (intA (w ++ [i])), ⟨o, ro, df⟩) := by
  have hc := hv.can
  have a1 : app ⟨o, o.length, []⟩ 3 1 8 (.fsl 1 []) v = some (.own o.length 0 w.length false, ⟨o ++ [.arr 3 1 (intA w)], o.length, []⟩) := by
    rcases hv with rfl | ⟨rfl, rfl⟩
    · simp [app, elems, room, intA_len, show w.length * 8 ≤ 140737488355328 by omega, show w.length ≤ 4611686018427387904 by omega]
    · simp [app, elems, room, intA]
  have a2 : app ⟨o ++ [.arr 3 1 (intA w)], o.length, []⟩ 3 1 8 (.own o.length 0 w.length false) (.fsl 1 [[.int .i64 i]]) = some (.own (o.length + 1) 0 (w.length + 1) false, ⟨o ++ [.dead, .arr 3 1 (intA (w ++ [i]))], o.length, []⟩) := by
    simp [app, elems, room, intA_len, intA_app, show (w.length + 1) * 8 ≤ 140737488355328 by omega, show w.length + 1 ≤ 4611686018427387904 by omega, show intA [i] = [[.int .i64 i]] from rfl]
  have a3 : hand o.length (o ++ [.dead, .arr 3 1 (intA (w ++ [i]))]) (.own (o.length + 1) 0 (w.length + 1) false) = some (.sl 1 (intA (w ++ [i]))) := by
    have hl : (intA (w ++ [i])).length = w.length + 1 := by simp [intA_len]
    generalize hI : intA (w ++ [i]) = I at *
    have hf : AV.flatLL I = true := by rw [← hI]; exact intA_flat _
    rw [← hl]
    simp [hand, hf]
  apply call_by (by exact rfl : T 49 = some _) (by simp)
  intro fr hfr hsl
  have s0 := hsl 0 _ rfl
  have s1 := hsl 1 _ rfl
  simp -implicitDefEqProofs [hfr, s0, s1, a1, a2, a3]

theorem dPL_mem : ∀ {ps : List Pf} {x : Pf}, x ∈ ps → dP x ≤ dPL ps
  | a :: l, x, hx => by
    simp only [dPL]
    rcases List.mem_cons.1 hx with rfl | hx
    · split <;> omega
    · have := dPL_mem hx; split <;> omega

theorem cmT (t u : Tm) : (cm t u == 0) = tmEq t u := by
  rw [Bool.eq_iff_iff, ← cm_tm t u]; simp
theorem ccmC (t u : Cl) : (ccm t u == 0) = clEq t u := by
  rw [Bool.eq_iff_iff, ← ccm_cl t u]; simp
/-- the way so far: the literal, or an own list -/
def Wy (o : List Obj) (v : AV) (w : List Int) : Prop := (v = .fsl 1 [] ∧ w = []) ∨ ∃ q, v = .own q 0 w.length false ∧ o[q]? = some (.arr 3 1 (intA w))
theorem Wy.can {o : List Obj} {v : AV} {w : List Int} (h : Wy o v w) : canA v = v := by
  rcases h with ⟨rfl, rfl⟩ | ⟨q, rfl, h⟩ <;> rfl
theorem Wy.clone {o : List Obj} {v : AV} {w : List Int} (h : Wy o v w) (hw : w.length ≤ 1000) (ro : Nat) (df : List Nat) : (D T).call 25 [v] ⟨o, ro, df⟩ = some (.sl 1 (intA w), ⟨o, ro, df⟩) := by
  rw [D_ext _ _ (by rfl)]
  rcases h with ⟨rfl, rfl⟩ | ⟨q, rfl, h⟩
  · rfl
  · have he : elems ⟨o, ro, df⟩ (.own q 0 w.length false) = some (1, intA w) := by
      have hl := intA_len w
      simp [elems, St.arr?, h, ← hl]
    have hf := intA_flat w
    have hl := intA_len w
    generalize intA w = I at *
    cases I with
    | nil => simp only [ext, exClone, he]
    | cons e es =>
      have hr : room (es.length + 1) 8 = true := by
        simp only [List.length_cons] at hl
        simp [room]; omega
      simp only [ext, exClone, he, hr, hf, and_self, if_true, cond_false]

theorem Wy.len {o : List Obj} {v : AV} {w : List Int} (h : Wy o v w) : lenOf v = some w.length := by
  rcases h with ⟨rfl, rfl⟩ | ⟨q, rfl, h⟩ <;> rfl

end Go.Proofs.YtkecobdhgabknaaGreatDoor.A
