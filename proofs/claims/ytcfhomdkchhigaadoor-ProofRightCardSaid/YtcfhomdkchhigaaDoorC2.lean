/- Claims: which is less. -/
import Derived.Test.YtcfhomdkchhigaaDoorC2A
import Derived.Test.YtcfhomdkchhigaaDoorS2
namespace Go.Proofs.YtcfhomdkchhigaaDoor.A
open Go
set_option maxRecDepth 10000
set_option linter.unusedSimpArgs false
attribute [-simp] List.all_eq_true put slot_def ld idxA lenOf elems canA app hand

theorem binder_eq (c : Cl) (st : St) : (D T).call 97 [c.av] st = some (.bool (binder (match c with | .mk a _ _ _ _ => a)), st) := by
  obtain ⟨a, s, u, ts, cs⟩ := c
  apply call_by (by exact rfl : T 97 = some _) (by simp)
  intro fr hfr hsl
  have s0 := hsl 0 _ rfl
  simp only [Cl.av, Cl.cells_mk] at s0
  by_cases h : a = 11
  · simp -implicitDefEqProofs [hfr, s0, h, binder]
  · have h' : (a == 11) = false := by simpa using h
    simp -implicitDefEqProofs [hfr, s0, h, h', binder]

def fstT : List Tm → List Tm → Int
  | t :: l, u :: k => if cm t u = 0 then fstT l k else cm t u
  | _, _ => 0

mutual
/-- which claim is less -/
def ccm : Cl → Cl → Int
  | .mk a s u ts cs, .mk a' s' u' ts' cs' =>
    orL [cmpI a a', if binder a = true then 0 else cmpS s s', cmpS u u', cmpI (ts.length : Int) (ts'.length : Int), fstT ts ts', cmpI (cs.length : Int) (cs'.length : Int), ccmL cs cs']
def ccmL : List Cl → List Cl → Int
  | c :: l, d :: k => if ccm c d = 0 then ccmL l k else ccm c d
  | _, _ => 0
end

end Go.Proofs.YtcfhomdkchhigaaDoor.A
