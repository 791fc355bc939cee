/- What the rows over proofs share: proof.shapes reads as listed, so its cells hold what the interpreter takes; how proofs lie. -/
import Derived.Test.YtkecobdhgabknaaDoorTab
import Derived.Test.YtkecobdhgabknaaDoorX0
import Derived.ProofKit
import Derived.LaidMore
import Derived.OpenShut
import Derived.Stop.Joined
namespace Go.Proofs.YtkecobdhgabknaaDoor.A
open Go Go.ChangeShapes Go.WideShapes Go.RowKit
set_option linter.unusedVariables false

theorem own : ownKnob Tryd.prog.godebug = none := by kernel_rfl
theorem laid : laidOutB Tryd.prog = true := by kernel_rfl
theorem mixed : Tryd.prog.follows .mixedOrders = true := by kernel_rfl
theorem termT : TermT Tryd.prog 24 22 3 2 9 :=
  ⟨⟨_, _, _, _, Tryd.underlying24, rfl, rfl, rfl, rfl, rfl, rfl, rfl, rfl⟩, Tryd.underlying22, Tryd.underlying3, Tryd.underlying2, Tryd.underlying9, by kernel_rfl, by kernel_rfl, by kernel_rfl, by kernel_rfl, by kernel_rfl⟩
theorem claimT : ClaimT Tryd.prog 27 25 24 22 3 2 9 :=
  ⟨termT, ⟨_, Tryd.underlying27, rfl⟩, Tryd.underlying25, by kernel_rfl, by kernel_rfl⟩
theorem cutT : CutT Tryd.prog 37 35 107 32 34 3 30 2 31 :=
  ⟨⟨_, Tryd.underlying37, rfl⟩, ⟨_, Tryd.underlying34, rfl⟩, ⟨_, Tryd.underlying107, rfl⟩, Tryd.underlying35, Tryd.underlying32, Tryd.underlying30, Tryd.underlying31, Tryd.underlying3, Tryd.underlying2,
    ⟨by kernel_rfl, by kernel_rfl, by kernel_rfl, by kernel_rfl, by kernel_rfl, by kernel_rfl, by kernel_rfl, by kernel_rfl, by kernel_rfl⟩,
    ⟨of_decide_eq_true (by kernel_rfl), of_decide_eq_true (by kernel_rfl), of_decide_eq_true (by kernel_rfl), of_decide_eq_true (by kernel_rfl)⟩⟩
theorem proofT : ProofT Tryd.prog 42 40 39 76 28 81 29 37 35 107 32 34 30 31 27 25 24 22 3 2 9 4 :=
  ⟨claimT, cutT, ⟨_, Tryd.underlying42, rfl⟩, ⟨_, Tryd.underlying39, rfl⟩, ⟨_, Tryd.underlying76, rfl⟩, ⟨_, Tryd.underlying81, rfl⟩, Tryd.underlying40, Tryd.underlying28, Tryd.underlying29, Tryd.underlying4,
    ⟨by kernel_rfl, by kernel_rfl, by kernel_rfl, by kernel_rfl, by kernel_rfl, by kernel_rfl, by kernel_rfl, by kernel_rfl⟩,
    ⟨of_decide_eq_true (by kernel_rfl), of_decide_eq_true (by kernel_rfl), of_decide_eq_true (by kernel_rfl)⟩⟩
theorem rdProof : Tryd.prog.readableRec 42 = true ∧ 42 < Tryd.prog.types.size := ⟨by kernel_rfl, of_decide_eq_true (by kernel_rfl)⟩
theorem aProof : ArgRdW Tryd.prog 42 APf := arg_proof proofT

theorem fits_cons {q : TypeId × (AV → Prop)} {ps : List (TypeId × (AV → Prop))} {avs : List AV} (h : Fits (q :: ps) avs) : ∃ a l, avs = a :: l ∧ q.2 a ∧ Fits ps l := by
  cases avs with
  | nil => exact h.elim
  | cons a l => exact ⟨a, l, rfl, h.1, h.2⟩
theorem fits_nil {avs : List AV} (h : Fits [] avs) : avs = [] := by
  cases avs with
  | nil => rfl
  | cons a l => exact h.elim

def zeroProof : Value := .agg #[.int .i64 0, .string ⟨#[]⟩, .string ⟨#[]⟩, .string ⟨#[]⟩, .bool false, .int .i64 0, .string ⟨#[]⟩, .int .i64 0, .slice none 0 0, .int .i64 0, .string ⟨#[]⟩, .string ⟨#[]⟩, .slice none 0 0, .slice none 0 0, .slice none 0 0, .slice none 0 0, .int .i64 0, .slice none 0 0, .slice none 0 0, .int .i64 0, .int .i64 0, .slice none 0 0, .slice none 0 0, .slice none 0 0]

def laidN : List (String × DataW Unit) := [("sequitur/proof.shapes", Rows.laid_sequitur_proof_shapes)]
theorem gShapes : Tryd.prog.globalNamed "sequitur/proof.shapes" = some 0 := by kernel_rfl
theorem tShapes : (Tryd.prog.globals[0]?).map (·.type) = some 67 := by kernel_rfl
theorem cInt : Tryd.prog.cellsOf 3 = 1 := by kernel_rfl
theorem cShape : Tryd.prog.cellsOf 66 = 2 := by kernel_rfl

/-- The door's own heap meets the condition. -/
theorem door_met (os : Os) (args : Array Value) : laidMetH Tryd.prog laidN ((World.doorLaid Tryd.prog 400 os).forCall (fun _ _ => 0) ⟨#[], args, []⟩).memory :=
  laidMetH_of_parts3 (fuel := 8) (laidMet_of_run' 8 (by kernel_rfl) (by kernel_rfl)) (by kernel_rfl) (by kernel_rfl)

theorem one_of {α : Type} {l : List α} {i : Nat} {v : α} (h : (l.drop i).take 1 = [v]) : l[i]? = some v := by
  have : ((l.drop i).take 1)[0]? = some v := by rw [h]; rfl
  simpa using this

def shpN : List Int := [0, 0, 1, 0, 0, 0, 1, 0, 0, 2, 7, 1, 0, 1, 0, 1, 3, 2, 2, 1, 3, 2, 2, 1, 1, 1, 0, 2, 7, 1, 4, 1, 19, 1, 16, 1, 7, 1, 2, 1, 34, 2, 1, 1, 0, 0, 41, 1, 3, 1, 64, 0, 256, 0, 192, 0]
theorem globs_shp : ∀ {g cs}, globs g = some cs → g = 0 ∧ cs = shpN.map fun n => AV.int .i64 n := by
  intro g cs h
  unfold globs at h
  split at h
  · exact ⟨rfl, (Option.some.inj h).symm⟩
  · cases h
def pairs : List (DataW Unit) := (List.range 28).map fun i => .agg [.lit (.int .i64 (shpN.getD (2 * i) 0)), .lit (.int .i64 (shpN.getD (2 * i + 1) 0))]
theorem laid_pairs : Rows.laid_sequitur_proof_shapes = DataW.agg pairs := rfl

theorem globOk {W : World} (h : laidMetH Tryd.prog laidN W) : GlobOk (env0 W) W := by
  rw [MakeChecks.laidMetH_plain _ _ _ (by kernel_rfl)] at h
  obtain ⟨ps, ⟨g0, t0, cs0, f0, p0, q0, hg0, ht0, hv0, hd0, _⟩, _⟩ := h
  obtain rfl := Option.some.inj (gShapes.symm.trans hg0)
  obtain rfl := Option.some.inj (tShapes.symm.trans ht0)
  obtain ⟨xs, m1, rfl, hx1, hlen, hn, hel⟩ := DataW.trod_array Tryd.underlying67 hd0
  have hparts : xs.map (·.1) = pairs := by
    rw [laid_pairs] at hx1
    simp only [Prod.mk.injEq, DataW.agg.injEq] at hx1
    exact hx1.1.symm
  have key : ∀ i, i < 28 → W.cell? ⟨0, 2 * i, none⟩ = some (.int .i64 (shpN.getD (2 * i) 0)) ∧ W.cell? ⟨0, 2 * i + 1, none⟩ = some (.int .i64 (shpN.getD (2 * i + 1) 0)) := by
    intro i hi
    have h1 := hel i hi
    rw [cShape, List.getElem?_eq_getElem (by omega)] at h1
    have hp : (xs.map (·.1))[i]? = some (DataW.agg [.lit (.int .i64 (shpN.getD (2 * i) 0)), .lit (.int .i64 (shpN.getD (2 * i + 1) 0))]) := by
      rw [hparts]
      simp [pairs, hi]
    rw [List.getElem?_map, List.getElem?_eq_getElem (by omega)] at hp
    obtain ⟨ys, m2, rfl, hx2, hlen2, hn2, hf2⟩ := DataW.trod_struct Tryd.underlying66 h1
    rw [hx2] at hp
    simp only [Option.map_some, Option.some.injEq, DataW.agg.injEq] at hp
    have hn3 : ys.length = 2 := hn2
    have a0 : DataW.trod (fun _ => ()) Tryd.prog W 0 (fun _ => true) false m2 3 ((((cs0.toList.drop (i * 2)).take 2).drop 0).take (Tryd.prog.cellsOf 3)) = ys[0]? := hf2 0 _ rfl
    have a1 : DataW.trod (fun _ => ()) Tryd.prog W 0 (fun _ => true) false m2 3 ((((cs0.toList.drop (i * 2)).take 2).drop 1).take (Tryd.prog.cellsOf 3)) = ys[1]? := hf2 1 _ rfl
    rw [cInt, List.getElem?_eq_getElem (by omega)] at a0 a1
    obtain ⟨n0, e0, f0', _⟩ := DataW.trod_int Tryd.underlying3 a0
    obtain ⟨n1, e1, f1', _⟩ := DataW.trod_int Tryd.underlying3 a1
    have g0 : (ys.map (·.1))[0]? = some (.lit (.int .i64 n0)) := by rw [List.getElem?_map, List.getElem?_eq_getElem (by omega), f0']; rfl
    have g1 : (ys.map (·.1))[1]? = some (.lit (.int .i64 n1)) := by rw [List.getElem?_map, List.getElem?_eq_getElem (by omega), f1']; rfl
    rw [hp] at g0 g1
    simp only [List.getElem?_cons_zero, List.getElem?_cons_succ, Option.some.injEq, DataW.lit.injEq, Lit.int.injEq, true_and] at g0 g1
    have c0 := one_of e0
    have c1 := one_of e1
    rw [List.getElem?_take_of_lt (by omega), List.getElem?_drop] at c0 c1
    subst g0 g1
    rw [Nat.add_zero, Nat.mul_comm i 2] at c0
    rw [Nat.mul_comm i 2] at c1
    refine ⟨?_, ?_⟩
    · rw [World.var?_cell gShapes hv0 (2 * i), ← Array.getElem?_toList]; exact c0
    · rw [World.var?_cell gShapes hv0 (2 * i + 1), ← Array.getElem?_toList]; exact c1
  have hF : 0 < W.heap.size := cell_fro (key 0 (by omega)).1
  have all : ∀ j, j < 56 → W.cell? ⟨0, j, none⟩ = some (.int .i64 (shpN.getD j 0)) := by
    intro j hj
    have h2 := key (j / 2) (by omega)
    rcases Nat.mod_two_eq_zero_or_one j with h | h
    · rw [show 2 * (j / 2) = j by omega] at h2; exact h2.1
    · rw [show 2 * (j / 2) + 1 = j by omega] at h2; exact h2.2
  intro g cs hg
  obtain ⟨rfl, rfl⟩ := globs_shp hg
  refine .vptr 0 0 (fun j => (W.cell? ⟨0, j, none⟩).getD undef) hF (fun j hj => ?_) fun j x hx => ?_
  · have hj : j < 56 := by simpa [shpN] using hj
    rw [Nat.zero_add, all j hj]
    exact ⟨rfl, rfl⟩
  · have hj : j < 56 := by simpa [shpN] using lt_of_get hx
    have hx2 : x = .int .i64 (shpN.getD j 0) := by
      have hl : j < shpN.length := hj
      rw [List.getElem?_map, List.getElem?_eq_getElem hl] at hx
      simp only [Option.map_some, Option.some.injEq] at hx
      rw [← hx, List.getD_eq_getElem?_getD, List.getElem?_eq_getElem hl]
      rfl
    simp only [all j hj, Option.getD_some]
    subst hx2
    exact .int _ _

section
variable {P : Program}
/-- a law over such arguments, its function answering true at each of them; the sizes as the change's own reading has them -/
theorem contract_argsH {T : Tab} {f : FuncId} {fn : Func} {s : ChangeSpec} {tb : TypeId} (hT : TabOk P T) (hm : P.follows .mixedOrders = true) (hl : laidOutB P = true) (ps : List (TypeId × (AV → Prop))) (hps : ∀ q ∈ ps, ArgRdW P q.1 q.2) (hrd : ∀ q ∈ ps, P.readableRec q.1 = true ∧ q.1 < P.types.size)
    (hp : fn.params = (ps.map (·.1)).toArray) (hr : fn.resultTypes = #[tb]) (htb : P.underlying tb = some .bool) (hv : s.vars = [])
    (hs : ∀ (H : Type) (ds : List (DataW H)), ds.length = ps.length → s.fn H ds = { results := [.lit (.bool true)], args := ds })
    (law : ∀ avs : List AV, Fits ps avs → ∃ st', (D T).call f avs st0 = some (.bool true, st'))
    (H : Type) (enc : TypeId × Value → H) (W : World) (base : Nat) (args : Array Value) (ds gs : List (DataW H)) (before : List MemPlace)
    (hval : ∀ (j : Nat) t v, fn.params[j]? = some t → args[j]? = some v → Value.okWide P W .any base t v)
    (hW : DataW.Whole enc P fn.params.toList s.vars false W args.toList ds gs before) {tvs : List TypeId} (hvt : tvs = []) (hS : ((DataW.weightsEach P (fn.params.toList ++ tvs) (ds ++ gs)).all fun x => decide (x ≤ reachBytes)) = true) (hG : GlobOk (env0 W) W) (hrl : rl f = f := by rfl) :
    Calls P f args W fun e W' => ∃ v, e = .returned v ∧ s.post enc P fn false true false false W args v W' := by
  have hW' := hW
  obtain ⟨p, q, hA, hV, rfl, _, _⟩ := hW
  rw [hv] at hV
  obtain ⟨rfl, rfl⟩ := trodVars_none hV
  rw [hp] at hA
  obtain ⟨_, l3, _⟩ := open_args' hA
  obtain ⟨avs, l1, _, R⟩ := open_argsW ps hps (fun j t v ht hv => hval j t v (by rw [hp]; simpa using ht) (by simpa using hv)) hA (by
    rw [hvt, List.append_nil, List.append_nil, hp] at hS
    exact Wok_each hS)
  obtain ⟨st', hl'⟩ := law avs l1
  refine (calls_true hT hm hG hl' R hrl).mono fun e W' ⟨he, hb⟩ => ?_
  subst he
  exact ⟨_, rfl, post_below hl hv hr htb (by
    intro t ht
    rw [hp] at ht
    have ht' : t ∈ ps.map (·.1) := by simpa [-List.mem_map] using ht
    obtain ⟨q, hq, rfl⟩ := List.mem_map.1 ht'
    exact hrd q hq) (by rw [List.append_nil]; exact hs H ds (by simpa using l3)) hW' hb⟩
end

end Go.Proofs.YtkecobdhgabknaaDoor.A
/- How lists of numbers, and numbers, are read as arguments. -/
namespace Go.Proofs.YtkecobdhgabknaaDoor.A
open Go Go.ChangeShapes Go.WideShapes Go.RowKit
set_option linter.unusedVariables false

theorem rdInts : Tryd.prog.readableRec 30 = true ∧ 30 < Tryd.prog.types.size := ⟨by kernel_rfl, of_decide_eq_true (by kernel_rfl)⟩
theorem aInts : ArgRdW Tryd.prog 30 AInts := arg_ints Tryd.underlying30 Tryd.underlying3 cInt (of_decide_eq_true (by kernel_rfl))
def zeroSlice : Value := .slice none 0 0
def AInt1 (a : AV) : Prop := ∃ n : Int, inI n ∧ a = .int .i64 n
theorem rdInt : Tryd.prog.readableRec 3 = true ∧ 3 < Tryd.prog.types.size := ⟨by kernel_rfl, of_decide_eq_true (by kernel_rfl)⟩
theorem aInt : ArgRdW Tryd.prog 3 AInt1 := (arg_int Tryd.underlying3).w.imp fun a ⟨n, h1, h2, h3⟩ => ⟨n, ⟨h2, h3⟩, h1⟩
def zeroInt : Value := .int .i64 0

end Go.Proofs.YtkecobdhgabknaaDoor.A
