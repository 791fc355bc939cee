/- From a call of the interpreter's limit that answers true to a statement of a seat. -/
import Derived.Test.YtcoonnbkmklenaaDoorYieldS
import Derived.Test.YtcoonnbkmklenaaDoorRows
import Derived.WalkKit
import Derived.ProofKit
import Derived.OpenShut
import Derived.JoinedCond
import Derived.Carry
import Derived.Deep.Slices
namespace Go.Proofs.YtcoonnbkmklenaaDoor.A
open Go Go.ChangeShapes Go.WideShapes Go.RowKit

section
variable {P : Program} {T : Tab}

/-- at the call's begin: no object yet; all blocks are frozen -/
def env0 (W : World) : Env := { L := fun _ => ⟨0, 0, 0⟩, F := fun b => b < W.heap.size }
def st0 : St := { objs := [], ro := 0, df := [] }

theorem sim0 (W : World) (hG : GlobOk (env0 W) W) : Sim P T (env0 W) st0 W := by
  refine ⟨fun r o h => ?_, fun r o h => ?_, fun r r' o o' h => ?_, fun b h => h, hG⟩ <;> simp [st0] at h

/-- a call that gives true, and leaves memory as it is -/
theorem calls_true (hT : TabOk P T) (hm : P.follows .mixedOrders = true) {f : FuncId} {args : List AV} {st' : St} {W : World} {cargs : Array Value} (hG : GlobOk (env0 W) W)
    (h : (D T).call f args st0 = some (.bool true, st')) (A : RepL (env0 W) 0 W args cargs.toList) : Calls P f cargs W fun e W' => e = .returned (.bool true) ∧ Below W.heap.size W W' := by
  obtain ⟨E', w', cv, h1, h2, h3, h4⟩ := call_sound hT hm h (Nat.le_refl _) (sim0 W hG) A
  obtain rfl := rep_bool h2
  intro cs
  obtain ⟨fr, s1, s2, s3⟩ := h4 cs
  exact ⟨_, w', fr, ⟨rfl, h3.os, h3.tape, h3.output, h3.size, fun k hk => h3.mem k hk⟩, s1, s2, s3⟩

section
variable {H : Type} {enc : TypeId × Value → H}

theorem trodAll_below (hl : laidOutB P = true) {W W' : World} (hb : Below W.heap.size W W') : ∀ {ts : List TypeId} {vs : List Value} {ds : List (DataW H)} {ps : List MemPlace}, (∀ t ∈ ts, P.readableRec t = true ∧ t < P.types.size) →
    DataW.TrodAll enc P W 0 (fun _ => true) true ts vs ds ps → (∀ x ∈ ps, x.block < W.heap.size) → DataW.TrodAll enc P W' 0 (fun b => decide (b < W.heap.size)) true ts vs ds ps
  | [], [], [], _, _, h, _ => h
  | t :: _, _ :: _, _ :: _, _, ht, ⟨p, q, h1, h2, e⟩, hlt => by
    subst e
    have ht0 := ht t (List.mem_cons_self ..)
    exact ⟨p, q, Below.trod hl ht0.1 ht0.2 h1 hb (fun x hx => hlt x (List.mem_append_left _ hx)), trodAll_below hl hb (fun t' ht' => ht t' (List.mem_cons_of_mem _ ht')) h2 (fun x hx => hlt x (List.mem_append_right _ hx)), rfl⟩

/-- true, each argument reads as it did -/
theorem post_below (hl : laidOutB P = true) {fn : Func} {s : ChangeSpec} {tb : TypeId} (hvars : s.vars = []) (hres : fn.resultTypes = #[tb]) (htb : P.underlying tb = some .bool)
    (ht : ∀ t ∈ fn.params.toList, P.readableRec t = true ∧ t < P.types.size) {W W' : World} {args : Array Value} {ds gs : List (DataW H)} {before : List MemPlace}
    (hs : s.fn H (ds ++ gs) = { results := [.lit (.bool true)], args := ds }) (hW : DataW.Whole enc P fn.params.toList s.vars false W args.toList ds gs before) (hb : Below W.heap.size W W') :
    s.post enc P fn false true false false W args (.bool true) W' := by
  have hW' := hW
  obtain ⟨p, q, hA, hV, rfl, _, _⟩ := hW
  rw [hvars] at hV
  obtain ⟨rfl, rfl⟩ := trodVars_none hV
  have hlt : ∀ x ∈ p ++ [], x.block < W.heap.size := fun x hx => by simpa using hW'.lt x hx
  refine ⟨ds, [], p ++ [], [], p, [], hW', ?_, ?_, ?_, hb.frame _, fun h => by cases h⟩
  · rw [hs, hres]
    exact trodAll_cons_mk (shut_bool htb _) trodAll_mk0
  · rw [hs]
    exact trodAll_below hl hb ht hA (fun x hx => hlt x (List.mem_append_left _ hx))
  · rw [hs, hvars]
    rfl

end
end
end Go.Proofs.YtcoonnbkmklenaaDoor.A
