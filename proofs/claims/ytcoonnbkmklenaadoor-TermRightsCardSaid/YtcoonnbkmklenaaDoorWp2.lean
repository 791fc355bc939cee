/- Evaluation with frames that are known by their slots alone. -/
import Derived.Test.YtcoonnbkmklenaaDoorWp
namespace Go.Proofs.YtcoonnbkmklenaaDoor.A
open Go
attribute [-simp] put slot_def

theorem put_len (fr : List AV) (d : Option Nat) (v : AV) : (put fr d v).length = fr.length := by cases d <;> simp [put]
theorem put_none (fr : List AV) (v : AV) : put fr none v = fr := rfl
theorem slot_same {fr : List AV} {d : Nat} {v : AV} (h : d < fr.length) : slot (put fr (some d) v) d = v := by
  simp [slot, put, List.getD_eq_getElem?_getD, h]
theorem slot_other {fr : List AV} {d e : Nat} {v : AV} (h : d ≠ e) : slot (put fr (some d) v) e = slot fr e := by
  simp [slot, put, List.getD_eq_getElem?_getD, List.getElem?_set_ne h]
theorem slot_of {l : List AV} {n : Nat} {x : AV} (h : l[n]? = some x) : slot l n = x := by simp [slot, List.getD_eq_getElem?_getD, h]

/-- a call, its frame known by its slots -/
theorem call_by {T : Tab} {f n : Nat} {rs : List ARes} {c : AC} {p : Bool} (hF : T f = some ⟨n, rs, c, p⟩) {args : List AV} {st : St} {v : AV} {s : St} (hn : args.length ≤ n)
    (h : ∀ fr : List AV, fr.length = n → (∀ (j : Nat) x, args[j]? = some x → slot fr j = x) →
      run (D T) false (fin rs p st (fun v' s' => v' = v ∧ s' = s)) [.c c] .norm fr { objs := st.objs, ro := if p = true then st.objs.length else st.ro, df := [] }) :
    (D T).call f args st = some (v, s) := by
  refine call_eq hF hn (h _ (by simp; omega) fun j x hx => ?_)
  have hj : j < args.length := (List.getElem?_eq_some_iff.1 hx).1
  exact slot_of (by rw [List.getElem?_append_left hj]; exact hx)

attribute [simp] put_len put_none slot_same slot_other

end Go.Proofs.YtcoonnbkmklenaaDoor.A
