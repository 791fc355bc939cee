/- What the rows over terms share. -/
import Derived.Test.YtcoonnbkmklenaaVTab
import Derived.Test.YtcoonnbkmklenaaVRead
namespace Go.Proofs.Ytcoonnbkmklenaa.A
open Go Go.ChangeShapes Go.WideShapes Go.RowKit
set_option linter.unusedVariables false

theorem own : ownKnob Try.prog.godebug = none := by kernel_rfl
theorem laid : laidOutB Try.prog = true := by kernel_rfl
theorem mixed : Try.prog.follows .mixedOrders = true := by kernel_rfl
theorem termT : TermT Try.prog 24 22 3 2 9 :=
  ⟨⟨_, _, _, _, Try.underlying24, rfl, rfl, rfl, rfl, rfl, rfl, rfl, rfl⟩, Try.underlying22, Try.underlying3, Try.underlying2, Try.underlying9, by kernel_rfl, by kernel_rfl, by kernel_rfl, by kernel_rfl, by kernel_rfl⟩
theorem termRead : Try.prog.readableRec 24 = true ∧ 24 < Try.prog.types.size := ⟨by kernel_rfl, of_decide_eq_true (by kernel_rfl)⟩

theorem is_agg {W : World} {base : Nat} {v : Value} (h : Value.okWide Try.prog W .any base 24 v) : ∃ cs, v = .agg cs := by
  unfold Value.okWide at h
  rw [Try.underlying24] at h
  obtain ⟨cs, h1, _⟩ := h
  exact ⟨cs, h1⟩

/-- arguments that are terms -/
theorem open_terms {H : Type} {enc : TypeId × Value → H} {W : World} {base : Nat} : ∀ (n : Nat) {vs : List Value} {ds : List (DataW H)} {p : List MemPlace},
    (∀ (j : Nat) v, vs[j]? = some v → Value.okWide Try.prog W .any base 24 v) → DataW.TrodAll enc Try.prog W 0 (fun _ => true) true (List.replicate n 24) vs ds p →
    ∃ ts : List Tm, ts.length = n ∧ (∀ t ∈ ts, t.ok) ∧ ds.length = n ∧ RepL (env0 W) 0 W (ts.map Tm.av) vs
  | 0, vs, ds, p, _, hA => by
    obtain ⟨rfl, rfl, rfl⟩ := trodAll_nil hA
    exact ⟨[], rfl, by simp, rfl, rfl, by simp⟩
  | n + 1, vs, ds, p, hval, hA => by
    rw [List.replicate_succ] at hA
    obtain ⟨v0, vs0, d0, ds0, p0, q0, rfl, rfl, rfl, h0, r0⟩ := trodAll_cons hA
    obtain ⟨a, oa, ra⟩ := open_term termT (is_agg (hval 0 v0 rfl)) h0
    obtain ⟨ts, l1, l2, l3, l4⟩ := open_terms n (fun j v hv => hval (j + 1) v (by simpa using hv)) r0
    refine ⟨a :: ts, by simp [l1], ?_, by simp [l3], by simp [l4.len], fun j x u hx hu => ?_⟩
    · intro t ht
      rcases List.mem_cons.1 ht with rfl | ht
      · exact oa
      · exact l2 t ht
    · cases j with
      | zero => simp at hx hu; subst hx hu; exact ra
      | succ j => exact l4.at_ j x u (by simpa using hx) (by simpa using hu)

/-- a law over n terms, its function answering true at each n of them -/
theorem contract_terms {f : FuncId} {fn : Func} {s : ChangeSpec} (n : Nat) (hp : fn.params = (List.replicate n 24).toArray) (hr : fn.resultTypes = #[4]) (hv : s.vars = [])
    (hs : ∀ (H : Type) (ds : List (DataW H)), ds.length = n → s.fn H ds = { results := [.lit (.bool true)], args := ds })
    (law : ∀ ts : List Tm, ts.length = n → (∀ t ∈ ts, t.ok) → ∃ st', (D T).call f (ts.map Tm.av) st0 = some (.bool true, st'))
    (H : Type) (enc : TypeId × Value → H) (W : World) (base : Nat) (args : Array Value) (ds gs : List (DataW H)) (before : List MemPlace)
    (hval : ∀ (j : Nat) t v, fn.params[j]? = some t → args[j]? = some v → Value.okWide Try.prog W .any base t v)
    (hW : DataW.Whole enc Try.prog fn.params.toList s.vars false W args.toList ds gs before) (hG : GlobOk (env0 W) W) :
    Calls Try.prog f args W fun e W' => ∃ v, e = .returned v ∧ s.post enc Try.prog fn false true false false W args v W' := by
  have hW' := hW
  obtain ⟨p, q, hA, hV, rfl, _, _⟩ := hW
  rw [hp] at hA
  obtain ⟨ts, l1, l2, l3, R⟩ := open_terms n (fun j v hv => by
    have hj : j < args.toList.length := (List.getElem?_eq_some_iff.1 hv).1
    have hlen : args.toList.length = n := by
      have : ∀ (k : Nat) {vs : List Value} {ds : List (DataW H)} {p : List MemPlace}, DataW.TrodAll enc Try.prog W 0 (fun _ => true) true (List.replicate k 24) vs ds p → vs.length = k := by
        intro k
        induction k with
        | zero => intro vs ds p h; obtain ⟨rfl, _, _⟩ := trodAll_nil h; rfl
        | succ k ih => intro vs ds p h; rw [List.replicate_succ] at h; obtain ⟨_, _, _, _, _, _, rfl, _, _, _, r⟩ := trodAll_cons h; simp [ih r]
      exact this n hA
    exact hval j _ v (by rw [hp]; simp [show j < n by omega]) (by simpa using hv)) hA
  rw [hv] at hV
  obtain ⟨rfl, rfl⟩ := trodVars_none hV
  obtain ⟨st', hl⟩ := law ts l1 l2
  refine (calls_true tabOk mixed hG hl R).mono fun e W' ⟨he, hb⟩ => ?_
  subst he
  exact ⟨_, rfl, post_below laid hv hr Try.underlying4 (by
    intro t ht
    rw [hp] at ht
    obtain ⟨_, rfl⟩ := List.mem_replicate.1 (by simpa using ht)
    exact termRead) (by rw [List.append_nil]; exact hs H ds l3) hW' hb⟩

def zeroTerm : Value := .agg #[.int .i64 0, .string ⟨#[]⟩, .int .i64 0, .slice none 0 0]

end Go.Proofs.Ytcoonnbkmklenaa.A
