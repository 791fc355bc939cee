/- What the rows over cuts share: how cuts lie, the sizes that the given statement lets in. -/
import Derived.Test.YtgabnhmjlhhojaaTab
import Derived.Test.YtgabnhmjlhhojaaZ0
import Derived.ProofKit
import Derived.LaidMore
import Derived.OpenShut
import Derived.Stop.Joined
import Derived.Test.YtgabnhmjlhhojaaU2
namespace Go.Proofs.Ytgabnhmjlhhojaa.A
open Go Go.ChangeShapes Go.WideShapes Go.RowKit
set_option linter.unusedVariables false

theorem own : ownKnob Try.prog.godebug = none := by kernel_rfl
theorem laid : laidOutB Try.prog = true := by kernel_rfl
theorem mixed : Try.prog.follows .mixedOrders = true := by kernel_rfl
theorem cutT : CutT Try.prog 29 27 62 24 26 3 22 2 23 :=
  ⟨⟨_, Try.underlying29, rfl⟩, ⟨_, Try.underlying26, rfl⟩, ⟨_, Try.underlying62, rfl⟩, Try.underlying27, Try.underlying24, Try.underlying22, Try.underlying23, Try.underlying3, Try.underlying2,
    ⟨by kernel_rfl, by kernel_rfl, by kernel_rfl, by kernel_rfl, by kernel_rfl, by kernel_rfl, by kernel_rfl, by kernel_rfl, by kernel_rfl⟩,
    ⟨of_decide_eq_true (by kernel_rfl), of_decide_eq_true (by kernel_rfl), of_decide_eq_true (by kernel_rfl), of_decide_eq_true (by kernel_rfl)⟩⟩
section
variable {P : Program} {tQ tQL tM tML tN tI tIL tJ tJL : TypeId}
def ACu (a : AV) : Prop := ∃ c : Cu, c.ok ∧ a = c.av
theorem arg_cut (K : CutT P tQ tQL tM tML tN tI tIL tJ tJL) : ArgRdW P tQ ACu := by
  obtain ⟨_, h, _⟩ := K.st
  exact (argw_struct h (rd_cut K)).imp fun a ⟨_, h1, t, h2, h3⟩ => ⟨t, h2, by rw [h1, h3]; rfl⟩
end
theorem rdCut : Try.prog.readableRec 29 = true ∧ 29 < Try.prog.types.size := ⟨by kernel_rfl, of_decide_eq_true (by kernel_rfl)⟩
theorem aCut : ArgRdW Try.prog 29 ACu := arg_cut cutT
def zeroCut : Value := .agg #[.int .i64 0, .slice none 0 0, .slice none 0 0, .int .i64 0, .int .i64 0, .slice none 0 0, .slice none 0 0]

theorem fits_cons {q : TypeId × (AV → Prop)} {ps : List (TypeId × (AV → Prop))} {avs : List AV} (h : Fits (q :: ps) avs) : ∃ a l, avs = a :: l ∧ q.2 a ∧ Fits ps l := by
  cases avs with
  | nil => exact h.elim
  | cons a l => exact ⟨a, l, rfl, h.1, h.2⟩
theorem fits_nil {avs : List AV} (h : Fits [] avs) : avs = [] := by
  cases avs with
  | nil => rfl
  | cons a l => exact h.elim

section
variable {P : Program}
/-- a law over such arguments, its function answering true at each of them; the sizes as the change's own reading has them -/
theorem contract_argsH {T : Tab} {f : FuncId} {fn : Func} {s : ChangeSpec} {tb : TypeId} (hT : TabOk P T) (hm : P.follows .mixedOrders = true) (hl : laidOutB P = true) (ps : List (TypeId × (AV → Prop))) (hps : ∀ q ∈ ps, ArgRdW P q.1 q.2) (hrd : ∀ q ∈ ps, P.readableRec q.1 = true ∧ q.1 < P.types.size)
    (hp : fn.params = (ps.map (·.1)).toArray) (hr : fn.resultTypes = #[tb]) (htb : P.underlying tb = some .bool) (hv : s.vars = [])
    (hs : ∀ (H : Type) (ds : List (DataW H)), ds.length = ps.length → s.fn H ds = { results := [.lit (.bool true)], args := ds })
    (law : ∀ avs : List AV, Fits ps avs → ∃ st', (D T).call f avs st0 = some (.bool true, st'))
    (H : Type) (enc : TypeId × Value → H) (W : World) (base : Nat) (args : Array Value) (ds gs : List (DataW H)) (before : List MemPlace)
    (hval : ∀ (j : Nat) t v, fn.params[j]? = some t → args[j]? = some v → Value.okWide P W .any base t v)
    (hW : DataW.Whole enc P fn.params.toList s.vars false W args.toList ds gs before) {tvs : List TypeId} (hvt : tvs = []) (hS : ((DataW.weightsEach P (fn.params.toList ++ tvs) (ds ++ gs)).all fun x => decide (x ≤ reachBytes)) = true) (hG : GlobOk (env0 W) W) (hrl : rl f = f := by rfl) :
    Calls P f args W fun e W' => ∃ v, e = .returned v ∧ s.post enc P fn false true false false W args v W' := by
  have hW' := hW
  obtain ⟨p, q, hA, hV, rfl, _, _⟩ := hW
  rw [hv] at hV
  obtain ⟨rfl, rfl⟩ := trodVars_none hV
  rw [hp] at hA
  obtain ⟨_, l3, _⟩ := open_args' hA
  obtain ⟨avs, l1, _, R⟩ := open_argsW ps hps (fun j t v ht hv => hval j t v (by rw [hp]; simpa using ht) (by simpa using hv)) hA (by
    rw [hvt, List.append_nil, List.append_nil, hp] at hS
    exact Wok_each hS)
  obtain ⟨st', hl'⟩ := law avs l1
  refine (calls_true hT hm hG hl' R hrl).mono fun e W' ⟨he, hb⟩ => ?_
  subst he
  exact ⟨_, rfl, post_below hl hv hr htb (by
    intro t ht
    rw [hp] at ht
    have ht' : t ∈ ps.map (·.1) := by simpa [-List.mem_map] using ht
    obtain ⟨q, hq, rfl⟩ := List.mem_map.1 ht'
    exact hrd q hq) (by rw [List.append_nil]; exact hs H ds (by simpa using l3)) hW' hb⟩
end

/-- the kit's bridge, with the sizes handed on -/
theorem handed_sized {H : Type} {enc : TypeId × Value → H} {a : Assume} {C : Checked} {os : Os} {f : FuncId} {fn : Func} {s : ChangeSpec} {conds : List PathCond} {apart fresh handsOn again : Bool}
    (own : ownKnob C.prog.godebug = none) (started : os.Started) (noInit : C.prog.inits.idxOf? f = none) (hfn : C.prog.funcs[f]? = some fn)
    (witness : ∃ (w : World) (tape : Tape) (i : Input), w.os = os ∧ (w.forCall tape i).Shaped C.prog ∧ i.vars = [] ∧ Input.okWide C.prog (w.forCall tape i) .any w.heap.size f i ∧
      s.pre6 enc C.prog fn conds apart (w.forCall tape i).memory i.args ∧ a.holds C.prog (lone (Frame.enter C.prog f i.args .normal) [] (w.forCall tape i)))
    (contract : ∀ (W : World) (base : Nat) (args : Array Value) (ds gs : List (DataW H)) (before : List MemPlace),
      (∀ (j : Nat) t v, fn.params[j]? = some t → args[j]? = some v → Value.okWide C.prog W .any base t v) →
      DataW.Whole enc C.prog fn.params.toList s.vars apart W args.toList ds gs before →
      conds.all (PathCond.test C.prog ⟨fn.params.toList, ds, s.plain.varTypes C.prog, gs⟩) = true →
      (DataW.weightsEach C.prog (fn.params.toList ++ s.plain.varTypes C.prog) (ds ++ gs)).all (· ≤ reachBytes) = true →
      a.holds C.prog (lone (Frame.enter C.prog f args .normal) [] W) →
      Calls C.prog f args W fun e W' => ∃ v, e = .returned v ∧ s.post enc C.prog fn apart fresh handsOn again W args v W') :
    ReturnsInHanded a C os f .any (s.pre6 enc C.prog fn conds apart) (s.post enc C.prog fn apart fresh handsOn again) := by
  refine returnsInHanded_of_calls own started noInit witness ?_
  intro w tape i _ _ _ hok hpre hholds
  obtain ⟨_, _, _, fn', hfn', _, _, _, _, hval⟩ := hok
  have e : fn' = fn := Option.some.inj (hfn'.symm.trans hfn)
  subst e
  obtain ⟨⟨ds, gs, before, hw, hc⟩, hz⟩ := hpre
  have hw' := DataW.Whole.of_heap (w' := w.forCall tape i) (by rfl) hw
  refine (contract (w.forCall tape i) w.heap.size i.args ds gs before hval hw' hc (hz.weights hw) hholds).mono fun e W' ⟨v, he, hp⟩ => ?_
  subst he
  exact ChangeSpec.post_blind hp

end Go.Proofs.Ytgabnhmjlhhojaa.A
/- How lists of numbers, numbers and linear terms are read as arguments. -/
namespace Go.Proofs.Ytgabnhmjlhhojaa.A
open Go Go.ChangeShapes Go.WideShapes Go.RowKit
set_option linter.unusedVariables false

theorem rdInts : Try.prog.readableRec 22 = true ∧ 22 < Try.prog.types.size := ⟨by kernel_rfl, of_decide_eq_true (by kernel_rfl)⟩
theorem aInts : ArgRdW Try.prog 22 AInts := arg_ints Try.underlying22 Try.underlying3 (by kernel_rfl) (of_decide_eq_true (by kernel_rfl))
theorem rdI64s : Try.prog.readableRec 23 = true ∧ 23 < Try.prog.types.size := ⟨by kernel_rfl, of_decide_eq_true (by kernel_rfl)⟩
theorem aI64s : ArgRdW Try.prog 23 AInts := arg_ints Try.underlying23 Try.underlying2 (by kernel_rfl) (of_decide_eq_true (by kernel_rfl))
def zeroSlice : Value := .slice none 0 0
def AInt1 (a : AV) : Prop := ∃ n : Int, inI n ∧ a = .int .i64 n
theorem rdInt : Try.prog.readableRec 3 = true ∧ 3 < Try.prog.types.size := ⟨by kernel_rfl, of_decide_eq_true (by kernel_rfl)⟩
theorem aInt : ArgRdW Try.prog 3 AInt1 := (arg_int Try.underlying3).w.imp fun a ⟨n, h1, h2, h3⟩ => ⟨n, ⟨h2, h3⟩, h1⟩
theorem rdI64 : Try.prog.readableRec 2 = true ∧ 2 < Try.prog.types.size := ⟨by kernel_rfl, of_decide_eq_true (by kernel_rfl)⟩
theorem aI64 : ArgRdW Try.prog 2 AInt1 := (arg_int Try.underlying2).w.imp fun a ⟨n, h1, h2, h3⟩ => ⟨n, ⟨h2, h3⟩, h1⟩
def zeroInt : Value := .int .i64 0
def ALn (a : AV) : Prop := ∃ l : Int × List (Int × Int), (inI l.1 ∧ moL l.2) ∧ a = .agg [.int .i64 l.1, .sl 2 (moA l.2)]
section
variable {P : Program} {tQ tQL tM tML tN tI tIL tJ tJL : TypeId}
theorem arg_lin (K : CutT P tQ tQL tM tML tN tI tIL tJ tJL) : ArgRdW P tN ALn := by
  obtain ⟨_, h, _⟩ := K.stN
  exact (argw_struct h (rd_lin K)).imp fun a ⟨_, h1, k, ms, h2, h3, h4⟩ => ⟨(k, ms), ⟨h2, h3⟩, by rw [h1, h4]⟩
end
theorem rdLin : Try.prog.readableRec 26 = true ∧ 26 < Try.prog.types.size := ⟨by kernel_rfl, of_decide_eq_true (by kernel_rfl)⟩
theorem aLin : ArgRdW Try.prog 26 ALn := arg_lin cutT
def zeroLin : Value := .agg #[.int .i64 0, .slice none 0 0]

end Go.Proofs.Ytgabnhmjlhhojaa.A
/- How lists of inequalities are read as arguments. -/
namespace Go.Proofs.Ytgabnhmjlhhojaa.A
open Go Go.ChangeShapes Go.WideShapes Go.RowKit
set_option linter.unusedVariables false

/-- an inequality that lies in memory -/
def IqOk (q : Iq) : Prop := inI q.1.1 ∧ moL q.1.2
def AIqs (a : AV) : Prop := ∃ l : List Iq, ((∀ q ∈ l, IqOk q) ∧ l.length ≤ mxB) ∧ a = .sl 3 (l.map iqA)
section
variable {P : Program} {tQ tQL tM tML tN tI tIL tJ tJL tE tEL tB : TypeId}
structure IqT (P : Program) (tN tE tEL tB : TypeId) : Prop where
  st : ∃ flds, P.underlying tE = some (.struct flds) ∧ flds.toList.map (fun f => (f.type, f.offset)) = [(tN, 0), (tB, 2)]
  sl : P.underlying tEL = some (.slice tE)
  bool : P.underlying tB = some .bool
  c : P.cellsOf tN = 2 ∧ P.cellsOf tE = 3 ∧ P.cellsOf tB = 1
  b : 0 < P.bytesOf tE
theorem rd_iq (K : CutT P tQ tQL tM tML tN tI tIL tJ tJL) (L : IqT P tN tE tEL tB) (k : Nat) : RdW P k tE 3 (fun a => ∃ q : Iq, IqOk q ∧ a = iqA q) := by
  obtain ⟨flds, h1, h2⟩ := L.st
  obtain ⟨c1, c2, c3⟩ := L.c
  have h := rdw_struct (P := P) (t := tE) (k := k) [(tN, 2, (fun a => ∃ k ms, inI k ∧ moL ms ∧ a = [.int .i64 k, .sl 2 (moA ms)])), (tB, 1, RBool)] h1 (by rw [h2]; rfl) (by simp [c1, c3]) (by rw [c2]; rfl) (fun n hn f hf => by
    simp only [List.mem_cons, List.not_mem_nil, or_false] at hf
    rcases hf with rfl | rfl
    · exact rd_lin K n
    · exact (rd_bool L.bool).w)
  refine h.imp fun a ha => ?_
  obtain ⟨_, _, rfl, ⟨kk, ms, k1, m1, rfl⟩, _, _, rfl, ⟨b, rfl⟩, rfl⟩ := ha
  exact ⟨((kk, ms), b), ⟨k1, m1⟩, rfl⟩
theorem arg_iqs (K : CutT P tQ tQL tM tML tN tI tIL tJ tJL) (L : IqT P tN tE tEL tB) : ArgRdW P tEL AIqs :=
  (argw_one L.sl rfl fun k => rdw_slice L.sl L.c.2.1 (by omega) L.b fun n _ => rd_iq K L n).imp fun a ha => by
    obtain ⟨es, h1, h2, h3⟩ := ha
    obtain ⟨l, l1, rfl⟩ := list_choose (f := iqA) (ok := IqOk) es fun e he => (h2 e he).1
    exact ⟨l, ⟨l1, by simpa using h3⟩, by simpa using h1⟩
end
theorem iqT : IqT Try.prog 26 51 36 4 :=
  ⟨⟨_, Try.underlying51, rfl⟩, Try.underlying36, Try.underlying4, ⟨by kernel_rfl, by kernel_rfl, by kernel_rfl⟩, of_decide_eq_true (by kernel_rfl)⟩
theorem rdIqs : Try.prog.readableRec 36 = true ∧ 36 < Try.prog.types.size := ⟨by kernel_rfl, of_decide_eq_true (by kernel_rfl)⟩
theorem aIqs : ArgRdW Try.prog 36 AIqs := arg_iqs cutT iqT

end Go.Proofs.Ytgabnhmjlhhojaa.A
