/- Evaluation does not see what lies below in the store: operations, code, functions, and so a pure function without arguments. -/
import Derived.Test.YtgabnhmjlhhojaaShift
namespace Go.Proofs.Ytgabnhmjlhhojaa.A
open Go
set_option linter.unusedSimpArgs false
set_option linter.unusedVariables false

/-- what stands for calls and loops, moved up -/
structure Eqv (o : List Obj) (O : Orc) : Prop where
  call : ∀ f a st, O.call f (shL o.length a) (shS o st) = (O.call f a st).map (shP o)
  yield : ∀ r a st, O.yield (o.length + r) (shL o.length a) (shS o st) = (O.yield r a st).map (shP o)
  loop : ∀ rd c fr st, O.loop rd (shC o.length c) (shL o.length fr) (shS o st) = (O.loop rd c fr st).map fun p => (p.1, shL o.length p.2.1, shS o p.2.2)

section
variable {o : List Obj} {st : St} {O : Orc} (E : Eqv o O) (hg : ∀ g cs n, globs g = some cs → shL n cs = cs)

include E
theorem sh_callV (f : AV) (a : List AV) : callV O (shV o.length f) (shL o.length a) (shS o st) = (callV O f a st).map (shP o) := by
  cases f with
  | fn f x y =>
    cases f with
    | func f => simp only [shV, callV, ← shL_app, E.call]
    | _ => simp [shV, callV]
  | yld r => simp only [shV, callV, E.yield]
  | _ => simp [shV, callV]

theorem sh_callF (f : AV) (a : List AV) : callF O (shV o.length f) (shL o.length a) (shS o st) = (callF O f a st).map (shP o) := by
  cases f with
  | fn f x y =>
    cases f with
    | func f => simp only [shV, callF, ← shL_app, E.call]
    | _ => simp [shV, callF]
  | _ => simp [shV, callF]

omit E
theorem sh_opt (x : Option AV) : opt (shS o st) (x.map (shV o.length)) = (opt st x).map (shP o) := by cases x <;> rfl

theorem sh_omap (hg : ∀ g cs n, globs g = some cs → shL n cs = cs) (n : Nat) (fr : List AV) (x : Option Opd) : (x.map (shX n)).map (ev (shL n fr)) = (x.map (ev fr)).map (shV n) := by
  cases x <;> simp [sh_ev hg]

theorem sh_eqCell (n k : Nat) (a b : AV) : eqCell k (shV n a) (shV n b) = eqCell k a b := by
  cases a <;> cases b <;> simp only [shV] <;> rcases k with _ | _ | _ | k <;> rfl

theorem sh_eqCells (n : Nat) : ∀ (ks : List Nat) (a b : List AV), eqCells ks (shL n a) (shL n b) = eqCells ks a b
  | [], [], [] => rfl
  | [], [], _ :: _ => rfl
  | [], _ :: _, _ => rfl
  | _ :: _, [], _ => rfl
  | _ :: _, _ :: _, [] => rfl
  | k :: ks, a :: l, b :: m => by simp only [shL, eqCells, sh_eqCell, sh_eqCells n ks l m]

theorem sh_nilOf (n k : Nat) (a : AV) : nilOf k (shV n a) = nilOf k a := by
  rcases k with _ | _ | _ | k <;> cases a <;> simp only [shV] <;> try rfl
  · rename_i m _; cases m <;> rfl
  · rename_i sz es; cases es <;> rfl
  · rename_i sz es; cases es <;> rfl

include E hg
theorem sh_exOp (fr : List AV) (x : AO) : exOp O (shL o.length fr) (shS o st) (shOp o.length x) = (exOp O fr st x).map (shP o) := by
  cases x with
  | move x => simp [shOp, exOp, sh_ev hg, shP]
  | pick c a b =>
    simp only [shOp, exOp, sh_ev hg]
    cases ev fr c <;> simp [shV, shP]
    rename_i t
    cases t <;> rfl
  | alloc ty z => simp only [shOp, exOp, sh_len, Option.map_some, shP, shV, ← sh_push, shO, shLL, shL_len]
  | box ty x =>
    simp only [shOp, exOp, sh_ev hg, sh_cells, sh_ones, shL_len, sh_len]
    by_cases hc : (ev fr x).cells.all AV.one = true ∧ 0 < (ev fr x).cells.length
    · rw [if_pos hc, if_pos hc]
      simp only [Option.map_some, shP, shV, ← sh_push, shO, shLL]
    · rw [if_neg hc, if_neg hc]; rfl
  | build z ps =>
    simp only [shOp, exOp, sh_fill hg]
    cases fill fr ps z <;> simp [shP, shV]
  | buildSl sz z n ps =>
    simp only [shOp, exOp, shLL_rep, sh_fillSl hg]
    cases fillSl fr sz ps (List.replicate n z) with
    | none => rfl
    | some es =>
      have h : ∀ es : List (List AV), (shLL o.length es).all (·.all AV.one) = es.all (·.all AV.one) := by
        intro es
        induction es with
        | nil => rfl
        | cons e es ih => simp only [shLL, List.all_cons, sh_ones, ih]
      simp only [Option.map_some, h]
      by_cases hc : es.all (·.all AV.one) = true
      · rw [if_pos hc, if_pos hc]; simp [shP, shV]
      · rw [if_neg hc, if_neg hc]; rfl
  | mksl sz z x =>
    simp only [shOp, exOp, sh_ev hg]
    cases ev fr x <;> simp only [shV, Option.map_none]
    rename_i k i
    simp only [sh_ones]
    by_cases hc : (0 ≤ i ∧ i ≤ 1000000) ∧ z.all AV.one = true
    · rw [if_pos hc, if_pos hc]; simp [shP, shV, sh_canL, shLL_rep]
    · rw [if_neg hc, if_neg hc]; rfl
  | load g sz a => simp only [shOp, exOp, sh_ev hg, sh_ld, sh_opt]
  | store sz a v =>
    simp only [shOp, exOp, sh_ev hg, sh_sto]
    cases sto st sz (ev fr a) (ev fr v) <;> simp [shP, shV]
  | nilck x =>
    simp only [shOp, exOp, sh_ev hg]
    cases ev fr x with
    | fn f a b => cases f <;> simp [shV, shP]
    | _ => simp [shV, shP]
  | bin op x y => simp only [shOp, exOp, sh_ev hg, sh_bin, sh_opt]
  | beq g x y =>
    simp only [shOp, exOp, sh_ev hg]
    cases ev fr x <;> cases ev fr y <;> simp [shV, shP]
  | sh l x y =>
    simp only [shOp, exOp, sh_ev hg]
    cases ev fr x <;> cases ev fr y <;> simp only [shV, Option.map_none]
    rename_i k a k' b
    simp only [shI]
    split
    · rfl
    · cases l <;> simp [opt, shP, shV]
  | aeq ks g x y =>
    simp only [shOp, exOp, sh_ev hg]
    cases ev fr x <;> cases ev fr y <;> simp only [shV, Option.map_none]
    rename_i a b
    rw [sh_eqCells]
    cases eqCells ks a b <;> simp [shV, shP]
  | isnil k g x =>
    simp only [shOp, exOp, sh_ev hg, sh_nilOf]
    cases nilOf k (ev fr x) <;> simp [shV, shP]
  | not x =>
    simp only [shOp, exOp, sh_ev hg]
    cases ev fr x <;> simp [shV, shP]
  | neg x =>
    simp only [shOp, exOp, sh_ev hg]
    cases ev fr x <;> simp [shV, shP]
  | com x =>
    simp only [shOp, exOp, sh_ev hg]
    cases ev fr x <;> simp [shV, shP, comI]
  | conv k x =>
    simp only [shOp, exOp, sh_ev hg]
    cases ev fr x <;> simp [shV, shP]
  | same x =>
    simp only [shOp, exOp, sh_ev hg]
    cases ev fr x <;> simp [shV, shP]
  | mkfn f a b => simp [shOp, exOp, sh_evs hg, shV, shP]
  | fieldA off x =>
    simp only [shOp, exOp, sh_ev hg]
    cases ev fr x <;> simp [shV, shP, shL_drop]
  | field g off sz x =>
    simp only [shOp, exOp, sh_ev hg]
    cases ev fr x <;> simp only [shV, Option.map_none]
    simp only [shL_len, shL_drop, shL_take, sh_val, sh_opt]
    split <;> rfl
  | idxA sz x i => simp only [shOp, exOp, sh_ev hg, sh_idxA, sh_opt]
  | idxV sz x i => simp only [shOp, exOp, sh_ev hg, sh_idxV, sh_opt]
  | idxArrA n sz x i => simp only [shOp, exOp, sh_ev hg, sh_idxArrA, sh_opt]
  | idxS x i =>
    simp only [shOp, exOp, sh_ev hg]
    cases ev fr x <;> cases ev fr i <;> simp only [shV, Option.map_none]
    split <;> simp [shP, shV]
  | slice sz x lo hi mx => simp only [shOp, exOp, sh_ev hg, sh_omap hg, sh_slc, sh_opt]
  | sliceS x lo hi => simp only [shOp, exOp, sh_ev hg, sh_omap hg, sh_slcS, sh_opt]
  | extract x i =>
    simp only [shOp, exOp, sh_ev hg]
    cases ev fr x <;> simp only [shV, Option.map_none]
    rename_i vs
    rw [shL_map, List.getElem?_map]
    cases vs[i]? <;> simp [shP]
  | len x =>
    simp only [shOp, exOp, sh_ev hg, sh_lenOf]
    cases lenOf (ev fr x) <;> simp [shV, shP]
  | lenS x =>
    simp only [shOp, exOp, sh_ev hg]
    cases ev fr x <;> simp [shV, shP]
  | append ty sz b s x => simp only [shOp, exOp, sh_ev hg, sh_app]
  | mkmap =>
    simp only [shOp, exOp, sh_len, Option.map_some, shP, shV]
    rw [← sh_push]
    rfl
  | mapset s m k v => simp only [shOp, exOp, sh_ev hg, sh_mset]
  | add64 x y c => simp only [shOp, exOp, sh_ev hg, sh_add64, sh_opt]
  | mapget s ok g z m k => simp only [shOp, exOp, sh_ev hg, sh_mget, sh_opt]
  | max2 x y =>
    simp only [shOp, exOp, sh_ev hg]
    cases ev fr x <;> cases ev fr y <;> simp only [shV, Option.map_none]
    split <;> simp [shV, shP]
  | min2 x y =>
    simp only [shOp, exOp, sh_ev hg]
    cases ev fr x <;> cases ev fr y <;> simp only [shV, Option.map_none]
    split <;> simp [shV, shP]
  | call f a => simp only [shOp, exOp, sh_evs hg, sh_canAL, E.call]
  | callv f a => simp only [shOp, exOp, sh_ev hg, sh_evs hg, sh_canAL, sh_callV E]

/-- a frame, and a store -/
def shQ (o : List Obj) (p : List AV × St) : List AV × St := (shL o.length p.1, shS o p.2)

theorem sh_exStep (x : AOp) (fr : List AV) : exStep O (shAOp o.length x) (shL o.length fr) (shS o st) = (exStep O x fr st).map (shQ o) := by
  obtain ⟨d, op, g⟩ := x
  have key : (match exOp O (shL o.length fr) (shS o st) (shOp o.length op) with | some (v, st') => some (put (shL o.length fr) d v, st') | none => none) =
      (match exOp O fr st op with | some (v, st') => some (put fr d v, st') | none => none).map (shQ o) := by
    rw [sh_exOp E hg]
    cases exOp O fr st op with
    | none => rfl
    | some p =>
      obtain ⟨v, st'⟩ := p
      simp only [Option.map_some, shP, shQ, sh_put]
  cases g with
  | none => exact key
  | some g =>
    obtain ⟨j, w⟩ := g
    simp only [shAOp, exStep, sh_slot]
    have hgd : gd (shV o.length (slot fr j)) = gd (slot fr j) := by
      cases slot fr j with
      | tup vs => cases vs <;> simp [shV, shL, gd]
      | _ => simp [shV, gd]
    rw [hgd]
    cases gd (slot fr j) with
    | none => rfl
    | some x =>
      simp only []
      cases x == some w with
      | true => exact key
      | false =>
        simp only [cond_false, Option.map_some, shQ]
        rw [show AV.tup [] = shV o.length (.tup []) by simp [shV, shL], sh_put]
        simp [shV, shL]

theorem sh_exOps : ∀ (l : List AOp) (fr : List AV) (st : St), exOps O (l.map (shAOp o.length)) (shL o.length fr) (shS o st) = (exOps O l fr st).map (shQ o)
  | [], fr, st => rfl
  | x :: l, fr, st => by
    simp only [List.map_cons, exOps, sh_exStep E hg]
    cases exStep O x fr st with
    | none => rfl
    | some p =>
      obtain ⟨fr', st'⟩ := p
      simp only [Option.map_some, shQ]
      exact sh_exOps l fr' st'

omit E
def shT (n : Nat) (t : Nat × Nat × Nat × Nat) : Nat × Nat × Nat × Nat := (n + t.1, t.2)

theorem sh_target (fr : List AV) (x : AO) : target (shL o.length fr) (shOp o.length x) = (target fr x).map (shT o.length) := by
  cases x <;> simp [shOp, target]
  rename_i sz a v
  rw [sh_ev hg]
  cases ev fr a <;> simp [shV, shT]

omit hg
theorem sh_apart (n : Nat) : ∀ l, allApart (l.map (shT n)) = allApart l
  | [] => rfl
  | x :: l => by
    have h : ∀ y, apart2 (shT n x) (shT n y) = apart2 x y := by
      intro y
      have : ((n + x.1 != n + y.1) = (x.1 != y.1)) := by
        simp only [bne]
        congr 1
        rw [Bool.eq_iff_iff]; simp
      show (n + x.1 != n + y.1 || _ || _ || _) = (x.1 != y.1 || _ || _ || _)
      rw [this]
      rfl
    have h2 : (l.map (shT n)).all (apart2 (shT n x)) = l.all (apart2 x) := by
      rw [List.all_map]
      congr 1
      funext y
      exact h y
    simp only [List.map_cons, allApart, h2, sh_apart n l]

include E hg
theorem sh_exDraw : ∀ (l : List AOp) (ts : List (Nat × Nat × Nat × Nat)) (fr : List AV) (st : St), exDraw O (l.map (shAOp o.length)) (ts.map (shT o.length)) (shL o.length fr) (shS o st) = (exDraw O l ts fr st).map (shQ o)
  | [], ts, fr, st => by
    simp only [List.map_nil, exDraw, sh_apart]
    split <;> rfl
  | x :: l, ts, fr, st => by
    simp only [List.map_cons, exDraw, sh_exStep E hg]
    cases exStep O x fr st with
    | none => rfl
    | some p =>
      obtain ⟨fr', st'⟩ := p
      simp only [Option.map_some, shQ]
      have ht : target (shL o.length fr) (shAOp o.length x).op = (target fr x.op).map (shT o.length) := sh_target hg fr x.op
      rw [ht, ← List.map_append]
      exact sh_exDraw l _ fr' st'

omit E hg
theorem add_beq (n a b : Nat) : (n + a == n + b) = (a == b) := by rw [Bool.eq_iff_iff]; simp

mutual
theorem sh_beq (n : Nat) : ∀ a b : AV, AV.beq (shV n a) (shV n b) = AV.beq a b
  | .any, b => by cases b <;> simp [shV, AV.beq]
  | .bool _, b => by cases b <;> simp [shV, AV.beq]
  | .int .., b => by cases b <;> simp [shV, AV.beq]
  | .str _, b => by cases b <;> simp [shV, AV.beq]
  | .nilf, b => by cases b <;> simp [shV, AV.beq]
  | .nilp, b => by cases b <;> simp [shV, AV.beq]
  | .nils, b => by cases b <;> simp [shV, AV.beq]
  | .emps, b => by cases b <;> simp [shV, AV.beq]
  | .ptr .., b => by cases b <;> simp [shV, AV.beq, add_beq]
  | .own .., b => by cases b <;> simp [shV, AV.beq, add_beq]
  | .yld _, b => by cases b <;> simp [shV, AV.beq, add_beq]
  | .mref _, b => by cases b <;> simp [shV, AV.beq, add_beq]
  | .vptr l, b => by cases b <;> simp [shV, AV.beq, sh_beqL n l]
  | .agg l, b => by cases b <;> simp [shV, AV.beq, sh_beqL n l]
  | .tup l, b => by cases b <;> simp [shV, AV.beq, sh_beqL n l]
  | .sl _ l, b => by cases b <;> simp [shV, AV.beq, sh_beqLL n l]
  | .fsl _ l, b => by cases b <;> simp [shV, AV.beq, sh_beqLL n l]
  | .fn _ x y, b => by cases b <;> simp [shV, AV.beq, sh_beqL n x, sh_beqL n y]
theorem sh_beqL (n : Nat) : ∀ a b : List AV, AV.beqL (shL n a) (shL n b) = AV.beqL a b
  | [], b => by cases b <;> simp [shL, AV.beqL]
  | a :: l, b => by
    cases b with
    | nil => simp [shL, AV.beqL]
    | cons b k => simp [shL, AV.beqL, sh_beq n a, sh_beqL n l]
theorem sh_beqLL (n : Nat) : ∀ a b : List (List AV), AV.beqLL (shLL n a) (shLL n b) = AV.beqLL a b
  | [], b => by cases b <;> simp [shLL, AV.beqLL]
  | a :: l, b => by
    cases b with
    | nil => simp [shLL, AV.beqLL]
    | cons b k => simp [shLL, AV.beqLL, sh_beqL n a, sh_beqLL n l]
end

def shW (n : Nat) (w : Wt) : Wt := (w.1, w.2.1, shV n w.2.2.1, shV n w.2.2.2)

theorem sh_wsOk : ∀ ws : List Wt, wsOk (shS o st) (ws.map (shW o.length)) = wsOk st ws
  | [] => rfl
  | (g, sz, p, v) :: ws => by
    simp only [List.map_cons, shW, wsOk, sh_ld, sh_wsOk ws]
    cases ld st g sz p with
    | none => rfl
    | some u => simp only [Option.map_some, sh_beq]

include hg
theorem sh_entry (x : AOp) (fr : List AV) : entry (shAOp o.length x) (shL o.length fr) (shS o st) = (entry x fr st).map (shW o.length) := by
  obtain ⟨d, op, g⟩ := x
  have hr : ran (shL o.length fr) (shAOp o.length ⟨d, op, g⟩) = ran fr ⟨d, op, g⟩ := by
    cases g with
    | none => rfl
    | some jw =>
      obtain ⟨j, w⟩ := jw
      simp only [ran, shAOp, sh_slot]
      have hgd : gd (shV o.length (slot fr j)) = gd (slot fr j) := by
        cases slot fr j with
        | tup vs => cases vs <;> simp [shV, shL, gd]
        | _ => simp [shV, gd]
      rw [hgd]
  cases op <;> simp only [shAOp, shOp, entry, List.map_nil]
  rename_i a sz x
  simp only [shAOp, shOp] at hr
  rw [hr]
  cases ran fr _ with
  | false => rfl
  | true =>
    simp only [cond_true, sh_ev hg, sh_ld]
    cases ld st a sz (ev fr x) with
    | none => rfl
    | some v => rfl

include E
theorem sh_exW : ∀ (l : List AOp) (ws : List Wt) (fr : List AV) (st : St), exW O (l.map (shAOp o.length)) (ws.map (shW o.length)) (shL o.length fr) (shS o st) = (exW O l ws fr st).map (shQ o)
  | [], ws, fr, st => rfl
  | x :: l, ws, fr, st => by
    have he : effB (shAOp o.length x).op = effB x.op := by
      obtain ⟨d, op, g⟩ := x
      cases op <;> rfl
    simp only [List.map_cons, exW, sh_exStep E hg, he, sh_entry hg]
    cases exStep O x fr st with
    | none => rfl
    | some p =>
      obtain ⟨fr', st'⟩ := p
      simp only [Option.map_some, shQ, sh_wsOk]
      split
      · rfl
      · rw [← List.map_append]
        exact sh_exW l _ fr' st'

omit E hg in
theorem sh_stillL (n : Nat) : ∀ l : List AV, AV.stillL (shL n l) = AV.stillL l
  | [] => rfl
  | v :: l => by
    have h : (shV n v).still = v.still := by
      cases v with
      | fsl sz es => rfl
      | _ =>
        first
          | rfl
          | (have := sh_flat n (by assumption); rfl)
          | simp [shV, AV.still, AV.flat, sh_flatL, sh_flatLL]
    simp only [shL, AV.stillL, h, sh_stillL n l]
omit E in
theorem sh_oldOk (n0 : Nat) (x : AOp) (fr : List AV) : oldOk (o.length + n0) (shAOp o.length x) (shL o.length fr) = oldOk n0 x fr := by
  obtain ⟨d, op, g⟩ := x
  have hgd : ∀ v : AV, gd (shV o.length v) = gd v := fun v => by
    cases v with
    | tup vs => cases vs <;> simp [shV, shL, gd]
    | _ => simp [shV, gd]
  have hr : ran (shL o.length fr) (shAOp o.length ⟨d, op, g⟩) = ran fr ⟨d, op, g⟩ := by
    cases g with
    | none => rfl
    | some jw =>
      obtain ⟨j, w⟩ := jw
      simp only [ran, shAOp, sh_slot, hgd]
  simp only [oldOk, hr]
  cases op <;> simp only [shAOp, shOp]
  · rename_i a sz x
    rw [sh_ev hg]
    cases ev fr x <;> simp [shV]
  · rename_i f args
    rw [sh_evs hg, sh_canAL, sh_stillL]

theorem sh_exV : ∀ (n0 : Nat) (l : List AOp) (ws : List Wt) (fr : List AV) (st : St), exV O (o.length + n0) (l.map (shAOp o.length)) (ws.map (shW o.length)) (shL o.length fr) (shS o st) = (exV O n0 l ws fr st).map (shQ o)
  | n0, [], ws, fr, st => rfl
  | n0, x :: l, ws, fr, st => by
    have he : loudV (shAOp o.length x).op = loudV x.op := by
      obtain ⟨d, op, g⟩ := x
      cases op <;> rfl
    simp only [List.map_cons, exV, sh_exStep E hg, he, sh_entry hg, sh_oldOk hg]
    cases exStep O x fr st with
    | none => rfl
    | some p =>
      obtain ⟨fr', st'⟩ := p
      simp only [Option.map_some, shQ, sh_wsOk]
      split
      · rfl
      · rw [← List.map_append]
        exact sh_exV n0 l _ fr' st'

/-- an end, a frame, and a store -/
def shR (o : List Obj) (p : AE × List AV × St) : AE × List AV × St := (p.1, shL o.length p.2.1, shS o p.2.2)

omit E hg
theorem sh_two (f : List AV) (ps : List Nat) (a b : AC) : { shS o st with objs := (shS o st).objs ++ [.dfr, .loop .ready none (shL o.length f) ps (shC o.length a) (shC o.length b)], df := (shS o st).objs.length :: (shS o st).df } =
    shS o { st with objs := st.objs ++ [.dfr, .loop .ready none f ps a b], df := st.objs.length :: st.df } := by
  simp [shS, shO]

include E hg
theorem sh_exC (c : AC) : ∀ (rd : Bool) (fr : List AV) (st : St), exC O rd (shC o.length c) (shL o.length fr) (shS o st) = (exC O rd c fr st).map (shR o) := by
  induction c with
  | skip => intro rd fr st; rfl
  | exit i => intro rd fr st; rfl
  | ret => intro rd fr st; rfl
  | ops l d =>
    intro rd fr st
    cases d with
    | false =>
      simp only [shC, exC, sh_exOps E hg]
      cases exOps O l fr st with
      | none => rfl
      | some p => rfl
    | true =>
      have := sh_exDraw E hg l [] fr st
      rw [List.map_nil] at this
      simp only [shC, exC, this]
      cases exDraw O l [] fr st with
      | none => rfl
      | some p => rfl
  | opsW l =>
    intro rd fr st
    have := sh_exW E hg l [] fr st
    rw [List.map_nil] at this
    simp only [shC, exC, this]
    cases exW O l [] fr st with
    | none => rfl
    | some p => rfl
  | opsV l =>
    intro rd fr st
    have := sh_exV E hg st.objs.length l [] fr st
    rw [List.map_nil] at this
    simp only [shC, exC, sh_len, this]
    cases exV O st.objs.length l [] fr st with
    | none => rfl
    | some p => rfl
  | seq a b iha ihb =>
    intro rd fr st
    simp only [shC, exC, iha]
    cases exC O rd a fr st with
    | none => rfl
    | some p =>
      obtain ⟨e, fr', st'⟩ := p
      cases e with
      | norm => simp only [Option.map_some, shR]; exact ihb rd fr' st'
      | exit i => rfl
      | ret => rfl
  | cond c a b iha ihb =>
    intro rd fr st
    simp only [shC, exC, sh_ev hg]
    cases ev fr c with
    | bool t =>
      simp only [shV]
      cases t
      · exact ihb rd fr st
      · exact iha rd fr st
    | _ => simp [shV]
  | block i c ih =>
    intro rd fr st
    simp only [shC, exC, ih]
    cases exC O rd c fr st with
    | none => rfl
    | some p =>
      obtain ⟨e, fr', st'⟩ := p
      cases e with
      | norm => rfl
      | exit j =>
        simp only [Option.map_some, shR]
        split <;> rfl
      | ret => rfl
  | loop c ih =>
    intro rd fr st
    simp only [shC, exC, E.loop]
    rfl
  | range f ps a b _ _ =>
    intro rd fr st
    cases rd with
    | true => rfl
    | false =>
      simp only [shC, exC, Bool.false_eq_true, if_false, sh_ev hg, sh_two]
      have hy : [AV.yld ((shS o st).objs.length + 1)] = shL o.length [.yld (st.objs.length + 1)] := by simp [shL, shV, sh_len]; omega
      rw [hy, sh_callF E]
      cases callF O (ev fr f) [.yld (st.objs.length + 1)] { st with objs := st.objs ++ [.dfr, .loop .ready none fr ps a b], df := st.objs.length :: st.df } with
      | none => rfl
      | some p =>
        obtain ⟨v, st'⟩ := p
        simp only [Option.map_some, shP]
        rw [show (shS o st).objs.length + 1 = o.length + (st.objs.length + 1) by rw [sh_len]; omega, sh_get]
        cases st'.objs[st.objs.length + 1]? with
        | none => rfl
        | some x =>
          cases x with
          | loop s p fr' ps' a' b' =>
            simp only [Option.map_some, shO]
            rw [show Obj.loop .exhausted p (shL o.length fr') ps' (shC o.length a') (shC o.length b') = shO o.length (.loop .exhausted p fr' ps' a' b') from rfl, sh_set]
            cases s <;> rfl
          | _ => rfl

omit E hg
theorem sh_bindP (n : Nat) : ∀ (ps : List Nat) (fr a : List AV), bindP (shL n fr) ps (shL n a) = shL n (bindP fr ps a)
  | [], fr, a => by simp [bindP]
  | p :: ps, fr, [] => by simp [bindP, shL]
  | p :: ps, fr, x :: a => by
    simp only [shL, bindP]
    rw [shL_set, sh_bindP n ps]

include E hg
theorem sh_exYield (r : Nat) (a : List AV) (st : St) : exYield O (o.length + r) (shL o.length a) (shS o st) = (exYield O r a st).map (shP o) := by
  simp only [exYield, sh_get]
  cases st.objs[r]? with
  | none => rfl
  | some x =>
    cases x with
    | loop s p fr ps asg body =>
      simp only [Option.map_some, shO]
      cases s with
      | ready =>
        cases p with
        | none =>
          simp only [shL_len]
          have hro : ((shS o st).ro ≤ o.length + r) ↔ (st.ro ≤ r) := by simp [shS]
          simp only [hro]
          by_cases hc : a.length = ps.length ∧ st.ro ≤ r
          · rw [if_pos hc, if_pos hc]
            have h1 := sh_exC E hg asg true (bindP fr ps a) { st with df := [] }
            have e0 : ({ shS o st with df := [] } : St) = shS o { st with df := [] } := by simp [shS]
            rw [e0, sh_bindP, h1]
            cases exC O true asg (bindP fr ps a) { st with df := [] } with
            | none => rfl
            | some q =>
              obtain ⟨e, fr1, st1⟩ := q
              cases e with
              | exit i => rfl
              | ret => rfl
              | norm =>
                simp only [Option.map_some, shR, sh_get]
                cases st1.objs[r]? with
                | none => rfl
                | some x =>
                  cases x with
                  | loop s2 p2 fr2 ps2 asg2 body2 =>
                    simp only [Option.map_some, shO]
                    cases s2 with
                    | ready =>
                      cases p2 with
                      | none =>
                        simp only []
                        rw [show Obj.loop .busy none (shL o.length fr2) ps2 (shC o.length asg2) (shC o.length body2) = shO o.length (.loop .busy none fr2 ps2 asg2 body2) from rfl, sh_set]
                        have h2 := sh_exC E hg body true fr1 (st1.set r (.loop .busy none fr2 ps2 asg2 body2))
                        rw [h2]
                        cases exC O true body fr1 (st1.set r (.loop .busy none fr2 ps2 asg2 body2)) with
                        | none => rfl
                        | some q3 =>
                          obtain ⟨e3, fr3, st3⟩ := q3
                          simp only [Option.map_some, shR, sh_get]
                          cases st3.objs[r]? with
                          | none => rfl
                          | some x =>
                            cases x with
                            | loop s4 p4 fr4 ps4 asg4 body4 =>
                              simp only [Option.map_some, shO]
                              cases s4 with
                              | busy =>
                                cases p4 with
                                | none =>
                                  have fin : ∀ X, ({ (shS o st3).set (o.length + r) (shO o.length X) with df := (shS o st).df } : St) = shS o { st3.set r X with df := st.df } := by
                                    intro X; rw [sh_set]; rfl
                                  cases e3 with
                                  | norm =>
                                    simp only [Option.map_some, shP, shV]
                                    rw [← fin]; rfl
                                  | exit i =>
                                    simp only [Option.map_some, shP, shV]
                                    rw [← fin]; rfl
                                  | ret =>
                                    simp only [Option.map_some, shP, shV]
                                    rw [← fin]; rfl
                                | some _ => rfl
                              | _ => rfl
                            | _ => rfl
                      | some _ => rfl
                    | _ => rfl
                  | _ => rfl
          · rw [if_neg hc, if_neg hc]; rfl
        | some _ => rfl
      | _ => rfl
    | _ => rfl

omit E hg
theorem sh_kill : ∀ (l : List Nat) (k : List Obj), killAll (l.map (o.length + ·)) (o ++ k.map (shO o.length)) = o ++ (killAll l k).map (shO o.length)
  | [], k => rfl
  | r :: l, k => by
    simp only [List.map_cons, killAll]
    rw [List.set_append_right _ _ (by omega), Nat.add_sub_cancel_left, show Obj.dead = shO o.length .dead from rfl, ← List.map_set]
    exact sh_kill l _

theorem sh_resOf (fr : List AV) : ∀ l : List ARes, resOf (shS o st) (shL o.length fr) l = (resOf st fr l).map (shL o.length)
  | [] => rfl
  | .tmp t :: l => by
    simp only [resOf, sh_slot, sh_resOf fr l]
    cases resOf st fr l <;> rfl
  | .cell a g sz :: l => by
    simp only [resOf, sh_slot, sh_ld, sh_resOf fr l]
    cases ld st g sz (slot fr a) with
    | none => rfl
    | some v =>
      simp only [Option.map_some]
      cases resOf st fr l <;> rfl

theorem sh_tupOf (n : Nat) (l : List AV) : tupOf (shL n l) = shV n (tupOf l) := by
  match l with
  | [] => simp [tupOf, shL, shV]
  | [v] => simp [tupOf, shL]
  | v :: w :: l => simp [tupOf, shL, shV]


end

end Go.Proofs.Ytgabnhmjlhhojaa.A
