/- Evaluation does not see what lies below in the store: all is the same, every place moved up. -/
import Derived.Test.YtgabnhmjlhhojaaKeep
namespace Go.Proofs.Ytgabnhmjlhhojaa.A
open Go
set_option linter.unusedSimpArgs false
set_option linter.unusedVariables false

mutual
def shV (n : Nat) : AV → AV
  | .ptr r i off => .ptr (n + r) i off
  | .own r lo m f => .own (n + r) lo m f
  | .yld r => .yld (n + r)
  | .mref r => .mref (n + r)
  | .vptr cs => .vptr (shL n cs)
  | .sl sz es => .sl sz (shLL n es)
  | .fsl sz es => .fsl sz (shLL n es)
  | .agg cs => .agg (shL n cs)
  | .tup vs => .tup (shL n vs)
  | .fn f a b => .fn f (shL n a) (shL n b)
  | .any => .any
  | .bool b => .bool b
  | .int k x => .int k x
  | .str s => .str s
  | .nilf => .nilf
  | .nilp => .nilp
  | .nils => .nils
  | .emps => .emps
def shL (n : Nat) : List AV → List AV
  | [] => []
  | v :: l => shV n v :: shL n l
def shLL (n : Nat) : List (List AV) → List (List AV)
  | [] => []
  | v :: l => shL n v :: shLL n l
end

theorem shL_map (n : Nat) : ∀ l, shL n l = l.map (shV n)
  | [] => rfl
  | v :: l => by simp [shL, shL_map n l]
theorem shLL_map (n : Nat) : ∀ l, shLL n l = l.map (shL n)
  | [] => rfl
  | v :: l => by simp [shLL, shLL_map n l]

def shX (n : Nat) : Opd → Opd
  | .c v => .c (shV n v)
  | x => x

def shOp (n : Nat) : AO → AO
  | .move x => .move (shX n x)
  | .pick c a b => .pick (shX n c) (shX n a) (shX n b)
  | .alloc ty z => .alloc ty (shL n z)
  | .box ty x => .box ty (shX n x)
  | .build z ps => .build (shL n z) (ps.map fun p => (p.1, p.2.1, shX n p.2.2))
  | .mksl sz z x => .mksl sz (shL n z) (shX n x)
  | .buildSl sz z l ps => .buildSl sz (shL n z) l (ps.map fun p => (p.1, shX n p.2))
  | .load g sz a => .load g sz (shX n a)
  | .store sz a v => .store sz (shX n a) (shX n v)
  | .nilck x => .nilck (shX n x)
  | .bin op x y => .bin op (shX n x) (shX n y)
  | .beq g x y => .beq g (shX n x) (shX n y)
  | .sh l x y => .sh l (shX n x) (shX n y)
  | .aeq ks g x y => .aeq ks g (shX n x) (shX n y)
  | .isnil k g x => .isnil k g (shX n x)
  | .not x => .not (shX n x)
  | .neg x => .neg (shX n x)
  | .com x => .com (shX n x)
  | .conv k x => .conv k (shX n x)
  | .same x => .same (shX n x)
  | .mkfn f a b => .mkfn f (a.map (shX n)) (b.map (shX n))
  | .fieldA off x => .fieldA off (shX n x)
  | .field g off sz x => .field g off sz (shX n x)
  | .idxA sz x i => .idxA sz (shX n x) (shX n i)
  | .idxV sz x i => .idxV sz (shX n x) (shX n i)
  | .idxArrA m sz x i => .idxArrA m sz (shX n x) (shX n i)
  | .idxS x i => .idxS (shX n x) (shX n i)
  | .slice sz x lo hi mx => .slice sz (shX n x) (lo.map (shX n)) (hi.map (shX n)) (mx.map (shX n))
  | .sliceS x lo hi => .sliceS (shX n x) (lo.map (shX n)) (hi.map (shX n))
  | .extract x i => .extract (shX n x) i
  | .len x => .len (shX n x)
  | .lenS x => .lenS (shX n x)
  | .append ty sz b s x => .append ty sz b (shX n s) (shX n x)
  | .max2 x y => .max2 (shX n x) (shX n y)
  | .min2 x y => .min2 (shX n x) (shX n y)
  | .call f a => .call f (a.map (shX n))
  | .callv f a => .callv (shX n f) (a.map (shX n))
  | .mkmap => .mkmap
  | .add64 x y c => .add64 (shX n x) (shX n y) (shX n c)
  | .mapset s m k v => .mapset s (shX n m) (shX n k) (shX n v)
  | .mapget s ok g z m k => .mapget s ok g (shL n z) (shX n m) (shX n k)

def shAOp (n : Nat) (o : AOp) : AOp := { o with op := shOp n o.op }

def shC (n : Nat) : AC → AC
  | .skip => .skip
  | .ops l d => .ops (l.map (shAOp n)) d
  | .opsW l => .opsW (l.map (shAOp n))
  | .opsV l => .opsV (l.map (shAOp n))
  | .seq a b => .seq (shC n a) (shC n b)
  | .cond c a b => .cond (shX n c) (shC n a) (shC n b)
  | .block i c => .block i (shC n c)
  | .loop c => .loop (shC n c)
  | .range f ps a b => .range (shX n f) ps (shC n a) (shC n b)
  | .exit i => .exit i
  | .ret => .ret

def shF (n : Nat) (F : AF) : AF := { F with body := shC n F.body }

def shE (n : Nat) (es : List (AV × AV)) : List (AV × AV) := es.map fun p => (shV n p.1, shV n p.2)

def shO (n : Nat) : Obj → Obj
  | .arr ty sz es => .arr ty sz (shLL n es)
  | .dead => .dead
  | .dfr => .dfr
  | .loop s p fr ps a b => .loop s p (shL n fr) ps (shC n a) (shC n b)
  | .mp es => .mp (shE n es)

def shS (o : List Obj) (st : St) : St := { objs := o ++ st.objs.map (shO o.length), ro := o.length + st.ro, df := st.df.map (o.length + ·) }

section
variable {o : List Obj} {st : St}

theorem sh_get (r : Nat) : (shS o st).objs[o.length + r]? = (st.objs[r]?).map (shO o.length) := by
  simp only [shS]
  rw [List.getElem?_append_right (by omega), Nat.add_sub_cancel_left, List.getElem?_map]

theorem sh_len : (shS o st).objs.length = o.length + st.objs.length := by simp [shS]

theorem sh_push (x : Obj) : (shS o st).push (shO o.length x) = shS o (st.push x) := by simp [shS, St.push]

theorem sh_set (r : Nat) (x : Obj) : (shS o st).set (o.length + r) (shO o.length x) = shS o (st.set r x) := by
  simp only [shS, St.set]
  rw [List.set_append_right _ _ (by omega), Nat.add_sub_cancel_left, List.map_set]

theorem sh_arr (r : Nat) : (shS o st).arr? (o.length + r) = (st.arr? r).map fun p => (p.1, p.2.1, shLL o.length p.2.2) := by
  simp only [St.arr?, sh_get]
  cases h : st.objs[r]? with
  | none => rfl
  | some x => cases x <;> rfl

theorem sh_map (r : Nat) : (shS o st).map? (o.length + r) = (st.map? r).map (shE o.length) := by
  simp only [St.map?, sh_get]
  cases h : st.objs[r]? with
  | none => rfl
  | some x => cases x <;> rfl

theorem sh_keyEq (n : Nat) (s : Bool) (a b : AV) : keyEq s (shV n a) (shV n b) = keyEq s a b := by
  cases s <;> cases a <;> cases b <;> simp [keyEq, shV]
theorem sh_mpGet (n : Nat) (s : Bool) (k : AV) : ∀ es : List (AV × AV), mpGet s (shV n k) (shE n es) = (mpGet s k es).map (Option.map (shV n))
  | [] => rfl
  | (a, v) :: es => by
    have ih := sh_mpGet n s k es
    simp only [shE] at ih
    simp only [shE, List.map_cons, mpGet, sh_keyEq]
    cases keyEq s k a with
    | none => rfl
    | some b => cases b with
      | true => rfl
      | false => exact ih
theorem sh_mpSet (n : Nat) (s : Bool) (k v : AV) : ∀ es : List (AV × AV), mpSet s (shV n k) (shV n v) (shE n es) = (mpSet s k v es).map (shE n)
  | [] => rfl
  | (a, u) :: es => by
    have ih := sh_mpSet n s k v es
    simp only [shE] at ih
    simp only [shE, List.map_cons, mpSet, sh_keyEq]
    cases keyEq s k a with
    | none => rfl
    | some b => cases b with
      | true => rfl
      | false =>
        simp only [ih]
        cases mpSet s k v es <;> rfl

theorem sh_any {n : Nat} : shV n .any = .any := by simp [shV]

theorem sh_slot (n : Nat) (fr : List AV) (k : Nat) : slot (shL n fr) k = shV n (slot fr k) := by
  simp only [slot, shL_map, List.getD_eq_getElem?_getD, List.getElem?_map]
  cases fr[k]? <;> simp [sh_any]

theorem sh_ev (hg : ∀ g cs n, globs g = some cs → shL n cs = cs) (n : Nat) (fr : List AV) (x : Opd) : ev (shL n fr) (shX n x) = shV n (ev fr x) := by
  cases x with
  | t k => exact sh_slot n fr k
  | c v => rfl
  | g g =>
    simp only [shX, ev]
    cases h : globs g with
    | none => simp [shV]
    | some cs => simp [shV, hg g cs n h]
  | f f => simp [shX, ev, shV, shL]

theorem sh_put (n : Nat) (fr : List AV) (d : Option Nat) (v : AV) : put (shL n fr) d (shV n v) = shL n (put fr d v) := by
  cases d with
  | none => rfl
  | some d => simp [put, shL_map]

theorem sh_cells (n : Nat) (v : AV) : (shV n v).cells = shL n v.cells := by
  cases v <;> simp [shV, AV.cells, shL]

theorem sh_one (n : Nat) (v : AV) : (shV n v).one = v.one := by cases v <;> simp [shV, AV.one]

theorem sh_ones (n : Nat) : ∀ l : List AV, (shL n l).all AV.one = l.all AV.one
  | [] => rfl
  | v :: l => by simp [shL, sh_one, sh_ones n l]

theorem sh_can1 (n : Nat) (v : AV) : can1 (shV n v) = shV n (can1 v) := by cases v <;> simp [shV, can1]
theorem sh_canL (n : Nat) : ∀ l : List AV, canL (shL n l) = shL n (canL l)
  | [] => rfl
  | v :: l => by simp [shL, canL, sh_can1, sh_canL n l]
theorem sh_canA (n : Nat) (v : AV) : canA (shV n v) = shV n (canA v) := by cases v <;> simp [shV, canA, sh_canL]
theorem sh_canAL (n : Nat) : ∀ l : List AV, canAL (shL n l) = shL n (canAL l)
  | [] => rfl
  | v :: l => by simp [shL, canAL, sh_canA, sh_canAL n l]

theorem shL_len (n : Nat) (l : List AV) : (shL n l).length = l.length := by simp [shL_map]
theorem shLL_len (n : Nat) (l : List (List AV)) : (shLL n l).length = l.length := by simp [shLL_map]
theorem shL_app (n : Nat) (l k : List AV) : shL n (l ++ k) = shL n l ++ shL n k := by simp [shL_map]
theorem shLL_app (n : Nat) (l k : List (List AV)) : shLL n (l ++ k) = shLL n l ++ shLL n k := by simp [shLL_map]
theorem shL_drop (n k : Nat) (l : List AV) : (shL n l).drop k = shL n (l.drop k) := by simp [shL_map, List.map_drop]
theorem shL_take (n k : Nat) (l : List AV) : (shL n l).take k = shL n (l.take k) := by simp [shL_map, List.map_take]
theorem shLL_drop (n k : Nat) (l : List (List AV)) : (shLL n l).drop k = shLL n (l.drop k) := by simp [shLL_map, List.map_drop]
theorem shLL_take (n k : Nat) (l : List (List AV)) : (shLL n l).take k = shLL n (l.take k) := by simp [shLL_map, List.map_take]
theorem shLL_nil (n : Nat) (l : List (List AV)) : shLL n l = [] ↔ l = [] := by cases l <;> simp [shLL]
theorem shLL_emp (n : Nat) (l : List (List AV)) : (shLL n l).isEmpty = l.isEmpty := by cases l <;> simp [shLL]
theorem shLL_getD (n k : Nat) (l : List (List AV)) : (shLL n l).getD k [] = shL n (l.getD k []) := by
  simp only [shLL_map, List.getD_eq_getElem?_getD, List.getElem?_map]
  cases l[k]? <;> simp [shL]
theorem shLL_get (n k : Nat) (l : List (List AV)) : (shLL n l)[k]? = (l[k]?).map (shL n) := by simp [shLL_map]
theorem shL_set (n k : Nat) (l : List AV) (v : AV) : (shL n l).set k (shV n v) = shL n (l.set k v) := by simp [shL_map, List.map_set]
theorem shLL_set (n k : Nat) (l : List (List AV)) (v : List AV) : (shLL n l).set k (shL n v) = shLL n (l.set k v) := by simp [shLL_map, List.map_set]
theorem shLL_rep (n k : Nat) (z : List AV) : List.replicate k (shL n z) = shLL n (List.replicate k z) := by simp [shLL_map]
theorem shL_rep (n k : Nat) : List.replicate k AV.any = shL n (List.replicate k AV.any) := by simp [shL_map, sh_any]

theorem sh_setMany (n : Nat) : ∀ (xs cs : List AV) (k : Nat), setMany (shL n cs) k (shL n xs) = shL n (setMany cs k xs)
  | [], cs, k => by simp [shL, setMany]
  | x :: xs, cs, k => by simp only [shL, setMany]; rw [shL_set, sh_setMany n xs]

variable (hg : ∀ g cs n, globs g = some cs → shL n cs = cs)
include hg

theorem sh_evs (n : Nat) (fr : List AV) : ∀ l : List Opd, evs (shL n fr) (l.map (shX n)) = shL n (evs fr l)
  | [] => rfl
  | x :: l => by simp [evs, shL, sh_ev hg, sh_evs n fr l]

theorem sh_fill (n : Nat) (fr : List AV) : ∀ (ps : List (Nat × Nat × Opd)) (cs : List AV), fill (shL n fr) (ps.map fun p => (p.1, p.2.1, shX n p.2.2)) (shL n cs) = (fill fr ps cs).map (shL n)
  | [], cs => rfl
  | (k, m, x) :: r, cs => by
    simp only [List.map_cons, fill, sh_ev hg, sh_cells, sh_ones, shL_len, sh_setMany, sh_fill n fr r]
    split <;> rfl

theorem sh_fillSl (n : Nat) (fr : List AV) (sz : Nat) : ∀ (ps : List (Nat × Opd)) (es : List (List AV)), fillSl (shL n fr) sz (ps.map fun p => (p.1, shX n p.2)) (shLL n es) = (fillSl fr sz ps es).map (shLL n)
  | [], es => rfl
  | (k, x) :: r, es => by
    simp only [List.map_cons, fillSl, sh_ev hg, sh_cells, sh_ones, shL_len, shLL_len, sh_canL, shLL_set, sh_fillSl n fr sz r]
    split <;> rfl

omit hg

theorem sh_val (n : Nat) (g : Bool) (cs : List AV) : val g (shL n cs) = (val g cs).map (shV n) := by
  cases g with
  | true => simp [val, shV]
  | false =>
    match cs with
    | [] => rfl
    | [v] => rfl
    | _ :: _ :: _ => rfl

theorem sh_ld (g : Bool) (sz : Nat) (a : AV) : ld (shS o st) g sz (shV o.length a) = (ld st g sz a).map (shV o.length) := by
  cases a with
  | ptr r i off =>
    simp only [shV, ld, sh_arr]
    cases st.arr? r with
    | none => rfl
    | some p =>
      obtain ⟨ty, s, es⟩ := p
      simp only [Option.map_some, shLL_get]
      cases es[i]? with
      | none => rfl
      | some e =>
        simp only [Option.map_some, shL_len, shL_drop, shL_take, sh_val]
        split <;> rfl
  | vptr cs =>
    simp only [shV, ld, shL_len, shL_take, sh_val]
    split <;> rfl
  | _ => simp [shV, ld]

theorem sh_sto (sz : Nat) (a v : AV) : sto (shS o st) sz (shV o.length a) (shV o.length v) = (sto st sz a v).map (shS o) := by
  cases a with
  | ptr r i off =>
    simp only [shV, sto, sh_arr]
    cases st.arr? r with
    | none => rfl
    | some p =>
      obtain ⟨ty, s, es⟩ := p
      simp only [Option.map_some, shLL_get]
      cases es[i]? with
      | none => rfl
      | some e =>
        simp only [Option.map_some, shL_len, sh_cells, sh_ones, sh_setMany, shLL_set]
        have hro : ((shS o st).ro ≤ o.length + r) ↔ (st.ro ≤ r) := by simp [shS]
        simp only [hro]
        split
        · simp only [Option.map_some, ← sh_set, shO]
        · rfl
  | _ => simp [shV, sto]

theorem binI_sh (n : Nat) (op : BinOp) (k : IntKind) (x y : Int) : (binI op k x y).map (shV n) = binI op k x y := by
  cases op <;> simp [binI] <;> first | rfl | (split <;> simp [shV]) | simp [shV]

theorem binS_sh (n : Nat) (op : BinOp) (x y : ByteArray) : (binS op x y).map (shV n) = binS op x y := by
  cases op <;> simp [binS, shV]

theorem sh_bin (n : Nat) (op : BinOp) (x y : AV) : bin op (shV n x) (shV n y) = (bin op x y).map (shV n) := by
  cases x <;> cases y <;> simp only [shV, bin, Option.map_none]
  · split
    · exact (binI_sh ..).symm
    · rfl
  · exact (binS_sh ..).symm

theorem sh_idxA (sz : Nat) (x i : AV) : idxA (shS o st) sz (shV o.length x) (shV o.length i) = (idxA st sz x i).map (shV o.length) := by
  cases x <;> cases i <;> simp only [shV, idxA, Option.map_none, shLL_len, shLL_getD, sh_arr]
  · rename_i r lo n f k i
    cases st.arr? r with
    | none => rfl
    | some p =>
      obtain ⟨ty, s, es⟩ := p
      simp only [Option.map_some, shLL_len]
      split <;> simp [shV]
  · split <;> simp [shV]
  · split <;> simp [shV]

theorem sh_idxV (n sz : Nat) (x i : AV) : idxV sz (shV n x) (shV n i) = (idxV sz x i).map (shV n) := by
  cases x <;> cases i <;> simp only [shV, idxV, Option.map_none, shLL_len, shLL_getD]
  · split <;> simp [shV]
  · split <;> simp [shV]

theorem sh_idxArrA (n m sz : Nat) (x i : AV) : idxArrA m sz (shV n x) (shV n i) = (idxArrA m sz x i).map (shV n) := by
  cases x <;> cases i <;> simp only [shV, idxArrA, Option.map_none, shL_drop]
  · split <;> simp [shV]
  · split <;> simp [shV]

theorem sh_natB (n : Nat) (v : Option AV) (d lo hi : Nat) : natB (v.map (shV n)) d lo hi = natB v d lo hi := by
  cases v with
  | none => rfl
  | some v => cases v <;> simp [shV, natB]

theorem sh_slcL (n s : Nat) (es : List (List AV)) (full : Bool) (lo hi mx : Option AV) : slcL s (shLL n es) full (lo.map (shV n)) (hi.map (shV n)) (mx.map (shV n)) = (slcL s es full lo hi mx).map (shV n) := by
  simp only [slcL, sh_natB, shLL_len, shLL_take, shLL_drop]
  cases natB hi es.length 0 es.length with
  | none => rfl
  | some h =>
    simp only []
    cases natB lo 0 0 h with
    | none => rfl
    | some l =>
      cases mx with
      | none =>
        simp only [Option.map_none, Option.map_some]
        cases full && h == es.length <;> simp [shV]
      | some m =>
        cases m <;> simp only [Option.map_some, shV, Option.map_none]
        split <;> simp [shV]

theorem sh_slc (sz : Nat) (x : AV) (lo hi mx : Option AV) : slc (shS o st) sz (shV o.length x) (lo.map (shV o.length)) (hi.map (shV o.length)) (mx.map (shV o.length)) = (slc st sz x lo hi mx).map (shV o.length) := by
  cases x with
  | own r k n full =>
    simp only [shV, slc, sh_arr]
    cases st.arr? r with
    | none => rfl
    | some p =>
      obtain ⟨ty, s, es⟩ := p
      simp only [Option.map_some, sh_natB]
      split
      · cases natB hi n 0 n with
        | none => rfl
        | some h =>
          simp only []
          cases natB lo 0 0 h with
          | none => rfl
          | some l =>
            cases mx with
            | none =>
              simp only [Option.map_none]
              split <;> simp [shV]
            | some m =>
              cases m <;> simp only [Option.map_some, shV, Option.map_none]
              split <;> simp [shV]
      · rfl
  | sl s es =>
    simp only [shV, slc, shLL_emp]
    split
    · exact sh_slcL ..
    · rfl
  | fsl s es =>
    simp only [shV, slc, shLL_emp]
    split
    · exact sh_slcL ..
    · rfl
  | _ => simp [shV, slc]

theorem sh_slcS (n : Nat) (x : AV) (lo hi : Option AV) : slcS (shV n x) (lo.map (shV n)) (hi.map (shV n)) = (slcS x lo hi).map (shV n) := by
  cases x <;> simp only [shV, slcS, Option.map_none, sh_natB]
  rename_i s
  cases natB hi s.size 0 s.size with
  | none => rfl
  | some h =>
    simp only []
    cases natB lo 0 0 h <;> simp [shV]

theorem sh_lenOf (n : Nat) (x : AV) : lenOf (shV n x) = lenOf x := by cases x <;> simp [shV, lenOf, shLL_len]

theorem sh_elems (x : AV) : elems (shS o st) (shV o.length x) = (elems st x).map fun p => (p.1, shLL o.length p.2) := by
  cases x <;> simp only [shV, elems, Option.map_none, Option.map_some, sh_arr, shLL]
  rename_i r lo n f
  cases st.arr? r with
  | none => rfl
  | some p =>
    obtain ⟨ty, s, es⟩ := p
    simp only [Option.map_some, shLL_len, shLL_drop, shLL_take]
    split <;> rfl

/-- a value, and a store -/
def shP (o : List Obj) (p : AV × St) : AV × St := (shV o.length p.1, shS o p.2)

theorem sh_add64 (n : Nat) (x y c : AV) : add64A (shV n x) (shV n y) (shV n c) = (add64A x y c).map (shV n) := by
  cases x with
  | int k a =>
    cases y with
    | int k' b =>
      cases c with
      | int k'' d =>
        simp only [shV]
        cases k <;> cases k' <;> cases k'' <;> try rfl
        simp only [add64A]
        split
        · simp [shV, shL]
        · rfl
      | _ => cases k <;> cases k' <;> rfl
    | _ => cases k <;> rfl
  | _ => rfl
theorem sh_mset (s : Bool) (m k v : AV) : mset (shS o st) s (shV o.length m) (shV o.length k) (shV o.length v) = (mset st s m k v).map (shP o) := by
  cases m with
  | mref r =>
    simp only [shV, mset, sh_map]
    cases st.map? r with
    | none => rfl
    | some es =>
      simp only [Option.map_some, sh_mpSet]
      have e : ((shS o st).ro ≤ o.length + r) = (st.ro ≤ r) := by simp [shS]
      simp only [e]
      split
      · cases mpSet s k v es with
        | none => rfl
        | some es' =>
          simp only [Option.map_some, shP, sh_any]
          rw [show Obj.mp (shE o.length es') = shO o.length (.mp es') from rfl, sh_set]
      · rfl
  | _ => rfl
theorem sh_mget (s ok g : Bool) (z : List AV) (m k : AV) : mget (shS o st) s ok g (shL o.length z) (shV o.length m) (shV o.length k) = (mget st s ok g z m k).map (shV o.length) := by
  cases m with
  | mref r =>
    simp only [shV, mget, sh_map]
    cases st.map? r with
    | none => rfl
    | some es =>
      simp only [Option.map_some, sh_mpGet]
      cases mpGet s k es with
      | none => rfl
      | some q => cases q with
        | some v => cases ok <;> simp [shV, shL]
        | none =>
          simp only [Option.map_some, Option.map_none, sh_val]
          cases val g z with
          | none => rfl
          | some v => cases ok <;> simp [shV, shL]
  | _ => rfl

theorem sh_app (ty sz bytes : Nat) (s x : AV) : app (shS o st) ty sz bytes (shV o.length s) (shV o.length x) = (app st ty sz bytes s x).map (shP o) := by
  simp only [app, sh_elems]
  cases elems st x with
  | none => rfl
  | some p =>
    obtain ⟨sx, xs⟩ := p
    simp only [Option.map_some, shLL_nil]
    split
    · rfl
    · cases s with
      | fsl ss es =>
        have hx : (shLL o.length xs ≠ []) ↔ (xs ≠ []) := by rw [Ne, shLL_nil]
        have hx2 : (shLL o.length es ≠ []) ↔ (es ≠ []) := by rw [Ne, shLL_nil]
        simp only [shV, shLL_nil, shLL_len, sh_len, hx, hx2]
        by_cases hc0 : xs = [] ∧ es ≠ []
        · rw [if_pos hc0, if_pos hc0]; simp [shP, shV]
        rw [if_neg hc0, if_neg hc0]
        by_cases hc : (es = [] ∨ ss = sz ∧ xs ≠ []) ∧ room (es.length + xs.length) bytes = true
        · rw [if_pos hc, if_pos hc]
          simp only [Option.map_some, shP, ← sh_push, shV, shO, shLL_app]
        · rw [if_neg hc, if_neg hc]; rfl
      | own r lo n full =>
        cases full with
        | false =>
          simp only [shV, sh_arr]
          cases st.arr? r with
          | none => rfl
          | some p =>
            obtain ⟨t, s', es⟩ := p
            have hro : ((shS o st).ro ≤ o.length + r) ↔ (st.ro ≤ r) := by simp [shS]
            simp only [Option.map_some, shLL_len, sh_len, hro]
            split
            · simp only [Option.map_some, shP, ← sh_push, ← sh_set, shV, shO, shLL_app]
            · rfl
        | true =>
          simp only [shV, sh_arr]
          cases st.arr? r with
          | none => rfl
          | some p =>
            obtain ⟨t, s', es⟩ := p
            simp only [Option.map_some, shLL_len, sh_len, shLL_drop, shLL_take]
            have hx : (shLL o.length xs ≠ []) ↔ (xs ≠ []) := by rw [Ne, shLL_nil]
            simp only [hx]
            split
            · simp only [Option.map_some, shP, ← sh_push, shV, shO, shLL_app]
            · rfl
      | _ => simp [shV]

end

mutual
theorem sh_flat (n : Nat) : ∀ v : AV, (shV n v).flat = v.flat
  | .ptr .. => by simp [shV, AV.flat]
  | .own .. => by simp [shV, AV.flat]
  | .yld _ => by simp [shV, AV.flat]
  | .mref _ => by simp [shV, AV.flat]
  | .vptr cs => by simp [shV, AV.flat, sh_flatL n cs]
  | .sl _ es => by simp [shV, AV.flat, sh_flatLL n es]
  | .fsl _ es => by simp [shV, AV.flat]
  | .agg cs => by simp [shV, AV.flat, sh_flatL n cs]
  | .tup cs => by simp [shV, AV.flat, sh_flatL n cs]
  | .fn _ a b => by simp [shV, AV.flat, sh_flatL n a, sh_flatL n b]
  | .any => by simp [shV]
  | .bool _ => by simp [shV]
  | .int .. => by simp [shV]
  | .str _ => by simp [shV]
  | .nilf => by simp [shV]
  | .nilp => by simp [shV]
  | .nils => by simp [shV]
  | .emps => by simp [shV]
theorem sh_flatL (n : Nat) : ∀ l : List AV, AV.flatL (shL n l) = AV.flatL l
  | [] => rfl
  | v :: l => by simp [shL, AV.flatL, sh_flat n v, sh_flatL n l]
theorem sh_flatLL (n : Nat) : ∀ l : List (List AV), AV.flatLL (shLL n l) = AV.flatLL l
  | [] => rfl
  | v :: l => by simp [shLL, AV.flatLL, sh_flatL n v, sh_flatLL n l]
end

end Go.Proofs.Ytgabnhmjlhhojaa.A
