/- Proofs, and what they hold, as plain data. -/
import Derived.Test.YtkecobdhgabknaaDoorC1
import Derived.Test.YtkecobdhgabknaaDoorXR
namespace Go.Proofs.YtkecobdhgabknaaDoor.A
open Go Go.ChangeShapes Go.WideShapes Go.RowKit
set_option linter.unusedSimpArgs false
set_option linter.unusedVariables false

def inI (n : Int) : Prop := -9223372036854775808 ≤ n ∧ n ≤ 9223372036854775807
def intA (l : List Int) : List (List AV) := l.map fun n => [.int .i64 n]
def moA (l : List (Int × Int)) : List (List AV) := l.map fun m => [.int .i64 m.1, .int .i64 m.2]
def inL (l : List Int) : Prop := (∀ n ∈ l, inI n) ∧ l.length ≤ mxB
def moL (l : List (Int × Int)) : Prop := (∀ m ∈ l, inI m.1 ∧ inI m.2) ∧ l.length ≤ mxB

inductive Cu where
  | mk (kind : Int) (fr by' : List Int) (div k : Int) (ms : List (Int × Int)) (subs : List Cu)
instance : Inhabited Cu := ⟨.mk 0 [] [] 0 0 [] []⟩

mutual
def Cu.cells : Cu → List AV
  | .mk kd fr by' dv k ms cs => [.int .i64 kd, .sl 1 (intA fr), .sl 1 (intA by'), .int .i64 dv, .int .i64 k, .sl 2 (moA ms), .sl 7 (cellsCu cs)]
def cellsCu : List Cu → List (List AV)
  | [] => []
  | c :: l => c.cells :: cellsCu l
end
def Cu.av (c : Cu) : AV := .agg c.cells
theorem cellsCu_map : ∀ l : List Cu, cellsCu l = l.map Cu.cells
  | [] => rfl
  | t :: l => by simp [cellsCu, cellsCu_map l]
theorem Cu.cells_mk (kd : Int) (fr by' : List Int) (dv k : Int) (ms : List (Int × Int)) (cs : List Cu) : (Cu.mk kd fr by' dv k ms cs).cells =
    [.int .i64 kd, .sl 1 (intA fr), .sl 1 (intA by'), .int .i64 dv, .int .i64 k, .sl 2 (moA ms), .sl 7 (cs.map Cu.cells)] := by
  simp [Cu.cells, cellsCu_map]
mutual
def Cu.ok : Cu → Prop
  | .mk kd fr by' dv k ms cs => inI kd ∧ inL fr ∧ inL by' ∧ inI dv ∧ inI k ∧ moL ms ∧ cs.length ≤ mxB ∧ okCu cs
def okCu : List Cu → Prop
  | [] => True
  | c :: l => c.ok ∧ okCu l
end
theorem okCu_iff : ∀ {l : List Cu}, okCu l ↔ ∀ t ∈ l, t.ok
  | [] => by simp [okCu]
  | t :: l => by simp [okCu, okCu_iff (l := l)]

/-- a clause, and where it comes from -/
abbrev Ch := List Int × List Int
def Ch.cells (c : Ch) : List AV := [.sl 1 (intA c.1), .sl 1 (intA c.2)]
def Ch.ok (c : Ch) : Prop := inL c.1 ∧ inL c.2
/-- a clause, and a cut -/
abbrev Lm := List Int × Cu
def Lm.cells (c : Lm) : List AV := .sl 1 (intA c.1) :: c.2.cells
def Lm.ok (c : Lm) : Prop := inL c.1 ∧ c.2.ok

inductive Pf where
  | mk (rule : Int) (hyp new var : ByteArray) (back : Bool) (term : Tm) (claim : Cl) (les : List Lm) (chs : List Ch) (cut : Cu) (subs : List Pf)
instance : Inhabited Pf := ⟨.mk 0 .empty .empty .empty false default default [] [] default []⟩

mutual
def Pf.cells : Pf → List AV
  | .mk r h n v b t c les chs cu ps => [.int .i64 r, .str h, .str n, .str v, .bool b] ++ t.cells ++ c.cells ++ [.sl 8 (les.map Lm.cells), .sl 2 (chs.map Ch.cells)] ++ cu.cells ++ [.sl 24 (cellsPf ps)]
def cellsPf : List Pf → List (List AV)
  | [] => []
  | c :: l => c.cells :: cellsPf l
end
def Pf.av (c : Pf) : AV := .agg c.cells
theorem cellsPf_map : ∀ l : List Pf, cellsPf l = l.map Pf.cells
  | [] => rfl
  | t :: l => by simp [cellsPf, cellsPf_map l]
theorem Pf.cells_mk (r : Int) (h n v : ByteArray) (b : Bool) (t : Tm) (c : Cl) (les : List Lm) (chs : List Ch) (cu : Cu) (ps : List Pf) : (Pf.mk r h n v b t c les chs cu ps).cells =
    [.int .i64 r, .str h, .str n, .str v, .bool b] ++ t.cells ++ c.cells ++ [.sl 8 (les.map Lm.cells), .sl 2 (chs.map Ch.cells)] ++ cu.cells ++ [.sl 24 (ps.map Pf.cells)] := by
  simp [Pf.cells, cellsPf_map]
/-- with all cells in sight -/
theorem Pf.cells_all (r : Int) (h n v : ByteArray) (b : Bool) (t0 : Int) (t1 : ByteArray) (t2 : Int) (t3 : List Tm) (c0 : Int) (c1 c2 : ByteArray) (c3 : List Tm) (c4 : List Cl) (les : List Lm) (chs : List Ch)
    (kd : Int) (fr by' : List Int) (dv k : Int) (ms : List (Int × Int)) (cs : List Cu) (ps : List Pf) : (Pf.mk r h n v b (.mk t0 t1 t2 t3) (.mk c0 c1 c2 c3 c4) les chs (.mk kd fr by' dv k ms cs) ps).cells =
    [.int .i64 r, .str h, .str n, .str v, .bool b, .int .i64 t0, .str t1, .int .i64 t2, .sl 4 (t3.map Tm.cells), .int .i64 c0, .str c1, .str c2, .sl 4 (c3.map Tm.cells), .sl 5 (c4.map Cl.cells), .sl 8 (les.map Lm.cells), .sl 2 (chs.map Ch.cells),
      .int .i64 kd, .sl 1 (intA fr), .sl 1 (intA by'), .int .i64 dv, .int .i64 k, .sl 2 (moA ms), .sl 7 (cs.map Cu.cells), .sl 24 (ps.map Pf.cells)] := by
  simp [Pf.cells_mk, Cl.cells_mk, Cu.cells_mk, Tm.cells, cellsL_map]
mutual
def Pf.ok : Pf → Prop
  | .mk r h n v b t c les chs cu ps => inI r ∧ h.size ≤ mxB ∧ n.size ≤ mxB ∧ v.size ≤ mxB ∧ t.ok ∧ c.ok ∧ ((∀ x ∈ les, Lm.ok x) ∧ les.length ≤ mxB) ∧ ((∀ x ∈ chs, Ch.ok x) ∧ chs.length ≤ mxB) ∧ cu.ok ∧ ps.length ≤ mxB ∧ okPf ps
def okPf : List Pf → Prop
  | [] => True
  | c :: l => c.ok ∧ okPf l
end
theorem okPf_iff : ∀ {l : List Pf}, okPf l ↔ ∀ t ∈ l, t.ok
  | [] => by simp [okPf]
  | t :: l => by simp [okPf, okPf_iff (l := l)]

theorem intA_len (l : List Int) : (intA l).length = l.length := by simp [intA]
theorem moA_len (l : List (Int × Int)) : (moA l).length = l.length := by simp [moA]
theorem intA_flat (l : List Int) : AV.flatLL (intA l) = true := by
  induction l with
  | nil => rfl
  | cons a l ih => simp only [intA, List.map_cons, AV.flatLL, AV.flatL, AV.flat, Bool.true_and, Bool.and_true]; exact ih
theorem moA_flat (l : List (Int × Int)) : AV.flatLL (moA l) = true := by
  induction l with
  | nil => rfl
  | cons a l ih => simp only [moA, List.map_cons, AV.flatLL, AV.flatL, AV.flat, Bool.true_and, Bool.and_true]; exact ih
mutual
theorem cuflat : ∀ t : Cu, AV.flatL t.cells = true
  | .mk kd fr by' dv k ms cs => by
    have := cuflat_list cs
    simp [Cu.cells_mk, AV.flatL, AV.flat, this, intA_flat, moA_flat]
theorem cuflat_list : ∀ l : List Cu, AV.flatLL (l.map Cu.cells) = true
  | [] => rfl
  | t :: l => by simp [AV.flatLL, cuflat t, cuflat_list l]
end
theorem chflat_list : ∀ l : List Ch, AV.flatLL (l.map Ch.cells) = true
  | [] => rfl
  | t :: l => by simp [AV.flatLL, Ch.cells, AV.flatL, AV.flat, intA_flat, chflat_list l]
theorem leflat_list : ∀ l : List Lm, AV.flatLL (l.map Lm.cells) = true
  | [] => rfl
  | t :: l => by simp [AV.flatLL, Lm.cells, AV.flatL, AV.flat, intA_flat, cuflat, leflat_list l]
theorem flatL_app : ∀ (a b : List AV), AV.flatL (a ++ b) = (AV.flatL a && AV.flatL b)
  | [], b => by simp [AV.flatL]
  | x :: a, b => by simp [AV.flatL, flatL_app a b, Bool.and_assoc]
theorem tmflat (t : Tm) : AV.flatL t.cells = true := by
  have := flat_list [t]
  simpa only [List.map_cons, List.map_nil, AV.flatLL, Bool.and_true] using this
mutual
theorem pflat : ∀ t : Pf, AV.flatL t.cells = true
  | .mk r h n v b t c les chs cu ps => by
    have := pflat_list ps
    simp [Pf.cells_mk, flatL_app, AV.flatL, AV.flat, this, tmflat, cflat_cells, leflat_list, chflat_list, cuflat]
theorem pflat_list : ∀ l : List Pf, AV.flatLL (l.map Pf.cells) = true
  | [] => rfl
  | t :: l => by simp [AV.flatLL, pflat t, pflat_list l]
end

theorem culen (t : Cu) : t.cells.length = 7 := by cases t; rfl
theorem plen (t : Pf) : t.cells.length = 24 := by cases t; simp [Pf.cells_mk, cells_length, ccells_length, culen]
theorem chlen (t : Ch) : (Ch.cells t).length = 2 := rfl
theorem lelen (t : Lm) : (Lm.cells t).length = 8 := by simp [Lm.cells, culen]
theorem cu_take (t : Cu) : List.take 7 t.cells = t.cells := by rw [← culen t]; simp
theorem p_take (t : Pf) : List.take 24 t.cells = t.cells := by rw [← plen t]; simp
theorem ch_take (t : Ch) : List.take 2 (Ch.cells t) = Ch.cells t := rfl
theorem le_take (t : Lm) : List.take 8 (Lm.cells t) = Lm.cells t := by rw [← lelen t]; simp
theorem canL_app : ∀ (a b : List AV), canL (a ++ b) = canL a ++ canL b
  | [], b => rfl
  | x :: a, b => by simp [canL, canL_app a b]
theorem cu_can (t : Cu) : canL t.cells = t.cells := by cases t; simp [Cu.cells_mk, canL, can1]
theorem tm_can (t : Tm) : canL t.cells = t.cells := by cases t; simp [Tm.cells, canL, can1]
theorem p_can (t : Pf) : canL t.cells = t.cells := by cases t; simp [Pf.cells_mk, canL_app, canL, can1, tm_can, ccanL_cells, cu_can]
theorem ch_can (t : Ch) : canL (Ch.cells t) = Ch.cells t := by simp [Ch.cells, canL, can1]
theorem le_can (t : Lm) : canL (Lm.cells t) = Lm.cells t := by simp [Lm.cells, canL, can1, cu_can]
theorem cu_one (t : Cu) : t.cells.all AV.one = true := by cases t; simp [Cu.cells_mk, AV.one]
theorem tm_one (t : Tm) : t.cells.all AV.one = true := by cases t; simp [Tm.cells, AV.one]
theorem p_one (t : Pf) : t.cells.all AV.one = true := by cases t; simp [Pf.cells_mk, AV.one, tm_one, call_one, cu_one, -List.all_eq_true]
theorem ch_one (t : Ch) : (Ch.cells t).all AV.one = true := by simp [Ch.cells, AV.one]
theorem le_one (t : Lm) : (Lm.cells t).all AV.one = true := by simp [Lm.cells, AV.one, cu_one, -List.all_eq_true]
/-- a list written over another one of the same length -/
theorem setMany_all : ∀ (xs pre cs : List AV), cs.length = xs.length → setMany (pre ++ cs) pre.length xs = pre ++ xs
  | [], pre, cs, h => by
    have : cs = [] := List.eq_nil_of_length_eq_zero h
    simp [setMany, this]
  | x :: xs, pre, c :: cs, h => by
    have e : (pre ++ c :: cs).set pre.length x = (pre ++ [x]) ++ cs := by simp
    rw [setMany, e]
    have := setMany_all xs (pre ++ [x]) cs (by simpa using h)
    simp only [List.length_append, List.length_cons, List.length_nil, Nat.zero_add] at this
    rw [this]; simp
theorem set_all (cs xs : List AV) (h : cs.length = xs.length) : setMany cs 0 xs = xs := by
  simpa using setMany_all xs [] cs h

section
variable {P : Program}

/-- how a program lays what proofs hold -/
structure CutT (P : Program) (tQ tQL tM tML tN tI tIL tJ tJL : TypeId) : Prop where
  st : ∃ flds, P.underlying tQ = some (.struct flds) ∧ flds.toList.map (fun f => (f.type, f.offset)) = [(tI, 0), (tIL, 1), (tJL, 2), (tJ, 3), (tN, 4), (tQL, 6)]
  stN : ∃ flds, P.underlying tN = some (.struct flds) ∧ flds.toList.map (fun f => (f.type, f.offset)) = [(tJ, 0), (tML, 1)]
  stM : ∃ flds, P.underlying tM = some (.struct flds) ∧ flds.toList.map (fun f => (f.type, f.offset)) = [(tI, 0), (tJ, 1)]
  slQ : P.underlying tQL = some (.slice tQ)
  slM : P.underlying tML = some (.slice tM)
  slI : P.underlying tIL = some (.slice tI)
  slJ : P.underlying tJL = some (.slice tJ)
  int : P.underlying tI = some (.int .i64)
  int2 : P.underlying tJ = some (.int .i64)
  c : P.cellsOf tQ = 7 ∧ P.cellsOf tQL = 1 ∧ P.cellsOf tM = 2 ∧ P.cellsOf tML = 1 ∧ P.cellsOf tN = 2 ∧ P.cellsOf tI = 1 ∧ P.cellsOf tIL = 1 ∧ P.cellsOf tJ = 1 ∧ P.cellsOf tJL = 1
  b : 0 < P.bytesOf tQ ∧ 0 < P.bytesOf tM ∧ 0 < P.bytesOf tI ∧ 0 < P.bytesOf tJ

def RIs (a : List AV) : Prop := ∃ l, inL l ∧ a = [.sl 1 (intA l)]
def RMs (a : List AV) : Prop := ∃ l, moL l ∧ a = [.sl 2 (moA l)]
def RCu (a : List AV) : Prop := ∃ t : Cu, t.ok ∧ a = t.cells
def RCh (a : List AV) : Prop := ∃ t : Ch, Ch.ok t ∧ a = Ch.cells t
def RLe (a : List AV) : Prop := ∃ t : Lm, Lm.ok t ∧ a = Lm.cells t
def RPf (a : List AV) : Prop := ∃ t : Pf, t.ok ∧ a = t.cells

theorem rd_ints {t e : TypeId} (hs : P.underlying t = some (.slice e)) (he : P.underlying e = some (.int .i64)) (hc : P.cellsOf e = 1) (hb : 0 < P.bytesOf e) (k : Nat) : RdW P k t 1 RIs :=
  (rdw_slice hs hc (by omega) hb fun n _ => (rd_int he).w).imp fun a ⟨es, h1, h2, h3⟩ => by
    obtain ⟨l, l1, rfl⟩ := list_choose (f := fun n => [AV.int .i64 n]) (ok := inI) es fun e he => by
      obtain ⟨n, rfl, a1, a2⟩ := (h2 e he).1
      exact ⟨n, ⟨a1, a2⟩, rfl⟩
    exact ⟨l, ⟨l1, by simpa using h3⟩, h1⟩

variable {tQ tQL tM tML tN tI tIL tJ tJL : TypeId}

theorem rd_mono (K : CutT P tQ tQL tM tML tN tI tIL tJ tJL) (k : Nat) : RdW P k tM 2 (fun a => ∃ m : Int × Int, (inI m.1 ∧ inI m.2) ∧ a = [.int .i64 m.1, .int .i64 m.2]) := by
  obtain ⟨flds, h1, h2⟩ := K.stM
  obtain ⟨c1, c2, c3, c4, c5, c6, c7, c8, c9⟩ := K.c
  have h := rdw_struct (P := P) (t := tM) (k := k) [(tI, 1, RInt), (tJ, 1, RInt)] h1 (by rw [h2]; rfl) (by simp [c6, c8]) (by rw [c3]; rfl) (fun n hn f hf => by
    simp only [List.mem_cons, List.not_mem_nil, or_false] at hf
    rcases hf with rfl | rfl
    · exact (rd_int K.int).w
    · exact (rd_int K.int2).w)
  refine h.imp fun a ha => ?_
  obtain ⟨_, _, rfl, ⟨n, rfl, n1, n2⟩, _, _, rfl, ⟨m, rfl, m1, m2⟩, rfl⟩ := ha
  exact ⟨(n, m), ⟨⟨n1, n2⟩, m1, m2⟩, rfl⟩

theorem rd_monos (K : CutT P tQ tQL tM tML tN tI tIL tJ tJL) (k : Nat) : RdW P k tML 1 RMs :=
  (rdw_slice K.slM K.c.2.2.1 (by omega) K.b.2.1 fun n _ => rd_mono K n).imp fun a ⟨es, h1, h2, h3⟩ => by
    obtain ⟨l, l1, rfl⟩ := list_choose (f := fun m : Int × Int => [AV.int .i64 m.1, AV.int .i64 m.2]) (ok := fun m => inI m.1 ∧ inI m.2) es fun e he => (h2 e he).1
    exact ⟨l, ⟨l1, by simpa using h3⟩, h1⟩

theorem rd_lin (K : CutT P tQ tQL tM tML tN tI tIL tJ tJL) (k : Nat) : RdW P k tN 2 (fun a => ∃ k ms, inI k ∧ moL ms ∧ a = [.int .i64 k, .sl 2 (moA ms)]) := by
  obtain ⟨flds, h1, h2⟩ := K.stN
  obtain ⟨c1, c2, c3, c4, c5, c6, c7, c8, c9⟩ := K.c
  have h := rdw_struct (P := P) (t := tN) (k := k) [(tJ, 1, RInt), (tML, 1, RMs)] h1 (by rw [h2]; rfl) (by simp [c4, c8]) (by rw [c5]; rfl) (fun n hn f hf => by
    simp only [List.mem_cons, List.not_mem_nil, or_false] at hf
    rcases hf with rfl | rfl
    · exact (rd_int K.int2).w
    · exact rd_monos K n)
  refine h.imp fun a ha => ?_
  obtain ⟨_, _, rfl, ⟨n, rfl, n1, n2⟩, _, _, rfl, ⟨m, m1, rfl⟩, rfl⟩ := ha
  exact ⟨n, m, ⟨n1, n2⟩, m1, rfl⟩

theorem rd_cut (K : CutT P tQ tQL tM tML tN tI tIL tJ tJL) : ∀ k : Nat, RdW P k tQ 7 RCu
  | k => by
    obtain ⟨flds, h1, h2⟩ := K.st
    obtain ⟨c1, c2, c3, c4, c5, c6, c7, c8, c9⟩ := K.c
    have h := rdw_struct (P := P) (t := tQ) (k := k) [(tI, 1, RInt), (tIL, 1, RIs), (tJL, 1, RIs), (tJ, 1, RInt), (tN, 2, (fun a => ∃ k ms, inI k ∧ moL ms ∧ a = [.int .i64 k, .sl 2 (moA ms)])), (tQL, 1, RSlB 7 RCu)] h1 (by rw [h2]; rfl)
      (by simp [c2, c5, c6, c7, c8, c9]) (by rw [c1]; rfl) (fun n hn f hf => by
        simp only [List.mem_cons, List.not_mem_nil, or_false] at hf
        rcases hf with rfl | rfl | rfl | rfl | rfl | rfl
        · exact (rd_int K.int).w
        · exact rd_ints K.slI K.int c6 K.b.2.2.1 n
        · exact rd_ints K.slJ K.int2 c8 K.b.2.2.2 n
        · exact (rd_int K.int2).w
        · exact rd_lin K n
        · exact rdw_slice K.slQ c1 (by omega) K.b.1 fun m hm => rd_cut K m)
    refine h.imp fun a ha => ?_
    obtain ⟨_, _, rfl, ⟨n, rfl, n1, n2⟩, _, _, rfl, ⟨fr, f1, rfl⟩, _, _, rfl, ⟨by', b1, rfl⟩, _, _, rfl, ⟨dv, rfl, d1, d2⟩, _, _, rfl, ⟨kk, ms, k1, m1, rfl⟩, _, _, rfl, ⟨es, rfl, e1, e2⟩, rfl⟩ := ha
    obtain ⟨cs, t1, rfl⟩ := list_choose es fun e he => (e1 e he).1
    refine ⟨.mk n fr by' dv kk ms cs, ?_, by simp [Cu.cells_mk]⟩
    simp only [Cu.ok]
    exact ⟨⟨n1, n2⟩, f1, b1, ⟨d1, d2⟩, k1, m1, by simpa using e2, okCu_iff.2 t1⟩
  termination_by k => k
  decreasing_by omega

/-- how a program lays a proof -/
structure ProofT (P : Program) (tP tPL tE tLe tLL tCh tCL2 tQ tQL tM tML tN tIL tJL tC tCL tT tL tI tJ tS tB : TypeId) : Prop where
  claim : ClaimT P tC tCL tT tL tI tJ tS
  cut : CutT P tQ tQL tM tML tN tI tIL tJ tJL
  st : ∃ flds, P.underlying tP = some (.struct flds) ∧ flds.toList.map (fun f => (f.type, f.offset)) = [(tI, 0), (tS, 1), (tS, 2), (tS, 3), (tB, 4), (tT, 5), (tC, 9), (tE, 14), (tPL, 23)]
  stE : ∃ flds, P.underlying tE = some (.struct flds) ∧ flds.toList.map (fun f => (f.type, f.offset)) = [(tLL, 0), (tCL2, 1), (tQ, 2)]
  stLe : ∃ flds, P.underlying tLe = some (.struct flds) ∧ flds.toList.map (fun f => (f.type, f.offset)) = [(tIL, 0), (tQ, 1)]
  stCh : ∃ flds, P.underlying tCh = some (.struct flds) ∧ flds.toList.map (fun f => (f.type, f.offset)) = [(tIL, 0), (tIL, 1)]
  slP : P.underlying tPL = some (.slice tP)
  slLe : P.underlying tLL = some (.slice tLe)
  slCh : P.underlying tCL2 = some (.slice tCh)
  bool : P.underlying tB = some .bool
  c : P.cellsOf tP = 24 ∧ P.cellsOf tPL = 1 ∧ P.cellsOf tE = 9 ∧ P.cellsOf tLe = 8 ∧ P.cellsOf tLL = 1 ∧ P.cellsOf tCh = 2 ∧ P.cellsOf tCL2 = 1 ∧ P.cellsOf tB = 1
  b : 0 < P.bytesOf tP ∧ 0 < P.bytesOf tLe ∧ 0 < P.bytesOf tCh

variable {tP tPL tE tLe tLL tCh tCL2 tC tCL tT tL tS tB : TypeId}

theorem rd_lemma (K : ProofT P tP tPL tE tLe tLL tCh tCL2 tQ tQL tM tML tN tIL tJL tC tCL tT tL tI tJ tS tB) (k : Nat) : RdW P k tLe 8 RLe := by
  obtain ⟨flds, h1, h2⟩ := K.stLe
  obtain ⟨c1, c2, c3, c4, c5, c6, c7, c8, c9⟩ := K.cut.c
  have h := rdw_struct (P := P) (t := tLe) (k := k) [(tIL, 1, RIs), (tQ, 7, RCu)] h1 (by rw [h2]; rfl) (by simp [c1, c7]) (by rw [K.c.2.2.2.1]; rfl) (fun n hn f hf => by
    simp only [List.mem_cons, List.not_mem_nil, or_false] at hf
    rcases hf with rfl | rfl
    · exact rd_ints K.cut.slI K.cut.int c6 K.cut.b.2.2.1 n
    · exact rd_cut K.cut n)
  refine h.imp fun a ha => ?_
  obtain ⟨_, _, rfl, ⟨fr, f1, rfl⟩, _, _, rfl, ⟨cu, q1, rfl⟩, rfl⟩ := ha
  exact ⟨(fr, cu), ⟨f1, q1⟩, by simp [Lm.cells]⟩

theorem rd_chain (K : ProofT P tP tPL tE tLe tLL tCh tCL2 tQ tQL tM tML tN tIL tJL tC tCL tT tL tI tJ tS tB) (k : Nat) : RdW P k tCh 2 RCh := by
  obtain ⟨flds, h1, h2⟩ := K.stCh
  obtain ⟨c1, c2, c3, c4, c5, c6, c7, c8, c9⟩ := K.cut.c
  have h := rdw_struct (P := P) (t := tCh) (k := k) [(tIL, 1, RIs), (tIL, 1, RIs)] h1 (by rw [h2]; rfl) (by simp [c7]) (by rw [K.c.2.2.2.2.2.1]; rfl) (fun n hn f hf => by
    simp only [List.mem_cons, List.not_mem_nil, or_false, or_self] at hf
    subst hf
    exact rd_ints K.cut.slI K.cut.int c6 K.cut.b.2.2.1 n)
  refine h.imp fun a ha => ?_
  obtain ⟨_, _, rfl, ⟨fr, f1, rfl⟩, _, _, rfl, ⟨cu, q1, rfl⟩, rfl⟩ := ha
  exact ⟨(fr, cu), ⟨f1, q1⟩, by simp [Ch.cells]⟩

theorem rd_cert (K : ProofT P tP tPL tE tLe tLL tCh tCL2 tQ tQL tM tML tN tIL tJL tC tCL tT tL tI tJ tS tB) (k : Nat) : RdW P k tE 9 (fun a => ∃ (les : List Lm) (chs : List Ch) (cu : Cu), ((∀ x ∈ les, Lm.ok x) ∧ les.length ≤ mxB) ∧ ((∀ x ∈ chs, Ch.ok x) ∧ chs.length ≤ mxB) ∧ cu.ok ∧
    a = [.sl 8 (les.map Lm.cells), .sl 2 (chs.map Ch.cells)] ++ cu.cells) := by
  obtain ⟨flds, h1, h2⟩ := K.stE
  obtain ⟨d1, d2, d3, d4, d5, d6, d7, d8⟩ := K.c
  have h := rdw_struct (P := P) (t := tE) (k := k) [(tLL, 1, RSlB 8 RLe), (tCL2, 1, RSlB 2 RCh), (tQ, 7, RCu)] h1 (by rw [h2]; rfl) (by simp [d5, d7, K.cut.c.1]) (by rw [d3]; rfl) (fun n hn f hf => by
    simp only [List.mem_cons, List.not_mem_nil, or_false] at hf
    rcases hf with rfl | rfl | rfl
    · exact rdw_slice K.slLe d4 (by omega) K.b.2.1 fun m _ => rd_lemma K m
    · exact rdw_slice K.slCh d6 (by omega) K.b.2.2 fun m _ => rd_chain K m
    · exact rd_cut K.cut n)
  refine h.imp fun a ha => ?_
  obtain ⟨_, _, rfl, ⟨es, rfl, e1, e2⟩, _, _, rfl, ⟨es', rfl, e3, e4⟩, _, _, rfl, ⟨cu, q1, rfl⟩, rfl⟩ := ha
  obtain ⟨les, t1, rfl⟩ := list_choose es fun e he => (e1 e he).1
  obtain ⟨chs, t2, rfl⟩ := list_choose es' fun e he => (e3 e he).1
  exact ⟨les, chs, cu, ⟨t1, by simpa using e2⟩, ⟨t2, by simpa using e4⟩, q1, by simp⟩

theorem rd_proof (K : ProofT P tP tPL tE tLe tLL tCh tCL2 tQ tQL tM tML tN tIL tJL tC tCL tT tL tI tJ tS tB) : ∀ k : Nat, RdW P k tP 24 RPf
  | k => by
    obtain ⟨flds, h1, h2⟩ := K.st
    obtain ⟨d1, d2, d3, d4, d5, d6, d7, d8⟩ := K.c
    have h := rdw_struct (P := P) (t := tP) (k := k) [(tI, 1, RInt), (tS, 1, RStrB), (tS, 1, RStrB), (tS, 1, RStrB), (tB, 1, RBool), (tT, 4, RTm), (tC, 5, RCl), (tE, 9, (fun a => ∃ (les : List Lm) (chs : List Ch) (cu : Cu), ((∀ x ∈ les, Lm.ok x) ∧ les.length ≤ mxB) ∧ ((∀ x ∈ chs, Ch.ok x) ∧ chs.length ≤ mxB) ∧ cu.ok ∧
      a = [.sl 8 (les.map Lm.cells), .sl 2 (chs.map Ch.cells)] ++ cu.cells)), (tPL, 1, RSlB 24 RPf)] h1 (by rw [h2]; rfl)
      (by simp [d2, d3, d8, K.claim.term.cI, K.claim.term.cS, K.claim.term.cT, K.claim.cC]) (by rw [d1]; rfl) (fun n hn f hf => by
        simp only [List.mem_cons, List.not_mem_nil, or_false] at hf
        rcases hf with rfl | rfl | rfl | rfl | rfl | rfl | rfl | rfl | rfl
        · exact (rd_int K.cut.int).w
        · exact rdw_str K.claim.term.str
        · exact rdw_str K.claim.term.str
        · exact rdw_str K.claim.term.str
        · exact (rd_bool K.bool).w
        · exact (rd_term K.claim.term n).w
        · exact (rd_claim K.claim n).w
        · exact rd_cert K n
        · exact rdw_slice K.slP d1 (by omega) K.b.1 fun m hm => rd_proof K m)
    refine h.imp fun a ha => ?_
    obtain ⟨_, _, rfl, ⟨r, rfl, r1, r2⟩, _, _, rfl, ⟨s0, rfl, a0⟩, _, _, rfl, ⟨s1, rfl, a1⟩, _, _, rfl, ⟨s2, rfl, a2⟩, _, _, rfl, ⟨bb, rfl⟩, _, _, rfl, ⟨t, t1, rfl⟩, _, _, rfl, ⟨c, c1, rfl⟩, _, _, rfl, ⟨les, chs, cu, q1, q2, q3, rfl⟩, _, _, rfl, ⟨es, rfl, e1, e2⟩, rfl⟩ := ha
    obtain ⟨ps, p1, rfl⟩ := list_choose es fun e he => (e1 e he).1
    refine ⟨.mk r s0 s1 s2 bb t c les chs cu ps, ?_, by simp [Pf.cells_mk]⟩
    simp only [Pf.ok]
    exact ⟨⟨r1, r2⟩, a0, a1, a2, t1, c1, q1, q2, q3, by simpa using e2, okPf_iff.2 p1⟩
  termination_by k => k
  decreasing_by omega

def APf (a : AV) : Prop := ∃ p : Pf, p.ok ∧ a = p.av
def AInts (a : AV) : Prop := ∃ l : List Int, inL l ∧ a = .sl 1 (intA l)
theorem arg_proof (K : ProofT P tP tPL tE tLe tLL tCh tCL2 tQ tQL tM tML tN tIL tJL tC tCL tT tL tI tJ tS tB) : ArgRdW P tP APf := by
  obtain ⟨_, h, _⟩ := K.st
  exact (argw_struct h (rd_proof K)).imp fun a ⟨_, h1, t, h2, h3⟩ => ⟨t, h2, by rw [h1, h3]; rfl⟩
theorem arg_ints {t e : TypeId} (hs : P.underlying t = some (.slice e)) (he : P.underlying e = some (.int .i64)) (hc : P.cellsOf e = 1) (hb : 0 < P.bytesOf e) : ArgRdW P t AInts :=
  (argw_one hs rfl (rd_ints hs he hc hb)).imp fun a ⟨l, h1, h2⟩ => ⟨l, h1, by simpa using h2⟩
end

end Go.Proofs.YtkecobdhgabknaaDoor.A
