/- Cuts as plain data. -/
import Derived.Test.YtgabnhmjlhhojaaXR
import Derived.Test.YtgabnhmjlhhojaaWp
import Derived.Test.YtgabnhmjlhhojaaWr
import Derived.Test.YtgabnhmjlhhojaaCode
namespace Go.Proofs.Ytgabnhmjlhhojaa.A
open Go Go.ChangeShapes Go.WideShapes Go.RowKit
set_option linter.unusedSimpArgs false
set_option linter.unusedVariables false

def inI (n : Int) : Prop := -9223372036854775808 ≤ n ∧ n ≤ 9223372036854775807
def intA (l : List Int) : List (List AV) := l.map fun n => [.int .i64 n]
def moA (l : List (Int × Int)) : List (List AV) := l.map fun m => [.int .i64 m.1, .int .i64 m.2]
def inL (l : List Int) : Prop := (∀ n ∈ l, inI n) ∧ l.length ≤ mxB
def moL (l : List (Int × Int)) : Prop := (∀ m ∈ l, inI m.1 ∧ inI m.2) ∧ l.length ≤ mxB

inductive Cu where
  | mk (kind : Int) (fr by' : List Int) (div k : Int) (ms : List (Int × Int)) (subs : List Cu)
instance : Inhabited Cu := ⟨.mk 0 [] [] 0 0 [] []⟩

mutual
def Cu.cells : Cu → List AV
  | .mk kd fr by' dv k ms cs => [.int .i64 kd, .sl 1 (intA fr), .sl 1 (intA by'), .int .i64 dv, .int .i64 k, .sl 2 (moA ms), .sl 7 (cellsCu cs)]
def cellsCu : List Cu → List (List AV)
  | [] => []
  | c :: l => c.cells :: cellsCu l
end
def Cu.av (c : Cu) : AV := .agg c.cells
theorem cellsCu_map : ∀ l : List Cu, cellsCu l = l.map Cu.cells
  | [] => rfl
  | t :: l => by simp [cellsCu, cellsCu_map l]
theorem Cu.cells_mk (kd : Int) (fr by' : List Int) (dv k : Int) (ms : List (Int × Int)) (cs : List Cu) : (Cu.mk kd fr by' dv k ms cs).cells =
    [.int .i64 kd, .sl 1 (intA fr), .sl 1 (intA by'), .int .i64 dv, .int .i64 k, .sl 2 (moA ms), .sl 7 (cs.map Cu.cells)] := by
  simp [Cu.cells, cellsCu_map]
mutual
def Cu.ok : Cu → Prop
  | .mk kd fr by' dv k ms cs => inI kd ∧ inL fr ∧ inL by' ∧ inI dv ∧ inI k ∧ moL ms ∧ cs.length ≤ mxB ∧ okCu cs
def okCu : List Cu → Prop
  | [] => True
  | c :: l => c.ok ∧ okCu l
end
theorem okCu_iff : ∀ {l : List Cu}, okCu l ↔ ∀ t ∈ l, t.ok
  | [] => by simp [okCu]
  | t :: l => by simp [okCu, okCu_iff (l := l)]

theorem intA_len (l : List Int) : (intA l).length = l.length := by simp [intA]
theorem moA_len (l : List (Int × Int)) : (moA l).length = l.length := by simp [moA]
theorem intA_flat (l : List Int) : AV.flatLL (intA l) = true := by
  induction l with
  | nil => rfl
  | cons a l ih => simp only [intA, List.map_cons, AV.flatLL, AV.flatL, AV.flat, Bool.true_and, Bool.and_true]; exact ih
theorem moA_flat (l : List (Int × Int)) : AV.flatLL (moA l) = true := by
  induction l with
  | nil => rfl
  | cons a l ih => simp only [moA, List.map_cons, AV.flatLL, AV.flatL, AV.flat, Bool.true_and, Bool.and_true]; exact ih
mutual
theorem cuflat : ∀ t : Cu, AV.flatL t.cells = true
  | .mk kd fr by' dv k ms cs => by
    have := cuflat_list cs
    simp [Cu.cells_mk, AV.flatL, AV.flat, this, intA_flat, moA_flat]
theorem cuflat_list : ∀ l : List Cu, AV.flatLL (l.map Cu.cells) = true
  | [] => rfl
  | t :: l => by simp [AV.flatLL, cuflat t, cuflat_list l]
end
theorem flatL_app : ∀ (a b : List AV), AV.flatL (a ++ b) = (AV.flatL a && AV.flatL b)
  | [], b => by simp [AV.flatL]
  | x :: a, b => by simp [AV.flatL, flatL_app a b, Bool.and_assoc]
theorem culen (t : Cu) : t.cells.length = 7 := by cases t; rfl
theorem cu_take (t : Cu) : List.take 7 t.cells = t.cells := by rw [← culen t]; simp
theorem canL_app : ∀ (a b : List AV), canL (a ++ b) = canL a ++ canL b
  | [], b => rfl
  | x :: a, b => by simp [canL, canL_app a b]
theorem cu_can (t : Cu) : canL t.cells = t.cells := by cases t; simp [Cu.cells_mk, canL, can1]
theorem cu_one (t : Cu) : t.cells.all AV.one = true := by cases t; simp [Cu.cells_mk, AV.one]
/-- a list written over another one of the same length -/
theorem setMany_all : ∀ (xs pre cs : List AV), cs.length = xs.length → setMany (pre ++ cs) pre.length xs = pre ++ xs
  | [], pre, cs, h => by
    have : cs = [] := List.eq_nil_of_length_eq_zero h
    simp [setMany, this]
  | x :: xs, pre, c :: cs, h => by
    have e : (pre ++ c :: cs).set pre.length x = (pre ++ [x]) ++ cs := by simp
    rw [setMany, e]
    have := setMany_all xs (pre ++ [x]) cs (by simpa using h)
    simp only [List.length_append, List.length_cons, List.length_nil, Nat.zero_add] at this
    rw [this]; simp
theorem set_all (cs xs : List AV) (h : cs.length = xs.length) : setMany cs 0 xs = xs := by
  simpa using setMany_all xs [] cs h

section
variable {P : Program}

/-- how a program lays what proofs hold -/
structure CutT (P : Program) (tQ tQL tM tML tN tI tIL tJ tJL : TypeId) : Prop where
  st : ∃ flds, P.underlying tQ = some (.struct flds) ∧ flds.toList.map (fun f => (f.type, f.offset)) = [(tI, 0), (tIL, 1), (tJL, 2), (tJ, 3), (tN, 4), (tQL, 6)]
  stN : ∃ flds, P.underlying tN = some (.struct flds) ∧ flds.toList.map (fun f => (f.type, f.offset)) = [(tJ, 0), (tML, 1)]
  stM : ∃ flds, P.underlying tM = some (.struct flds) ∧ flds.toList.map (fun f => (f.type, f.offset)) = [(tI, 0), (tJ, 1)]
  slQ : P.underlying tQL = some (.slice tQ)
  slM : P.underlying tML = some (.slice tM)
  slI : P.underlying tIL = some (.slice tI)
  slJ : P.underlying tJL = some (.slice tJ)
  int : P.underlying tI = some (.int .i64)
  int2 : P.underlying tJ = some (.int .i64)
  c : P.cellsOf tQ = 7 ∧ P.cellsOf tQL = 1 ∧ P.cellsOf tM = 2 ∧ P.cellsOf tML = 1 ∧ P.cellsOf tN = 2 ∧ P.cellsOf tI = 1 ∧ P.cellsOf tIL = 1 ∧ P.cellsOf tJ = 1 ∧ P.cellsOf tJL = 1
  b : 0 < P.bytesOf tQ ∧ 0 < P.bytesOf tM ∧ 0 < P.bytesOf tI ∧ 0 < P.bytesOf tJ

def RIs (a : List AV) : Prop := ∃ l, inL l ∧ a = [.sl 1 (intA l)]
def RMs (a : List AV) : Prop := ∃ l, moL l ∧ a = [.sl 2 (moA l)]
def RCu (a : List AV) : Prop := ∃ t : Cu, t.ok ∧ a = t.cells
theorem rd_ints {t e : TypeId} (hs : P.underlying t = some (.slice e)) (he : P.underlying e = some (.int .i64)) (hc : P.cellsOf e = 1) (hb : 0 < P.bytesOf e) (k : Nat) : RdW P k t 1 RIs :=
  (rdw_slice hs hc (by omega) hb fun n _ => (rd_int he).w).imp fun a ⟨es, h1, h2, h3⟩ => by
    obtain ⟨l, l1, rfl⟩ := list_choose (f := fun n => [AV.int .i64 n]) (ok := inI) es fun e he => by
      obtain ⟨n, rfl, a1, a2⟩ := (h2 e he).1
      exact ⟨n, ⟨a1, a2⟩, rfl⟩
    exact ⟨l, ⟨l1, by simpa using h3⟩, h1⟩

variable {tQ tQL tM tML tN tI tIL tJ tJL : TypeId}

theorem rd_mono (K : CutT P tQ tQL tM tML tN tI tIL tJ tJL) (k : Nat) : RdW P k tM 2 (fun a => ∃ m : Int × Int, (inI m.1 ∧ inI m.2) ∧ a = [.int .i64 m.1, .int .i64 m.2]) := by
  obtain ⟨flds, h1, h2⟩ := K.stM
  obtain ⟨c1, c2, c3, c4, c5, c6, c7, c8, c9⟩ := K.c
  have h := rdw_struct (P := P) (t := tM) (k := k) [(tI, 1, RInt), (tJ, 1, RInt)] h1 (by rw [h2]; rfl) (by simp [c6, c8]) (by rw [c3]; rfl) (fun n hn f hf => by
    simp only [List.mem_cons, List.not_mem_nil, or_false] at hf
    rcases hf with rfl | rfl
    · exact (rd_int K.int).w
    · exact (rd_int K.int2).w)
  refine h.imp fun a ha => ?_
  obtain ⟨_, _, rfl, ⟨n, rfl, n1, n2⟩, _, _, rfl, ⟨m, rfl, m1, m2⟩, rfl⟩ := ha
  exact ⟨(n, m), ⟨⟨n1, n2⟩, m1, m2⟩, rfl⟩

theorem rd_monos (K : CutT P tQ tQL tM tML tN tI tIL tJ tJL) (k : Nat) : RdW P k tML 1 RMs :=
  (rdw_slice K.slM K.c.2.2.1 (by omega) K.b.2.1 fun n _ => rd_mono K n).imp fun a ⟨es, h1, h2, h3⟩ => by
    obtain ⟨l, l1, rfl⟩ := list_choose (f := fun m : Int × Int => [AV.int .i64 m.1, AV.int .i64 m.2]) (ok := fun m => inI m.1 ∧ inI m.2) es fun e he => (h2 e he).1
    exact ⟨l, ⟨l1, by simpa using h3⟩, h1⟩

theorem rd_lin (K : CutT P tQ tQL tM tML tN tI tIL tJ tJL) (k : Nat) : RdW P k tN 2 (fun a => ∃ k ms, inI k ∧ moL ms ∧ a = [.int .i64 k, .sl 2 (moA ms)]) := by
  obtain ⟨flds, h1, h2⟩ := K.stN
  obtain ⟨c1, c2, c3, c4, c5, c6, c7, c8, c9⟩ := K.c
  have h := rdw_struct (P := P) (t := tN) (k := k) [(tJ, 1, RInt), (tML, 1, RMs)] h1 (by rw [h2]; rfl) (by simp [c4, c8]) (by rw [c5]; rfl) (fun n hn f hf => by
    simp only [List.mem_cons, List.not_mem_nil, or_false] at hf
    rcases hf with rfl | rfl
    · exact (rd_int K.int2).w
    · exact rd_monos K n)
  refine h.imp fun a ha => ?_
  obtain ⟨_, _, rfl, ⟨n, rfl, n1, n2⟩, _, _, rfl, ⟨m, m1, rfl⟩, rfl⟩ := ha
  exact ⟨n, m, ⟨n1, n2⟩, m1, rfl⟩

theorem rd_cut (K : CutT P tQ tQL tM tML tN tI tIL tJ tJL) : ∀ k : Nat, RdW P k tQ 7 RCu
  | k => by
    obtain ⟨flds, h1, h2⟩ := K.st
    obtain ⟨c1, c2, c3, c4, c5, c6, c7, c8, c9⟩ := K.c
    have h := rdw_struct (P := P) (t := tQ) (k := k) [(tI, 1, RInt), (tIL, 1, RIs), (tJL, 1, RIs), (tJ, 1, RInt), (tN, 2, (fun a => ∃ k ms, inI k ∧ moL ms ∧ a = [.int .i64 k, .sl 2 (moA ms)])), (tQL, 1, RSlB 7 RCu)] h1 (by rw [h2]; rfl)
      (by simp [c2, c5, c6, c7, c8, c9]) (by rw [c1]; rfl) (fun n hn f hf => by
        simp only [List.mem_cons, List.not_mem_nil, or_false] at hf
        rcases hf with rfl | rfl | rfl | rfl | rfl | rfl
        · exact (rd_int K.int).w
        · exact rd_ints K.slI K.int c6 K.b.2.2.1 n
        · exact rd_ints K.slJ K.int2 c8 K.b.2.2.2 n
        · exact (rd_int K.int2).w
        · exact rd_lin K n
        · exact rdw_slice K.slQ c1 (by omega) K.b.1 fun m hm => rd_cut K m)
    refine h.imp fun a ha => ?_
    obtain ⟨_, _, rfl, ⟨n, rfl, n1, n2⟩, _, _, rfl, ⟨fr, f1, rfl⟩, _, _, rfl, ⟨by', b1, rfl⟩, _, _, rfl, ⟨dv, rfl, d1, d2⟩, _, _, rfl, ⟨kk, ms, k1, m1, rfl⟩, _, _, rfl, ⟨es, rfl, e1, e2⟩, rfl⟩ := ha
    obtain ⟨cs, t1, rfl⟩ := list_choose es fun e he => (e1 e he).1
    refine ⟨.mk n fr by' dv kk ms cs, ?_, by simp [Cu.cells_mk]⟩
    simp only [Cu.ok]
    exact ⟨⟨n1, n2⟩, f1, b1, ⟨d1, d2⟩, k1, m1, by simpa using e2, okCu_iff.2 t1⟩
  termination_by k => k
  decreasing_by omega

def AInts (a : AV) : Prop := ∃ l : List Int, inL l ∧ a = .sl 1 (intA l)
theorem arg_ints {t e : TypeId} (hs : P.underlying t = some (.slice e)) (he : P.underlying e = some (.int .i64)) (hc : P.cellsOf e = 1) (hb : 0 < P.bytesOf e) : ArgRdW P t AInts :=
  (argw_one hs rfl (rd_ints hs he hc hb)).imp fun a ⟨l, h1, h2⟩ => ⟨l, h1, by simpa using h2⟩
end

end Go.Proofs.Ytgabnhmjlhhojaa.A
