/- Claims as plain data. -/
import Derived.Test.YtcoonnbkmklenaaDoorRd
namespace Go.Proofs.YtcoonnbkmklenaaDoor.A
open Go Go.ChangeShapes Go.WideShapes Go.RowKit

inductive Cl where
  | mk (op : Int) (name sort : ByteArray) (terms : List Tm) (subs : List Cl)

instance : Inhabited Cl := ⟨.mk 0 .empty .empty [] []⟩

mutual
def Cl.cells : Cl → List AV
  | .mk op nm so ts cs => [.int .i64 op, .str nm, .str so, .sl 4 (ts.map Tm.cells), .sl 5 (cellsC cs)]
def cellsC : List Cl → List (List AV)
  | [] => []
  | c :: l => c.cells :: cellsC l
end
def Cl.av (c : Cl) : AV := .agg c.cells

theorem cellsC_map : ∀ l : List Cl, cellsC l = l.map Cl.cells
  | [] => rfl
  | t :: l => by simp [cellsC, cellsC_map l]
theorem Cl.cells_mk (op : Int) (nm so : ByteArray) (ts : List Tm) (cs : List Cl) : (Cl.mk op nm so ts cs).cells = [.int .i64 op, .str nm, .str so, .sl 4 (ts.map Tm.cells), .sl 5 (cs.map Cl.cells)] := by
  simp [Cl.cells, cellsC_map]

mutual
def Cl.ok : Cl → Prop
  | .mk op nm so ts cs => (-9223372036854775808 ≤ op ∧ op ≤ 9223372036854775807) ∧ nm.size ≤ maxLen ∧ so.size ≤ maxLen ∧ ts.length ≤ maxLen ∧ okL ts ∧ cs.length ≤ maxLen ∧ okC cs
def okC : List Cl → Prop
  | [] => True
  | c :: l => c.ok ∧ okC l
end
theorem okC_iff : ∀ {l : List Cl}, okC l ↔ ∀ t ∈ l, t.ok
  | [] => by simp [okC]
  | t :: l => by simp [okC, okC_iff (l := l)]

theorem ccells_length (t : Cl) : t.cells.length = 5 := by cases t; rfl
theorem ctake_cells (t : Cl) : List.take 5 t.cells = t.cells := by cases t; simp [Cl.cells_mk]
theorem ccanL_cells (t : Cl) : canL t.cells = t.cells := by cases t; simp [Cl.cells_mk, canL, can1]
theorem call_one (t : Cl) : t.cells.all AV.one = true := by cases t; simp [Cl.cells_mk, AV.one]
theorem cset_cells (t : Cl) (a b c d e : AV) : setMany [a, b, c, d, e] 0 t.cells = t.cells := by cases t; simp [Cl.cells_mk, setMany]

theorem list_choose {α : Type} {f : α → List AV} {ok : α → Prop} : ∀ (es : List (List AV)), (∀ e ∈ es, ∃ t : α, ok t ∧ e = f t) → ∃ ts : List α, (∀ t ∈ ts, ok t) ∧ es = ts.map f
  | [], _ => ⟨[], by simp, rfl⟩
  | e :: es, h => by
    obtain ⟨t, h1, rfl⟩ := h e (List.mem_cons_self ..)
    obtain ⟨ts, h2, rfl⟩ := list_choose es fun e he => h e (List.mem_cons_of_mem _ he)
    exact ⟨t :: ts, fun u hu => by rcases List.mem_cons.1 hu with rfl | hu; exact h1; exact h2 u hu, rfl⟩

def RTm (a : List AV) : Prop := ∃ t : Tm, t.ok ∧ a = t.cells
def RCl (a : List AV) : Prop := ∃ c : Cl, c.ok ∧ a = c.cells

section
variable {P : Program}

theorem rd_term {tT tL tI tJ tS : TypeId} (K : TermT P tT tL tI tJ tS) (k : Nat) : RdAt P k tT 4 RTm := fun H enc W cs x hx => by
  obtain ⟨t, h1, h2, h3, h4⟩ := read_term K k cs x hx
  exact ⟨t.cells, ⟨t, h2, rfl⟩, h1, h3, h4⟩

theorem rd_terms {tT tL tI tJ tS : TypeId} (K : TermT P tT tL tI tJ tS) (k : Nat) : RdAt P k tL 1 (RSl 4 RTm) := rd_slice K.sl K.cT (by omega) fun n _ => rd_term K n

/-- how a program lays a claim -/
structure ClaimT (P : Program) (tC tCL tT tL tI tJ tS : TypeId) : Prop where
  term : TermT P tT tL tI tJ tS
  st : ∃ flds, P.underlying tC = some (.struct flds) ∧ flds.toList.map (fun f => (f.type, f.offset)) = [(tI, 0), (tS, 1), (tS, 2), (tL, 3), (tCL, 4)]
  sl : P.underlying tCL = some (.slice tC)
  cC : P.cellsOf tC = 5
  cL : P.cellsOf tCL = 1

theorem rd_claim {tC tCL tT tL tI tJ tS : TypeId} (K : ClaimT P tC tCL tT tL tI tJ tS) : ∀ k : Nat, RdAt P k tC 5 RCl
  | k => by
    obtain ⟨flds, h1, h2⟩ := K.st
    have h := rd_struct (P := P) (t := tC) (k := k) [(tI, 1, RInt), (tS, 1, RStr), (tS, 1, RStr), (tL, 1, RSl 4 RTm), (tCL, 1, RSl 5 RCl)] h1 (by rw [h2]; rfl)
      (by simp [K.cC, K.cL, K.term.cI, K.term.cS, K.term.cL]) (by rw [K.cC]; rfl) (fun n hn f hf => by
        simp only [List.mem_cons, List.not_mem_nil, or_false] at hf
        rcases hf with rfl | rfl | rfl | rfl | rfl
        · exact rd_int K.term.int
        · exact rd_str K.term.str
        · exact rd_str K.term.str
        · exact rd_terms K.term n
        · exact rd_slice K.sl K.cC (by omega) fun m hm => rd_claim K m)
    refine h.imp fun a ha => ?_
    obtain ⟨_, _, rfl, ⟨n, rfl, n1, n2⟩, _, _, rfl, ⟨s, rfl, s1⟩, _, _, rfl, ⟨u, rfl, u1⟩, _, _, rfl, ⟨es, rfl, e1, e2⟩, _, _, rfl, ⟨es', rfl, e3, e4⟩, rfl⟩ := ha
    obtain ⟨ts, t1, rfl⟩ := list_choose es fun e he => (e1 e he).1
    obtain ⟨cs, c1, rfl⟩ := list_choose es' fun e he => (e3 e he).1
    refine ⟨.mk n s u ts cs, ?_, by simp [Cl.cells_mk]⟩
    simp only [Cl.ok]
    exact ⟨⟨n1, n2⟩, s1, u1, by simpa using e2, okL_iff.2 t1, by simpa using e4, okC_iff.2 c1⟩
  termination_by k => k
  decreasing_by omega

theorem rd_claims {tC tCL tT tL tI tJ tS : TypeId} (K : ClaimT P tC tCL tT tL tI tJ tS) (k : Nat) : RdAt P k tCL 1 (RSl 5 RCl) := rd_slice K.sl K.cC (by omega) fun n _ => rd_claim K n

def ATm (a : AV) : Prop := ∃ t : Tm, t.ok ∧ a = t.av
def ACl (a : AV) : Prop := ∃ c : Cl, c.ok ∧ a = c.av
def AInt (a : AV) : Prop := ∃ n, a = .int .i64 n ∧ -9223372036854775808 ≤ n ∧ n ≤ 9223372036854775807
def AStr (a : AV) : Prop := ∃ s, a = .str s ∧ s.size ≤ maxLen
def ATms (a : AV) : Prop := ∃ l : List Tm, (∀ t ∈ l, t.ok) ∧ l.length ≤ maxLen ∧ a = .sl 4 (l.map Tm.cells)
def ACls (a : AV) : Prop := ∃ l : List Cl, (∀ t ∈ l, t.ok) ∧ l.length ≤ maxLen ∧ a = .sl 5 (l.map Cl.cells)

theorem ArgRd.imp {t : TypeId} {A B : AV → Prop} (h : ArgRd P t A) (hi : ∀ a, A a → B a) : ArgRd P t B := fun H enc W base v d ps h1 h2 => by
  obtain ⟨a, ha, hr⟩ := h H enc W base v d ps h1 h2
  exact ⟨a, hi a ha, hr⟩

theorem arg_term {tT tL tI tJ tS : TypeId} (K : TermT P tT tL tI tJ tS) : ArgRd P tT ATm := by
  obtain ⟨_, _, _, _, h, _⟩ := K.st
  exact (arg_struct h (rd_term K)).imp fun a ⟨_, h1, t, h2, h3⟩ => ⟨t, h2, by rw [h1, h3]; rfl⟩
theorem arg_claim {tC tCL tT tL tI tJ tS : TypeId} (K : ClaimT P tC tCL tT tL tI tJ tS) : ArgRd P tC ACl := by
  obtain ⟨_, h, _⟩ := K.st
  exact (arg_struct h (rd_claim K)).imp fun a ⟨_, h1, t, h2, h3⟩ => ⟨t, h2, by rw [h1, h3]; rfl⟩
theorem arg_int {t : TypeId} (ht : P.underlying t = some (.int .i64)) : ArgRd P t AInt :=
  (arg_one ht rfl fun _ => rd_int ht).imp fun a ⟨n, h1, h2⟩ => ⟨n, by simpa using h1, h2⟩
theorem arg_str {t : TypeId} (ht : P.underlying t = some .string) : ArgRd P t AStr :=
  (arg_one ht rfl fun _ => rd_str ht).imp fun a ⟨n, h1, h2⟩ => ⟨n, by simpa using h1, h2⟩
theorem arg_terms {tT tL tI tJ tS : TypeId} (K : TermT P tT tL tI tJ tS) : ArgRd P tL ATms :=
  (arg_one K.sl rfl (rd_terms K)).imp fun a ⟨es, h1, h2, h3⟩ => by
    obtain ⟨ts, t1, rfl⟩ := list_choose es fun e he => (h2 e he).1
    exact ⟨ts, t1, by simpa using h3, by simpa using h1⟩
theorem arg_claims {tC tCL tT tL tI tJ tS : TypeId} (K : ClaimT P tC tCL tT tL tI tJ tS) : ArgRd P tCL ACls :=
  (arg_one K.sl rfl (rd_claims K)).imp fun a ⟨es, h1, h2, h3⟩ => by
    obtain ⟨ts, t1, rfl⟩ := list_choose es fun e he => (h2 e he).1
    exact ⟨ts, t1, by simpa using h3, by simpa using h1⟩
end

mutual
theorem cflat_cells : ∀ t : Cl, AV.flatL t.cells = true
  | .mk a s b ts l => by
    have := cflat_list l
    have h2 : ∀ l : List Tm, AV.flatLL (l.map Tm.cells) = true := fun l => by
      refine flatLL_iff.2 fun i e j x he hx => ?_
      rw [List.getElem?_map] at he
      obtain ⟨t, _, rfl⟩ := Option.map_eq_some_iff.1 he
      exact flatL_iff.1 (tflat t) j x hx
    simp [Cl.cells_mk, AV.flatL, AV.flat, this, h2]
where
  tflat : ∀ t : Tm, AV.flatL t.cells = true
    | .mk a s b l => by
      have : AV.flatLL (cellsL l) = true := tflats l
      simp [Tm.cells, AV.flatL, AV.flat, this]
  tflats : ∀ l : List Tm, AV.flatLL (cellsL l) = true
    | [] => rfl
    | t :: l => by simp [cellsL, AV.flatLL, tflat t, tflats l]
theorem cflat_list : ∀ l : List Cl, AV.flatLL (l.map Cl.cells) = true
  | [] => rfl
  | t :: l => by simp [AV.flatLL, cflat_cells t, cflat_list l]
end

end Go.Proofs.YtcoonnbkmklenaaDoor.A
