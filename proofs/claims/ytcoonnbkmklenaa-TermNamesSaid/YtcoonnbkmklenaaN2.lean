/- The names of variables: all of some terms, the document's and the program's. -/
import Derived.Test.YtcoonnbkmklenaaN1
import Derived.Test.YtcoonnbkmklenaaExtS
namespace Go.Proofs.Ytcoonnbkmklenaa.A
open Go
set_option maxRecDepth 10000
set_option linter.unusedSimpArgs false
attribute [-simp] List.all_eq_true put slot_def ld idxA lenOf elems canA app hand

def vn : Tm → List ByteArray
  | .mk a s _ _ => bif a == 1 then [s] else []
def varsOf (l : List Tm) : List ByteArray := l.flatMap vn

theorem vn_len (t : Tm) : (vn t).length ≤ 1 := by
  obtain ⟨a, s, b, l⟩ := t
  simp only [vn]
  cases a == 1 <;> simp
theorem varsOf_len : ∀ l : List Tm, (varsOf l).length ≤ l.length
  | [] => Nat.le_refl _
  | t :: l => by
    have h1 := varsOf_len l
    have h2 := vn_len t
    simp only [varsOf, List.flatMap_cons, List.length_append, List.length_cons] at *
    omega

theorem putGo_len (s : ByteArray) : ∀ (l : List ByteArray) (d : Bool), (putGo s d l).length ≤ l.length + 1
  | [], d => by cases d <;> simp [putGo]
  | x :: l, d => by
    simp only [putGo, List.length_append, List.length_cons]
    cases h : (!(bytesLt x s) && !d) with
    | false =>
      have := putGo_len s l (d || !(bytesLt x s))
      cases bytesEq x s <;> simp <;> omega
    | true =>
      have hd : (d || !(bytesLt x s)) = true := by cases h' : bytesLt x s <;> simp [h'] at h ⊢
      rw [hd]
      have key : ∀ k : List ByteArray, (putGo s true k).length ≤ k.length := by
        intro k
        induction k with
        | nil => simp [putGo]
        | cons y k ih => simp only [putGo, Bool.not_true, Bool.and_false, cond_false, List.nil_append, Bool.true_or, List.length_append, List.length_cons]; cases bytesEq y s <;> simp <;> omega
      have := key l
      cases bytesEq x s <;> simp <;> omega

theorem putR_len (l : List ByteArray) (s : ByteArray) : (putR l s).length ≤ l.length + 1 := putGo_len s l false

def namesR (l : List Tm) : List ByteArray := (varsOf (allL l)).foldl putR []

theorem rnames_eq (ts : List Tm) (hts : ∀ t ∈ ts, t.ok) (hn : (allL ts).length ≤ 4294967296) (hl : ts.length ≤ 4294967296) (o0 : List Obj) (ro : Nat) (df : List Nat) :
    (D T).call 29 [.sl 4 (ts.map Tm.cells)] ⟨o0, ro, df⟩ = some (.sl 1 (strA (namesR ts)), ⟨o0, ro, df⟩) := by
  have hmx : ts.length ≤ 9223372036854775807 := by omega
  apply call_by (by exact rfl : T 29 = some _) (by simp)
  intro fr hfr hsl
  have s0 := hsl 0 _ rfl
  simp -implicitDefEqProofs [hfr, s0]
  apply loop_inv L29_0.eq_1 List.length (fun (rest : List Tm) fr st => ∃ pre out v, ts = pre ++ rest ∧ fr.length = 38 ∧ slot fr 0 = .sl 4 (ts.map Tm.cells) ∧ slot fr 3 = v ∧ (v = .sl 1 (strA out) ∨ v = .fsl 1 (strA out)) ∧
      slot fr 4 = .int .i64 (pre.length : Int) ∧ st = ⟨o0, o0.length, []⟩ ∧ namesR ts = (varsOf (allL rest)).foldl putR out ∧ out.length + (allL rest).length ≤ (allL ts).length) ?_ ts
      ⟨[], [], _, rfl, by simp [hfr], by simp [hfr, s0], by simp [hfr]; rfl, .inr rfl, by simp [hfr], rfl, rfl, by simp⟩
  rintro rest fr _ ⟨pre, out, v, e, hfr, q0, q3, hv, q4, rfl, hp, hol⟩
  cases rest with
  | nil =>
    have hlt := idx_end e
    simp only [allL, varsOf, List.flatMap_nil, List.foldl_nil] at hp
    rcases hv with rfl | rfl
    · simp -implicitDefEqProofs [hfr, q0, q3, q4, hlt, hp, hand, hand1, hand0]
    · simp -implicitDefEqProofs [hfr, q0, q3, q4, hlt, hp, hand, hand1, hand0]
  | cons t rest =>
    obtain ⟨hlt, hg, _⟩ := idx_at e
    have hw := idx_next e hmx
    have ht := hts t (by rw [e]; simp)
    simp only [allL, List.length_append] at hol
    have hall := fun st => rall_eq t ht (by omega) st
    simp only [Tm.av] at hall
    simp only [allL, varsOf, List.flatMap_append, List.foldl_append] at hp
    have hmx2 : t.all.length ≤ 9223372036854775807 := by omega
    have hq : ∃ d : AV, d = slot fr 3 := ⟨_, rfl⟩
    simp -implicitDefEqProofs [hfr, q0, q3, q4, hlt, hg, hw, hall]
    generalize hF : put _ _ _ = F
    have f0 : slot F 0 = .sl 4 (ts.map Tm.cells) := by subst hF; simp [hfr, q0]
    have f3 : slot F 3 = v := by subst hF; simp [hfr, q3]
    have f4 : slot F 4 = .int .i64 (pre.length : Int) := by subst hF; simp [hfr, q4]
    have f5 : slot F 5 = .sl 4 (t.all.map Tm.cells) := by subst hF; simp [hfr]
    have f6 : slot F 6 = .int .i64 0 := by subst hF; simp [hfr]
    have fl : F.length = 38 := by subst hF; simp [hfr]
    clear hF
    apply loop_inv L29_1.eq_1 List.length (fun (rest2 : List Tm) fr st => ∃ pre2 out2 v, t.all = pre2 ++ rest2 ∧ fr.length = 38 ∧ slot fr 0 = .sl 4 (ts.map Tm.cells) ∧ slot fr 3 = v ∧ (v = .sl 1 (strA out2) ∨ v = .fsl 1 (strA out2)) ∧
      slot fr 4 = .int .i64 (pre.length : Int) ∧ slot fr 5 = .sl 4 (t.all.map Tm.cells) ∧ slot fr 6 = .int .i64 (pre2.length : Int) ∧ st = ⟨o0, o0.length, []⟩ ∧
      namesR ts = (varsOf (allL rest)).foldl putR ((varsOf rest2).foldl putR out2) ∧ out2.length + rest2.length + (allL rest).length ≤ (allL ts).length) ?_ t.all
      ⟨[], out, v, rfl, fl, f0, f3, hv, f4, f5, f6, rfl, hp, by omega⟩
    clear f0 f3 f4 f5 f6 fl hp
    rintro rest2 fr _ ⟨pre2, out2, v, e2, hfr, q0, q3, hv, q4, q5, q6, rfl, hp, hol⟩
    cases rest2 with
    | nil =>
      have hlt2 := idx_end e2
      simp only [varsOf, List.flatMap_nil, List.foldl_nil] at hp
      simp -implicitDefEqProofs [hfr, q0, q3, q4, q5, q6, hlt2, hw]
      exact ⟨rest, by simp, pre ++ [t], by simp [e], out2, hv, by simp, by simpa [varsOf] using hp, by simp at hol; omega⟩
    | cons x rest2 =>
      obtain ⟨hlt2, hg2, _⟩ := idx_at e2
      have hw2 := idx_next e2 hmx2
      obtain ⟨a, s, b, l⟩ := x
      have hput : ∃ v', (D T).call 47 [v, .str s] ⟨o0, o0.length, []⟩ = some (.sl 1 (strA (putR out2 s)), ⟨o0, o0.length, []⟩) ∧ v' = v := by
        rcases hv with rfl | rfl
        · exact ⟨_, put_eq out2 s (by simp at hol; omega) o0 o0.length [], rfl⟩
        · exact ⟨_, put_eqf out2 s (by simp at hol; omega) o0 o0.length [], rfl⟩
      obtain ⟨_, hput, _⟩ := hput
      have hcv : canA v = v := by rcases hv with rfl | rfl <;> rfl
      cases ha : a == 1 with
      | true =>
        obtain rfl : a = 1 := by simpa using ha
        simp only [varsOf, List.flatMap_cons, vn, BEq.rfl, cond_true, List.singleton_append, List.foldl_cons] at hp
        have hpl := putR_len out2 s
        simp -implicitDefEqProofs [hfr, q0, q3, q4, q5, q6, hlt2, hg2, hw2, hput, hcv, Tm.cells_mk]
        exact ⟨rest2, by simp, pre2 ++ [.mk 1 s b l], by simp [e2], putR out2 s, by simp, by simp, hp, by simp at hol; omega⟩
      | false =>
        simp only [varsOf, List.flatMap_cons, vn, ha, cond_false, List.nil_append] at hp
        simp -implicitDefEqProofs [hfr, q0, q3, q4, q5, q6, hlt2, hg2, hw2, ha, Tm.cells_mk]
        exact ⟨rest2, by simp, pre2 ++ [.mk a s b l], by simp [e2], out2, hv, by simp, hp, by simp at hol; omega⟩

end Go.Proofs.Ytcoonnbkmklenaa.A
