/- When two lists of strings are the same: what the function gives that asks so. -/
import Derived.Test.YtpenaaljaahanaaN0
namespace Go.Proofs.Ytpenaaljaahanaa.A
open Go
set_option maxRecDepth 10000
set_option linter.unusedSimpArgs false
attribute [-simp] List.all_eq_true put slot_def ld idxA lenOf elems canA app hand

def strsEq : List ByteArray → List ByteArray → Bool
  | [], [] => true
  | a :: l, b :: k => bytesEq a b && strsEq l k
  | _, _ => false

theorem strsEq_refl : ∀ l : List ByteArray, strsEq l l = true
  | [] => rfl
  | x :: l => by simp [strsEq, bytesEq, strsEq_refl l]

structure StI (l k : List ByteArray) (st0 : St) (rest : List ByteArray × List ByteArray) (fr : List AV) (st : St) (pre pre2 : List ByteArray) : Prop where
  e : l = pre ++ rest.1
  e2 : k = pre2 ++ rest.2
  hl : pre.length = pre2.length
  hl2 : rest.1.length = rest.2.length
  fl : fr.length = 26
  q0 : slot fr 0 = .sl 1 (strA l)
  q1 : slot fr 1 = .sl 1 (strA k)
  q5 : slot fr 5 = .int .i64 (pre.length : Int)
  st_ : st = ⟨st0.objs, st0.objs.length, []⟩
  hp : strsEq l k = strsEq rest.1 rest.2

theorem strings_eq (l k : List ByteArray) (hl : l.length ≤ 4294967296) (st : St) : (D T).call 30 [.sl 1 (strA l), .sl 1 (strA k)] st = some (.bool (strsEq l k), st) := by
  have hmx : l.length ≤ 9223372036854775807 := by omega
  apply call_by (by exact rfl : T 30 = some _) (by simp)
  intro fr hfr hsl
  have s0 := hsl 0 _ rfl
  have s1 := hsl 1 _ rfl
  by_cases hlen : l.length = k.length
  case neg =>
    have hs : strsEq l k = false := by
      clear s0 s1 hsl hmx hl
      induction l generalizing k with
      | nil => cases k <;> simp [strsEq] at hlen ⊢
      | cons a l ih =>
        cases k with
        | nil => rfl
        | cons b k =>
          simp only [strsEq]
          rw [ih k (by simpa using hlen)]
          simp
    have h1 : ((l.length : Int) == (k.length : Int)) = false := by simp; omega
    have h2 : ((l.length : Int) != (k.length : Int)) = true := by simp [bne, h1]
    have h3 : ¬ ((l.length : Int) = (k.length : Int)) := by omega
    simp -implicitDefEqProofs [hfr, s0, s1, h1, h2, h3, hs, hlen]
  case pos =>
    simp -implicitDefEqProofs [hfr, s0, s1, hlen]
    apply loop_inv L30_0.eq_1 (fun p => p.1.length) (fun (rest : List ByteArray × List ByteArray) fr st1 => ∃ pre pre2, StI l k st rest fr st1 pre pre2) ?_ (l, k) ⟨[], [], rfl, rfl, rfl, hlen, by simp [hfr], by simp [hfr, s0], by simp [hfr, s1], by simp [hfr], rfl, rfl⟩
    rintro ⟨rest, rest2⟩ fr _ ⟨pre, pre2, e, e2, hpl, hrl, hfr, q0, q1, q5, rfl, hp⟩
    simp only [] at e e2 hrl hp
    cases rest with
    | nil =>
      have hlt := idx_end e
      obtain rfl : rest2 = [] := by cases rest2 <;> simp at hrl ⊢
      simp -implicitDefEqProofs [hfr, q0, q1, q5, hlt, hp, strsEq]
    | cons x rest =>
      cases rest2 with
      | nil => simp at hrl
      | cons y rest2 =>
        obtain ⟨hlt, hg, _⟩ := idx_at e
        obtain ⟨hlt2, hg2, _⟩ := idx_at e2
        rw [← hpl] at hg2 hlt2
        have hg' := strA_get hg
        have hg2' := strA_get hg2
        have hw := idx_next e hmx
        simp only [strsEq] at hp
        cases hc : bytesEq x y with
        | true =>
          simp only [hc, Bool.true_and] at hp
          simp -implicitDefEqProofs [hfr, q0, q1, q5, hlt, hlt2, hg', hg2', hw, hc]
          exact ⟨rest, by simp, rest2, pre ++ [x], pre2 ++ [y], StI.mk (by simp [e]) (by simp [e2]) (by simp [hpl]) (by simpa using hrl) (by simp [hfr]) (by simp [hfr, q0]) (by simp [hfr, q1]) (by simp [hfr, hw]) rfl hp⟩
        | false =>
          simp only [hc, Bool.false_and] at hp
          simp -implicitDefEqProofs [hfr, q0, q1, q5, hlt, hlt2, hg', hg2', hw, hc, hp]

end Go.Proofs.Ytpenaaljaahanaa.A
