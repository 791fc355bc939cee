/- Statements of open order that make several objects: when each is made does not matter. -/
import Derived.Test.YtgabnhmjlhhojaaSched
import Derived.Test.YtgabnhmjlhhojaaKeep
namespace Go.Proofs.Ytgabnhmjlhhojaa.A
open Go
set_option linter.unusedSimpArgs false
set_option linter.unusedVariables false

/-! in which order: what goes ahead, in any order that is left open, and then what follows, one behind the other -/

theorem split_low (c : Nat) : ∀ (L : List Nat), L.Pairwise (fun a b => ¬ (c ≤ a ∧ b < a)) → L = L.filter (fun i => decide (i < c)) ++ L.filter (fun i => !decide (i < c))
  | [], _ => rfl
  | a :: L, h => by
    have h' := List.pairwise_cons.1 h
    have ih := split_low c L h'.2
    by_cases hc : a < c
    · simp only [List.filter_cons, hc, decide_true, if_true, Bool.not_true, Bool.false_eq_true, if_false, List.cons_append]
      rw [← ih]
    · have hall : ∀ b ∈ L, ¬ b < c := fun b hb hbc => h'.1 b hb ⟨by omega, by omega⟩
      have e1 : L.filter (fun i => decide (i < c)) = [] := List.filter_eq_nil_iff.2 fun b hb => by simpa using hall b hb
      have e2 : L.filter (fun i => !decide (i < c)) = L := List.filter_eq_self.2 fun b hb => by simpa using hall b hb
      simp only [List.filter_cons, hc, decide_false, Bool.false_eq_true, if_false, Bool.not_false, if_true, e1, e2, List.nil_append]

theorem high_sorted (c N : Nat) (hcN : c ≤ N) {L : List Nat} (p : L.Perm (List.range N)) (h : L.Pairwise (fun a b => ¬ (c ≤ a ∧ b < a))) : L = L.filter (fun i => decide (i < c)) ++ List.range' c (N - c) := by
  have e := split_low c L h
  have e2 : L.filter (fun i => !decide (i < c)) = List.range' c (N - c) := by
    refine List.Perm.eq_of_pairwise (le := fun a b => a < b) (fun a b _ _ h1 h2 => by omega) ?_ ?_ ?_
    · have nd : L.Nodup := p.symm.nodup List.nodup_range
      have h1 := (h.and nd).filter (fun i => !decide (i < c))
      refine (List.pairwise_iff_getElem.2 fun i j hi hj hij => ?_)
      have h2 := List.pairwise_iff_getElem.1 h1 i j hi hj hij
      have hm : (L.filter (fun i => !decide (i < c)))[i] ∈ L.filter (fun i => !decide (i < c)) := List.getElem_mem hi
      have hm2 := (List.mem_filter.1 hm).2
      simp at hm2
      have h3 := h2.1
      have h4 := h2.2
      omega
    · exact List.pairwise_lt_range'
    · refine (p.filter _).trans ?_
      have : (List.range N).filter (fun i => !decide (i < c)) = List.range' c (N - c) := by
        rw [show N = c + (N - c) by omega, List.range_add, List.filter_append]
        have f1 : (List.range c).filter (fun i => !decide (i < c)) = [] := List.filter_eq_nil_iff.2 fun b hb => by simpa using hb
        have f2 : ((List.range (N - c)).map (c + ·)).filter (fun i => !decide (i < c)) = (List.range (N - c)).map (c + ·) := List.filter_eq_self.2 fun b hb => by
          obtain ⟨k, _, rfl⟩ := List.mem_map.1 hb
          simp
        rw [f1, f2, List.nil_append, List.range'_eq_map_range, Nat.add_sub_cancel_left]
      rw [this]
  rw [← e2]
  exact e


/-! blocks set aside -/
section
variable {P : Program} {T : Tab} {O : Orc} {E : Env} {st st' : St} {w w' : World}

def addG (E : Env) (b0 : Nat) : Env := { E with G := fun b => E.G b ∨ b = b0 }
def dropG (E : Env) (b0 : Nat) : Env := { E with G := fun b => E.G b ∧ b ≠ b0 }

theorem Sim.guard (h : Sim P T E st w) (b0 : Nat) (hlt : b0 < w.heap.size) (hF : ¬ E.F b0) (ha : ∀ (r : Nat) o, st.objs[r]? = some o → live o (E.L r) → (E.L r).blk ≠ b0) : Sim P T (addG E b0) st w :=
  ⟨fun r o ho => (h.obj r o ho).mono ⟨fun _ hr => ⟨hr, rfl⟩, fun _ hF => hF, fun _ _ => rfl⟩ fun _ => rfl,
   fun r o ho hl hH => hH.elim (fun hF => h.away r o ho hl (.inl hF)) fun hG => hG.elim (fun hG => h.away r o ho hl (.inr hG)) fun e => ha r o ho hl e,
   h.inj, fun b hH => hH.elim (fun hF => h.fro b (.inl hF)) fun hG => hG.elim (fun hG => h.fro b (.inr hG)) fun e => e ▸ hlt,
   h.glob.mono (fun _ hF => hF) (fun _ _ => rfl), fun b hF' hG => hG.elim (h.dis b hF') fun e => hF (e ▸ hF')⟩

theorem Sim.adopt (h : Sim P T E st w) (b0 : Nat) (o : Obj) (l : Lay) (hl : l.blk = b0) (hg : E.G b0) (ho : ObjRep P T (dropG (updL E st.objs.length l) b0) (st.objs.length + 1) w o l) :
    Sim P T (dropG (updL E st.objs.length l) b0) (st.push o) w := by
  have hlen : (st.push o).objs.length = st.objs.length + 1 := by simp [St.push]
  have hL : ∀ r, r < st.objs.length → (dropG (updL E st.objs.length l) b0).L r = E.L r := fun r hr => updL_lt hr
  have hLe : (dropG (updL E st.objs.length l) b0).L st.objs.length = l := updL_eq
  have m : Mono E st.objs.length w (dropG (updL E st.objs.length l) b0) (st.objs.length + 1) w := ⟨fun r hr => ⟨by omega, hL r hr⟩, fun _ hF => hF, fun b hF => rfl⟩
  refine ⟨fun r x hx => ?_, fun r x hx hlv => ?_, fun r r' x x' hx hx' hlv hlv' hne => ?_, fun b hH => ?_, h.glob.mono m.F m.mem, fun b hF hG => h.dis b hF hG.1⟩
  · rw [hlen]
    rcases get_push hx with ⟨hr, hx⟩ | ⟨rfl, rfl⟩
    · rw [hL r hr]
      exact (h.obj r x hx).mono m fun _ => rfl
    · rw [hLe]; exact ho
  · rcases get_push hx with ⟨hr, hx⟩ | ⟨rfl, rfl⟩
    · rw [hL r hr] at hlv ⊢
      exact fun hH => hH.elim (fun hF => h.away r x hx hlv (.inl hF)) fun hG => h.away r x hx hlv (.inr hG.1)
    · rw [hLe, hl]
      exact fun hH => hH.elim (fun hF => h.dis b0 hF hg) fun hG => hG.2 rfl
  · rcases get_push hx with ⟨hr, gx⟩ | ⟨rfl, rfl⟩
    · rcases get_push hx' with ⟨hr', gx'⟩ | ⟨rfl, rfl⟩
      · rw [hL r hr] at hlv ⊢
        rw [hL r' hr'] at hlv' ⊢
        exact h.inj r r' x x' gx gx' hlv hlv' hne
      · rw [hL r hr] at hlv ⊢
        rw [hLe, hl]
        exact fun e => h.away r x gx hlv (.inr (e ▸ hg))
    · rcases get_push hx' with ⟨hr', gx'⟩ | ⟨rfl, rfl⟩
      · rw [hL r' hr'] at hlv' ⊢
        rw [hLe, hl]
        exact fun e => h.away r' x' gx' hlv' (.inr (e ▸ hg))
      · exact absurd rfl hne
  · exact hH.elim (fun hF => h.fro b (.inl hF)) fun hG => h.fro b (.inr hG.1)

/-- a block that holds a zero value -/
def Fresh (w : World) (b ty : Nat) (z : List AV) : Prop :=
  0 < z.length ∧ ∃ cur, w.heap[b]? = some (.cells cur ty (0, 0)) ∧ cur.size = z.length ∧ ∀ (j : Nat) x, z[j]? = some x → ∃ v, cur[j]? = some v ∧ v.oneCell' = true ∧ ∀ E n w, Rep E n w x v

theorem Fresh.mem {b ty : Nat} {z : List AV} (h : Fresh w b ty z) (e : w'.heap[b]? = w.heap[b]?) : Fresh w' b ty z := by
  obtain ⟨h0, cur, h1, h2, h3⟩ := h
  exact ⟨h0, cur, e.trans h1, h2, h3⟩

theorem Fresh.obj {b ty : Nat} {z : List AV} {n : Nat} (h : Fresh w b ty z) : ObjRep P T E n w (.arr ty z.length [z]) ⟨b, 1, z.length⟩ := by
  obtain ⟨h0, cur, h1, h2, h3⟩ := h
  refine ⟨rfl, by simp, by simp [maxLen], h0, by simp, .inr ⟨cur, h1, by simp [h2], fun i e j x he hj => ?_⟩⟩
  cases i with
  | succ i => simp at he
  | zero =>
    simp at he; subst he
    obtain ⟨v, g1, g2, g3⟩ := h3 j x hj
    exact ⟨v, by simpa using g1, g2, g3 _ _ _⟩

def alAt (xs : List AOp) (j d ty : Nat) (z : List AV) : Prop := xs[j]? = some ⟨some d, .alloc ty z, none⟩

theorem set_any {fr : List AV} {d : Nat} (h : slot fr d = .any) : fr.set d .any = fr := by
  apply List.ext_getElem?
  intro i
  rw [List.getElem?_set]
  split
  · rename_i e
    subst e
    split
    · rename_i hl
      simp only [slot, List.getD_eq_getElem?_getD, List.getElem?_eq_getElem hl, Option.getD_some] at h
      rw [List.getElem?_eq_getElem hl, h]
    · rename_i hl
      rw [List.getElem?_eq_none (by omega)]
  · rfl

/-- a new object that comes early -/
theorem early (S : Sim P T E st w) {ops : Array Oper} {i : Nat} {o : Oper} {d ty : Nat} {z : List AV} (ho : ops[i]? = some o) (hc : chkOper P ops o ⟨some d, .alloc ty z, none⟩ = true) {fr : List AV} {a : Act}
    (F : RepL E st.objs.length w fr a.tmps.toList) (hd : slot fr d = .any) (b : Frame) (rest : List Nat) (k : List Item) (cs : List Frame) :
    ∃ w', Sim P T (addG E w.heap.size) st w' ∧ RepL (addG E w.heap.size) st.objs.length w' fr (a.put (some d) (.pointer (some ⟨w.heap.size, 0, none⟩))).tmps.toList ∧ Ext E st.objs.length w (addG E w.heap.size) st.objs.length w' ∧
      Steps P (lone (on b a (.inRegion ops (i :: rest) :: k)) cs w) (lone (on b (a.put (some d) (.pointer (some ⟨w.heap.size, 0, none⟩))) (.inRegion ops rest :: k)) cs w') ∧ Fresh w' w.heap.size ty z := by
  obtain ⟨dst, op, ty', pos, after, guard⟩ := o
  simp only [chkOper, Bool.and_eq_true] at hc
  obtain ⟨⟨hd', hop⟩, hg⟩ := hc
  obtain rfl : dst = some d := by simpa using hd'
  cases op <;> simp only [chkOp, Bool.false_eq_true] at hop
  rename_i e
  simp only [Bool.and_eq_true, beq_iff_eq, decide_eq_true_eq] at hop
  obtain ⟨⟨rfl, hz⟩, hp⟩ := hop
  cases guard with
  | some _ => simp at hg
  | none =>
  obtain ⟨ti, zv, hi, hzv, ha, hs⟩ := zeroB_get hz
  have hb : ∀ b, b < w.heap.size → (w.alloc (.cells zv.cells.toList.toArray ty)).heap[b]? = w.heap[b]? := fun b hb => heap_alloc_old w _ b hb
  have hnF : ¬ E.F w.heap.size := fun hF => absurd (S.fro _ (.inl hF)) (Nat.lt_irrefl _)
  have S1 : Sim P T E st (w.alloc (.cells zv.cells.toList.toArray ty)) := S.grow (by simp) hb
  have S2 := S1.guard w.heap.size (by simp) hnF fun r o ho hl e => by
    have := (S.obj r o ho).lt hl
    omega
  have X1 : Ext E st.objs.length w E st.objs.length (w.alloc (.cells zv.cells.toList.toArray ty)) := Ext.grow S (by simp) hb rfl rfl rfl
  have X2 : Ext E st.objs.length w (addG E w.heap.size) st.objs.length (w.alloc (.cells zv.cells.toList.toArray ty)) := ⟨X1.n_le, X1.L, X1.F, fun b hG => .inl hG, X1.mem, X1.os, X1.tape, X1.output, X1.size⟩
  refine ⟨_, S2, ?_, X2, ?_, ?_⟩
  · have := put_rep (F.mono X2.toMono) (some d) (Rep.any (.pointer (some ⟨w.heap.size, 0, none⟩)))
    simp only [put, set_any hd] at this
    exact this
  · exact .one (st_value ho (by simp [Region.wanted]) (by simp) (by simp [execOp, Instr.alloc, zeroValue, typeInfo, hi, hzv, newVar, newRow]))
  · obtain ⟨hr, h1⟩ := atomsB_rep (E := E) (n := 0) (w := w) ha
    refine ⟨hp, _, heap_alloc_new w _, by simp [hr.len], fun j x hj => ?_⟩
    have hjl := lt_of_get hj
    have hjv : j < zv.cells.toList.length := by rw [← hr.len]; exact hjl
    refine ⟨zv.cells.toList[j], by simp, h1 _ (by simp), fun E n w => ?_⟩
    exact (atomsB_rep (E := E) (n := n) (w := w) ha).1.at_ j x _ hj (by simp)

/-- set aside for the object that j makes -/
structure Pend (N0 : Nat) (xs : List AOp) (E : Env) (w : World) (a : Act) (j b : Nat) : Prop where
  G : E.G b
  new : N0 ≤ b
  at_ : ∀ d ty z, alAt xs j d ty z → Fresh w b ty z ∧ ∀ v, a.tmps[d]? = some v → v = .pointer (some ⟨b, 0, none⟩)

theorem tmps_put {a : Act} {d e : Nat} {v : Value} (h : e ≠ d) : (a.put (some e) v).tmps[d]? = a.tmps[d]? := by
  simp [Act.put, Array.getElem?_setIfInBounds, h]

theorem tmps_put_self {a : Act} {d : Nat} {v u : Value} (h : (a.put (some d) v).tmps[d]? = some u) : u = v := by
  simp only [Act.put, Array.getElem?_setIfInBounds, if_true] at h
  split at h
  · exact (Option.some.inj h).symm
  · cases h

theorem Pend.ext {N0 : Nat} {xs : List AOp} {E E' : Env} {w w' : World} {a : Act} {j b n n' : Nat} (h : Pend N0 xs E w a j b) (X : Ext E n w E' n' w') (e : Option Nat) (v : Value)
    (hne : ∀ d ty z, alAt xs j d ty z → e ≠ some d) : Pend N0 xs E' w' (a.put e v) j b := by
  refine ⟨X.G b h.G, h.new, fun d ty z hz => ?_⟩
  obtain ⟨h1, h2⟩ := h.at_ d ty z hz
  refine ⟨h1.mem (X.mem b (.inr h.G)), fun u hu => h2 u ?_⟩
  cases e with
  | none => exact hu
  | some e => rwa [tmps_put (fun q => hne d ty z hz (by rw [q]))] at hu

/-- what goes ahead, and new objects among it -/
theorem merge (H : SndO P T O) {ops : Array Oper} {xs : List AOp} (hops : ∀ (i : Nat) x, xs[i]? = some x → ∃ o, ops[i]? = some o ∧ chkOper P ops o x = true) (b : Frame) (k : List Item) (cs : List Frame) (N0 c e : Nat) (R : List Nat)
    (hA : ∀ j, c ≤ j → j < e → ∃ d ty z, alAt xs j d ty z) (hS : ∀ j d ty z, c ≤ j → j < e → alAt xs j d ty z → ∀ i y, i < c → xs[i]? = some y → y.dst ≠ some d)
    (hD : ∀ j j' d d' ty ty' z z', c ≤ j → j < e → c ≤ j' → j' < e → j ≠ j' → alAt xs j d ty z → alAt xs j' d' ty' z' → d ≠ d') :
    ∀ (M : List Nat) (l' : List AOp) {fr fr' : List AV} {st st' : St} {E : Env} {w : World} {a : Act} (D : Nat → Prop) (bl : Nat → Nat), M.Nodup → (∀ j ∈ M, j < e ∧ ¬ D j) → (∀ j, D j → c ≤ j ∧ j < e) →
      (M.filter fun i => decide (i < c)).map (fun (j : Nat) => xs[j]?) = l'.map some → exOps O l' fr st = some (fr', st') → (∀ j d ty z, c ≤ j → j < e → alAt xs j d ty z → slot fr d = .any) →
      st.ro ≤ st.objs.length → Sim P T E st w → RepL E st.objs.length w fr a.tmps.toList → (∀ j, D j → Pend N0 xs E w a j (bl j)) → (∀ j j', D j → D j' → j ≠ j' → bl j ≠ bl j') → N0 ≤ w.heap.size →
      ∃ (E' : Env) (a' : Act) (w' : World) (bl' : Nat → Nat), Sim P T E' st' w' ∧ RepL E' st'.objs.length w' fr' a'.tmps.toList ∧ a'.defers = a.defers ∧ Ext E st.objs.length w E' st'.objs.length w' ∧
        Steps P (lone (on b a (.inRegion ops (M ++ R) :: k)) cs w) (lone (on b a' (.inRegion ops R :: k)) cs w') ∧
        (∀ j, (D j ∨ (j ∈ M ∧ c ≤ j)) → Pend N0 xs E' w' a' j (bl' j)) ∧ (∀ j j', (D j ∨ (j ∈ M ∧ c ≤ j)) → (D j' ∨ (j' ∈ M ∧ c ≤ j')) → j ≠ j' → bl' j ≠ bl' j') := by
  intro M
  induction M with
  | nil =>
    intro l' fr fr' st st' E w a D bl _ _ _ hl hx _ hr S F hP hI _
    obtain rfl : l' = [] := by cases l' <;> simp at hl; rfl
    simp [exOps] at hx
    obtain ⟨rfl, rfl⟩ := hx
    exact ⟨E, a, w, bl, S, F, rfl, Ext.refl _ _ _, .refl _ _, fun j hj => hP j (hj.elim id fun x => by simp at x), fun j j' hj hj' => hI j j' (hj.elim id fun x => by simp at x) (hj'.elim id fun x => by simp at x)⟩
  | cons i M ih =>
    intro l' fr fr' st st' E w a D bl hnd hM hDr hl hx hany hr S F hP hI hN
    have hnd' := List.nodup_cons.1 hnd
    by_cases hic : i < c
    · -- what goes ahead
      rw [List.filter_cons_of_pos (by simpa using hic)] at hl
      cases l' with
      | nil => simp at hl
      | cons x l' =>
        simp only [List.map_cons, List.cons.injEq] at hl
        obtain ⟨o, ho, hc⟩ := hops i x hl.1
        simp only [exOps] at hx
        split at hx
        · rename_i fr1 st1 h1
          obtain ⟨E1, a1, w1, S1, F1, ⟨cv, rfl⟩, X1, r1⟩ := step_sound H ho hc h1 hr S F b (M ++ R) k cs
          have k1 := exStep_keep H.keep h1 hr
          have hdx : ∀ j d ty z, c ≤ j → j < e → alAt xs j d ty z → x.dst ≠ some d := fun j d ty z h1 h2 h3 => hS j d ty z h1 h2 h3 i x hic hl.1
          obtain ⟨v, s9, hv⟩ : ∃ v s9, exG O x fr st = some (v, s9) ∧ fr1 = put fr x.dst v := by
            rw [exStep_eq] at h1
            split at h1
            · rename_i v s9 hv
              simp only [Option.some.injEq, Prod.mk.injEq] at h1
              exact ⟨v, s9, hv, h1.1.symm⟩
            · cases h1
          obtain ⟨E2, a2, w2, bl2, S2, F2, d2, X2, r2, P2, I2⟩ := ih l' D bl hnd'.2 (fun j hj => hM j (List.mem_cons_of_mem _ hj)) hDr hl.2 hx
            (fun j d ty z h3 h4 h5 => by
              rw [hv.2]
              cases hxd : x.dst with
              | none => exact hany j d ty z h3 h4 h5
              | some q =>
                simp only [put]
                rw [slot_set (fun e => hdx j d ty z h3 h4 h5 (by rw [hxd, e]))]
                exact hany j d ty z h3 h4 h5)
            (by rw [k1.1.ro]; exact Nat.le_trans hr k1.1.len) S1 F1
            (fun j hj => (hP j hj).ext X1 _ _ fun d ty z hz => hdx j d ty z (hDr j hj).1 (hDr j hj).2 hz) hI (Nat.le_trans hN X1.size)
          have hi : ¬ c ≤ i := by omega
          refine ⟨E2, a2, w2, bl2, S2, F2, d2.trans (put_defers _ _ _), X1.trans X2, r1.trans r2, fun j hj => P2 j ?_, fun j j' hj hj' => I2 j j' ?_ ?_⟩
          · exact hj.imp id fun q => ⟨(List.mem_cons.1 q.1).resolve_left (by rintro rfl; exact hi q.2), q.2⟩
          · exact hj.imp id fun q => ⟨(List.mem_cons.1 q.1).resolve_left (by rintro rfl; exact hi q.2), q.2⟩
          · exact hj'.imp id fun q => ⟨(List.mem_cons.1 q.1).resolve_left (by rintro rfl; exact hi q.2), q.2⟩
        · cases hx
    · -- a new object
      have hci : c ≤ i := by omega
      have hie := (hM i (List.mem_cons_self ..)).1
      rw [List.filter_cons_of_neg (by simpa using hic)] at hl
      obtain ⟨d, ty, z, hz⟩ := hA i hci hie
      obtain ⟨o, ho, hc⟩ := hops i _ hz
      obtain ⟨w1, S1, F1, X1, r1, hf⟩ := early S ho hc F (hany i d ty z hci hie hz) b (M ++ R) k cs
      have hGlt : ∀ j, D j → bl j ≠ w.heap.size := fun j hj e => absurd (S.fro _ (.inr (hP j hj).G)) (by omega)
      have hDi : ¬ D i := (hM i (List.mem_cons_self ..)).2
      obtain ⟨E2, a2, w2, bl2, S2, F2, d2, X2, r2, P2, I2⟩ := ih l' (fun j => D j ∨ j = i) (fun j => if j = i then w.heap.size else bl j) hnd'.2
        (fun j hj => ⟨(hM j (List.mem_cons_of_mem _ hj)).1, fun q => q.elim (hM j (List.mem_cons_of_mem _ hj)).2 fun e => hnd'.1 (e ▸ hj)⟩)
        (fun j hj => hj.elim (hDr j) fun e => by subst e; exact ⟨hci, hie⟩) hl hx hany hr S1 F1
        (fun j hj => by
          by_cases hji : j = i
          · subst hji
            rw [if_pos rfl]
            refine ⟨.inr rfl, hN, fun d' ty' z' hz' => ?_⟩
            obtain ⟨rfl, rfl, rfl⟩ : d = d' ∧ ty = ty' ∧ z = z' := by
              have := hz.symm.trans hz'
              simpa using this
            exact ⟨hf, fun v hv => tmps_put_self hv⟩
          · rw [if_neg hji]
            have hDj := hj.resolve_right hji
            exact (hP j hDj).ext X1 _ _ fun d' ty' z' hz' => by
              have := hD i j d d' ty ty' z z' hci hie (hDr j hDj).1 (hDr j hDj).2 (Ne.symm hji) hz hz'
              simpa using this)
        (fun j j' hj hj' hne => by
          by_cases hji : j = i
          · subst hji
            rw [if_pos rfl, if_neg (Ne.symm hne)]
            exact (hGlt j' (hj'.resolve_right (Ne.symm hne))).symm
          · rw [if_neg hji]
            by_cases hji' : j' = i
            · rw [if_pos hji']
              exact hGlt j (hj.resolve_right hji)
            · rw [if_neg hji']
              exact hI j j' (hj.resolve_right hji) (hj'.resolve_right hji') hne)
        (Nat.le_trans hN X1.size)
      refine ⟨E2, a2, w2, bl2, S2, F2, d2.trans (put_defers _ _ _), X1.trans X2, r1.trans r2, fun j hj => P2 j ?_, fun j j' hj hj' => I2 j j' ?_ ?_⟩
      · rcases hj with hj | ⟨hj, hjc⟩
        · exact .inl (.inl hj)
        · exact (List.mem_cons.1 hj).elim (fun e => .inl (.inr e)) fun q => .inr ⟨q, hjc⟩
      · rcases hj with hj | ⟨hj, hjc⟩
        · exact .inl (.inl hj)
        · exact (List.mem_cons.1 hj).elim (fun e => .inl (.inr e)) fun q => .inr ⟨q, hjc⟩
      · rcases hj' with hj | ⟨hj, hjc⟩
        · exact .inl (.inl hj)
        · exact (List.mem_cons.1 hj).elim (fun e => .inl (.inr e)) fun q => .inr ⟨q, hjc⟩

/-- the interpreter makes the objects that the model has made -/
theorem adopt_all {xs : List AOp} {w : World} {a : Act} {N0 : Nat} (bl : Nat → Nat) : ∀ (als : List AOp) (j0 : Nat) {fr fr' : List AV} {st st' : St} {E : Env}, (∀ (i : Nat) y, als[i]? = some y → (∃ d ty z, y = ⟨some d, .alloc ty z, none⟩) ∧ xs[j0 + i]? = some y) →
    exOps O als fr st = some (fr', st') → Sim P T E st w → RepL E st.objs.length w fr a.tmps.toList → (∀ i, i < als.length → Pend N0 xs E w a (j0 + i) (bl (j0 + i))) →
    (∀ i i', i < als.length → i' < als.length → i ≠ i' → bl (j0 + i) ≠ bl (j0 + i')) →
    ∃ E', Sim P T E' st' w ∧ RepL E' st'.objs.length w fr' a.tmps.toList ∧ st.objs.length ≤ st'.objs.length ∧ (∀ r, r < st.objs.length → E'.L r = E.L r) ∧ (∀ b, E.F b → E'.F b) ∧ (∀ b, E.G b → b < N0 → E'.G b)
  | [], j0, fr, fr', st, st', E, _, hx, S, F, _, _ => by
    simp [exOps] at hx
    obtain ⟨rfl, rfl⟩ := hx
    exact ⟨E, S, F, Nat.le_refl _, fun _ _ => rfl, fun _ h => h, fun _ h _ => h⟩
  | y :: als, j0, fr, fr', st, st', E, hy, hx, S, F, hP, hI => by
    obtain ⟨⟨d, ty, z, rfl⟩, hz⟩ := hy 0 y rfl
    rw [Nat.add_zero] at hz
    have hP0 := hP 0 (by simp)
    rw [Nat.add_zero] at hP0
    obtain ⟨hf, hv⟩ := hP0.at_ d ty z hz
    simp only [exOps, exStep, exOp] at hx
    have S1 := S.adopt (bl j0) (.arr ty z.length [z]) ⟨bl j0, 1, z.length⟩ rfl hP0.G hf.obj
    have hlen : (st.push (.arr ty z.length [z])).objs.length = st.objs.length + 1 := by simp [St.push]
    have m : Mono E st.objs.length w (dropG (updL E st.objs.length ⟨bl j0, 1, z.length⟩) (bl j0)) (st.push (.arr ty z.length [z])).objs.length w :=
      ⟨fun r hr => ⟨by omega, updL_lt hr⟩, fun _ hF => hF, fun b hF => rfl⟩
    have F1 : RepL (dropG (updL E st.objs.length ⟨bl j0, 1, z.length⟩) (bl j0)) (st.push (.arr ty z.length [z])).objs.length w (put fr (some d) (.ptr st.objs.length 0 0)) a.tmps.toList := by
      have F0 := F.mono m
      refine ⟨by simpa [put] using F0.len, fun j x u hx hu => ?_⟩
      simp only [put, List.getElem?_set] at hx
      by_cases e : d = j
      · subst e
        rw [if_pos rfl] at hx
        split at hx
        · obtain rfl := Option.some.inj hx
          obtain rfl := hv u (by simpa using hu)
          have := Rep.ptr (E := dropG (updL E st.objs.length ⟨bl j0, 1, z.length⟩) (bl j0)) (n := (st.push (.arr ty z.length [z])).objs.length) (w := w) (r := st.objs.length) 0 0 0 (by omega) (by simp)
          have e2 : (dropG (updL E st.objs.length ⟨bl j0, 1, z.length⟩) (bl j0)).L st.objs.length = ⟨bl j0, 1, z.length⟩ := updL_eq
          rwa [e2] at this
        · cases hx
      · rw [if_neg e] at hx
        exact F0.at_ j x u hx hu
    obtain ⟨E', r1, r2, r3, r4, r5, r6⟩ := adopt_all bl als (j0 + 1) (fun i y h => by
        obtain ⟨q1, q2⟩ := hy (i + 1) y (by simpa using h)
        exact ⟨q1, by rw [← q2]; congr 1; omega⟩) hx S1 F1
      (fun i hi => by
        have hPi := hP (i + 1) (by simpa using hi)
        rw [show j0 + (i + 1) = j0 + 1 + i by omega] at hPi
        refine ⟨⟨hPi.G, ?_⟩, hPi.new, hPi.at_⟩
        have := hI (i + 1) 0 (by simpa using hi) (by simp) (by omega)
        rwa [show j0 + (i + 1) = j0 + 1 + i by omega, Nat.add_zero] at this)
      (fun i i' hi hi' hne => by
        have := hI (i + 1) (i' + 1) (by simpa using hi) (by simpa using hi') (by omega)
        rwa [show j0 + (i + 1) = j0 + 1 + i by omega, show j0 + (i' + 1) = j0 + 1 + i' by omega] at this)
    refine ⟨E', r1, r2, by omega, fun r hr => (r4 r (by omega)).trans (updL_lt hr), r5, fun b hb hlt => r6 b ⟨hb, ?_⟩ hlt⟩
    have := hP0.new
    omega

theorem exW_app : ∀ (l1 : List AOp) {l2 : List AOp} {ws : List Wt} {fr : List AV} {st : St} {Z : List AV × St}, exW O (l1 ++ l2) ws fr st = some Z → ∃ fr1 st1 ws1, exW O l1 ws fr st = some (fr1, st1) ∧ exW O l2 ws1 fr1 st1 = some Z
  | [], _, ws, fr, st, _, h => ⟨fr, st, ws, rfl, h⟩
  | o :: l1, l2, ws, fr, st, Z, h => by
    obtain ⟨v, st1, h1, h2, h3⟩ := exW_cons h
    obtain ⟨fr2, st2, ws2, h4, h5⟩ := exW_app l1 h3
    exact ⟨fr2, st2, ws2, exW_mk h1 h2 h4, h5⟩

/-- slots that nobody asks for may hold anything -/
theorem exOps_any : ∀ (l : List AOp) {d : Nat} {v : AV} {fr fr' : List AV} {st st' : St}, (∀ y ∈ l, d ∉ y.slots ∧ y.dst ≠ some d) → exOps O l fr st = some (fr', st') → exOps O l (fr.set d v) st = some (fr'.set d v, st')
  | [], _, _, _, _, _, _, _, h => by
    simp only [exOps, Option.some.injEq, Prod.mk.injEq] at h ⊢
    exact ⟨by rw [h.1], h.2⟩
  | y :: l, d, v, fr, fr', st, st', hy, h => by
    obtain ⟨h1, h2⟩ := hy y (List.mem_cons_self ..)
    simp only [exOps, exStep_eq] at h ⊢
    have e : exG O y (fr.set d v) st = exG O y fr st := exG_put (d := some d) (v := v) (fr := fr) (st := st) (o := y) (by rintro k hk; cases hk; exact h1)
    rw [e]
    split at h
    · rename_i q s hq
      split at hq
      · rename_i u s2 hu
        simp only [Option.some.injEq, Prod.mk.injEq] at hq
        obtain ⟨rfl, rfl⟩ := hq
        have e2 : put (fr.set d v) y.dst u = (put fr y.dst u).set d v := put_comm (d := some d) (e := y.dst) (fr := fr) (v := v) (u := u) (by rintro k hk; cases hk; exact h2)
        simp only [hu, e2]
        exact exOps_any l (fun z hz => hy z (List.mem_cons_of_mem _ hz)) h
      · cases hq
    · cases h

def anyAll : List Nat → List AV → List AV
  | [], fr => fr
  | d :: ds, fr => anyAll ds (fr.set d .any)

theorem exOps_anyAll : ∀ (ds : List Nat) {l : List AOp} {fr fr' : List AV} {st st' : St}, (∀ d ∈ ds, ∀ y ∈ l, d ∉ y.slots ∧ y.dst ≠ some d) → exOps O l fr st = some (fr', st') → exOps O l (anyAll ds fr) st = some (anyAll ds fr', st')
  | [], _, _, _, _, _, _, h => h
  | d :: ds, l, _, _, _, _, hd, h => exOps_anyAll ds (fun d hd' => hd d (List.mem_cons_of_mem _ hd')) (exOps_any l (hd d (List.mem_cons_self ..)) h)

theorem rep_anyAll {E : Env} {n : Nat} {w : World} {vs : List Value} : ∀ (ds : List Nat) {fr : List AV}, RepL E n w fr vs → RepL E n w (anyAll ds fr) vs
  | [], _, h => h
  | d :: ds, fr, h => rep_anyAll ds (by
    refine ⟨by simpa using h.len, fun j x u hx hu => ?_⟩
    rw [List.getElem?_set] at hx
    split at hx
    · split at hx
      · obtain rfl := Option.some.inj hx; exact .any _
      · cases hx
    · exact h.at_ j x u hx hu)

theorem slot_anyAll : ∀ (ds : List Nat) {fr : List AV} {d : Nat}, (d ∈ ds ∨ slot fr d = .any) → slot (anyAll ds fr) d = .any
  | [], _, _, h => h.resolve_left (by simp)
  | e :: ds, fr, d, h => slot_anyAll ds (by
    by_cases q : d = e
    · subst q
      right
      simp only [slot, List.getD_eq_getElem?_getD, List.getElem?_set, if_true]
      split <;> rfl
    · rcases h with h | h
      · exact .inl ((List.mem_cons.1 h).resolve_left q)
      · right
        rw [slot_set (fun x => q x.symm)]
        exact h)

def dstsOf : List AOp → List Nat
  | [] => []
  | y :: l => (match y.dst with | some d => [d] | none => []) ++ dstsOf l

theorem als_set : ∀ (als : List AOp) {fr : List AV} {st : St} {d : Nat} {v : AV}, (∀ y ∈ als, ∃ d ty z, y = ⟨some d, .alloc ty z, none⟩) → d ∈ dstsOf als → exOps O als (fr.set d v) st = exOps O als fr st
  | [], _, _, _, _, _, h => by simp [dstsOf] at h
  | y :: als, fr, st, d, v, hy, h => by
    obtain ⟨e, ty, z, rfl⟩ := hy y (List.mem_cons_self ..)
    simp only [exOps, exStep, exOp, put]
    by_cases q : d = e
    · subst q; rw [List.set_set]
    · rw [List.set_comm _ _ q]
      exact als_set als (fun y hy' => hy y (List.mem_cons_of_mem _ hy')) (by
        simp only [dstsOf, List.cons_append, List.nil_append, List.mem_cons] at h
        exact h.resolve_left q)

theorem als_anyAll (als : List AOp) (hy : ∀ y ∈ als, ∃ d ty z, y = ⟨some d, .alloc ty z, none⟩) : ∀ (ds : List Nat) {fr : List AV} {st : St}, (∀ d ∈ ds, d ∈ dstsOf als) → exOps O als (anyAll ds fr) st = exOps O als fr st
  | [], _, _, _ => rfl
  | d :: ds, fr, st, h => by
    rw [anyAll, als_anyAll als hy ds (fun d hd => h d (List.mem_cons_of_mem _ hd)), als_set als hy (h d (List.mem_cons_self ..))]

theorem mem_dstsOf {als : List AOp} {d : Nat} : d ∈ dstsOf als ↔ ∃ y ∈ als, y.dst = some d := by
  induction als with
  | nil => simp [dstsOf]
  | cons y als ih =>
    simp only [dstsOf, List.mem_append, ih, List.mem_cons, exists_eq_or_imp]
    refine or_congr ?_ Iff.rfl
    cases y.dst <;> simp [eq_comm]

theorem takeWhile_all {α : Type} {p : α → Bool} {l : List α} {y : α} (h : y ∈ l.takeWhile p) : p y = true := by
  induction l with
  | nil => cases h
  | cons x l ih =>
    rw [List.takeWhile_cons] at h
    split at h
    · rcases List.mem_cons.1 h with rfl | h
      · assumption
      · exact ih h
    · cases h

theorem isAl_get {y : AOp} (h : isAl y = true) : ∃ d ty z, y = ⟨some d, .alloc ty z, none⟩ := by
  obtain ⟨dst, op, g⟩ := y
  unfold isAl at h
  split at h
  · rename_i ty z d h1 h2 h3
    simp only at h1 h2 h3
    subst h1 h2 h3
    exact ⟨d, ty, z, rfl⟩
  · cases h

theorem apartAll_get : ∀ {l : List AOp}, apartAll l = true → ∀ (i j : Nat) x y, i < j → l[i]? = some x → l[j]? = some y → slotsApart x y = true
  | [], _, i, j, x, y, _, h, _ => by simp at h
  | z :: l, h, i, j, x, y, hij, hi, hj => by
    simp only [apartAll, Bool.and_eq_true, List.all_eq_true] at h
    cases j with
    | zero => omega
    | succ j =>
      cases i with
      | zero =>
        simp at hi hj
        subst hi
        exact h.1 y (List.mem_of_getElem? hj)
      | succ i => exact apartAll_get h.2 i j x y (by omega) (by simpa using hi) (by simpa using hj)

theorem map_range_get {α : Type} (l m : List α) : (List.range l.length).map (fun (j : Nat) => (l ++ m)[j]?) = l.map some := by
  apply List.ext_getElem?
  intro i
  by_cases hi : i < l.length
  · simp [hi, List.getElem?_append_left hi]
  · simp [hi]

/-- a statement of open order that makes several objects -/
theorem drawP_sound (H : SndO P T O) (HP : OPure T O) {ops : Array Oper} {xs : List AOp} (hops : ∀ (i : Nat) x, xs[i]? = some x → ∃ o, ops[i]? = some o ∧ chkOper P ops o x = true) (hlen : ops.size = xs.length) (hd : drawP T ops xs = true) (t : Nat)
    (b : Frame) (k : List Item) (cs : List Frame) {fr fr' : List AV} {a : Act} (h : exW O xs [] fr st = some (fr', st')) (hr : st.ro ≤ st.objs.length) (S : Sim P T E st w) (F : RepL E st.objs.length w fr a.tmps.toList) :
    ∃ E' a' w', Sim P T E' st' w' ∧ RepL E' st'.objs.length w' fr' a'.tmps.toList ∧ a'.defers = a.defers ∧ Ext E st.objs.length w E' st'.objs.length w' ∧
      Steps P (lone (on b a (.inRegion ops (Region.schedule true ops t) :: k)) cs w) (lone (on b a' k) cs w') := by
  simp only [drawP, Bool.and_eq_true, List.all_eq_true, List.mem_range] at hd
  obtain ⟨⟨⟨⟨hed, hfr⟩, hap⟩, hdd⟩, hrest⟩ := hd
  obtain ⟨p, hp⟩ := schedule_ok hed t
  have hxs : xs = cut1 xs ++ (cut2 xs ++ cut3 xs) := by
    simp only [cut1, cut2, cut3, List.takeWhile_append_dropWhile]
  generalize cut1 xs = l at *
  generalize hg2 : cut2 xs = als at *
  generalize cut3 xs = rest at *
  have hal : ∀ y ∈ als, ∃ d ty z, y = ⟨some d, .alloc ty z, none⟩ := fun y hy => by
    rw [← hg2] at hy
    exact isAl_get (takeWhile_all hy)
  clear hg2
  obtain ⟨c, hc⟩ : ∃ c, c = l.length := ⟨_, rfl⟩
  obtain ⟨e, he⟩ : ∃ e, e = l.length + als.length := ⟨_, rfl⟩
  have hN : xs.length = e + rest.length := by rw [hxs, he]; simp; omega
  have g1 : ∀ i, i < c → xs[i]? = l[i]? := fun i hi => by rw [hxs, List.getElem?_append_left (by omega)]
  have g2 : ∀ i, i < als.length → xs[c + i]? = als[i]? := fun i hi => by
    rw [hxs, List.getElem?_append_right (by omega), List.getElem?_append_left (by omega)]
    congr 1; omega
  -- the interpreter
  rw [hxs] at h
  obtain ⟨fr1, st1, ws1, h1, h8⟩ := exW_app l h
  obtain ⟨fr2, st2, ws2, h2', h9⟩ := exW_app als h8
  have h2 := exW_ops _ h2'
  have h3 := exW_ops _ h9
  clear h h8 h9 h2'
  -- the order
  have hbef : ∀ a' b', a' < xs.length → e ≤ a' → b' < a' → bef ops a' b' = true := fun a' b' h4 h5 h6 => by
    have := hrest (a' - e) (by omega) b' (by omega)
    rw [show l.length + als.length + (a' - e) = a' by omega] at this
    exact this
  have hL := high_sorted e ops.size (by omega) p (by
    refine List.Pairwise.imp_of_mem (fun {x y} hx hy hxy hh => ?_) hp
    have hx' : x < ops.size := by simpa using p.subset hx
    rw [hbef x y (by omega) hh.1 hh.2] at hxy
    cases hxy)
  have hp1 : ((Region.schedule true ops t).filter fun i => decide (i < e)).Perm (List.range e) := by
    refine (p.filter _).trans ?_
    have : (List.range ops.size).filter (fun i => decide (i < e)) = List.range e := by
      rw [show ops.size = e + (ops.size - e) by omega, List.range_add, List.filter_append]
      have f1 : (List.range e).filter (fun i => decide (i < e)) = List.range e := List.filter_eq_self.2 fun b hb => by simpa using hb
      have f2 : ((List.range (ops.size - e)).map (e + ·)).filter (fun i => decide (i < e)) = [] := List.filter_eq_nil_iff.2 fun b hb => by
        obtain ⟨k, _, rfl⟩ := List.mem_map.1 hb
        simp
      rw [f1, f2, List.append_nil]
    rw [this]
  have hpw1 := hp.filter fun i => decide (i < e)
  generalize (Region.schedule true ops t).filter (fun i => decide (i < e)) = L1 at hL hp1 hpw1
  have hp2 : (L1.filter fun i => decide (i < c)).Perm (List.range c) := by
    refine (hp1.filter _).trans ?_
    have : (List.range e).filter (fun i => decide (i < c)) = List.range c := by
      rw [show e = c + (e - c) by omega, List.range_add, List.filter_append]
      have f1 : (List.range c).filter (fun i => decide (i < c)) = List.range c := List.filter_eq_self.2 fun b hb => by simpa using hb
      have f2 : ((List.range (e - c)).map (c + ·)).filter (fun i => decide (i < c)) = [] := List.filter_eq_nil_iff.2 fun b hb => by
        obtain ⟨k, _, rfl⟩ := List.mem_map.1 hb
        simp
      rw [f1, f2, List.append_nil]
    rw [this]
  obtain ⟨l', hl', hx'⟩ := exW_any HP l (bef ops) (fun i j x y hij hx hy => by
    have := drawFromW_spec l 0 hfr j y hy i (by omega) x hx
    rw [Nat.zero_add] at this
    exact this) _ (List.range c) l hp2 List.pairwise_lt_range (hpw1.filter _) (by
      rw [hc]
      have := map_range_get l []
      simpa using this) h1
  have hx1 := exW_ops _ hx'
  have hl2 : (L1.filter fun i => decide (i < c)).map (fun (j : Nat) => xs[j]?) = l'.map some := by
    rw [← hl']
    refine List.map_congr_left fun j hj => ?_
    exact g1 j (by simpa using (List.mem_filter.1 hj).2)
  have hmem : ∀ y ∈ l', y ∈ l := fun y hy => by
    have : some y ∈ l'.map some := List.mem_map_of_mem hy
    rw [← hl'] at this
    obtain ⟨j, _, hj⟩ := List.mem_map.1 this
    exact List.mem_of_getElem? hj
  -- places that nobody asks for
  have hsl : ∀ d ∈ dstsOf als, ∀ y ∈ l', d ∉ y.slots ∧ y.dst ≠ some d := fun d hd y hy => by
    obtain ⟨q, hq, e1⟩ := mem_dstsOf.1 hd
    obtain ⟨s1, s2, s3⟩ := slotsApart_spec (hap y (hmem y hy) q hq)
    exact ⟨s3 d e1, fun e2 => s2 d e2 e1⟩
  have hx2 := exOps_anyAll (dstsOf als) hsl hx1
  have h2a : exOps O als (anyAll (dstsOf als) fr1) st1 = some (fr2, st2) := by rw [als_anyAll als hal _ fun _ h => h]; exact h2
  have hAl : ∀ j d ty z, c ≤ j → j < e → alAt xs j d ty z → als[j - c]? = some ⟨some d, .alloc ty z, none⟩ := fun j d ty z h4 h5 h6 => by
    have := g2 (j - c) (by omega)
    rw [show c + (j - c) = j by omega] at this
    rw [← this]; exact h6
  obtain ⟨E1, a1, w1, bl, S1, F1, d1, X1, r1, P1, I1⟩ := merge H hops b k cs w.heap.size c e (List.range' e (ops.size - e))
    (fun j h4 h5 => by
      have hlt : j - c < als.length := by omega
      obtain ⟨d, ty, z, hq⟩ := hal als[j - c] (List.getElem_mem hlt)
      refine ⟨d, ty, z, ?_⟩
      have := g2 (j - c) hlt
      rw [show c + (j - c) = j by omega, List.getElem?_eq_getElem hlt, hq] at this
      exact this)
    (fun j d ty z h4 h5 h6 i y hi hy => by
      rw [g1 i hi] at hy
      obtain ⟨s1, s2, s3⟩ := slotsApart_spec (hap y (List.mem_of_getElem? hy) _ (List.mem_of_getElem? (hAl j d ty z h4 h5 h6)))
      exact fun e2 => s2 d e2 rfl)
    (fun j j' d d' ty ty' z z' h4 h5 h6 h7 hne ha hb => by
      have ha' := hAl j d ty z h4 h5 ha
      have hb' := hAl j' d' ty' z' h6 h7 hb
      rcases Nat.lt_or_ge j j' with hlt | hge
      · obtain ⟨s1, s2, s3⟩ := slotsApart_spec (apartAll_get hdd (j - c) (j' - c) _ _ (by omega) ha' hb')
        exact fun e2 => s2 d rfl (by rw [e2])
      · obtain ⟨s1, s2, s3⟩ := slotsApart_spec (apartAll_get hdd (j' - c) (j - c) _ _ (by omega) hb' ha')
        exact fun e2 => s2 d' rfl (by rw [e2]))
    L1 l' (fun _ => False) (fun _ => 0) (hp1.symm.nodup List.nodup_range) (fun j hj => ⟨by simpa using hp1.subset hj, id⟩) (fun _ h => h.elim) hl2 hx2
    (fun j d ty z h4 h5 h6 => slot_anyAll _ (.inl (mem_dstsOf.2 ⟨_, List.mem_of_getElem? (hAl j d ty z h4 h5 h6), rfl⟩)))
    hr S (rep_anyAll _ F) (fun _ h => h.elim) (fun _ _ h => h.elim) (Nat.le_refl _)
  have inM : ∀ i, i < als.length → (False ∨ (c + i ∈ L1 ∧ c ≤ c + i)) := fun i hi => .inr ⟨hp1.symm.subset (by simp; omega), by omega⟩
  obtain ⟨E2, S2, F2, q3, q4, q5, q6⟩ := adopt_all (P := P) (T := T) (O := O) (N0 := w.heap.size) bl als c (fun i y hy => ⟨hal y (List.mem_of_getElem? hy), by rw [g2 i (lt_of_get hy)]; exact hy⟩) h2a S1 F1
    (fun i hi => P1 _ (inM i hi)) (fun i i' hi hi' hne => I1 _ _ (inM i hi) (inM i' hi') (by omega))
  have kl := exOps_keep H.keep l' hx2 hr
  have ka := exOps_keep H.keep als h2a (by rw [kl.1.ro]; exact Nat.le_trans hr kl.1.len)
  have X2 : Ext E st.objs.length w E2 st2.objs.length w1 := ⟨Nat.le_trans X1.n_le q3, fun r hr' => (q4 r (Nat.lt_of_lt_of_le hr' X1.n_le)).trans (X1.L r hr'), fun b hb => q5 b (X1.F b hb), fun b hb => q6 b (X1.G b hb) (S.fro b (.inr hb)),
    X1.mem, X1.os, X1.tape, X1.output, X1.size⟩
  obtain ⟨E3, a3, w3, S3, F3, d3, X3, r3⟩ := list_sound H hops b k cs (List.range' e (ops.size - e)) rest (by
      have hs : ops.size - e = rest.length := by omega
      rw [hs]
      apply List.ext_getElem?
      intro i
      by_cases hi : i < rest.length
      · have e1 : xs[e + i]? = rest[i]? := by
          rw [hxs, List.getElem?_append_right (by omega), List.getElem?_append_right (by omega)]
          congr 1; omega
        simp [hi, e1]
      · simp [hi]) h3 (by rw [ka.1.ro, kl.1.ro]; exact Nat.le_trans hr (Nat.le_trans kl.1.len ka.1.len)) S2 F2
  refine ⟨E3, a3, w3, S3, F3, d3.trans d1, X2.trans X3, ?_⟩
  rw [hL]
  exact r1.trans r3

end
end Go.Proofs.Ytgabnhmjlhhojaa.A
