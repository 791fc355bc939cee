/- Evaluation does not see what lies below in the store: functions, and so a call without arguments that gives a plain value. -/
import Derived.Test.YtgabnhmjlhhojaaShift2
import Derived.Test.YtgabnhmjlhhojaaCode
import Derived.KernelRfl
namespace Go.Proofs.Ytgabnhmjlhhojaa.A
open Go
set_option linter.unusedSimpArgs false
set_option linter.unusedVariables false

theorem sh_mapO {n : Nat} {f g : AV → Option AV} (h : ∀ v, f (shV n v) = (g v).map (shV n)) : ∀ l : List AV, mapO f (shL n l) = (mapO g l).map (shL n)
  | [] => rfl
  | v :: l => by
    simp only [shL, mapO, h, sh_mapO h l]
    cases g v with
    | none => rfl
    | some y =>
      simp only [Option.map_some]
      cases mapO g l <;> simp [shL]

theorem sh_mapOO {n : Nat} {f g : AV → Option AV} (h : ∀ v, f (shV n v) = (g v).map (shV n)) : ∀ l : List (List AV), mapO (mapO f) (shLL n l) = (mapO (mapO g) l).map (shLL n)
  | [] => rfl
  | v :: l => by
    simp only [shLL, mapO, sh_mapO h, sh_mapOO h l]
    cases mapO g v with
    | none => rfl
    | some y =>
      simp only [Option.map_some]
      cases mapO (mapO g) l <;> simp [shLL]

theorem sh_deep (o k : List Obj) (m : Nat) : ∀ (n : Nat) (v : AV), deep n (o.length + m) (o ++ k.map (shO o.length)) (shV o.length v) = (deep n m k v).map (shV o.length)
  | 0, _ => rfl
  | n + 1, v => by
    have get : ∀ r : Nat, (o ++ k.map (shO o.length))[o.length + r]? = (k[r]?).map (shO o.length) := fun r => by
      rw [List.getElem?_append_right (by omega), Nat.add_sub_cancel_left, List.getElem?_map]
    have hfl := sh_flat o.length v
    cases v with
    | own r lo c f =>
      simp only [shV, deep, get]
      by_cases hr : r < m
      · rw [if_pos hr, if_pos (by omega)]; rfl
      · rw [if_neg hr, if_neg (by omega)]
        cases k[r]? with
        | none => rfl
        | some x =>
          cases x with
          | arr ty sz es =>
            simp only [Option.map_some, shO, shLL_len, shLL_drop, shLL_take, sh_mapOO (sh_deep o k m n)]
            split
            · cases mapO (mapO (deep n m k)) (List.take c (List.drop lo es)) <;> simp [shV]
            · rfl
          | _ => rfl
    | fsl sz es =>
      simp only [shV, deep, sh_flatLL]
      split <;> simp [shV]
    | ptr r i off => rfl
    | yld r => rfl
    | vptr cs =>
      simp only [shV] at hfl
      simp only [shV, deep, hfl]
      split <;> simp [shV]
    | sl sz es =>
      simp only [shV] at hfl
      simp only [shV, deep, hfl]
      split <;> simp [shV]
    | agg cs =>
      simp only [shV] at hfl
      simp only [shV, deep, hfl]
      split <;> simp [shV]
    | tup cs =>
      simp only [shV] at hfl
      simp only [shV, deep, hfl]
      split <;> simp [shV]
    | fn f a b =>
      simp only [shV] at hfl
      simp only [shV, deep, hfl]
      split <;> simp [shV]
    | _ => simp [shV, deep, AV.flat]

theorem sh_hand0 (o k : List Obj) (m : Nat) (v : AV) : hand0 (o.length + m) (o ++ k.map (shO o.length)) (shV o.length v) = (hand0 m k v).map (shV o.length) := by
  have get : ∀ r : Nat, (o ++ k.map (shO o.length))[o.length + r]? = (k[r]?).map (shO o.length) := fun r => by
    rw [List.getElem?_append_right (by omega), Nat.add_sub_cancel_left, List.getElem?_map]
  cases v with
  | ptr r i off =>
    simp only [shV, hand0, get]
    by_cases hr : r < m
    · rw [if_pos hr, if_pos (by omega)]; simp [shV]
    · rw [if_neg hr, if_neg (by omega)]
      cases k[r]? with
      | none => rfl
      | some x =>
        cases x with
        | arr ty sz es =>
          simp only [Option.map_some, shO, shLL_get]
          cases es[i]? with
          | none => rfl
          | some e =>
            simp only [Option.map_some, sh_flatL, shL_drop]
            split <;> simp [shV]
        | _ => rfl
  | own r lo n f =>
    simp only [shV, hand0, get]
    by_cases hr : r < m
    · rw [if_pos hr, if_pos (by omega)]; simp [shV]
    · rw [if_neg hr, if_neg (by omega)]
      cases k[r]? with
      | none => rfl
      | some x =>
        cases x with
        | arr ty sz es =>
          have hd := sh_deep o k m 100000 (.own r lo n f)
          simp only [shV] at hd
          simp only [Option.map_some, shO, shLL_len, sh_flatLL, shLL_drop, shLL_take, hd]
          split <;> simp [shV]
        | _ => rfl
  | fsl sz es =>
    simp only [shV, hand0, sh_flatLL]
    split <;> simp [shV]
  | yld r =>
    simp only [shV, hand0]
    by_cases hr : r < m
    · rw [if_pos hr, if_pos (by omega)]; simp [shV]
    · rw [if_neg hr, if_neg (by omega)]; rfl
  | vptr cs =>
    have h := sh_flat o.length (.vptr cs)
    simp only [shV] at h
    simp only [shV, hand0, h]
    split <;> simp [shV]
  | sl sz es =>
    have h := sh_flat o.length (.sl sz es)
    simp only [shV] at h
    simp only [shV, hand0, h]
    split <;> simp [shV]
  | agg cs =>
    have h := sh_flat o.length (.agg cs)
    simp only [shV] at h
    simp only [shV, hand0, h]
    split <;> simp [shV]
  | tup cs =>
    have h := sh_flat o.length (.tup cs)
    simp only [shV] at h
    simp only [shV, hand0, h]
    split <;> simp [shV]
  | fn f a b =>
    have h := sh_flat o.length (.fn f a b)
    simp only [shV] at h
    simp only [shV, hand0, h]
    split <;> simp [shV]
  | _ => simp [shV, hand0, AV.flat]

theorem sh_hand1 (o k : List Obj) (m : Nat) (v : AV) : hand1 (o.length + m) (o ++ k.map (shO o.length)) (shV o.length v) = (hand1 m k v).map (shV o.length) := by
  have h0 := sh_mapO (sh_hand0 o k m)
  cases v with
  | agg cs =>
    simp only [shV, hand1, h0]
    cases mapO (hand0 m k) cs <;> simp [shV]
  | fn f a b =>
    simp only [shV, hand1, h0]
    cases mapO (hand0 m k) a with
    | none => rfl
    | some a' =>
      simp only [Option.map_some]
      cases mapO (hand0 m k) b <;> simp [shV]
  | ptr r i off => exact sh_hand0 o k m (.ptr r i off)
  | own r lo n f => exact sh_hand0 o k m (.own r lo n f)
  | yld r => exact sh_hand0 o k m (.yld r)
  | mref r => exact sh_hand0 o k m (.mref r)
  | vptr cs => exact sh_hand0 o k m (.vptr cs)
  | sl sz es => exact sh_hand0 o k m (.sl sz es)
  | fsl sz es => exact sh_hand0 o k m (.fsl sz es)
  | tup cs => exact sh_hand0 o k m (.tup cs)
  | any => exact sh_hand0 o k m .any
  | bool b => exact sh_hand0 o k m (.bool b)
  | int a b => exact sh_hand0 o k m (.int a b)
  | str s => exact sh_hand0 o k m (.str s)
  | nilf => exact sh_hand0 o k m .nilf
  | nilp => exact sh_hand0 o k m .nilp
  | nils => exact sh_hand0 o k m .nils
  | emps => exact sh_hand0 o k m .emps

theorem sh_hand (o k : List Obj) (m : Nat) (v : AV) : hand (o.length + m) (o ++ k.map (shO o.length)) (shV o.length v) = (hand m k v).map (shV o.length) := by
  have h1 := sh_mapO (sh_hand1 o k m)
  cases v with
  | tup cs =>
    simp only [shV, hand, h1]
    cases mapO (hand1 m k) cs <;> simp [shV]
  | agg cs => exact sh_hand1 o k m (.agg cs)
  | fn f a b => exact sh_hand1 o k m (.fn f a b)
  | ptr r i off => exact sh_hand1 o k m (.ptr r i off)
  | own r lo n f => exact sh_hand1 o k m (.own r lo n f)
  | yld r => exact sh_hand1 o k m (.yld r)
  | mref r => exact sh_hand1 o k m (.mref r)
  | vptr cs => exact sh_hand1 o k m (.vptr cs)
  | sl sz es => exact sh_hand1 o k m (.sl sz es)
  | fsl sz es => exact sh_hand1 o k m (.fsl sz es)
  | any => exact sh_hand1 o k m .any
  | bool b => exact sh_hand1 o k m (.bool b)
  | int a b => exact sh_hand1 o k m (.int a b)
  | str s => exact sh_hand1 o k m (.str s)
  | nilf => exact sh_hand1 o k m .nilf
  | nilp => exact sh_hand1 o k m .nilp
  | nils => exact sh_hand1 o k m .nils
  | emps => exact sh_hand1 o k m .emps

section
variable {o : List Obj} {O : Orc} (E : Eqv o O) (hg : ∀ g cs n, globs g = some cs → shL n cs = cs)
include E hg

theorem sh_exFn (F : AF) (args : List AV) (st : St) : exFn O (shF o.length F) (shL o.length args) (shS o st) = (exFn O F args st).map (shP o) := by
  obtain ⟨nt, rs, body, pu⟩ := F
  have hk : ∀ st' : St, killAll (shS o st').df (shS o st').objs = o ++ (killAll st'.df st'.objs).map (shO o.length) := fun st' => by
    simp only [shS]; exact sh_kill _ _
  have e1 : ∀ st' : St, ({ shS o st' with objs := killAll (shS o st').df (shS o st').objs } : St) = shS o { st' with objs := killAll st'.df st'.objs } := fun st' => by
    rw [hk]; rfl
  have er : shL o.length args ++ List.replicate (nt - args.length) AV.any = shL o.length (args ++ List.replicate (nt - args.length) AV.any) := by rw [shL_app, ← shL_rep]
  cases pu with
  | true =>
    simp only [exFn, shF, shL_len, if_true]
    split
    · rfl
    · have e0 : ({ objs := (shS o st).objs, ro := (shS o st).objs.length, df := [] } : St) = shS o { objs := st.objs, ro := st.objs.length, df := [] } := by simp [shS]
      rw [e0, er, sh_exC E hg]
      cases exC O false body (args ++ List.replicate (nt - args.length) .any) { objs := st.objs, ro := st.objs.length, df := [] } with
      | none => rfl
      | some p =>
        obtain ⟨e, fr, st'⟩ := p
        have main : (match resOf { shS o st' with objs := killAll (shS o st').df (shS o st').objs } (shL o.length fr) rs with
            | some vs => (match hand (shS o st).objs.length (killAll (shS o st').df (shS o st').objs) (tupOf vs) with | some v => some (v, shS o st) | none => none)
            | none => none) =
            (match resOf { st' with objs := killAll st'.df st'.objs } fr rs with
            | some vs => (match hand st.objs.length (killAll st'.df st'.objs) (tupOf vs) with | some v => some (v, st) | none => none)
            | none => none).map (shP o) := by
          rw [e1, sh_resOf]
          cases resOf { st' with objs := killAll st'.df st'.objs } fr rs with
          | none => rfl
          | some vs =>
            simp only [Option.map_some, sh_tupOf]
            rw [hk, sh_len, sh_hand]
            cases hand st.objs.length (killAll st'.df st'.objs) (tupOf vs) <;> simp [shP]
        cases e with
        | exit i => rfl
        | norm => exact main
        | ret => exact main
  | false =>
    simp only [exFn, shF, shL_len, Bool.false_eq_true, if_false]
    split
    · rfl
    · have e0 : ({ objs := (shS o st).objs, ro := (shS o st).ro, df := [] } : St) = shS o { objs := st.objs, ro := st.ro, df := [] } := by simp [shS]
      rw [e0, er, sh_exC E hg]
      cases exC O false body (args ++ List.replicate (nt - args.length) .any) { objs := st.objs, ro := st.ro, df := [] } with
      | none => rfl
      | some p =>
        obtain ⟨e, fr, st'⟩ := p
        have main : (match resOf { shS o st' with objs := killAll (shS o st').df (shS o st').objs } (shL o.length fr) rs with
            | some vs => some (tupOf vs, ({ objs := killAll (shS o st').df (shS o st').objs, ro := (shS o st).ro, df := (shS o st).df } : St))
            | none => none) =
            (match resOf { st' with objs := killAll st'.df st'.objs } fr rs with
            | some vs => some (tupOf vs, ({ objs := killAll st'.df st'.objs, ro := st.ro, df := st.df } : St))
            | none => none).map (shP o) := by
          rw [e1, sh_resOf]
          cases resOf { st' with objs := killAll st'.df st'.objs } fr rs with
          | none => rfl
          | some vs =>
            simp only [Option.map_some, sh_tupOf, shP]
            rw [hk]; rfl
        cases e with
        | exit i => rfl
        | norm => exact main
        | ret => exact main

end

theorem sh_strs (n : Nat) : ∀ es : List (List AV), strsOf (shLL n es) = strsOf es
  | [] => rfl
  | [] :: l => by simp [shLL, shL, strsOf]
  | [v] :: l => by
    have := sh_strs n l
    cases v <;> simp [shLL, shL, shV, strsOf, this]
  | (v :: w :: r) :: l => by
    cases v <;> simp [shLL, shL, shV, strsOf]

theorem sh_ints (n : Nat) : ∀ es : List (List AV), intsOf (shLL n es) = intsOf es
  | [] => rfl
  | [] :: l => by simp [shLL, shL, intsOf]
  | [v] :: l => by
    have := sh_ints n l
    cases v with
    | int k x => cases k <;> simp [shLL, shL, shV, intsOf, this]
    | _ => simp [shLL, shL, shV, intsOf]
  | (v :: w :: r) :: l => by
    cases v with
    | int k x => cases k <;> simp [shLL, shL, shV, intsOf]
    | _ => simp [shLL, shL, shV, intsOf]

theorem sh_mks {α : Type} (n : Nat) {mk : α → AV} (hm : ∀ x, shV n (mk x) = mk x) (l : List α) : shLL n (l.map fun x => [mk x]) = l.map fun x => [mk x] := by
  induction l with
  | nil => rfl
  | cons x l ih => simp only [List.map_cons, shLL, shL, hm, ih]

theorem sh_sort {α : Type} {get : List (List AV) → Option (List α)} {mk : α → AV} {lt : α → α → Bool} (o : List Obj) (hget : ∀ n es, get (shLL n es) = get es) (hm : ∀ n x, shV n (mk x) = mk x) (a : List AV) (st : St) :
    exSort get mk lt (shL o.length a) (shS o st) = (exSort get mk lt a st).map (shP o) := by
  match a with
  | [] => rfl
  | v :: w :: l => cases v <;> simp [shL, shV, exSort]
  | [v] =>
    cases v with
    | sl sz es => cases es <;> simp [shL, shLL, shV, exSort, shP]
    | fsl sz es => cases es <;> simp [shL, shLL, shV, exSort, shP]
    | own r lo n f =>
      simp only [shL, shV, exSort, sh_arr]
      cases st.arr? r with
      | none => rfl
      | some p =>
        obtain ⟨ty, sz, es⟩ := p
        have hro : ((shS o st).ro ≤ o.length + r) ↔ (st.ro ≤ r) := by simp [shS]
        simp only [Option.map_some, shLL_len, hro, hget]
        split
        · cases get es with
          | none => rfl
          | some l =>
            have := sh_mks o.length (hm o.length) (isort lt l)
            simp only [Option.map_some, shP, shV, shL, ← sh_set, shO, this]
        · rfl
    | _ => simp [shL, shV, exSort]

theorem sh_comp {α : Type} {get : List (List AV) → Option (List α)} {mk : α → AV} {z : α} {eq : α → α → Bool} (o : List Obj) (hget : ∀ n es, get (shLL n es) = get es) (hm : ∀ n x, shV n (mk x) = mk x) (a : List AV) (st : St) :
    exComp get mk z eq (shL o.length a) (shS o st) = (exComp get mk z eq a st).map (shP o) := by
  match a with
  | [] => rfl
  | v :: w :: l => cases v <;> simp [shL, shV, exComp]
  | [v] =>
    cases v with
    | sl sz es => cases es <;> simp [shL, shLL, shV, exComp, shP]
    | fsl sz es => cases es <;> simp [shL, shLL, shV, exComp, shP]
    | own r lo n f =>
      cases f with
      | true => simp [shL, shV, exComp]
      | false =>
        simp only [shL, shV, exComp, sh_arr]
        cases st.arr? r with
        | none => rfl
        | some p =>
          obtain ⟨ty, sz, es⟩ := p
          have hro : ((shS o st).ro ≤ o.length + r) ↔ (st.ro ≤ r) := by simp [shS]
          simp only [Option.map_some, shLL_len, hro, hget]
          split
          · cases get es with
            | none => rfl
            | some l =>
              have := sh_mks o.length (hm o.length) (dedup eq l ++ List.replicate (l.length - (dedup eq l).length) z)
              simp only [Option.map_some, shP, shV, ← sh_set, shO, this]
          · rfl
    | _ => simp [shL, shV, exComp]

theorem sh_clone (ty sz bytes : Nat) (ow : Bool) (o : List Obj) (a : List AV) (st : St) : exClone ty sz bytes ow (shL o.length a) (shS o st) = (exClone ty sz bytes ow a st).map (shP o) := by
  match a with
  | [] => rfl
  | v :: w :: l => simp [shL, exClone]
  | [v] =>
    simp only [shL, exClone, sh_elems]
    cases elems st v with
    | none => rfl
    | some p =>
      obtain ⟨s, es⟩ := p
      cases es with
      | nil => simp [shLL, shV, shP]
      | cons e es =>
        have hf := sh_flatLL o.length (e :: es)
        simp only [shLL] at hf
        have hp := sh_push (o := o) (st := st) (.arr ty sz (e :: es))
        simp only [shO, shLL] at hp
        simp only [Option.map_some, shLL, shLL_len, hf]
        split
        · cases ow with
          | true => simp only [cond_true, Option.map_some, shP, shV, sh_len, hp]
          | false =>
            simp only [cond_false]
            split <;> simp [shP, shV, shLL]
        · rfl

theorem sh_str (n : Nat) (x : ByteArray) : shV n (.str x) = .str x := by simp [shV]
theorem sh_int (n : Nat) (x : Int) : shV n (.int .i64 x) = .int .i64 x := by simp [shV]

theorem sh_ext (o : List Obj) (f : Nat) (a : List AV) (st : St) : ext f (shL o.length a) (shS o st) = (ext f a st).map (shP o) := by
  first
    | rfl
    | (unfold ext
       split
       all_goals first | exact sh_clone _ _ _ _ o a st | exact sh_sort o sh_strs sh_str a st | exact sh_comp o sh_strs sh_str a st | exact sh_sort o sh_ints sh_int a st | exact sh_comp o sh_ints sh_int a st | rfl)

theorem sh_orc {T : Tab} (hT : ∀ n f F, T f = some F → shF n F = F) (hg : ∀ g cs n, globs g = some cs → shL n cs = cs) (o : List Obj) : ∀ k, Eqv o (orc T k)
  | 0 => ⟨fun _ _ _ => rfl, fun _ _ _ => rfl, fun _ _ _ _ => rfl⟩
  | k + 1 => by
    have E := sh_orc hT hg o k
    refine ⟨fun f a st => ?_, fun r a st => ?_, fun rd c fr st => ?_⟩
    · simp only [orc]
      cases h : T f with
      | none => exact sh_ext o f a st
      | some F =>
        have := sh_exFn E hg F a st
        rw [hT _ f F h] at this
        exact this
    · exact sh_exYield E hg r a st
    · simp only [orc]
      rw [sh_exC E hg]
      cases exC (orc T k) rd c fr st with
      | none => rfl
      | some p =>
        obtain ⟨e, fr', st'⟩ := p
        cases e with
        | norm =>
          simp only [Option.map_some, shR]
          exact E.loop rd c fr' st'
        | exit i => rfl
        | ret => rfl

/-- what a call gives in the empty store it gives in any -/
theorem call_any {T : Tab} (hT : ∀ n f F, T f = some F → shF n F = F) (hg : ∀ g cs n, globs g = some cs → shL n cs = cs) {k f : Nat} {F : AF} (hF : T f = some F) (hp : F.pure = true) {v : AV} (hv : ∀ n, shV n v = v)
    (h : (orc T k).call f [] ⟨[], 0, []⟩ = some (v, ⟨[], 0, []⟩)) (o : List Obj) (ro : Nat) (df : List Nat) : (D T).call f [] ⟨o, ro, df⟩ = some (v, ⟨o, ro, df⟩) := by
  have E := sh_orc hT hg o k
  have h1 := E.call f [] ⟨[], 0, []⟩
  rw [h] at h1
  have h2 := (D_le T k).call _ _ _ _ h1
  simp only [shL, shP, hv, shS, List.map_nil, List.append_nil, Nat.add_zero] at h2
  rw [D_call T f F hF] at h2 ⊢
  unfold exFn at h2 ⊢
  rw [hp] at h2 ⊢
  simp only [if_true] at h2 ⊢
  by_cases hn : F.ntmps < ([] : List AV).length
  · rw [if_pos hn] at h2; cases h2
  · rw [if_neg hn] at h2 ⊢
    generalize exC (D T) false F.body ([] ++ List.replicate (F.ntmps - ([] : List AV).length) .any) { objs := o, ro := o.length, df := [] } = X at h2 ⊢
    rcases X with _ | ⟨e, fr, st'⟩
    · cases h2
    have main : (match resOf { objs := killAll st'.df st'.objs, ro := st'.ro, df := st'.df } fr F.results with
        | some vs => (match hand o.length (killAll st'.df st'.objs) (tupOf vs) with | some v => some (v, ({ objs := o, ro := o.length, df := [] } : St)) | none => none)
        | none => none) = some (v, { objs := o, ro := o.length, df := [] }) →
        (match resOf { objs := killAll st'.df st'.objs, ro := st'.ro, df := st'.df } fr F.results with
        | some vs => (match hand o.length (killAll st'.df st'.objs) (tupOf vs) with | some v => some (v, ({ objs := o, ro := ro, df := df } : St)) | none => none)
        | none => none) = some (v, { objs := o, ro := ro, df := df }) := by
      generalize resOf { objs := killAll st'.df st'.objs, ro := st'.ro, df := st'.df } fr F.results = Y
      intro h
      rcases Y with _ | vs
      · cases h
      simp only [] at h ⊢
      generalize hand o.length (killAll st'.df st'.objs) (tupOf vs) = Z at h ⊢
      rcases Z with _ | z
      · cases h
      simp only [Option.some.injEq, Prod.mk.injEq] at h ⊢
      exact ⟨h.1, trivial⟩
    cases e with
    | exit i => cases h2
    | norm => exact main h2
    | ret => exact main h2

end Go.Proofs.Ytgabnhmjlhhojaa.A
/- The page's example, in whatever store. -/
namespace Go.Proofs.Ytgabnhmjlhhojaa.A
open Go

theorem shTab : ∀ n f F, T f = some F → shF n F = F := by
  intro n f F h
  unfold T at h
  split at h
  all_goals first | (cases h; done) | (obtain rfl := Option.some.inj h; rfl)

theorem shGlobs : ∀ g cs n, globs g = some cs → shL n cs = cs := by
  intro g cs n h
  cases h

end Go.Proofs.Ytgabnhmjlhhojaa.A
/- The page's example, in whatever store. -/
namespace Go.Proofs.Ytgabnhmjlhhojaa.A
open Go

theorem goes_k : (orc T 100).call 10 [] ⟨[], 0, []⟩ = some (.bool true, ⟨[], 0, []⟩) := by kernel_rfl
theorem goes_any (o : List Obj) (ro : Nat) (df : List Nat) : (D T).call 10 [] ⟨o, ro, df⟩ = some (.bool true, ⟨o, ro, df⟩) :=
  call_any shTab shGlobs (by exact rfl) rfl (fun _ => rfl) goes_k o ro df

end Go.Proofs.Ytgabnhmjlhhojaa.A
