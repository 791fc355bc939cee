/- Operations on maps: what the interpreter gives, the model gives. -/
import Derived.Test.YtgabnhmjlhhojaaOps
import Derived.MapKept
import Derived.Laws.Externs
import Derived.KernelRfl
namespace Go.Proofs.Ytgabnhmjlhhojaa.A
open Go
set_option linter.unusedSimpArgs false
set_option linter.unusedVariables false

section
variable {P : Program} {O : Orc} {T : Tab} {E : Env} {st st' : St} {w : World} {fr : List AV} {a : Act} {o : Oper} {v : AV}

/-- a map's keys have this type -/
def KeyD (s : Bool) (d : TypeDesc) : Prop := match s with | true => d = .string | false => ∃ k, d = .int k
theorem keyB_get {t : Nat} {s : Bool} (h : keyB P t s = true) : ∃ d, P.underlying t = some d ∧ KeyD s d := by
  unfold keyB at h
  split at h
  · rename_i hu; subst h; exact ⟨_, hu, rfl⟩
  · rename_i k hu
    have : s = false := by simpa using h
    subst this
    exact ⟨_, hu, k, rfl⟩
  · cases h

theorem run_key {t : Nat} {s : Bool} {d : TypeDesc} (hu : P.underlying t = some d) (hd : KeyD s d) (e : Bool) (n : Nat) (k : Value) : (Instr.checkKey e (n + 1) t k).run P w = .ok () w := by
  unfold Instr.checkKey
  simp only [Sem.run_bind, run_underlying hu, Result.andThen]
  cases s with
  | true => subst hd; rfl
  | false => obtain ⟨q, rfl⟩ := hd; rfl

theorem key_same {n : Nat} {s : Bool} {d : TypeDesc} {k b : AV} {kv bv : Value} {r : Bool} (hd : KeyD s d) (h : keyEq s k b = some r) (hk : Rep E n w k kv) (hb : Rep E n w b bv) : Instr.sameNow d kv bv = some r ∧ (r = true → kv = bv) ∧ ∀ m, Instr.sameBits m kv kv = true := by
  cases s with
  | true =>
    subst hd
    cases k <;> cases b <;> simp only [keyEq, reduceCtorEq, Option.some.injEq] at h
    cases hk; cases hb
    subst h
    rename_i x y
    have e : (x == y) = decide (x.data.toList = y.data.toList) := by
      rw [Bool.eq_iff_iff, decide_eq_true_eq]
      constructor
      · intro h
        have := (MapKept.bytes_beq x y).1 h
        rw [this]
      · intro h
        refine (MapKept.bytes_beq x y).2 ?_
        obtain ⟨⟨x⟩⟩ := x
        obtain ⟨⟨y⟩⟩ := y
        simp at h
        first | rw [h] | skip
    refine ⟨by simp [Instr.sameNow, e], fun h => ?_, fun m => by cases m <;> simp [Instr.sameBits, MapKept.bytes_beq]⟩
    rw [← e] at h
    rw [(MapKept.bytes_beq x y).1 h]
  | false =>
    obtain ⟨q, rfl⟩ := hd
    cases k <;> cases b <;> simp only [keyEq, reduceCtorEq] at h
    cases hk; cases hb
    split at h
    · rename_i hkk
      subst hkk
      simp only [Option.some.injEq] at h
      subst h
      exact ⟨by simp [Instr.sameNow], fun h => by rw [eq_of_beq h], fun m => by cases m <;> simp [Instr.sameBits]⟩
    · cases h

def EntRep (E : Env) (n : Nat) (w : World) (es : List (AV × AV)) (ents : List MapEntry) : Prop := ents.length = es.length ∧ ∀ (i : Nat) e x, es[i]? = some e → ents[i]? = some x → Rep E n w e.1 x.key ∧ Rep E n w e.2 x.val
theorem EntRep.tail {n : Nat} {e : AV × AV} {x : MapEntry} {es : List (AV × AV)} {ents : List MapEntry} (h : EntRep E n w (e :: es) (x :: ents)) : (Rep E n w e.1 x.key ∧ Rep E n w e.2 x.val) ∧ EntRep E n w es ents :=
  ⟨h.2 0 e x rfl rfl, by simpa using h.1, fun i e' x' he hx => h.2 (i + 1) e' x' (by simpa using he) (by simpa using hx)⟩

theorem get_find {n : Nat} {s : Bool} {d : TypeDesc} {k : AV} {kv : Value} (hd : KeyD s d) (hk : Rep E n w k kv) : ∀ (es : List (AV × AV)) (ents : List MapEntry) (i : Nat) (r : Option AV), EntRep E n w es ents → mpGet s k es = some r →
    match r with
    | none => Instr.findNow d kv ents i = some none
    | some u => ∃ j uv, Instr.findNow d kv ents i = some (some (j, uv)) ∧ Rep E n w u uv
  | [], ents, i, r, h, hg => by
    obtain rfl : ents = [] := List.eq_nil_of_length_eq_zero (by simpa using h.1)
    simp only [mpGet, Option.some.injEq] at hg
    subst hg
    rfl
  | (b, u) :: es, [], i, r, h, hg => by simp [EntRep] at h
  | (b, u) :: es, x :: ents, i, r, h, hg => by
    obtain ⟨⟨hb, hu⟩, ht⟩ := h.tail
    simp only [mpGet] at hg
    split at hg
    · rename_i hq
      obtain ⟨h1, h2, h3⟩ := key_same hd hq hk hb
      simp only [Option.some.injEq] at hg
      subst hg
      exact ⟨i, x.val, by simp [Instr.findNow, h1], hu⟩
    · rename_i hq
      obtain ⟨h1, h2, h3⟩ := key_same hd hq hk hb
      have ih := get_find hd hk es ents (i + 1) r ht hg
      cases r with
      | none => simp only [Instr.findNow, h1]; exact ih
      | some u' => simp only [Instr.findNow, h1]; exact ih
    · cases hg

theorem set_find {n : Nat} {s : Bool} {d : TypeDesc} {k v : AV} {kv : Value} (hd : KeyD s d) (hk : Rep E n w k kv) : ∀ (es : List (AV × AV)) (ents : List MapEntry) (i : Nat) (es' : List (AV × AV)), EntRep E n w es ents → mpSet s k v es = some es' →
    (Instr.findNow d kv ents i = some none ∧ es' = es ++ [(k, v)]) ∨ ∃ j uv x, Instr.findNow d kv ents i = some (some (i + j, uv)) ∧ ents[j]? = some x ∧ x.key = kv ∧ (∀ m, Instr.sameBits m kv kv = true) ∧ es' = es.set j (k, v)
  | [], ents, i, es', h, hg => by
    obtain rfl : ents = [] := List.eq_nil_of_length_eq_zero (by simpa using h.1)
    simp only [mpSet, Option.some.injEq] at hg
    subst hg
    exact .inl ⟨rfl, rfl⟩
  | (b, u) :: es, [], i, es', h, hg => by simp [EntRep] at h
  | (b, u) :: es, x :: ents, i, es', h, hg => by
    obtain ⟨⟨hb, hu⟩, ht⟩ := h.tail
    simp only [mpSet] at hg
    split at hg
    · rename_i hq
      obtain ⟨h1, h2, h3⟩ := key_same hd hq hk hb
      simp only [Option.some.injEq] at hg
      subst hg
      exact .inr ⟨0, x.val, x, by simp [Instr.findNow, h1], rfl, (h2 rfl).symm, h3, rfl⟩
    · rename_i hq
      obtain ⟨h1, h2, h3⟩ := key_same hd hq hk hb
      split at hg
      · rename_i l' hl'
        simp only [Option.some.injEq] at hg
        subst hg
        rcases set_find hd hk es ents (i + 1) l' ht hl' with ⟨g1, rfl⟩ | ⟨j, uv, y, g1, g2, g3, g4, rfl⟩
        · exact .inl ⟨by simp only [Instr.findNow, h1]; exact g1, rfl⟩
        · exact .inr ⟨j + 1, uv, y, by simp only [Instr.findNow, h1]; rw [g1]; congr 3; omega, by simpa using g2, g3, g4, rfl⟩
      · cases hg
    · cases hg

theorem zeroV_get {n : Nat} {t : Nat} {agg : Bool} {z : List AV} (h : zeroV P t agg z = true) : ∃ zv, (zeroValue t).run P w = .ok zv w ∧ ∀ u, val agg z = some u → Rep E n w u zv := by
  unfold zeroV at h
  split at h
  · rename_i i hi
    split at h
    · rename_i cs hz
      simp only [Bool.and_eq_true] at h
      obtain ⟨rfl, ha⟩ := h
      refine ⟨.agg cs, by simp [zeroValue, typeInfo, hi, hz], fun u hu => ?_⟩
      simp [val] at hu
      subst hu
      have hr := (atomsB_rep (E := E) (n := n) (w := w) ha).1
      exact .agg (by simpa using hr.len) fun j x y hx hy => hr.at_ j x y hx (by simpa using hy)
    · rename_i zv hne hz
      simp only [Bool.and_eq_true, Bool.not_eq_true'] at h
      obtain ⟨rfl, ha⟩ := h
      refine ⟨zv, by simp [zeroValue, typeInfo, hi, hz], fun u hu => ?_⟩
      have hr := (atomsB_rep (E := E) (n := n) (w := w) ha).1
      cases z with
      | nil => simp [val] at hu
      | cons q l =>
        have hl := hr.len
        obtain rfl : l = [] := List.eq_nil_of_length_eq_zero (by simpa using hl)
        simp [val] at hu
        subst hu
        exact hr.at_ 0 _ _ rfl rfl
    · cases h
  · cases h

theorem s_mkmap (S : Sim P T E st w) (hc : chkOp P o.op .mkmap = true) (h : exOp O fr st .mkmap = some (v, st')) : Goes P T E st w o a v st' := by
  obtain ⟨dst, op, ty', pos, after, guard⟩ := o
  cases op <;> simp only [chkOp, Bool.false_eq_true] at hc
  rename_i t r
  cases r with
  | some r => simp [chkOp] at hc
  | none =>
    obtain ⟨rfl, rfl⟩ : _ ∧ _ := by simpa [exOp] using h
    have hb : ∀ b, b < w.heap.size → (w.alloc (.map #[] 0)).heap[b]? = w.heap[b]? := fun b hb => heap_alloc_old w _ b hb
    have hx := Ext.push (w' := w.alloc (.map #[] 0)) ⟨w.heap.size, 0, 0⟩ S (by simp) hb rfl rfl rfl
    refine ⟨.value (.map (some w.heap.size)), _, _, ?_, .inl ⟨_, rfl, ?_⟩, S.push (.mp []) _ (by simp) hb (fun _ => Nat.le_refl _) ⟨#[], 0, heap_alloc_new w _, rfl, by simp⟩, by simpa [St.push] using hx⟩
    · simp [execOp, Instr.makeMap]
    · have := Rep.mref (E := updL E st.objs.length ⟨w.heap.size, 0, 0⟩) (n := st.objs.length + 1) (w := w.alloc (.map #[] 0)) (r := st.objs.length) (by omega)
      rw [updL_eq] at this
      simpa [St.push] using this

theorem map_rep (S : Sim P T E st w) {r : Nat} {es : List (AV × AV)} (h : st.map? r = some es) : ∃ ents clock, w.heap[(E.L r).blk]? = some (.map ents clock) ∧ EntRep E st.objs.length w es ents.toList := by
  have ho : st.objs[r]? = some (.mp es) := by
    unfold St.map? at h
    split at h
    · rename_i e; obtain rfl := Option.some.inj h; exact e
    · cases h
  obtain ⟨ents, clock, h1, h2, h3⟩ := S.obj r _ ho
  exact ⟨ents, clock, h1, by simpa using h2, fun i e x he hx => h3 i e x he (by simpa using hx)⟩

theorem s_mapget (S : Sim P T E st w) (F : RepL E st.objs.length w fr a.tmps.toList) {s ok agg : Bool} {z : List AV} {m k : Opd} (hc : chkOp P o.op (.mapget s ok agg z m k) = true) (h : exOp O fr st (.mapget s ok agg z m k) = some (v, st')) : Goes P T E st w o a v st' := by
  obtain ⟨dst, op, ty', pos, after, guard⟩ := o
  cases op <;> simp only [chkOp, Bool.false_eq_true] at hc
  rename_i t m' k' c
  simp only [Bool.and_eq_true, beq_iff_eq] at hc
  obtain ⟨⟨⟨rfl, hm⟩, hk⟩, hc⟩ := hc
  split at hc
  · rename_i kt e hu
    simp only [Bool.and_eq_true] at hc
    obtain ⟨hkb, hz⟩ := hc
    obtain ⟨d, hud, hd⟩ := keyB_get hkb
    obtain ⟨zv, hzv, hzr⟩ := zeroV_get (E := E) (n := st.objs.length) (w := w) hz
    have hmr := ev_rep S.glob F hm
    have hkr := ev_rep S.glob F hk
    obtain ⟨h, rfl⟩ := opt_get h
    unfold mget at h
    generalize ev fr m = mv at h hmr
    cases mv <;> simp only [reduceCtorEq] at h
    rename_i r
    generalize hmv : a.eval m' = mw at hmr
    cases hmr
    split at h
    · rename_i es hes
      obtain ⟨ents, clock, h1, h2⟩ := map_rep S hes
      split at h
      · rename_i u hg
        simp only [Option.some.injEq] at h
        subst h
        obtain ⟨j, uv, g1, g2⟩ := get_find hd hkr es ents.toList 0 (some u) h2 hg
        cases c with
        | true =>
          refine Goes.quiet S (cv := .tuple #[uv, .bool true]) ?_ (.tup rfl fun j x y hx hy => ?_)
          · simp [execOp, hmv, Instr.lookup, run_underlying hu, MapKept.run_getObj_map h1, run_key hud hd, MapKept.run_findKey hud g1, Result.andThen]
          · match j with
            | 0 => simp at hx hy; subst hx hy; exact g2
            | 1 => simp at hx hy; subst hx hy; exact .bool _
            | j + 2 => simp at hx
        | false =>
          refine Goes.quiet S (cv := uv) ?_ g2
          simp [execOp, hmv, Instr.lookup, run_underlying hu, MapKept.run_getObj_map h1, run_key hud hd, MapKept.run_findKey hud g1, Result.andThen]
      · rename_i hg
        have g1 := get_find hd hkr es ents.toList 0 none h2 hg
        simp only at g1
        split at h
        · rename_i u hval
          simp only [Option.some.injEq] at h
          subst h
          have g2 := hzr u hval
          cases c with
          | true =>
            refine Goes.quiet S (cv := .tuple #[zv, .bool false]) ?_ (.tup rfl fun j x y hx hy => ?_)
            · simp [execOp, hmv, Instr.lookup, run_underlying hu, MapKept.run_getObj_map h1, run_key hud hd, MapKept.run_findKey hud g1, hzv, Result.andThen]
            · match j with
              | 0 => simp at hx hy; subst hx hy; exact g2
              | 1 => simp at hx hy; subst hx hy; exact .bool _
              | j + 2 => simp at hx
          | false =>
            refine Goes.quiet S (cv := zv) ?_ g2
            simp [execOp, hmv, Instr.lookup, run_underlying hu, MapKept.run_getObj_map h1, run_key hud hd, MapKept.run_findKey hud g1, hzv, Result.andThen]
        · cases h
      · cases h
    · cases h
  · cases hc

theorem s_mapset (S : Sim P T E st w) (F : RepL E st.objs.length w fr a.tmps.toList) {s : Bool} {m k x : Opd} (hc : chkOp P o.op (.mapset s m k x) = true) (h : exOp O fr st (.mapset s m k x) = some (v, st')) : Goes P T E st w o a v st' := by
  have key : ∀ (t : TypeId) (m' k' x' : Operand), (execOp a.eval o).run P w = ((Instr.mapUpdate t (a.eval m') (a.eval k') (a.eval x')).run P w).andThen (fun _ w => .ok .skip w) →
      (opdB m m' && opdB k k' && opdB x x' && (match P.underlying t with | some (.map kt _) => keyB P kt s | _ => false)) = true → Goes P T E st w o a v st' := by
    intro t m' k' x' hrun hc
    simp only [Bool.and_eq_true] at hc
    obtain ⟨⟨⟨hm, hk⟩, hx⟩, hc⟩ := hc
    split at hc
    · rename_i kt e hu
      obtain ⟨d, hud, hd⟩ := keyB_get hc
      have hmr := ev_rep S.glob F hm
      have hkr := ev_rep S.glob F hk
      have hxr := ev_rep S.glob F hx
      simp only [exOp] at h
      unfold mset at h
      generalize ev fr m = mv at h hmr
      cases mv <;> simp only [reduceCtorEq] at h
      rename_i r
      generalize hmv : a.eval m' = mw at hmr hrun
      cases hmr
      split at h
      · rename_i es hes
        split at h
        · split at h
          · rename_i es' hset
            obtain ⟨rfl, rfl⟩ : _ ∧ _ := by simpa using h
            obtain ⟨ents, clock, h1, h2⟩ := map_rep S hes
            have ho : st.objs[r]? = some (.mp es) := by
              unfold St.map? at hes
              split at hes
              · rename_i e; obtain rfl := Option.some.inj hes; exact e
              · cases hes
            have hlt : (E.L r).blk < w.heap.size := (Array.getElem?_eq_some_iff.1 h1).1
            have fin : ∀ ents' clock', EntRep E st.objs.length w es' ents'.toList →
                (Instr.mapUpdate t (.map (some (E.L r).blk)) (a.eval k') (a.eval x')).run P w = .ok () { w with heap := w.heap.setIfInBounds (E.L r).blk (.map ents' clock') } → Goes P T E st w o a .any (st.set r (.mp es')) := by
              intro ents' clock' hent hr
              have hb : ∀ b, b ≠ (E.L r).blk → ({ w with heap := w.heap.setIfInBounds (E.L r).blk (.map ents' clock') } : World).heap[b]? = w.heap[b]? := fun b hb => by
                simp [Ne.symm hb]
              have hm0 : Mono E st.objs.length w E st.objs.length { w with heap := w.heap.setIfInBounds (E.L r).blk (.map ents' clock') } := ⟨fun _ hr => ⟨hr, rfl⟩, fun _ h => h, fun b hF => hb b fun e => S.away r _ ho trivial (.inl (e ▸ hF))⟩
              refine ⟨.skip, _, E, by rw [hrun, hr]; rfl, .inr ⟨rfl, rfl⟩, S.set r (.mp es) (.mp es') ho trivial (by simp) hb (.inl trivial) ⟨ents', clock', by simp [hlt], by simpa using hent.1, fun i e x he hx => ?_⟩, ?_⟩
              · have := hent.2 i e x he (by simpa using hx)
                exact ⟨this.1.mono hm0, this.2.mono hm0⟩
              · have := Ext.set (n := st.objs.length) (w' := { w with heap := w.heap.setIfInBounds (E.L r).blk (.map ents' clock') }) S ho trivial (by simp) hb rfl rfl rfl
                simpa [St.set] using this
            rcases set_find hd hkr es ents.toList 0 es' h2 hset with ⟨g1, rfl⟩ | ⟨j, uv, y, g1, g2, g3, g4, rfl⟩
            · refine fin (ents.push { key := a.eval k', val := a.eval x', born := clock }) (clock + 1) ⟨by simp [← h2.1], fun i e y he hy => ?_⟩ ?_
              · simp only [Array.toList_push] at hy
                by_cases hi : i < es.length
                · rw [List.getElem?_append_left hi] at he
                  rw [List.getElem?_append_left (by rw [h2.1]; exact hi)] at hy
                  exact h2.2 i e y he hy
                · have : i = es.length := by have := lt_of_get he; simp at this; omega
                  subst this
                  have hl := h2.1
                  rw [List.getElem?_append_right (Nat.le_refl _)] at he
                  rw [← hl, List.getElem?_append_right (Nat.le_refl _)] at hy
                  simp at he hy
                  subst he hy
                  exact ⟨hkr, hxr⟩
              · simp [Instr.mapUpdate, run_underlying hu, MapKept.run_getObj_map h1, run_key hud hd, MapKept.run_findKey hud g1, MapKept.run_setObj_map _ h1, Result.andThen]
            · have g2' : ents[j]? = some y := by simpa using g2
              refine fin (ents.modify j fun e => { e with key := a.eval k', val := a.eval x' }) clock ⟨by simp [← h2.1], fun i e q he hq => ?_⟩ ?_
              · have hjl : j < es.length := by rw [← h2.1]; exact lt_of_get g2
                rw [List.getElem?_set] at he
                simp only [Array.toList_modify, List.getElem?_modify] at hq
                by_cases hij : j = i
                · subst hij
                  rw [if_pos rfl, if_pos hjl] at he
                  simp [g2'] at he hq
                  subst he hq
                  exact ⟨hkr, hxr⟩
                · rw [if_neg hij] at he
                  exact h2.2 i e q he (by simpa [hij] using hq)
              · simp [Instr.mapUpdate, run_underlying hu, MapKept.run_getObj_map h1, run_key hud hd, MapKept.run_findKey hud g1, g2', g3, Instr.keyThatStays, g4, MapKept.run_setObj_map _ h1, Result.andThen]
          · cases h
        · cases h
      · cases h
    · cases hc
  obtain ⟨dst, op, ty', pos, after, guard⟩ := o
  cases op <;> simp only [chkOp, Bool.false_eq_true] at hc
  · exact key _ _ _ _ (by simp [execOp]) hc
  · exact key _ _ _ _ (by simp [execOp]) hc

/-- the model's own entry for math/bits.Add64 -/
def add64Entry : Array Value → Sem Value := fun args => do
  let (x, y, c) ← Extern.MathBitsCarry.three "Add64" args
  pure (Extern.MathBitsCarry.pair ((x + y + c) % Extern.MathBitsCarry.m64) ((x + y + c) / Extern.MathBitsCarry.m64))
theorem run_add64 (x y c : Nat) (hc : c ≤ 1) : (add64Entry #[.int .u64 x, .int .u64 y, .int .u64 c]).run P w =
    .ok (.tuple #[.int .u64 (((x + y + c) % 18446744073709551616 : Nat) : Int), .int .u64 (((x + y + c) / 18446744073709551616 : Nat) : Int)]) w := by
  have : c = 0 ∨ c = 1 := by omega
  rcases this with rfl | rfl <;> rfl
theorem find_gen : Extern.allGenericRows.lookup "math/bits.Add64" = none := by kernel_rfl
theorem find_typ : Extern.allTypedRows.lookup "math/bits.Add64" = none := by kernel_rfl
theorem find_row : Extern.allRows.lookup "math/bits.Add64" = some add64Entry := by kernel_rfl
theorem find_next : Extern.allNextRows.lookup "math/bits.Add64" = none := by kernel_rfl
theorem find_none : Extern.allNextRows.lookup "" = none := by kernel_rfl
theorem call_add64 {g : Nat} {fn : Func} (h : P.funcs[g]? = some fn) (h1 : fn.name = "math/bits.Add64") (h2 : fn.origin = "") (h3 : fn.body.isNone = true) (x y c : Nat) (hc : c ≤ 1) :
    (callFunc g #[.int .u64 x, .int .u64 y, .int .u64 c]).run P w = .ok (.value (.tuple #[.int .u64 (((x + y + c) % 18446744073709551616 : Nat) : Int), .int .u64 (((x + y + c) / 18446744073709551616 : Nat) : Int)])) w := by
  rw [run_callFunc_extern h (by rw [h1]; rfl) h3 (by simp [Extern.findNext, h1, h2, find_next, find_none]) (e := add64Entry) (by simp [Extern.find, h1, find_gen, find_typ, find_row]), run_add64 x y c hc]
  rfl

theorem rep_intM {n : Nat} {k : IntKind} {x : Int} {u : Value} (h : Rep E n w (.int k x) u) : u = .int k x := by cases h; rfl

theorem s_add64 (S : Sim P T E st w) (F : RepL E st.objs.length w fr a.tmps.toList) {x y d : Opd} (hc : chkOp P o.op (.add64 x y d) = true) (h : exOp O fr st (.add64 x y d) = some (v, st')) : Goes P T E st w o a v st' := by
  obtain ⟨dst, op, ty', pos, after, guard⟩ := o
  cases op <;> simp only [chkOp, Bool.false_eq_true] at hc
  rename_i c
  obtain ⟨callee, args, ts⟩ := c
  cases callee <;> simp only [chkCall, Bool.false_eq_true, chkBuiltin] at hc
  rename_i f
  split at hc
  · rename_i g p q r ea
    obtain rfl : args = #[p, q, r] := by cases args; simpa using ea
    simp only [Bool.and_eq_true] at hc
    obtain ⟨⟨⟨hx, hy⟩, hd⟩, hf⟩ := hc
    split at hf
    · rename_i fn hfn
      simp only [Bool.and_eq_true, beq_iff_eq] at hf
      obtain ⟨⟨n1, n2⟩, n3⟩ := hf
      obtain ⟨h9, rfl⟩ := opt_get (o := add64A (ev fr x) (ev fr y) (ev fr d)) h
      clear h
      have r1 := ev_rep S.glob F hx
      have r2 := ev_rep S.glob F hy
      have r3 := ev_rep S.glob F hd
      simp only [add64A] at h9
      split at h9
      · rename_i i j k e1 e2 e3
        rw [e1] at r1; rw [e2] at r2; rw [e3] at r3
        split at h9
        · rename_i hh
          obtain ⟨k1, k2, k3, k4⟩ := hh
          simp only [Option.some.injEq] at h9
          subst h9
          have v1 := rep_intM r1
          have v2 := rep_intM r2
          have v3 := rep_intM r3
          rw [k1] at v1; rw [k2] at v2; rw [k3] at v3
          generalize i.toNat = I at *
          generalize j.toNat = J at *
          generalize k.toNat = K at *
          refine Goes.quiet S (cv := .tuple #[.int .u64 (((I + J + K) % 18446744073709551616 : Nat) : Int), .int .u64 (((I + J + K) / 18446744073709551616 : Nat) : Int)]) ?_ (.tup rfl fun n x u hx hu => ?_)
          · have hcall := call_add64 (w := w) hfn n1 n2 n3 I J K k4
            have he : a.eval (.func g) = .func (.func g) #[] #[] := rfl
            simp [execOp, resolve, Deferred.ofValue, invoke, v1, v2, v3, he] at hcall ⊢
            exact hcall
          · match n with
            | 0 => simp at hx hu; subst hx hu; exact .int _ _
            | 1 => simp at hx hu; subst hx hu; exact .int _ _
            | n + 2 => simp at hx
        · cases h9
      · cases h9
    · cases hf
  · cases hc

end
end Go.Proofs.Ytgabnhmjlhhojaa.A
