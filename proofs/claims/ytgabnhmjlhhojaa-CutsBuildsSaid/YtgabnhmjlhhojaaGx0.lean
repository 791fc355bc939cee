/- Slices that grow, in a store where all else is kept. -/
import Derived.Test.YtgabnhmjlhhojaaWp
namespace Go.Proofs.Ytgabnhmjlhhojaa.A
open Go
set_option maxRecDepth 10000
set_option linter.unusedSimpArgs false
attribute [-simp] List.all_eq_true put slot_def ld idxA lenOf elems canA app hand

/-- a slice that grows, and is the literal only while it is empty -/
structure Gx (ty sz lo : Nat) (o : List Obj) (v : AV) (es : List (List AV)) : Prop where
  G : Gr lo ty sz o v es
  nil : v = .fsl sz es → es = []

theorem Gx.off {ty sz lo : Nat} {o : List Obj} {v : AV} {es : List (List AV)} (h : Gx ty sz lo o v es) {i : Nat} {x : Obj} (hx : o[i]? = some x) (hne : ∀ es, x ≠ .arr ty sz es) (n : Nat) (f : Bool) : v ≠ .own i 0 n f := by
  rcases h.G with rfl | ⟨r, h1, rfl, h3⟩
  · simp
  · rintro e
    obtain ⟨rfl, _⟩ : r = i ∧ _ := by simpa using e
    rw [h3] at hx
    exact hne _ (Option.some.inj hx).symm

theorem Gx.app {ty sz lo ro bytes : Nat} {o : List Obj} {v : AV} {es : List (List AV)} (h : Gx ty sz lo o v es) (hro : ro ≤ lo) (hlo : lo ≤ o.length) {df : List Nat} {x : AV} {xs : List (List AV)}
    (hx : elems ⟨o, ro, df⟩ x = some (sz, xs)) (hr : room (es.length + xs.length) bytes = true) :
    ∃ o', app ⟨o, ro, df⟩ ty sz bytes v x = some (.own o.length 0 (es.length + xs.length) false, ⟨o', ro, df⟩) ∧ o'.length = o.length + 1 ∧
      Gx ty sz lo o' (.own o.length 0 (es.length + xs.length) false) (es ++ xs) ∧ (∀ (i : Nat) (y : Obj), o[i]? = some y → (∀ es, y ≠ .arr ty sz es) → o'[i]? = some y) ∧ (∀ i, i < lo → o'[i]? = o[i]?) ∧
      o'[o.length]? = some (.arr ty sz (es ++ xs)) := by
  obtain ⟨o', a1, a2, a3, a4⟩ := app_get' (bytes := bytes) (df := df) h.G hro hx (fun hv => .inl (h.nil hv)) hr
  exact ⟨o', a1, a2, ⟨gr_new a3 hlo (by simp), by simp⟩, fun i y hy hne => a4 i y hy (h.off hy hne), fun i hi => by rw [a4 i _ (List.getElem?_eq_getElem (by omega)) (h.G.not hi), List.getElem?_eq_getElem], a3⟩

theorem Gx.push {ty sz lo : Nat} {o : List Obj} {v : AV} {es : List (List AV)} (h : Gx ty sz lo o v es) (m : List Obj) : Gx ty sz lo (o ++ m) v es := ⟨h.G.push m, h.nil⟩
theorem Gx.set {ty sz lo : Nat} {o : List Obj} {v : AV} {es : List (List AV)} (h : Gx ty sz lo o v es) {i : Nat} {x y : Obj} (hx : o[i]? = some x) (hne : ∀ es, x ≠ .arr ty sz es) : Gx ty sz lo (o.set i y) v es := by
  refine ⟨?_, h.nil⟩
  rcases h.G with rfl | ⟨r, h1, rfl, h3⟩
  · exact .inl rfl
  · refine .inr ⟨r, h1, rfl, ?_⟩
    rw [List.getElem?_set_ne]
    · exact h3
    · rintro rfl
      exact h.off hx hne _ _ rfl

/-- a slice that grew, all else kept -/
structure Gw (ty sz lo : Nat) (o : List Obj) (v : AV) (o' : List Obj) (v' : AV) (es : List (List AV)) : Prop where
  G : Gx ty sz lo o' v' es
  le : o.length ≤ o'.length
  keep : ∀ i, i < o.length → (∀ n f, v ≠ .own i 0 n f) → o'[i]? = o[i]? ∧ ∀ n f, v' ≠ .own i 0 n f

theorem Gx.ref {ty sz lo : Nat} {o : List Obj} {v : AV} {es : List (List AV)} (h : Gx ty sz lo o v es) (m : List Obj) : Gw ty sz lo o v (o ++ m) v es :=
  ⟨h.push m, by simp, fun i hi hv => ⟨List.getElem?_append_left hi, hv⟩⟩

theorem Gw.trans {ty sz lo : Nat} {o o1 o2 : List Obj} {v v1 v2 : AV} {es es2 : List (List AV)} (h : Gw ty sz lo o v o1 v1 es) (k : Gw ty sz lo o1 v1 o2 v2 es2) : Gw ty sz lo o v o2 v2 es2 :=
  ⟨k.G, Nat.le_trans h.le k.le, fun i hi hv => by
    obtain ⟨a, b⟩ := h.keep i hi hv
    obtain ⟨c, d⟩ := k.keep i (Nat.lt_of_lt_of_le hi h.le) b
    exact ⟨by rw [c, a], d⟩⟩

theorem gx_appw {ty sz lo ro bytes : Nat} {o : List Obj} {v : AV} {es : List (List AV)} (h : Gx ty sz lo o v es) (hro : ro ≤ lo) (hlo : lo ≤ o.length) {df : List Nat} {x : AV} {xs : List (List AV)}
    (hx : elems ⟨o, ro, df⟩ x = some (sz, xs)) (hr : room (es.length + xs.length) bytes = true) :
    ∃ o', app ⟨o, ro, df⟩ ty sz bytes v x = some (.own o.length 0 (es.length + xs.length) false, ⟨o', ro, df⟩) ∧ o'.length = o.length + 1 ∧ Gw ty sz lo o v o' (.own o.length 0 (es.length + xs.length) false) (es ++ xs) := by
  obtain ⟨o', a1, a2, a3, a4⟩ := app_get' (bytes := bytes) (df := df) h.G hro hx (fun hv => .inl (h.nil hv)) hr
  refine ⟨o', a1, a2, ⟨gr_new a3 hlo (by simp), by simp⟩, by omega, fun i hi hv => ⟨?_, fun n f => by simp; omega⟩⟩
  rw [List.getElem?_eq_getElem hi]
  exact a4 i _ (List.getElem?_eq_getElem hi) hv


theorem Gx.agree {ty sz lo : Nat} {o o' : List Obj} {v : AV} {es : List (List AV)} (h : Gx ty sz lo o v es) (k : ∀ i, i < o.length → o'[i]? = o[i]?) : Gx ty sz lo o' v es := by
  refine ⟨?_, h.nil⟩
  rcases h.G with rfl | ⟨r, h1, rfl, h3⟩
  · exact .inl rfl
  · exact .inr ⟨r, h1, rfl, by rw [k r (lt_of_getO h3)]; exact h3⟩

theorem Gx.not {ty sz lo : Nat} {o : List Obj} {v : AV} {es : List (List AV)} (h : Gx ty sz lo o v es) {i : Nat} (hi : i < lo) (n : Nat) (f : Bool) : v ≠ .own i 0 n f := h.G.not hi n f
theorem Gx.lt {ty sz lo : Nat} {o : List Obj} {v : AV} {es : List (List AV)} (h : Gx ty sz lo o v es) {i : Nat} (hi : o.length ≤ i) (n : Nat) (f : Bool) : v ≠ .own i 0 n f := h.G.lt hi n f

theorem hand0_int (n : Nat) (o : List Obj) (k : IntKind) (x : Int) : hand0 n o (.int k x) = some (.int k x) := rfl
theorem hand0_str (n : Nat) (o : List Obj) (x : ByteArray) : hand0 n o (.str x) = some (.str x) := rfl
theorem hand0_bool (n : Nat) (o : List Obj) (x : Bool) : hand0 n o (.bool x) = some (.bool x) := rfl
theorem gx_hand0 {ty sz lo n : Nat} {o : List Obj} {v : AV} {es : List (List AV)} (G : Gx ty sz lo o v es) (h : n ≤ lo) (hf : AV.flatLL es = true) : hand0 n o v = some (.sl sz es) := by
  rcases G.G with rfl | ⟨r, r1, rfl, r2⟩
  · simp [hf]
  · have : ¬ r < n := by omega
    simp [r2, this, hf]

theorem gx_apart {ty sz lo ty' sz' r : Nat} {o : List Obj} {v : AV} {es es' : List (List AV)} (G : Gx ty sz lo o v es) (h : o[r]? = some (.arr ty' sz' es')) (hne : ty ≠ ty') (n : Nat) (f : Bool) : v ≠ .own r 0 n f := by
  rcases G.G with rfl | ⟨r', _, rfl, h3⟩
  · simp
  · intro e
    simp only [AV.own.injEq] at e
    rw [← e.1, h3] at h
    simp only [Option.some.injEq, Obj.arr.injEq] at h
    exact hne h.1

/-- a slice that grew, kept while another grows beside it -/
theorem gx_beside {ty sz lo ty' sz' : Nat} {o o3 : List Obj} {v w v' : AV} {es es' es3 : List (List AV)} (Gt : Gx ty' sz' lo o w es') (G : Gx ty sz lo o v es) (hne : ty ≠ ty') (W : Gw ty sz lo o v o3 v' es3) {i : Nat} (hi : i < lo) (X : Obj) : Gx ty' sz' lo (o3.set i X) w es' := by
  refine ⟨?_, Gt.nil⟩
  rcases Gt.G with hv | ⟨r, r1, hv, r2⟩
  · exact .inl hv
  · exact .inr ⟨r, r1, hv, by rw [List.getElem?_set_ne (by omega), (W.keep r (lt_of_getO r2) (gx_apart G r2 hne)).1]; exact r2⟩

theorem room_of0 {n b : Nat} (h : n * b ≤ 140737488355328) (h2 : n ≤ 4611686018427387904) : room n b = true := by simp [room, h, h2]

end Go.Proofs.Ytgabnhmjlhhojaa.A
