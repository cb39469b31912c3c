/- An abstract machine over the model: single operations (without calls and maps), each shown to be what the model does. -/
import Derived.Test.YtdocdnmbmikefaaAmT
set_option linter.unusedVariables false
set_option linter.unusedSimpArgs false
namespace Go.AM

def bad (h : AHeap) (n : Nat) : R1 := ⟨False, .any, h, n⟩
theorem Snd.bad {P : Program} {L : Link} {a : Act} {w : World} {o : Oper} {h : AHeap} {n : Nat} : Snd P L a w o (bad h n) := fun h => h.elim

section
variable {P : Program} {L : Link} {a : Act} {w : World} {o : Oper} {h : AHeap} {n : Nat} {e : Operand → AV}

/-! #### copies, choice -/
theorem snd_move {x : Operand} (ho : o.op = .move x ∨ o.op = .assign x) (hg : Good L h n w) (hx : V L (e x) (a.eval x)) : Snd P L a w o ⟨True, e x, h, n⟩ :=
  Snd.quiet hg fun _ => ⟨rfl, rfl, a.eval x, by rcases ho with ho | ho <;> (unfold execOp; simp [ho]), hx⟩

def asB : AV → Prop × Bool
  | .d (.bool x) => (True, x)
  | .opt b (.d (.bool x)) => (b = true, x)
  | _ => (False, false)
theorem asB_spec {x : AV} {v : Value} (hv : V L x v) (hp : (asB x).1) : v = .bool (asB x).2 := by
  unfold asB at hp ⊢
  split at hp
  · cases hv with | d hd => cases hd; rfl
  · simp only at hp
    subst hp
    cases hv with | optT hv => cases hv with | d hd => cases hd; rfl
  · exact hp.elim
/-- The choice of '&&' and '||'. -/
def pk (c x y : Bool) : Bool := if c = true then x else y
theorem pk_false (c x : Bool) : pk c x false = (c && x) := by cases c <;> rfl
theorem pk_true (c y : Bool) : pk c true y = (c || y) := by cases c <;> rfl
def sPick (c x y : AV) (h : AHeap) (n : Nat) : R1 :=
  ⟨(asB c).1 ∧ ((asB c).2 = true → (asB x).1) ∧ ((asB c).2 = false → (asB y).1), .d (.bool (pk (asB c).2 (asB x).2 (asB y).2)), h, n⟩
theorem snd_pick {c x y : Operand} (ho : o.op = .pick c x y) (hg : Good L h n w) (hc : V L (e c) (a.eval c)) (hx : V L (e x) (a.eval x)) (hy : V L (e y) (a.eval y)) :
    Snd P L a w o (sPick (e c) (e x) (e y) h n) := by
  refine Snd.quiet hg fun hp => ⟨rfl, rfl, ?_⟩
  obtain ⟨h1, h2, h3⟩ := hp
  have hc' := asB_spec hc h1
  unfold execOp
  simp only [ho, hc', asBool, Sem.run_bind, Sem.run_pure, Result.andThen_ok]
  cases hb : (asB (e c)).2 with
  | true =>
    refine ⟨_, rfl, ?_⟩
    simp only [sPick, pk, hb, if_true]
    rw [asB_spec hx (h2 hb)]; exact .d (.bool _)
  | false =>
    refine ⟨_, rfl, ?_⟩
    simp only [sPick, pk, hb]
    rw [if_neg (by simp), if_neg (by simp)]
    rw [asB_spec hy (h3 hb)]; exact .d (.bool _)

/-! #### new variables -/
theorem rowsAt_one {c : Array Value} {cs : List AV} (hs : c.size = cs.length) (hv : ∀ j x, cs[j]? = some x → V L x (c.getD j undef)) (h1 : ∀ u, u ∈ c.toList → u.oneCell' = true) : RowsAt L c 0 cs.length [cs] := by
  refine ⟨fun row hr => by simp at hr; rw [hr], fun i j row x hi hj => ?_⟩
  cases i with
  | succ i => simp at hi
  | zero =>
    simp at hi
    subst hi
    rw [show 0 + 0 * cs.length + j = j by omega]
    refine ⟨hv j x hj, ?_⟩
    have : j < c.size := by have := (List.getElem?_eq_some_iff.1 hj).1; omega
    simp [Array.getD_eq_getD_getElem?, Array.getElem?_eq_getElem this]
    exact h1 _ (by simp)
theorem Good.newRow {c : Array Value} {cs : List AV} (hg : Good L h n w) (t : TypeId) (hs : c.size = cs.length) (hv : ∀ j x, cs[j]? = some x → V L x (c.getD j undef)) (h1 : ∀ u, u ∈ c.toList → u.oneCell' = true) :
    ∃ L', Ext L L' ∧ L'.R = L.R ∧ V L' (.ptr n 0 0 0) (.pointer (some ⟨w.heap.size, 0, none⟩)) ∧ Good L' (upd h n (some (.cells 0 cs.length [cs]))) (n + 1) (w.alloc (.cells c t)) := by
  obtain ⟨L', h2, hR, h3, h4⟩ := hg.alloc c t cs.length 1 [cs] (by omega) (by simp) (rowsAt_one hs hv h1)
  exact ⟨L', h2, hR, by simpa using V.ptr 0 0 h3, h4⟩

def sAlloc (T : TI) (h : AHeap) (n : Nat) : R1 :=
  match T.zero with
  | some z => ⟨True, .ptr n 0 0 0, upd h n (some (.cells 0 z.length [z])), n + 1⟩
  | none => bad h n
theorem zero_rel {t : TypeId} {z : List AV} (L : Link) (hz : (tyOf P t).zero = some z) : ∃ v, (∀ w : World, (zeroValue t).run P w = .ok v w) ∧ v.cells.size = z.length ∧ (∀ j x, z[j]? = some x → V L x (v.cells.getD j undef)) ∧ ∀ u, u ∈ v.cells.toList → u.oneCell' = true := by
  obtain ⟨i, v, h1, h2, h3, h4, h5, h6, h7⟩ := ty_zero hz
  have hj : ∀ j x, z[j]? = some x → V L x (v.cells.getD j undef) ∧ cellOK x = true ∧ v.cells[j]? = some (v.cells.getD j undef) := fun j x hj => by
    have hm := List.mem_of_getElem? hj
    rw [List.all_eq_true] at h6
    have h8 := h6 x hm
    rw [h3, List.getElem?_map] at hj
    cases hc : v.cells.toList[j]? with
    | none => rw [hc] at hj; cases hj
    | some u =>
      rw [hc] at hj
      cases hj
      have h9 : v.cells.getD j undef = u := by
        simp only [Array.getElem?_toList] at hc
        simp [Array.getD_eq_getD_getElem?, hc]
      rw [h9]
      refine ⟨V_const L u, h8, ?_⟩
      simpa using hc
  refine ⟨v, fun w => by simp [zeroValue, typeInfo, h1, h2], by rw [h7, ← h5, h4], fun j x hx => (hj j x hx).1, fun u hu => ?_⟩
  obtain ⟨j, hu⟩ := List.getElem?_of_mem hu
  have hjl : j < z.length := by have := (List.getElem?_eq_some_iff.1 hu).1; rw [h7, ← h5, ← h4]; simpa using this
  obtain ⟨h8, h9, h10⟩ := hj j z[j] (List.getElem?_eq_getElem hjl)
  have : v.cells.getD j undef = u := by
    simp only [Array.getElem?_toList] at hu
    rw [h10] at hu
    exact Option.some.inj hu
  rw [this] at h8
  exact h8.one h9
theorem snd_alloc {t : TypeId} (ho : o.op = .alloc t) (hg : Good L h n w) : Snd P L a w o (sAlloc (tyOf P t) h n) := by
  unfold sAlloc
  split
  · rename_i z hz
    intro _
    obtain ⟨v, h1, h2, h3, h4⟩ := zero_rel L hz
    obtain ⟨L', h5, h6, h7, h8⟩ := hg.newRow t h2 h3 h4
    refine ⟨_, _, _, L', ?_, .inl rfl, h5, h6, h7, h8⟩
    unfold execOp
    simp [ho, Instr.alloc, h1, newVar, _root_.Go.newRow]
  · exact Snd.bad

def sBox (x : AV) (h : AHeap) (n : Nat) : R1 := ⟨cellsOK x = true, .ptr n 0 0 0, upd h n (some (.cells 0 (cellsOf x).length [cellsOf x])), n + 1⟩
theorem snd_box {t : TypeId} {x : Operand} (ho : o.op = .box t x) (hg : Good L h n w) (hx : V L (e x) (a.eval x)) : Snd P L a w o (sBox (e x) h n) := by
  intro hp
  obtain ⟨h1, h2, h3⟩ := hx.cellsRel hp
  obtain ⟨L', h5, h6, h7, h8⟩ := hg.newRow t h1 h2 h3
  refine ⟨_, _, _, L', ?_, .inl rfl, h5, h6, h7, h8⟩
  unfold execOp
  simp [ho, Instr.box, newVar, _root_.Go.newRow]

/-! #### structs, arrays and slices out of their parts -/
theorem foldl_zipIdx (off : Nat) : ∀ (vs : List Value) (k : Nat) (cs : Array Value), (vs.zipIdx k).foldl (fun cs (c, j) => cs.setIfInBounds (off + j) c) cs = setL cs (off + k) vs
  | [], _, _ => rfl
  | v :: r, k, cs => by rw [List.zipIdx_cons, List.foldl_cons, foldl_zipIdx off r (k + 1), setL]; rfl
def fillA (place : Nat → Option (Nat × Nat)) : List AV → List (Nat × AV) → Option (List AV)
  | cs, [] => some cs
  | cs, (i, x) :: r =>
    match place i with
    | none => none
    | some (off, size) => if (cellsOf x).length = size ∧ off + size ≤ cs.length ∧ cellsOK x = true then fillA place (putAt cs off (cellsOf x)) r else none

/-- Cells that are known. -/
structure Row (L : Link) (cs : List AV) (us : Array Value) : Prop where
  size : us.size = cs.length
  v : ∀ j x, cs[j]? = some x → V L x (us.getD j undef)
  one : ∀ u, u ∈ us.toList → u.oneCell' = true

theorem mem_setL : ∀ (vs : List Value) (c : Array Value) (o : Nat) (u : Value), u ∈ (setL c o vs).toList → u ∈ c.toList ∨ u ∈ vs
  | [], c, o, u, h => .inl h
  | v :: r, c, o, u, h => by
    rw [setL] at h
    rcases mem_setL r _ _ u h with h | h
    · rw [Array.toList_setIfInBounds] at h
      rcases List.mem_or_eq_of_mem_set h with h | h
      · exact .inl h
      · exact .inr (by simp [h])
    · exact .inr (by simp [h])
theorem Row.put {cs : List AV} {us : Array Value} (hr : Row L cs us) {x : AV} {v : Value} (hv : V L x v) (hx : cellsOK x = true) {off : Nat} (hf : off + (cellsOf x).length ≤ cs.length) :
    Row L (putAt cs off (cellsOf x)) (setL us off v.cells.toList) := by
  obtain ⟨h1, h2, h3⟩ := hv.cellsRel hx
  have hl : v.cells.toList.length = (cellsOf x).length := by simpa using h1
  refine ⟨by rw [size_setL, putAt_length hf]; exact hr.size, fun j y hj => ?_, fun u hu => ?_⟩
  · rw [getD_setL _ _ _ _ _ (by rw [hl, hr.size]; exact hf)]
    rw [putAt_get hf] at hj
    rw [hl]
    split at hj
    · rename_i hc
      rw [if_pos hc]
      have := h2 _ _ hj
      simpa [Array.getD_eq_getD_getElem?, List.getD_eq_getElem?_getD] using this
    · rename_i hc
      rw [if_neg hc]
      exact hr.v j y hj
  · rcases mem_setL _ _ _ _ hu with h | h
    · exact hr.one u h
    · exact h3 u h
theorem fill_rel (place : Nat → Option (Nat × Nat)) : ∀ (parts : List (Nat × AV)) (vals : List (Nat × Value)) (cs : List AV) (us : Array Value) (out : List AV), parts.length = vals.length →
    (∀ (k : Nat) (p : Nat × AV) (q : Nat × Value), parts[k]? = some p → vals[k]? = some q → p.1 = q.1 ∧ V L p.2 q.2) → Row L cs us → fillA place cs parts = some out → ∃ us', Instr.fill place us vals = some us' ∧ Row L out us'
  | [], [], cs, us, out, _, _, hr, hf => by simp only [fillA] at hf; cases hf; exact ⟨us, rfl, hr⟩
  | [], _ :: _, _, _, _, hl, _, _, _ => by simp at hl
  | _ :: _, [], _, _, _, hl, _, _, _ => by simp at hl
  | (i, x) :: r, (i', v) :: q, cs, us, out, hl, hk, hr, hf => by
    obtain ⟨h1, h2⟩ := hk 0 _ _ rfl rfl
    simp only at h1 h2
    subst h1
    simp only [fillA] at hf
    cases hp : place i with
    | none => rw [hp] at hf; cases hf
    | some os =>
      obtain ⟨off, size⟩ := os
      rw [hp] at hf
      simp only at hf
      split at hf
      · rename_i hc
        obtain ⟨h3, h4, h5⟩ := hc
        have h6 : v.cells.size = (cellsOf x).length := (h2.cellsRel h5).1
        obtain ⟨us', h7, h8⟩ := fill_rel place r q _ _ out (by simpa using hl) (fun k p q' hp' hq' => hk (k + 1) p q' hp' hq') (hr.put h2 h5 (by omega)) hf
        refine ⟨us', ?_, h8⟩
        simp only [Instr.fill, hp]
        rw [if_neg (by have := hr.size; simp; omega), ← Array.foldl_toList, Array.toList_zipIdx, foldl_zipIdx]
        exact h7
      · cases hf

def partsE (e : Operand → AV) (parts : Array (Nat × Operand)) : List (Nat × AV) := parts.toList.map fun p => (p.1, e p.2)
theorem parts_rel {parts : Array (Nat × Operand)} (hx : ∀ p, p ∈ parts.toList → V L (e p.2) (a.eval p.2)) : (partsE e parts).length = (parts.map fun (i, x) => (i, a.eval x)).toList.length ∧
    ∀ (k : Nat) (p : Nat × AV) (q : Nat × Value), (partsE e parts)[k]? = some p → (parts.map fun (i, x) => (i, a.eval x)).toList[k]? = some q → p.1 = q.1 ∧ V L p.2 q.2 := by
  refine ⟨by simp [partsE], fun k p q hp hq => ?_⟩
  simp only [partsE, List.getElem?_map, Array.toList_map] at hp hq
  cases hk : parts.toList[k]? with
  | none => rw [hk] at hp; cases hp
  | some z =>
    rw [hk] at hp hq
    cases hp; cases hq
    exact ⟨rfl, hx z (List.mem_of_getElem? hk)⟩

def offs (fs : List (Nat × Nat × Bool)) (i : Nat) : Option (Nat × Nat) := (fs[i]?).map fun f => (f.1, f.2.1)
def sBuild (P : Program) (T : TI) (parts : List (Nat × AV)) (h : AHeap) (n : Nat) : R1 :=
  match T.zero, T.k with
  | some z, .strct fs => match fillA (offs fs) z parts with | some cs => ⟨True, .agg cs, h, n⟩ | none => bad h n
  | some z, .array _ t => match fillA (fun i => some (i * (tyOf P t).size, (tyOf P t).size)) z parts with | some cs => ⟨(tyOf P t).zero.isSome = true, .agg cs, h, n⟩ | none => bad h n
  | _, _ => bad h n
theorem mapM_places : ∀ (fs : List Field) (w : World), (∀ f, f ∈ fs → P.info? f.type ≠ none) → (fs.mapM fun (f : Field) => do pure (f.offset, ← sizeOf f.type)).run P w = .ok (fs.map fun (f : Field) => (f.offset, P.cellsOf f.type)) w
  | [], w, _ => by simp
  | f :: r, w, hf => by
    have h1 : (sizeOf f.type).run P w = .ok (P.cellsOf f.type) w := by
      cases hi : P.info? f.type with
      | none => exact absurd hi (hf f (by simp))
      | some i => simp [sizeOf, typeInfo, hi, Program.cellsOf]
    rw [List.mapM_cons]
    simp only [Sem.run_bind, h1, Result.andThen_ok, Sem.run_pure, mapM_places r w (fun g hg => hf g (by simp [hg])), List.map_cons]
theorem snd_build {t : TypeId} {parts : Array (Nat × Operand)} (ho : o.op = .build t parts) (hg : Good L h n w) (hx : ∀ p, p ∈ parts.toList → V L (e p.2) (a.eval p.2)) :
    Snd P L a w o (sBuild P (tyOf P t) (partsE e parts) h n) := by
  have hp := parts_rel (a := a) hx
  unfold sBuild
  split
  · rename_i z fs hz hk
    split
    · rename_i cs hc
      refine Snd.quiet hg fun _ => ⟨rfl, rfl, ?_⟩
      obtain ⟨v, h1, h2, h3, h4⟩ := zero_rel L hz
      obtain ⟨us', h5, h6⟩ := fill_rel (L := L) _ _ _ z v.cells cs hp.1 hp.2 ⟨h2, h3, h4⟩ hc
      obtain ⟨gs, hu, hi, rfl⟩ := ty_strct hk
      refine ⟨.agg us', ?_, .agg _ _ h6.size h6.v⟩
      have hpl : (fun i => (gs.toList.map fun (f : Field) => (f.offset, P.cellsOf f.type)).toArray[i]?) = offs (gs.toList.map fun f => (f.offset, P.cellsOf f.type, aggOf P f.type)) := by
        funext i
        simp [offs]
        cases gs[i]? <;> rfl
      unfold execOp
      simp only [ho, Instr.build, h1, Sem.run_bind, Result.andThen_ok, run_underlying hu]
      rw [Array.mapM_eq_mapM_toList, Sem.run_map, mapM_places _ _ (fun f hf => (hi f hf).1)]
      simp only [Result.andThen_ok]
      rw [hpl, h5]
      rfl
    · exact Snd.bad
  · rename_i z m t' hz hk
    split
    · rename_i cs hc
      refine Snd.quiet hg fun hq => ⟨rfl, rfl, ?_⟩
      obtain ⟨v, h1, h2, h3, h4⟩ := zero_rel L hz
      obtain ⟨us', h5, h6⟩ := fill_rel (L := L) _ _ _ z v.cells cs hp.1 hp.2 ⟨h2, h3, h4⟩ hc
      have hu := ty_array hk
      have hsz : (sizeOf t').run P w = .ok (tyOf P t').size w := by
        obtain ⟨z', hz'⟩ := Option.isSome_iff_exists.1 hq
        obtain ⟨i, v', h1', _, _, _, h5', _⟩ := ty_zero hz'
        simp [sizeOf, typeInfo, h1', h5']
      refine ⟨.agg us', ?_, .agg _ _ h6.size h6.v⟩
      unfold execOp
      simp only [ho, Instr.build, h1, Sem.run_bind, Result.andThen_ok, run_underlying hu, hsz]
      rw [h5]
      rfl
    · exact Snd.bad
  · exact Snd.bad
end
end Go.AM
