/- An abstract machine over the model: types, and what one operation does; each is shown to be what the model does. -/
import Derived.Test.YtdocdnmbmikefaaAmC
set_option linter.unusedVariables false
set_option linter.unusedSimpArgs false
namespace Go.AM

inductive TK where
  | int (k : IntKind) | bool | str | slice (e : TypeId) | strct (fs : List (Nat × Nat × Bool)) | array (n : Nat) (e : TypeId) | map (k e : TypeId) | pointer (e : TypeId) | other

/-- What is asked of a type: cells, bytes, is it of many cells, its kind, its zero value's cells. -/
structure TI where
  size : Nat
  bytes : Nat
  agg : Bool
  k : TK
  zero : Option (List AV)

def aggOf (P : Program) (t : TypeId) : Bool := match P.underlying t with | some d => d.isRow | none => false
def tkOf (P : Program) (t : TypeId) : TK :=
  match P.underlying t with
  | some (.int k) => .int k
  | some .bool => .bool
  | some .string => .str
  | some (.slice e) => .slice e
  | some (.array n e) => .array n e
  | some (.struct fs) => if fs.toList.all (fun f => (P.info? f.type).isSome && (P.underlying f.type).isSome) then .strct (fs.toList.map fun f => (f.offset, P.cellsOf f.type, aggOf P f.type)) else .other
  | some (.map k e) => .map k e
  | some (.pointer e) => .pointer e
  | _ => .other
def zeroOf (i : TypeInfo) : Option (List AV) :=
  match i.zero with
  | some z => if (z.cells.toList.map constAV).all cellOK && (z.cells.size == i.size) then some (z.cells.toList.map constAV) else none
  | none => none
def tyOf (P : Program) (t : TypeId) : TI :=
  match P.info? t with
  | some i => { size := i.size, bytes := i.bytes, agg := aggOf P t, k := tkOf P t, zero := zeroOf i }
  | none => { size := 0, bytes := 0, agg := false, k := .other, zero := none }

section
variable {P : Program} {t : TypeId}
theorem ty_info (h : (tyOf P t).k ≠ .other) : ∃ i, P.info? t = some i ∧ i.size = (tyOf P t).size ∧ i.bytes = (tyOf P t).bytes ∧ zeroOf i = (tyOf P t).zero ∧ (tyOf P t).agg = aggOf P t ∧ (tyOf P t).k = tkOf P t := by
  unfold tyOf at h ⊢
  cases hi : P.info? t with
  | none => rw [hi] at h; exact absurd rfl h
  | some i => exact ⟨i, rfl, rfl, rfl, rfl, rfl, rfl⟩
theorem ty_k (h : (tyOf P t).k ≠ .other) : (tyOf P t).k = tkOf P t := by obtain ⟨i, _, _, _, _, _, h⟩ := ty_info h; exact h
theorem ty_slice {e : TypeId} (h : (tyOf P t).k = .slice e) : P.underlying t = some (.slice e) := by
  have h1 := ty_k (P := P) (t := t) (by rw [h]; simp)
  rw [h] at h1
  unfold tkOf at h1
  split at h1 <;> first | (cases h1; assumption) | (cases h1; done) | (split at h1 <;> cases h1; done)
theorem ty_array {n : Nat} {e : TypeId} (h : (tyOf P t).k = .array n e) : P.underlying t = some (.array n e) := by
  have h1 := ty_k (P := P) (t := t) (by rw [h]; simp)
  rw [h] at h1
  unfold tkOf at h1
  split at h1 <;> first | (cases h1; assumption) | (cases h1; done) | (split at h1 <;> cases h1; done)
theorem ty_map {k e : TypeId} (h : (tyOf P t).k = .map k e) : P.underlying t = some (.map k e) := by
  have h1 := ty_k (P := P) (t := t) (by rw [h]; simp)
  rw [h] at h1
  unfold tkOf at h1
  split at h1 <;> first | (cases h1; assumption) | (cases h1; done) | (split at h1 <;> cases h1; done)
theorem ty_pointer {e : TypeId} (h : (tyOf P t).k = .pointer e) : P.underlying t = some (.pointer e) := by
  have h1 := ty_k (P := P) (t := t) (by rw [h]; simp)
  rw [h] at h1
  unfold tkOf at h1
  split at h1 <;> first | (cases h1; assumption) | (cases h1; done) | (split at h1 <;> cases h1; done)
theorem ty_int {k : IntKind} (h : (tyOf P t).k = .int k) : P.underlying t = some (.int k) := by
  have h1 := ty_k (P := P) (t := t) (by rw [h]; simp)
  rw [h] at h1
  unfold tkOf at h1
  split at h1 <;> first | (cases h1; assumption) | (cases h1; done) | (split at h1 <;> cases h1; done)
theorem ty_bool (h : (tyOf P t).k = .bool) : P.underlying t = some .bool := by
  have h1 := ty_k (P := P) (t := t) (by rw [h]; simp)
  rw [h] at h1
  unfold tkOf at h1
  split at h1 <;> first | assumption | (cases h1; done) | (split at h1 <;> cases h1; done)
theorem ty_str (h : (tyOf P t).k = .str) : P.underlying t = some .string := by
  have h1 := ty_k (P := P) (t := t) (by rw [h]; simp)
  rw [h] at h1
  unfold tkOf at h1
  split at h1 <;> first | assumption | (cases h1; done) | (split at h1 <;> cases h1; done)
theorem ty_strct {fs : List (Nat × Nat × Bool)} (h : (tyOf P t).k = .strct fs) : ∃ gs : Array Field, P.underlying t = some (.struct gs) ∧ (∀ f, f ∈ gs.toList → P.info? f.type ≠ none ∧ P.underlying f.type ≠ none) ∧ fs = gs.toList.map fun f => (f.offset, P.cellsOf f.type, aggOf P f.type) := by
  have h1 := ty_k (P := P) (t := t) (by rw [h]; simp)
  rw [h] at h1
  unfold tkOf at h1
  split at h1
  all_goals first
    | (split at h1 <;> first
       | (rename_i hq _ hc
          injection h1 with h1
          exact ⟨_, hq, fun f hf => by have := (List.all_eq_true.1 hc) f hf; simp only [Bool.and_eq_true] at this; exact ⟨fun h0 => by simp [h0] at this, fun h0 => by simp [h0] at this⟩, h1⟩)
       | (rename_i hq hc
          injection h1 with h1
          exact ⟨_, hq, fun f hf => by have := (List.all_eq_true.1 hc) f hf; simp only [Bool.and_eq_true] at this; exact ⟨fun h0 => by simp [h0] at this, fun h0 => by simp [h0] at this⟩, h1⟩)
       | (exact absurd h1 (by simp)))
    | (exact absurd h1 (by simp))
theorem run_sz (h : (tyOf P t).k ≠ .other) (w : World) : (sizeOf t).run P w = .ok (tyOf P t).size w := by
  obtain ⟨i, hi, h1, _⟩ := ty_info h
  simp [sizeOf, typeInfo, hi, h1]
theorem run_agg (h : (tyOf P t).k ≠ .other) (w : World) : (isAgg t).run P w = .ok (tyOf P t).agg w := by
  obtain ⟨i, hi, _, _, _, h1, h2⟩ := ty_info h
  rw [h2] at h
  rw [h1]
  unfold aggOf
  unfold tkOf at h
  cases hu : P.underlying t with
  | none => rw [hu] at h; exact absurd rfl h
  | some d =>
    unfold isAgg
    rw [Sem.run_bind, run_underlying hu]
    cases d <;> rfl
theorem ty_zero {z : List AV} (h : (tyOf P t).zero = some z) : ∃ i v, P.info? t = some i ∧ i.zero = some v ∧ z = v.cells.toList.map constAV ∧ v.cells.size = i.size ∧ i.size = (tyOf P t).size ∧ z.all cellOK = true ∧ z.length = (tyOf P t).size := by
  unfold tyOf at h ⊢
  cases hi : P.info? t with
  | none => rw [hi] at h; cases h
  | some i =>
    rw [hi] at h
    simp only [zeroOf] at h
    cases hz : i.zero with
    | none => rw [hz] at h; cases h
    | some v =>
      rw [hz] at h
      simp only at h
      split at h
      · rename_i hc
        simp only [Bool.and_eq_true, beq_iff_eq] at hc
        cases h
        exact ⟨i, v, rfl, hz, rfl, hc.2, rfl, hc.1, by simp [hc.2]⟩
      · cases h
end

/-! ### One operation's result -/
structure R1 where
  pre : Prop
  v : AV
  h : AHeap
  n : Nat

def Snd (P : Program) (L : Link) (a : Act) (w : World) (o : Oper) (r : R1) : Prop :=
  r.pre → ∃ nx x w' L', (execOp a.eval o).run P w = .ok nx w' ∧ (nx = .value x ∨ (nx = .skip ∧ x = undef)) ∧ Ext L L' ∧ L'.R = L.R ∧ V L' r.v x ∧ Good L' r.h r.n w'

theorem Snd.quiet {P : Program} {L : Link} {a : Act} {w : World} {o : Oper} {r : R1} {h : AHeap} {n : Nat} (hg : Good L h n w) (hr : r.pre → r.h = h ∧ r.n = n ∧ ∃ x, (execOp a.eval o).run P w = .ok (.value x) w ∧ V L r.v x) : Snd P L a w o r := by
  intro hp
  obtain ⟨h1, h2, x, h3, h4⟩ := hr hp
  exact ⟨.value x, x, w, L, h3, .inl rfl, Ext.refl L, rfl, h4, by rw [h1, h2]; exact hg⟩

def cellsOf : AV → List AV
  | .agg cs => cs
  | x => [x]
def cellsOK : AV → Bool
  | .agg cs => cs.all cellOK
  | x => cellOK x

theorem V.cellsRel {L : Link} {x : AV} {v : Value} (h : V L x v) (hx : cellsOK x = true) : v.cells.size = (cellsOf x).length ∧ (∀ j c, (cellsOf x)[j]? = some c → V L c (v.cells.getD j undef)) ∧ ∀ u, u ∈ v.cells.toList → u.oneCell' = true := by
  by_cases hc : cellOK x = true
  · have h1 := h.notAgg hc
    have h2 := h.one hc
    have h3 : cellsOf x = [x] := by cases x <;> first | rfl | (simp [cellOK] at hc)
    rw [h1, h3]
    refine ⟨rfl, fun j c hj => ?_, fun u hu => ?_⟩
    · cases j with
      | zero => simp at hj; subst hj; exact h
      | succ j => simp at hj
    · simp at hu; subst hu; exact h2
  · cases h with
    | agg cs us hs hv =>
      refine ⟨hs, hv, fun u hu => ?_⟩
      simp only [Value.cells] at hu
      obtain ⟨j, hj⟩ := List.getElem?_of_mem hu
      have hjl : j < us.size := by have := (List.getElem?_eq_some_iff.1 hj).1; simpa using this
      have hjc : j < cs.length := by omega
      have h4 := hv j cs[j] (List.getElem?_eq_getElem hjc)
      have h5 : us.getD j undef = u := by
        simp only [Array.getElem?_toList] at hj
        simp [Array.getD_eq_getD_getElem?, hj]
      rw [h5] at h4
      exact h4.one (by simp only [cellsOK, List.all_eq_true] at hx; exact hx _ (List.getElem_mem hjc))
    | _ => simp [cellsOK] at hx hc <;> exact absurd hx (by simp [hc])

end Go.AM
