/- An abstract machine over the model: tables of callees; arguments by their data; ends of calls in an empty memory. -/
import Derived.Test.YtdocdnmbmikefaaAmG
import Derived.Test.YtdocdnmbmikefaaAmH
set_option linter.unusedVariables false
set_option linter.unusedSimpArgs false
namespace Go.AM

abbrev Ent := List AV → Option (Prop × AV)
def EntOK (P : Program) (f : FuncId) (g : Ent) : Prop := ∀ as p v, g as = some (p, v) → p → ∀ (h : AHeap) (n : Nat) (K : AV → AHeap → Nat → Prop), K v h n → ACall P f as h n K
def tabE : List (FuncId × Ent) → FuncId → Ent
  | [], _ => fun _ => none
  | (k, g) :: r, f => if f = k then g else tabE r f
theorem tabE_nil (f : FuncId) (as : List AV) : tabE [] f as = none := rfl
theorem tabE_cons (k f : FuncId) (g : Ent) (r : List (FuncId × Ent)) (as : List AV) : tabE ((k, g) :: r) f as = if f = k then g as else tabE r f as := by
  show (if f = k then g else tabE r f) as = _
  split <;> rfl
theorem tab_nil {P : Program} : EOK P (tabE []) := ⟨fun _ _ _ _ h => by cases h⟩
theorem tab_cons {P : Program} {k : FuncId} {g : Ent} {r : List (FuncId × Ent)} (hg : EntOK P k g) (h : EOK P (tabE r)) : EOK P (tabE ((k, g) :: r)) :=
  ⟨fun f as p v h1 h2 => by
    rw [tabE_cons] at h1
    split at h1
    · rename_i e; subst e; exact hg as p v h1 h2
    · exact h.ok f as p v h1 h2⟩

/-- Data that lies in cells, one to one. -/
class Cells (α : Type) where
  cells : α → List D
  inj : ∀ a b, cells a = cells b → a = b
/-- Data that is handed over, one to one. -/
class Arg (α : Type) where
  av : α → AV
  inj : ∀ a b, av a = av b → a = b
  sc : ∀ a, Sc 0 (av a)
theorem mapInj {α β : Type} {f : α → β} (hf : ∀ a b, f a = f b → a = b) : ∀ {l m : List α}, l.map f = m.map f → l = m
  | [], [], _ => rfl
  | [], _ :: _, h => by cases h
  | _ :: _, [], h => by cases h
  | a :: l, b :: m, h => by
    simp only [List.map_cons, List.cons.injEq] at h
    rw [hf a b h.1, mapInj hf h.2]
instance : Cells Int := ⟨fun n => [.int .i64 n], fun a b h => by injection h with h; injection h⟩
instance {α : Type} [Cells α] : Cells (List α) := ⟨fun l => [.ro (l.map Cells.cells)], fun a b h => by injection h with h; injection h with h; exact mapInj Cells.inj h⟩
instance : Arg Int := ⟨fun n => .d (.int .i64 n), fun a b h => by injection h with h; injection h, fun _ => .d _⟩
instance : Arg Bool := ⟨fun n => .d (.bool n), fun a b h => by injection h with h; injection h, fun _ => .d _⟩
instance {α : Type} [Cells α] : Arg (List α) := ⟨fun l => .d (.ro (l.map Cells.cells)), fun a b h => by injection h with h; injection h with h; exact mapInj Cells.inj h, fun _ => .d _⟩
def aggA {α : Type} [Cells α] (a : α) : AV := .agg ((Cells.cells a).map .d)
theorem aggA_inj {α : Type} [Cells α] (a b : α) (h : aggA a = aggA b) : a = b := by
  unfold aggA at h; injection h with h; exact Cells.inj _ _ (mapInj (fun _ _ h => by injection h) h)
open Classical in
noncomputable def decF {α : Type} (enc : α → List AV) (pre : α → Prop) (f : α → AV) : Ent := fun xs => if h : ∃ a, xs = enc a then some (pre h.choose, f h.choose) else none
theorem decF_eq {α : Type} {enc : α → List AV} (inj : ∀ a b, enc a = enc b → a = b) (pre : α → Prop) (f : α → AV) (a : α) : decF enc pre f (enc a) = some (pre a, f a) := by
  have h : ∃ b, enc a = enc b := ⟨a, rfl⟩
  unfold decF
  rw [dif_pos h, inj _ _ h.choose_spec.symm]
theorem decF_ok {P : Program} {F : FuncId} {α : Type} {enc : α → List AV} {pre : α → Prop} {f : α → AV} (hc : ∀ a, pre a → Pure P F (enc a) (f a)) : EntOK P F (decF enc pre f) := fun xs p v hq hp h n K hk => by
  unfold decF at hq
  split at hq
  · rename_i hx
    cases hq
    have := hc hx.choose hp h n K hk
    rw [← hx.choose_spec] at this
    exact this
  · cases hq
variable {α β γ δ ε : Type} [Arg α] [Arg β] [Arg γ] [Arg δ] [Arg ε]
noncomputable def fE1 (pre : α → Prop) (f : α → AV) : Ent := decF (fun a : α => [Arg.av a]) (fun a => pre a) (fun a => f a)
theorem fE1_eq (pre : α → Prop) (f : α → AV) (a : α) : fE1 pre f [Arg.av a] = some (pre a, f a) :=
  decF_eq (enc := (fun a : α => [Arg.av a])) (fun a b h => by injection h with h1 h; exact Arg.inj _ _ h1) _ _ a
theorem fE1_ok {P : Program} {F : FuncId} {pre : α → Prop} {f : α → AV} (h : ∀ a, pre a → Pure P F [Arg.av a] (f a)) : EntOK P F (fE1 pre f) := decF_ok fun a hp => h a hp
noncomputable def fE2 (pre : α → β → Prop) (f : α → β → AV) : Ent := decF (fun a : α × β => [Arg.av a.1, Arg.av a.2]) (fun a => pre a.1 a.2) (fun a => f a.1 a.2)
theorem fE2_eq (pre : α → β → Prop) (f : α → β → AV) (a : α) (b : β) : fE2 pre f [Arg.av a, Arg.av b] = some (pre a b, f a b) :=
  decF_eq (enc := (fun a : α × β => [Arg.av a.1, Arg.av a.2])) (fun a b h => by injection h with h1 h; injection h with h2 h; exact Prod.ext (Arg.inj _ _ h1) (Arg.inj _ _ h2)) _ _ (a, b)
theorem fE2_ok {P : Program} {F : FuncId} {pre : α → β → Prop} {f : α → β → AV} (h : ∀ a b, pre a b → Pure P F [Arg.av a, Arg.av b] (f a b)) : EntOK P F (fE2 pre f) := decF_ok fun a hp => h a.1 a.2 hp
noncomputable def fE3 (pre : α → β → γ → Prop) (f : α → β → γ → AV) : Ent := decF (fun a : α × β × γ => [Arg.av a.1, Arg.av a.2.1, Arg.av a.2.2]) (fun a => pre a.1 a.2.1 a.2.2) (fun a => f a.1 a.2.1 a.2.2)
theorem fE3_eq (pre : α → β → γ → Prop) (f : α → β → γ → AV) (a : α) (b : β) (c : γ) : fE3 pre f [Arg.av a, Arg.av b, Arg.av c] = some (pre a b c, f a b c) :=
  decF_eq (enc := (fun a : α × β × γ => [Arg.av a.1, Arg.av a.2.1, Arg.av a.2.2])) (fun a b h => by injection h with h1 h; injection h with h2 h; injection h with h3 h; exact Prod.ext (Arg.inj _ _ h1) (Prod.ext (Arg.inj _ _ h2) (Arg.inj _ _ h3))) _ _ (a, b, c)
theorem fE3_ok {P : Program} {F : FuncId} {pre : α → β → γ → Prop} {f : α → β → γ → AV} (h : ∀ a b c, pre a b c → Pure P F [Arg.av a, Arg.av b, Arg.av c] (f a b c)) : EntOK P F (fE3 pre f) := decF_ok fun a hp => h a.1 a.2.1 a.2.2 hp
noncomputable def fE4 (pre : α → β → γ → δ → Prop) (f : α → β → γ → δ → AV) : Ent := decF (fun a : α × β × γ × δ => [Arg.av a.1, Arg.av a.2.1, Arg.av a.2.2.1, Arg.av a.2.2.2]) (fun a => pre a.1 a.2.1 a.2.2.1 a.2.2.2) (fun a => f a.1 a.2.1 a.2.2.1 a.2.2.2)
theorem fE4_eq (pre : α → β → γ → δ → Prop) (f : α → β → γ → δ → AV) (a : α) (b : β) (c : γ) (d : δ) : fE4 pre f [Arg.av a, Arg.av b, Arg.av c, Arg.av d] = some (pre a b c d, f a b c d) :=
  decF_eq (enc := (fun a : α × β × γ × δ => [Arg.av a.1, Arg.av a.2.1, Arg.av a.2.2.1, Arg.av a.2.2.2])) (fun a b h => by injection h with h1 h; injection h with h2 h; injection h with h3 h; injection h with h4 h; exact Prod.ext (Arg.inj _ _ h1) (Prod.ext (Arg.inj _ _ h2) (Prod.ext (Arg.inj _ _ h3) (Arg.inj _ _ h4)))) _ _ (a, b, c, d)
theorem fE4_ok {P : Program} {F : FuncId} {pre : α → β → γ → δ → Prop} {f : α → β → γ → δ → AV} (h : ∀ a b c d, pre a b c d → Pure P F [Arg.av a, Arg.av b, Arg.av c, Arg.av d] (f a b c d)) : EntOK P F (fE4 pre f) := decF_ok fun a hp => h a.1 a.2.1 a.2.2.1 a.2.2.2 hp
noncomputable def fE5 (pre : α → β → γ → δ → ε → Prop) (f : α → β → γ → δ → ε → AV) : Ent := decF (fun a : α × β × γ × δ × ε => [Arg.av a.1, Arg.av a.2.1, Arg.av a.2.2.1, Arg.av a.2.2.2.1, Arg.av a.2.2.2.2]) (fun a => pre a.1 a.2.1 a.2.2.1 a.2.2.2.1 a.2.2.2.2) (fun a => f a.1 a.2.1 a.2.2.1 a.2.2.2.1 a.2.2.2.2)
theorem fE5_eq (pre : α → β → γ → δ → ε → Prop) (f : α → β → γ → δ → ε → AV) (a : α) (b : β) (c : γ) (d : δ) (e : ε) : fE5 pre f [Arg.av a, Arg.av b, Arg.av c, Arg.av d, Arg.av e] = some (pre a b c d e, f a b c d e) :=
  decF_eq (enc := (fun a : α × β × γ × δ × ε => [Arg.av a.1, Arg.av a.2.1, Arg.av a.2.2.1, Arg.av a.2.2.2.1, Arg.av a.2.2.2.2])) (fun a b h => by injection h with h1 h; injection h with h2 h; injection h with h3 h; injection h with h4 h; injection h with h5 h; exact Prod.ext (Arg.inj _ _ h1) (Prod.ext (Arg.inj _ _ h2) (Prod.ext (Arg.inj _ _ h3) (Prod.ext (Arg.inj _ _ h4) (Arg.inj _ _ h5))))) _ _ (a, b, c, d, e)
theorem fE5_ok {P : Program} {F : FuncId} {pre : α → β → γ → δ → ε → Prop} {f : α → β → γ → δ → ε → AV} (h : ∀ a b c d e, pre a b c d e → Pure P F [Arg.av a, Arg.av b, Arg.av c, Arg.av d, Arg.av e] (f a b c d e)) : EntOK P F (fE5 pre f) := decF_ok fun a hp => h a.1 a.2.1 a.2.2.1 a.2.2.2.1 a.2.2.2.2 hp
def fE0 (v : AV) : Ent := fun xs => match xs with | [] => some (True, v) | _ => none
theorem fE0_eq (v : AV) : fE0 v [] = some (True, v) := rfl
theorem fE0_ok {P : Program} {F : FuncId} {v : AV} (h : Pure P F [] v) : EntOK P F (fE0 v) := fun xs p w hq _ h' n K hk => by
  unfold fE0 at hq
  split at hq
  · cases hq; exact h h' n K hk
  · cases hq

/-! ### Ends in an empty memory -/
def nrm : D → D
  | .nilS => .ro []
  | x => x
theorem fzD_d (k : Nat) (h : AHeap) (x : D) : fzD k h (.d x) = some (nrm x) := by
  cases x <;> cases k <;> rfl
theorem allS_some {α β : Type} (f : α → β) : ∀ l : List α, allS (l.map fun x => some (f x)) = some (l.map f)
  | [] => rfl
  | x :: r => by simp only [List.map_cons, allS]; rw [allS_some f r]
theorem fzD_arr {k : Nat} {h : AHeap} {l v sz i len : Nat} {rows : List (List AV)} {rs : List (List D)} (hl : h l = some (.cells v sz rows)) (hr : (rows.drop i).take len = rs.map (·.map .d)) (hi : i + len ≤ rows.length) :
    fzD (k + 1) h (.arr l v i len) = some (.ro (rs.map (·.map nrm))) := by
  simp only [fzD]
  rw [hl]
  simp only [hi, and_self, if_true]
  rw [hr, List.map_map]
  have : (rs.map ((fun row => allS (row.map (fzD k h))) ∘ fun x => x.map AV.d)) = rs.map fun row => some (row.map nrm) := by
    apply List.map_congr_left
    intro row _
    simp only [Function.comp, List.map_map]
    rw [← allS_some nrm row]
    congr 1
    apply List.map_congr_left
    intro x _
    exact fzD_d k h x
  rw [this, allS_some]
def KP (v : AV) : AV → AHeap → Nat → Prop := fun v' h' _ => ∃ k, fz k h' v' = some v
theorem nil_at (k : Nat) : nil k = none := rfl
theorem WFh_nil (n : Nat) : WFh nil n := fun l ob h => by cases h
theorem Cut_nil (h : AHeap) (n : Nat) : Cut h nil n := fun l ob h => by cases h
/-- A call's end that hands back data. -/
theorem Fin.data {C : Cx} {s : St} {v' v : AV} (hn : C.n0 = 0) (hK : C.K = KP v) (hs : Sc 0 v') (hf : ∃ k, fz k nil v' = some v) : Fin C s v' :=
  ⟨nil, 0, by omega, Cut_nil _ _, WFh_nil _, hs, by rw [hK]; exact hf⟩
/-- One that hands back what it has made. -/
theorem Fin.made {C : Cx} {s : St} {v' v : AV} (hn : C.n0 = 0) (hK : C.K = KP v) (hs : Sc s.n v') (hw : WFh s.h s.n) (hf : ∃ k, fz k s.h v' = some v) : Fin C s v' :=
  ⟨s.h, s.n, by omega, fun l ob hl => ⟨hl, (hw l ob hl).1⟩, hw, hs, by rw [hK]; exact hf⟩
theorem Pure.mk {P : Program} {f : FuncId} {args : List AV} {v : AV} (hs : ∀ x, x ∈ args → Sc 0 x) (hc : ACall P f args nil 0 (KP v)) : Pure P f args v := Pure.of hs hc
theorem Sc_ds (n : Nat) (l : List D) : ∀ c, c ∈ l.map AV.d → Sc n c := fun c hc => by
  obtain ⟨x, _, rfl⟩ := List.mem_map.1 hc; exact .d x
theorem Sc_aggD (n : Nat) (l : List D) : Sc n (.agg (l.map .d)) := .agg _ (Sc_ds n l)

/-- Data as it is handed back. -/
def Data1 (v : AV) : Prop := Sc 0 v ∧ fz1 1 nil v = some v
def Data (v : AV) : Prop := Sc 0 v ∧ ∃ k, fz k nil v = some v
theorem data1_d {x : D} (h : nrm x = x) : Data1 (.d x) := ⟨.d _, by show (match fzD 1 nil (.d x) with | some y => some (AV.d y) | none => none) = _; rw [fzD_d, h]⟩
theorem data1_agg {l : List D} (h : l.map nrm = l) : Data1 (.agg (l.map .d)) := ⟨Sc_aggD _ _, by
  show (match allS ((l.map AV.d).map (fzD 1 nil)) with | some l => some (AV.agg (l.map .d)) | none => none) = _
  rw [List.map_map]
  have : (l.map (fzD 1 nil ∘ AV.d)) = l.map fun x => some (nrm x) := List.map_congr_left fun x _ => fzD_d 1 nil x
  rw [this, allS_some, h]⟩
theorem data_of {v : AV} (h : Data1 v) (hn : ∀ vs, v ≠ .tup vs) : Data v := ⟨h.1, 1, by
  unfold fz
  split
  · rename_i vs; exact (hn vs rfl).elim
  · exact h.2⟩
theorem data_d {x : D} (h : nrm x = x) : Data (.d x) := data_of (data1_d h) fun _ e => by cases e
theorem data_agg {l : List D} (h : l.map nrm = l) : Data (.agg (l.map .d)) := data_of (data1_agg h) fun _ e => by cases e
theorem data_tup {vs : List AV} (h : ∀ v, v ∈ vs → Data1 v) : Data (.tup vs) := ⟨.tup _ fun v hv => (h v hv).1, 1, by
  show (match allS (vs.map (fz1 1 nil)) with | some l => some (AV.tup l) | none => none) = _
  have : vs.map (fz1 1 nil) = vs.map fun x => some x := List.map_congr_left fun v hv => (h v hv).2
  rw [this, allS_some (fun x => x), List.map_id']⟩
theorem data_int (k : IntKind) (n : Int) : Data (.d (.int k n)) := data_d rfl
theorem data_bool (b : Bool) : Data (.d (.bool b)) := data_d rfl
theorem data_ro (xs : List (List D)) : Data (.d (.ro xs)) := data_d rfl
theorem Fin.of {C : Cx} {v : AV} (hn : C.n0 = 0) (hK : C.K = KP v) (hd : Data v) (s : St) (w : AV) (e : v = w) : Fin C s w := by
  subst e; exact Fin.data hn hK hd.1 hd.2
theorem data_tup2 {x y : AV} (h1 : Data1 x) (h2 : Data1 y) : Data (.tup [x, y]) := data_tup fun v hv => by
  simp only [List.mem_cons, List.not_mem_nil, or_false] at hv
  rcases hv with rfl | rfl <;> assumption
theorem data_tup3 {x y z : AV} (h1 : Data1 x) (h2 : Data1 y) (h3 : Data1 z) : Data (.tup [x, y, z]) := data_tup fun v hv => by
  simp only [List.mem_cons, List.not_mem_nil, or_false] at hv
  rcases hv with rfl | rfl | rfl <;> assumption

/-! ### Loops over lists -/
theorem G.rng {C : Cx} {c : Code} {k : List Item} {s : St} {β : Type} (n : Nat) (F : Nat → β → St) (P : Nat → β → Prop) (b0 : β) (hP : P 0 b0) (hw : Weaker C s (F 0 b0)) (fin : ∀ b, P n b → G C (.inLoop c :: k) (F n b))
    (step : ∀ i b, i < n → P i b → (∀ b' s', P (i + 1) b' → Weaker C s' (F (i + 1) b') → G C (.inLoop c :: k) s') → G C (.inLoop c :: k) (F i b)) : G C (.inLoop c :: k) s := by
  refine G.inv (β := Nat × β) (fun p => F p.1 p.2) (fun p => n - p.1) (fun p => p.1 ≤ n ∧ P p.1 p.2) (0, b0) ⟨Nat.zero_le _, hP⟩ hw ?_
  rintro ⟨i, b⟩ ⟨h1, h2⟩ ih
  rcases Nat.lt_or_ge i n with h | h
  · exact step i b h h2 fun b' s' h3 h4 => ih (i + 1, b') s' (by simp only; omega) ⟨by simp only; omega, h3⟩ h4
  · obtain rfl : i = n := by simp only at h1; omega
    exact fin b h2
theorem drop_step {α : Type} (l : List α) (i : Nat) (h : i < l.length) : ∃ x, l[i]? = some x ∧ l.drop i = x :: l.drop (i + 1) ∧ ∀ f : α → List D, (l.map f).getD i [] = f x :=
  ⟨l[i], List.getElem?_eq_getElem h, List.drop_eq_getElem_cons h, fun f => by simp [h]⟩
theorem ile0 (i : Nat) : ((0 : Int) ≤ (i : Int)) = True := eq_true (by omega)
theorem ilt {i n : Nat} (h : i < n) : ((i : Int) < (n : Int)) = True := eq_true (by omega)
/-- A list of no more than so many. -/
def Small {α : Type} (l : List α) : Prop := l.length < 4611686018427387904
theorem Small.take {α : Type} {l : List α} (h : Small l) (n : Nat) : Small (l.take n) := by unfold Small at h ⊢; rw [List.length_take]; omega
theorem ilt_self (n : Nat) : ((n : Int) < (n : Int)) = False := eq_false (by omega)
theorem cells_list {α : Type} [Cells α] (l : List α) : Cells.cells l = [.ro (l.map Cells.cells)] := rfl
end Go.AM
