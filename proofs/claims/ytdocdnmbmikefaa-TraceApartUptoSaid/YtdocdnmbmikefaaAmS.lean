/- An abstract machine over the model: what a call is handed, read as data; what is to be shown of a law. -/
import Derived.Test.YtdocdnmbmikefaaAmH
import Derived.Carry
import Derived.ChangeArms
set_option linter.unusedVariables false
set_option linter.unusedSimpArgs false
namespace Go.AM
inductive F2 {α β : Type} (R : α → β → Prop) : List α → List β → Prop
  | nil : F2 R [] []
  | cons {a b l m} : R a b → F2 R l m → F2 R (a :: l) (b :: m)
theorem F2.append {α β : Type} {R : α → β → Prop} {a c : List α} {b d : List β} (h : F2 R a b) (h' : F2 R c d) : F2 R (a ++ c) (b ++ d) := by
  induction h with
  | nil => exact h'
  | cons h1 _ ih => exact .cons h1 ih
theorem F2.length {α β : Type} {R : α → β → Prop} {a : List α} {b : List β} (h : F2 R a b) : a.length = b.length := by
  induction h with
  | nil => rfl
  | cons _ _ ih => simp [ih]
theorem F2.get {α β : Type} {R : α → β → Prop} {a : List α} {b : List β} (h : F2 R a b) : ∀ (i : Nat) x y, a[i]? = some x → b[i]? = some y → R x y := by
  induction h with
  | nil => intro i x y h; simp at h
  | cons h1 _ ih =>
    intro i x y h2 h3
    cases i with
    | zero => simp at h2 h3; rw [← h2, ← h3]; exact h1
    | succ i => simp at h2 h3; exact ih i x y h2 h3
theorem F2.of {α β : Type} {R : α → β → Prop} : ∀ {a : List α} {b : List β}, a.length = b.length → (∀ (i : Nat) x y, a[i]? = some x → b[i]? = some y → R x y) → F2 R a b
  | [], [], _, _ => .nil
  | x :: a, y :: b, hl, h => .cons (h 0 x y rfl rfl) (F2.of (by simpa using hl) fun i u v h1 h2 => h (i + 1) u v (by simpa using h1) (by simpa using h2))
  | [], _ :: _, hl, _ => by simp at hl
  | _ :: _, [], hl, _ => by simp at hl

/-- Data of a type. -/
def TyD {H : Type} (P : Program) : Nat → TypeId → List D → DataW H → Prop
  | 0, _, _, _ => False
  | g + 1, t, ds, d => match P.underlying t with
    | some .bool => ∃ b, ds = [.bool b]
    | some (.int k) => ∃ n, ds = [.int k n] ∧ (Lit.int k n).wf = true
    | some .string => ∃ s : ByteArray, ds = [.str s] ∧ d = .lit (.string s.data.toList)
    | some (.slice e) => ∃ xs es, ds = [.ro xs] ∧ ((d = .nil ∧ es = []) ∨ ∃ sp, d = .slice es sp) ∧ F2 (TyD P g e) xs es
    | some (.struct fs) => ∃ parts es, d = .agg es ∧ ds = List.flatten parts ∧ parts.length = fs.size ∧ es.length = fs.size ∧
        ∀ (i : Nat) fld part e, fs[i]? = some fld → parts[i]? = some part → es[i]? = some e → TyD P g fld.type part e ∧ part.length = P.cellsOf fld.type
    | _ => False
def contig (P : Program) : Nat → List Field → Option Nat
  | off, [] => some off
  | off, f :: r => if f.offset = off then contig P (off + P.cellsOf f.type) r else none
def okTy (P : Program) : Nat → TypeId → Bool
  | 0, _ => false
  | g + 1, t => match P.underlying t with
    | some .bool => true
    | some (.int _) => true
    | some .string => true
    | some (.slice e) => decide (0 < P.cellsOf e) && okTy P g e
    | some (.struct fs) => decide (contig P 0 fs.toList = some (P.cellsOf t)) && fs.toList.all fun f => okTy P g f.type
    | _ => false
theorem mapM_some {α β : Type} {g : α → Option β} : ∀ {l : List α} {xs : List β}, l.mapM g = some xs → xs.length = l.length ∧ ∀ (i : Nat) a, l[i]? = some a → ∃ x, xs[i]? = some x ∧ g a = some x
  | [], xs, h => by
    have : some [] = some xs := h
    cases this
    exact ⟨rfl, fun i a h => by simp at h⟩
  | a :: l, xs, h => by
    rw [List.mapM_cons] at h
    cases ha : g a with
    | none => rw [ha] at h; cases h
    | some x =>
      rw [ha] at h
      cases hl : l.mapM g with
      | none => rw [hl] at h; cases h
      | some ys =>
        rw [hl] at h
        have : some (x :: ys) = some xs := h
        cases this
        obtain ⟨h1, h2⟩ := mapM_some hl
        refine ⟨by simp [h1], fun i b hb => ?_⟩
        cases i with
        | zero => simp at hb; subst hb; exact ⟨x, rfl, ha⟩
        | succ i => simp at hb ⊢; exact h2 i b hb
theorem contig_le {P : Program} : ∀ {l : List Field} {off n : Nat}, contig P off l = some n → off ≤ n
  | [], off, n, h => by cases h; exact Nat.le_refl _
  | f :: r, off, n, h => by
    simp only [contig] at h
    split at h
    · have := contig_le h; omega
    · cases h
theorem cell_spot {w : World} {a : Addr} {v : Value} (h : w.cell? a = some v) : a = ⟨a.block, a.off, none⟩ ∧ ∃ c e z, w.heap[a.block]? = some (.cells c e z) ∧ c[a.off]? = some v := by
  unfold World.cell? at h
  split at h
  · rename_i c e z hb
    split at h
    · cases h
    · rename_i hs
      obtain ⟨b, o, s⟩ := a
      cases s with
      | none => exact ⟨rfl, c, e, z, hb, h⟩
      | some s => simp at hs
  · cases h
theorem list_choose {α : Type} {n : Nat} {p : Nat → α → Prop} (h : ∀ i, i < n → ∃ x, p i x) : ∃ l : List α, l.length = n ∧ ∀ (i : Nat) x, l[i]? = some x → p i x := by
  induction n with
  | zero => exact ⟨[], rfl, fun i x h => by simp at h⟩
  | succ n ih =>
    obtain ⟨l, h1, h2⟩ := ih fun i hi => h i (by omega)
    obtain ⟨x, hx⟩ := h n (by omega)
    refine ⟨l ++ [x], by simp [h1], fun i y hy => ?_⟩
    rw [List.getElem?_append] at hy
    split at hy
    · exact h2 i y hy
    · rename_i hlt
      have : i - l.length = 0 := by
        have := (List.getElem?_eq_some_iff.1 hy).1
        simp at this; omega
      rw [this] at hy
      simp at hy
      subst hy
      have : i = n := by omega
      subst this; exact hx
theorem cells_get {w : World} {a : Addr} {n : Nat} {cs : List Value} (h : w.cells? 0 a n = some cs) (j : Nat) (hj : j < n) : ∃ v, cs[j]? = some v ∧ w.cell? (a.add j) = some v := by
  unfold World.cells? at h
  rw [if_pos (Nat.zero_le _)] at h
  obtain ⟨_, h2⟩ := mapM_some h
  exact h2 j j (by simp [hj])
theorem cells_len {w : World} {a : Addr} {n : Nat} {cs : List Value} (h : w.cells? 0 a n = some cs) : cs.length = n := by
  unfold World.cells? at h
  rw [if_pos (Nat.zero_le _)] at h
  simpa using (mapM_some h).1
theorem trod_D {H : Type} {enc : TypeId × Value → H} {P : Program} {w : World} {sp : Nat → Bool} {hd : Bool} {R : Nat → Option Obj} (hL : ∀ b o, w.heap[b]? = some o → R b = some o) :
    ∀ (g f : Nat) (t : TypeId) (cs : List Value) (d : DataW H) (ps : List MemPlace), okTy P g t = true → DataW.trod enc P w 0 sp hd f t cs = some (d, ps) → ∃ ds, TyD P g t ds d ∧ F2 (fun v x => DV R x v) cs ds := by
  intro g
  induction g with
  | zero => intro f t cs d ps h; cases h
  | succ g ih =>
    intro f t cs d ps hok h
    cases f with
    | zero => cases h
    | succ f =>
      have hfields : ∀ (l : List Field) (off total : Nat), contig P off l = some total → (∀ fl, fl ∈ l → okTy P g fl.type = true) → ∀ (cs : List Value) (xs : List (DataW H × List MemPlace)), cs.length = total → xs.length = l.length →
          (∀ (i : Nat) fl, l[i]? = some fl → DataW.trod enc P w 0 sp hd f fl.type ((cs.drop fl.offset).take (P.cellsOf fl.type)) = xs[i]?) →
          ∃ parts : List (List D), parts.length = l.length ∧ (∀ (i : Nat) fld part x, l[i]? = some fld → parts[i]? = some part → xs[i]? = some x → TyD P g fld.type part x.1 ∧ part.length = P.cellsOf fld.type) ∧ F2 (fun v x => DV R x v) (cs.drop off) parts.flatten := by
        intro l
        induction l with
        | nil =>
          intro off total hc _ cs xs hl _ _
          cases hc
          refine ⟨[], rfl, fun i fld part x h => by simp at h, ?_⟩
          rw [← hl, List.drop_length]; exact .nil
        | cons fl l ihl =>
          intro off total hc hall cs xs hl hxl hx
          simp only [contig] at hc
          split at hc
          · rename_i ho
            subst ho
            have hle := contig_le hc
            cases xs with
            | nil => simp at hxl
            | cons x ys =>
              have h0 := hx 0 fl rfl
              simp only [List.getElem?_cons_zero] at h0
              obtain ⟨ds, q1, q2⟩ := ih f fl.type _ x.1 x.2 (hall fl (by simp)) h0
              obtain ⟨parts, r1, r3, r4⟩ := ihl _ _ hc (fun y hy => hall y (by simp [hy])) cs ys hl (by simpa using hxl) (fun i y hy => by have := hx (i + 1) y (by simpa using hy); simpa using this)
              have hlen : ds.length = P.cellsOf fl.type := by rw [← q2.length]; simp; omega
              refine ⟨ds :: parts, by simp [r1], fun i fld part z h1 h2 h3 => ?_, ?_⟩
              · cases i with
                | zero => simp at h1 h2 h3; subst h1; subst h2; subst h3; exact ⟨q1, hlen⟩
                | succ i => simp at h1 h2 h3; exact r3 i fld part z h1 h2 h3
              · rw [List.flatten_cons]
                have : cs.drop fl.offset = (cs.drop fl.offset).take (P.cellsOf fl.type) ++ cs.drop (fl.offset + P.cellsOf fl.type) := by
                  rw [← List.drop_drop, List.take_append_drop]
                rw [this]
                exact q2.append r4
          · cases hc
      simp only [okTy] at hok
      simp only [TyD]
      cases hu : P.underlying t with
      | none => rw [hu] at hok; cases hok
      | some u =>
        rw [hu] at hok
        cases u with
        | bool =>
          obtain ⟨b, rfl, _⟩ := DataW.trod_bool hu h
          exact ⟨_, ⟨_, rfl⟩, .cons (.bool _) .nil⟩
        | int k =>
          obtain ⟨n, rfl, _, hwf⟩ := DataW.trod_int hu h
          exact ⟨_, ⟨_, rfl, hwf⟩, .cons (.int _ _) .nil⟩
        | string =>
          obtain ⟨s, rfl, hx, _⟩ := DataW.trod_string hu h
          cases hx
          exact ⟨_, ⟨_, rfl, rfl⟩, .cons (.str _) .nil⟩
        | slice e =>
          simp only [Bool.and_eq_true, decide_eq_true_eq] at hok
          obtain ⟨hpos, hoe⟩ := hok
          rcases DataW.trod_slice hu h with ⟨rfl, hx⟩ | ⟨a, len, cap, elems, rest, n, hfu, rfl, hx, _, hlc, _, hel, hget, _⟩
          · cases hx
            exact ⟨_, ⟨[], [], rfl, .inl ⟨rfl, rfl⟩, .nil⟩, .cons .roN .nil⟩
          · injection hfu with hfu
            subst hfu
            injection hx with hd' _
            have hone : ∀ i, i < len → ∃ ds : List D, ∃ cs' y, w.cells? 0 (a.add (i * P.cellsOf e)) (P.cellsOf e) = some cs' ∧ elems[i]? = some y ∧ TyD P g e ds y.1 ∧ F2 (fun v x => DV R x v) cs' ds := fun i hi => by
              have := hget i hi
              rw [List.getElem?_eq_getElem (by omega)] at this
              rw [Option.bind_eq_some_iff] at this
              obtain ⟨cs', z1, z2⟩ := this
              obtain ⟨ds, z3, z4⟩ := ih f e cs' elems[i].1 elems[i].2 hoe z2
              exact ⟨ds, cs', _, z1, List.getElem?_eq_getElem (by omega), z3, z4⟩
            obtain ⟨rows, hrl, hrows⟩ := list_choose hone
            refine ⟨[.ro rows], ⟨rows, elems.map (·.1), rfl, .inr ⟨_, hd'⟩, F2.of (by simp [hrl, hel]) fun i x y h1 h2 => ?_⟩, .cons ?_ .nil⟩
            · obtain ⟨cs', z, _, z2, z3, _⟩ := hrows i x h1
              rw [List.getElem?_map, z2] at h2
              cases h2
              exact z3
            · by_cases h0 : len = 0
              · subst h0
                have : rows = [] := List.eq_nil_of_length_eq_zero hrl
                subst this
                exact .roE _ _
              · have hspot : a = ⟨a.block, a.off, none⟩ := by
                  obtain ⟨ds, cs', y, z1, _⟩ := hone 0 (by omega)
                  have z1 := cells_get z1 0 hpos
                  obtain ⟨v, _, z2⟩ := z1
                  rw [Nat.zero_mul, Addr.add, if_pos rfl, Addr.add, if_pos rfl] at z2
                  exact (cell_spot z2).1
                have hcell : ∀ i j, i < len → j < P.cellsOf e → ∃ cs' v, w.cells? 0 (a.add (i * P.cellsOf e)) (P.cellsOf e) = some cs' ∧ cs'[j]? = some v ∧ cellR R a.block (a.off + i * P.cellsOf e + j) = some v := fun i j hi hj => by
                  obtain ⟨ds, cs', y, z1, _⟩ := hone i hi
                  obtain ⟨v, z2, z3⟩ := cells_get z1 j hj
                  refine ⟨cs', v, z1, z2, ?_⟩
                  rw [hspot, Addr_add, Addr_add] at z3
                  obtain ⟨_, c, e', z, z4, z5⟩ := cell_spot z3
                  unfold cellR
                  rw [hL _ _ z4]
                  exact z5
                have := @DV.ro R rows a.block a.off cap (P.cellsOf e) (fun i j => (cellR R a.block (a.off + i * P.cellsOf e + j)).getD undef) (by omega) (fun row hm => by
                    obtain ⟨i, hi⟩ := List.getElem?_of_mem hm
                    obtain ⟨cs', y, z1, z2, z3, z4⟩ := hrows i row hi
                    rw [← z4.length]
                    exact cells_len z1) (fun i j hi hj => by
                    obtain ⟨cs', v, _, _, z⟩ := hcell i j (by omega) hj
                    rw [z]; rfl) (fun i j c row hi hj => by
                    have hil : i < len := by rw [← hrl]; exact (List.getElem?_eq_some_iff.1 hi).1
                    obtain ⟨cs', y, z1, z2, z3, z4⟩ := hrows i row hi
                    have hjl : j < P.cellsOf e := by rw [← cells_len z1, z4.length]; exact (List.getElem?_eq_some_iff.1 hj).1
                    obtain ⟨cs2, v, y1, y2, y3⟩ := hcell i j hil hjl
                    rw [z1] at y1
                    cases y1
                    rw [y3]
                    exact z4.get j v c y2 hj)
                rw [hrl] at this
                rw [hspot]
                exact this
        | struct fs =>
          simp only [Bool.and_eq_true, decide_eq_true_eq] at hok
          obtain ⟨xs, n, hfu, hx, hcl, hxl, hget⟩ := DataW.trod_struct hu h
          injection hfu with hfu
          subst hfu
          injection hx with hd' _
          obtain ⟨parts, r1, r3, r4⟩ := hfields fs.toList 0 _ hok.1 (fun fl hfl => List.all_eq_true.1 hok.2 fl hfl) cs xs hcl (by simpa using hxl) (fun i fl hfl => hget i fl (by simpa using hfl))
          refine ⟨parts.flatten, ⟨parts, xs.map (·.1), hd', rfl, by simpa using r1, by simpa using hxl, fun i fld part e h1 h2 h3 => ?_⟩, by simpa using r4⟩
          rw [List.getElem?_map] at h3
          cases hy : xs[i]? with
          | none => rw [hy] at h3; cases h3
          | some y => rw [hy] at h3; cases h3; exact r3 i fld part y (by simpa using h1) h2 hy
        | _ => cases hok

/-! ### A law's call -/
def Link.whole (W : World) : Link := { env := ⟨W, W.heap.size⟩, R := fun b => W.heap[b]?, fo := fun _ => false, pl := fun _ _ => none, mp := fun _ => none }
theorem whole_Rd (W : World) : ∀ b o, W.heap[b]? = some o → (Link.whole W).Rd b = some o := fun b o h => by
  show (if false = true then none else W.heap[b]?) = some o
  rw [if_neg (by simp)]; exact h
theorem whole_good (W : World) : Good (Link.whole W) nil 0 W :=
  ⟨⟨fun _ => 0, fun _ => ([], 0), fun l ob hl => by cases hl⟩, fun b o hb => hb, fun l _ => ⟨fun _ => rfl, rfl⟩, ⟨rfl, rfl, rfl, fun b c e z hb hc => by
    have : W.heap[b]? = none := Array.getElem?_eq_none hb
    rw [this] at hc; cases hc⟩⟩
theorem Pure.calls {P : Program} {f : FuncId} {args : List AV} {b : Bool} (hp : Pure P f args (.d (.bool b))) {W : World} {xs : Array Value} (hA : Args (Link.whole W) args xs) :
    Calls P f xs W fun e W' => e = .returned (.bool b) ∧ Go.RowKit.Below W.heap.size W W' ∧ (∀ a, W'.frozen? a = W.frozen? a) := by
  refine ((hp nil 0 (fun v _ _ => v = .d (.bool b)) rfl).2 (Link.whole W) W xs hA (whole_good W)).mono fun e W' h => ?_
  obtain ⟨x, v, h', n', L', q0, q1, q2, q3, q4, rfl⟩ := h
  have henv := q4.env
  rw [q1.env] at henv
  have hold : ∀ (k : Nat) o, W.heap[k]? = some o → W'.heap[k]? = some o := fun k o hk => q4.ro k o (q1.R k o hk)
  have hblk : ∀ k, k < W.heap.size → W'.heap[k]? = W.heap[k]? := fun k hk => by
    rw [Array.getElem?_eq_getElem hk]; exact hold k _ (Array.getElem?_eq_getElem hk)
  refine ⟨by rw [q0, V_bool q3], ⟨henv.os, henv.tape, henv.out, ?_, hblk⟩, fun a => ?_⟩
  · rcases Nat.lt_or_ge W'.heap.size W.heap.size with hlt | hge
    · have := hblk W'.heap.size hlt
      rw [Array.getElem?_eq_none (Nat.le_refl _), Array.getElem?_eq_getElem hlt] at this
      cases this
    · exact hge
  · by_cases hb : a.block < W.heap.size
    · unfold World.frozen?; rw [hblk _ hb]
    · have h0 : W.heap[a.block]? = none := Array.getElem?_eq_none (by omega)
      unfold World.frozen?
      rw [h0]
      cases hq : W'.heap[a.block]? with
      | none => rfl
      | some o =>
        cases o with
        | cells c e z =>
          have := henv.fz a.block c e z (by show W.heap.size ≤ a.block; omega) hq
          subst this
          simp
        | _ => rfl
theorem F2.dv {R : Nat → Option Obj} {L : Link} (hR : L.Rd = R) {cs : List Value} {ds : List D} (h : F2 (fun v x => DV R x v) cs ds) : ∀ (j : Nat) c, (ds.map AV.d)[j]? = some c → V L c (cs.getD j undef) := fun j c hj => by
  rw [List.getElem?_map] at hj
  cases hd : ds[j]? with
  | none => rw [hd] at hj; cases hj
  | some x =>
    rw [hd] at hj
    cases hj
    have hlt : j < cs.length := by rw [h.length]; exact (List.getElem?_eq_some_iff.1 hd).1
    have := h.get j cs[j] x (List.getElem?_eq_getElem hlt) hd
    rw [List.getD_eq_getElem?_getD, List.getElem?_eq_getElem hlt]
    exact .d (by rw [hR]; exact this)
theorem whole_Rd_eq (W : World) : (Link.whole W).Rd = fun b => W.heap[b]? := by
  funext b
  show (if false = true then none else W.heap[b]?) = W.heap[b]?
  rw [if_neg (by simp)]
/-- An argument of several cells. -/
theorem read_agg {H : Type} {enc : TypeId × Value → H} {P : Program} {W : World} {sp : Nat → Bool} {hd : Bool} {t : TypeId} {v : Value} {d : DataW H} {ps : List MemPlace} (g : Nat) (hok : okTy P g t = true) (hne : P.cellsOf t ≠ 1) (hz : ∀ ds, TyD P g t ds d → ds.length ≠ 1)
    (h : DataW.Trod enc P W 0 sp hd t v d ps) : ∃ ds, TyD P g t ds d ∧ V (Link.whole W) (.agg (ds.map .d)) v := by
  obtain ⟨fuel, h⟩ := h
  obtain ⟨ds, h1, h2⟩ := trod_D (R := fun b => W.heap[b]?) (fun b o h => h) g fuel t _ d ps hok h
  refine ⟨ds, h1, ?_⟩
  have hl := h2.length
  have h3 := hz ds h1
  cases v with
  | agg us =>
    refine .agg _ us (by simpa [Value.cells] using hl) fun j c hj => ?_
    have := h2.dv (whole_Rd_eq W) j c hj
    simpa [Value.cells, Array.getD_eq_getD_getElem?, List.getD_eq_getElem?_getD] using this
  | _ => exact absurd (by simpa [Value.cells] using hl.symm) h3
theorem read_int {P : Program} {W : World} {k : IntKind} {n : Int} : V (Link.whole W) (.d (.int k n)) (.int k n) := .d (.int k n)

/-! ### Data of a type, taken apart -/
def Fs {H : Type} (P : Program) (g : Nat) : List TypeId → List (List D) → List (DataW H) → Prop
  | [], [], [] => True
  | t :: ts, p :: ps, e :: es => TyD P g t p e ∧ Fs P g ts ps es
  | _, _, _ => False
theorem Fs_of {H : Type} {P : Program} {g : Nat} : ∀ {l : List Field} {parts : List (List D)} {es : List (DataW H)}, parts.length = l.length → es.length = l.length →
    (∀ (i : Nat) fld part e, l[i]? = some fld → parts[i]? = some part → es[i]? = some e → TyD P g fld.type part e ∧ part.length = P.cellsOf fld.type) → Fs P g (l.map (·.type)) parts es
  | [], [], [], _, _, _ => trivial
  | f :: l, p :: ps, e :: es, h1, h2, h => ⟨(h 0 f p e rfl rfl rfl).1, Fs_of (by simpa using h1) (by simpa using h2) fun i a b c q1 q2 q3 => h (i + 1) a b c (by simpa using q1) (by simpa using q2) (by simpa using q3)⟩
  | [], _ :: _, _, h, _, _ => by simp at h
  | [], [], _ :: _, _, h, _ => by simp at h
  | _ :: _, [], _, h, _, _ => by simp at h
  | _ :: _, _ :: _, [], _, h, _ => by simp at h
theorem Fs_cons {H : Type} {P : Program} {g : Nat} {t : TypeId} {ts : List TypeId} {parts : List (List D)} {es : List (DataW H)} (h : Fs P g (t :: ts) parts es) : ∃ p ps e es', parts = p :: ps ∧ es = e :: es' ∧ TyD P g t p e ∧ Fs P g ts ps es' := by
  cases parts with
  | nil => cases es <;> exact h.elim
  | cons p ps => cases es with
    | nil => exact h.elim
    | cons e es => exact ⟨p, ps, e, es, rfl, rfl, h.1, h.2⟩
theorem Fs_nil {H : Type} {P : Program} {g : Nat} {parts : List (List D)} {es : List (DataW H)} (h : Fs P g [] parts es) : parts = [] ∧ es = [] := by
  cases parts with
  | nil => cases es with
    | nil => exact ⟨rfl, rfl⟩
    | cons e es => exact h.elim
  | cons p ps => cases es <;> exact h.elim
theorem ty_struct_parts {H : Type} {P : Program} {g : Nat} {t : TypeId} {fs : Array Field} {ds : List D} {d : DataW H} (hu : P.underlying t = some (.struct fs)) (h : TyD P (g + 1) t ds d) :
    ∃ parts es, ds = List.flatten parts ∧ d = .agg es ∧ Fs P g (fs.toList.map (·.type)) parts es := by
  simp only [TyD, hu] at h
  obtain ⟨parts, es, rfl, rfl, h1, h2, h3⟩ := h
  exact ⟨parts, es, rfl, rfl, Fs_of (by simpa using h1) (by simpa using h2) (by simpa using h3)⟩
/-- A whole number of 64 bits. -/
def InR (n : Int) : Prop := -9223372036854775808 ≤ n ∧ n < 9223372036854775808
theorem ty_i64 {H : Type} {P : Program} {g : Nat} {t : TypeId} {ds : List D} {d : DataW H} (hu : P.underlying t = some (.int .i64)) (h : TyD P (g + 1) t ds d) : ∃ n, ds = [.int .i64 n] ∧ InR n := by
  simp only [TyD, hu] at h
  obtain ⟨n, rfl, hw⟩ := h
  refine ⟨n, rfl, ?_⟩
  simp only [Lit.wf, Bool.and_eq_true, decide_eq_true_eq] at hw
  have h1 : IntKind.i64.min = -9223372036854775808 := rfl
  have h2 : IntKind.i64.max = 9223372036854775807 := rfl
  rw [h1, h2] at hw
  unfold InR
  omega
theorem ty_boolD {H : Type} {P : Program} {g : Nat} {t : TypeId} {ds : List D} {d : DataW H} (hu : P.underlying t = some .bool) (h : TyD P (g + 1) t ds d) : ∃ b, ds = [.bool b] := by
  simp only [TyD, hu] at h
  exact h
theorem ty_sliceD {H : Type} {P : Program} {g : Nat} {t e : TypeId} {ds : List D} {d : DataW H} (hu : P.underlying t = some (.slice e)) (h : TyD P (g + 1) t ds d) :
    ∃ xs es, ds = [.ro xs] ∧ ((d = .nil ∧ es = []) ∨ ∃ sp, d = .slice es sp) ∧ F2 (TyD P g e) xs es := by
  simp only [TyD, hu] at h
  exact h
theorem F2.typed {α β : Type} {f : α → List D} {R : List D → β → Prop} {Q : α → β → Prop} {xs : List (List D)} {es : List β} (h : F2 R xs es) (hq : ∀ ds d, d ∈ es → R ds d → ∃ x, ds = f x ∧ Q x d) :
    ∃ l : List α, xs = l.map f ∧ l.length = es.length ∧ ∀ x, x ∈ l → ∃ d, d ∈ es ∧ Q x d := by
  induction h with
  | nil => exact ⟨[], rfl, rfl, fun x h => by cases h⟩
  | cons h1 _ ih =>
    obtain ⟨x, rfl, hx⟩ := hq _ _ (by simp) h1
    obtain ⟨l, rfl, hl, hm⟩ := ih fun ds d hd => hq ds d (by simp [hd])
    refine ⟨x :: l, rfl, by simp [hl], fun y hy => ?_⟩
    rcases List.mem_cons.1 hy with rfl | hy
    · exact ⟨_, by simp, hx⟩
    · obtain ⟨d, h1, h2⟩ := hm y hy
      exact ⟨d, by simp [h1], h2⟩
end Go.AM
